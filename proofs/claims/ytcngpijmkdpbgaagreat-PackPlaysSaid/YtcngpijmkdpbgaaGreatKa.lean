/- Parts of the proof. -/
import Derived.Test.YtcngpijmkdpbgaaGreatGc
import Derived.Test.YtcngpijmkdpbgaaGreatBn
import Derived.Test.YtcngpijmkdpbgaaGreatEa
/- The document's packet: Get, the key, the number. -/
namespace Go.AMach
set_option linter.unusedVariables false
set_option linter.unusedSimpArgs false
set_option linter.unnecessarySimpa false
open Go
set_option linter.unusedVariables false

theorem bN_bl (s : ByteArray) (i : Nat) : bN s i = bl (jax s) i := by
  unfold bN bl rdd jax
  rw [List.getD_eq_getElem?_getD, List.getD_eq_getElem?_getD, List.getElem?_map]
  cases s.data.toList[i]? with
  | none => rfl
  | some b => simp
theorem jJq (s : ByteArray) : bN s = bl (jax s) := funext (bN_bl s)

abbrev rkS (hs : List jan) (pt : Int) (S M : ByteArray) : HK.sems jlC := ((S, (M, (pt, (hs.length, ())))), (hs, ()))

theorem jKH (kr : Int → Bool → Option Res) (kt : Unit → Option Res) (hs : List jan) (hl : hs.length ≤ 1000000) (f : jaB) : ∀ (m i : Nat), i ≤ hs.length → hs.length - i < m →
    jjF FUEL kr kt hs.length hs f m (i : Int) = (match atOf (hs.drop i) f.2.2.1 with | some a => kr a true | none => kt ())
  | 0, _, _, h => by omega
  | m + 1, i, hi, hm => by
    show jrB FUEL kr kt hs.length hs f (jjF FUEL kr kt hs.length hs f m) (i : Int) = _
    unfold jrB
    simp only [jao]
    by_cases h : i < hs.length
    · rw [if_pos (by omega), if_pos ⟨by omega, by omega⟩]
      simp only [jal, jaQ, jao]
      rw [jaP jak h]
      unfold atOf
      rw [List.find?_cons]
      by_cases e : (rdd jak hs i).1 = f.2.2.1
      · rw [if_pos e, decide_eq_true e, if_pos ⟨by omega, by omega⟩]; rfl
      · rw [if_neg e, decide_eq_false e, jaD (by omega), jKH kr kt hs hl f m (i + 1) (by omega) (by omega)]
        rfl
    · rw [if_neg (by omega), List.drop_of_length_le (by omega)]
      rfl
def begV (hs : List jan) (f : jaB) : Option Int := if f.2.1 = 2 then atOf hs f.2.2.1 else if f.2.1 = 1 ∨ f.2.1 = 3 then some 0 else none
theorem jiT {hs : List jan} (hl : hs.length ≤ 1000000) (S M : ByteArray) (pt : Int) (f : jaB) : jMm f S M pt hs.length hs = some (((begV hs f).getD 0, ((begV hs f).isSome, ())), rkS hs pt S M) := by
  refine fin ?_
  unfold jNH begV
  simp only [jaQ, jao]
  by_cases c2 : f.2.1 = 2
  · rw [if_pos c2, if_pos c2]
    refine Eq.trans (jKH _ _ hs hl f FUEL 0 (by omega) (by unfold FUEL; omega)) ?_
    rw [List.drop_zero]
    cases atOf hs f.2.2.1 <;> rfl
  · rw [if_neg c2, if_neg c2]
    by_cases c1 : f.2.1 = 1
    · rw [if_pos c1, if_pos (.inl c1)]; rfl
    · rw [if_neg c1]
      by_cases c3 : f.2.1 = 3
      · rw [if_pos (.inr c3), decide_eq_true c3]; rfl
      · rw [if_neg (by omega), decide_eq_false c3]; rfl
def inV (S M : ByteArray) (f : jaB) : ByteArray := if f.2.1 = 3 then M else S
theorem jJU {hs : List jan} (S M : ByteArray) (pt : Int) (f : jaB) : jMl f S M pt hs.length hs = some ((inV S M f, ()), rkS hs pt S M) := by
  refine fin ?_
  unfold jNG inV
  simp only [jaQ, jao]
  by_cases c : f.2.1 = 3
  · rw [if_pos c, if_pos c]
  · rw [if_neg c, if_neg c]
theorem jsj (hs : List jan) (S M : ByteArray) (f : jaB) : jch hs (jax S) (jax M) f = (begV hs f).map fun a => (jax (inV S M f), a) := by
  unfold jch begV inV
  by_cases c1 : f.2.1 = 1
  · rw [if_pos c1, if_neg (show ¬ f.2.1 = 2 by omega), if_pos (show f.2.1 = 1 ∨ f.2.1 = 3 from .inl c1), if_neg (show ¬ f.2.1 = 3 by omega)]; rfl
  rw [if_neg c1]
  by_cases c3 : f.2.1 = 3
  · rw [if_pos c3, if_neg (show ¬ f.2.1 = 2 by omega), if_pos (show f.2.1 = 1 ∨ f.2.1 = 3 from .inr c3), if_pos c3]; rfl
  rw [if_neg c3]
  by_cases c2 : f.2.1 = 2
  · rw [if_pos c2, if_pos c2, if_neg c3]
  · rw [if_neg c2, if_neg c2, if_neg (show ¬ (f.2.1 = 1 ∨ f.2.1 = 3) by omega)]; rfl

theorem jrm (s : ByteArray) (off w : Int) (hs : s.size < 1000000000) : jJE s off w = some ((if 0 ≤ off ∧ 1 ≤ w ∧ w ≤ 128 ∧ off + w ≤ 8 * (s.size : Int) then 0 else getE off w, ()), ()) := by
  refine fin ?_
  unfold jKq
  simp only [jao]
  unfold getE
  by_cases h1 : w < 1
  · rw [if_pos h1, if_neg (by omega), if_pos h1]
  rw [if_neg h1]
  by_cases h2 : w > 128
  · rw [if_pos h2, if_neg (by omega), if_neg h1, if_pos h2]
  rw [if_neg h2]
  by_cases h3 : off < 0
  · rw [if_pos h3, if_neg (by omega), if_neg h1, if_neg h2, if_pos h3]
  rw [if_neg h3, IntWalk.i64_in (8 * (s.size : Int)) (by omega), IntWalk.i64_in _ (by omega)]
  by_cases h4 : off > 8 * (s.size : Int) - w
  · rw [if_pos h4, if_neg (by omega), if_neg h1, if_neg h2, if_neg h3]
  · rw [if_neg h4, if_pos (by omega)]

structure RkOk (hs : List jan) (S M : ByteArray) : Prop where
  sl : S.size ≤ 9216
  ml : M.size ≤ 9216
  hl : hs.length ≤ 1000000
  at_ : ∀ h ∈ hs, 0 ≤ h.2.1 ∧ h.2.1 ≤ 1000000
theorem RkOk.pk {hs : List jan} {S M : ByteArray} (R : RkOk hs S M) : PkOk hs (jax S) (jax M) where
  bB := jgy S
  mB := jgy M
  bl := by have := R.sl; rw [jba]; omega
  ml := by have := R.ml; rw [jba]; omega
  hl := R.hl
  at_ := R.at_
theorem wN_W2 (h l : Nat) (hl : l < 18446744073709551616) : W2 h l = wN (h * 18446744073709551616 + l) := jCu h l hl

theorem Q_rPGet {hs : List jan} {S M : ByteArray} (R : RkOk hs S M) (pt : Int) (f : jaB) (hf : jaT.good f) :
    jMk f S M pt hs.length hs = some (exW (getF hs (jax S) (jax M) f), rkS hs pt S M) := by
  have hg : getF hs (jax S) (jax M) f = match begV hs f with
      | none => .error 3
      | some a => match getB (jax (inV S M f)) (bitV a f.2.2.2.1) f.2.2.2.2.1 with
        | none => .error 1
        | some v => .ok v := by
    unfold getF
    rw [jsj]
    cases begV hs f <;> rfl
  rw [hg]
  have hin : (inV S M f).size ≤ 9216 := by unfold inV; split; exact R.ml; exact R.sl
  have hwr : jJB f S M pt hs.length hs = some ((match begV hs f with
      | none => 3
      | some a => match getB (jax (inV S M f)) (bitV a f.2.2.2.1) f.2.2.2.2.1 with
        | none => 1
        | some v => 0, ()), rkS hs pt S M) := by
    refine fin ?_
    unfold jCl
    simp only [jop, jBm, jiT R.hl S M pt f, RS.get, Option.getD_some, Option.isSome_some, cond_true]
    cases hb : begV hs f with
    | none => rfl
    | some a =>
      have ha : 0 ≤ a ∧ a ≤ 1000000 := by
        unfold begV at hb
        by_cases c2 : f.2.1 = 2
        · rw [if_pos c2] at hb; exact jhh R.pk hb
        · rw [if_neg c2] at hb
          split at hb
          · cases hb; omega
          · cases hb
      simp only [Option.isSome_some, Bool.not_true, cond_false, Option.getD_some, jao]
      unfold getB bitV
      rw [jba]
      by_cases c1 : f.2.2.2.1 < 0
      · rw [if_pos c1, if_neg (by rw [if_pos c1]; omega)]
      rw [if_neg c1, if_neg c1]
      by_cases c2 : f.2.2.2.1 > 73728
      · rw [if_pos c2, if_neg (by omega)]
      rw [if_neg c2]
      have e : IntKind.wrap .i64 (IntKind.wrap .i64 (8 * a) + f.2.2.2.1) = 8 * a + min f.2.2.2.1 147456 := by
        rw [IntWalk.i64_in (8 * a) (by omega), IntWalk.i64_in _ (by omega)]; omega
      simp only [joo, jBl, jJU S M pt f, RS.get, Option.getD_some, Option.isSome_some, cond_true, e, jmc, jvj, jrm _ _ _ (show (inV S M f).size < 1000000000 by omega)]
      by_cases c3 : 0 ≤ 8 * a + min f.2.2.2.1 147456 ∧ 1 ≤ f.2.2.2.2.1 ∧ f.2.2.2.2.1 ≤ 128 ∧ 8 * a + min f.2.2.2.1 147456 + f.2.2.2.2.1 ≤ 8 * ((inV S M f).size : Int)
      · rw [if_pos c3, if_pos c3]; rfl
      · rw [if_neg c3, if_neg c3, jaV, decide_eq_false (jfP _ _), Bool.not_false, cond_true]
  refine fin ?_
  unfold jNF
  simp only [jEn, q_z2m, hwr, RS.get, Option.getD_some, Option.isSome_some, cond_true]
  cases hb : begV hs f with
  | none => rfl
  | some a =>
    simp only []
    have ha : 0 ≤ a ∧ a ≤ 1000000 := by
      unfold begV at hb
      by_cases c2 : f.2.1 = 2
      · rw [if_pos c2] at hb; exact jhh R.pk hb
      · rw [if_neg c2] at hb
        split at hb
        · cases hb; omega
        · cases hb
    cases hv : getB (jax (inV S M f)) (bitV a f.2.2.2.1) f.2.2.2.2.1 with
    | none => rfl
    | some v =>
      simp only [jaV, decide_true, Bool.not_true, cond_false, jop, jBm, jiT R.hl S M pt f, joo, jBl, jJU S M pt f, RS.get, Option.getD_some, Option.isSome_some, cond_true, hb]
      unfold getB bitV at hv
      rw [jba] at hv
      by_cases c1 : f.2.2.2.1 < 0
      · rw [if_neg (by rw [if_pos c1]; omega)] at hv; cases hv
      rw [if_neg c1] at hv
      split at hv
      · rename_i k
        have e : IntKind.wrap .i64 (IntKind.wrap .i64 (8 * a) + f.2.2.2.1) = 8 * a + min f.2.2.2.1 147456 := by
          rw [IntWalk.i64_in (8 * a) (by omega), IntWalk.i64_in _ (by omega)]; omega
        obtain ⟨h, l, q, h1, h2, h3⟩ := jQU (inV S M f) (8 * a + min f.2.2.2.1 147456).toNat f.2.2.2.2.1.toNat (by omega) (by omega) (by omega) (by omega)
        rw [if_pos (by omega), wN_W2 h l h2, h3, if_pos (by omega), show (((8 * a + min f.2.2.2.1 147456).toNat : Nat) : Int) = 8 * a + min f.2.2.2.1 147456 by omega, show ((f.2.2.2.2.1.toNat : Nat) : Int) = f.2.2.2.2.1 by omega, jJq, Option.some.inj hv] at q
        simp only [e, jys, jKV, q, RS.get, Option.getD_some, Option.isSome_some, cond_true]
      · cases hv

end Go.AMach

/- Layer 17: the reference's Put, its sums. -/
namespace Go.AMach
set_option linter.unusedVariables false
set_option linter.unusedSimpArgs false
set_option linter.unnecessarySimpa false
open Go
set_option linter.unusedVariables false

theorem L_rOf (k : Int → Option Res) (c : Nat) (hc : c ≤ 64) : ∀ (m i x : Nat), i ≤ c → c - i < m → x < 18446744073709551616 →
    jif FUEL k (c : Int) m (x : Int) (i : Int) = k ((x / 2 ^ (c - i) : Nat) : Int)
  | 0, _, _, _, h, _ => by omega
  | m + 1, i, x, hi, hm, hx => by
    show jrA FUEL k (c : Int) (jif FUEL k (c : Int) m) (x : Int) (i : Int) = _
    unfold jrA
    by_cases h : i < c
    · refine jaJ (decide_eq_true (show ((i : Int) < (c : Int)) by omega)) ?_
      refine jaJ (rfl) ?_
      have e : IntKind.wrap .u64 (Int.tdiv (x : Int) 2) = ((x / 2 : Nat) : Int) := by
        rw [Int.tdiv_eq_ediv_of_nonneg (by omega), jeb _ (by omega)]; omega
      rw [e, jaD (by omega), L_rOf k c hc m (i + 1) (x / 2) (by omega) (by omega) (by omega)]
      rw [show c - i = (c - (i + 1)) + 1 by omega, Nat.pow_succ', Nat.div_div_eq_div_mul]
    · refine jaI (decide_eq_false (show ¬ ((i : Int) < (c : Int)) by omega)) ?_
      rw [show c - i = 0 by omega, Nat.pow_zero, Nat.div_one]
theorem Q_rOf (v j : Nat) (hv : v < 340282366920938463463374607431768211456) (hj : j < 128) : jMi (wN v) (j : Int) = some ((((v / 2 ^ j % 2 : Nat) : Int), ()), ()) := by
  refine fin ?_
  unfold jNE
  have ew : wN v = (((v / 18446744073709551616 : Nat) : Int), (((v % 18446744073709551616 : Nat) : Int), ())) := rfl
  have em : ∀ x : Nat, Int.tmod (x : Int) 2 = ((x % 2 : Nat) : Int) := fun x => by rw [Int.tmod_eq_emod_of_nonneg (by omega)]; omega
  by_cases h : j ≥ 64
  · refine jaJ (decide_eq_true (show (j : Int) ≥ 64 by omega)) ?_
    have e : IntKind.wrap .i64 ((j : Int) - 64) = ((j - 64 : Nat) : Int) := by rw [IntWalk.i64_in _ (by omega)]; omega
    rw [e]
    refine (L_rOf _ (j - 64) (by omega) FUEL 0 (v / 18446744073709551616) (by omega) (by unfold FUEL; omega) (by omega)).trans ?_
    refine jaJ (rfl) ?_
    rw [em, Nat.div_div_eq_div_mul, Nat.sub_zero]
    have : 18446744073709551616 * 2 ^ (j - 64) = 2 ^ j := by
      rw [show (18446744073709551616 : Nat) = 2 ^ 64 from rfl, ← Nat.pow_add]; congr 1; omega
    rw [this]
  · refine jaI (decide_eq_false (show ¬ (j : Int) ≥ 64 by omega)) ?_
    refine (L_rOf _ j (by omega) FUEL 0 (v % 18446744073709551616) (by omega) (by unfold FUEL; omega) (by omega)).trans ?_
    refine jaJ (rfl) ?_
    rw [em, Nat.sub_zero]
    have : v % 18446744073709551616 / 2 ^ j % 2 = v / 2 ^ j % 2 := by
      have e64 : (18446744073709551616 : Nat) = 2 ^ j * 2 ^ (64 - j) := by rw [← Nat.pow_add, show j + (64 - j) = 64 by omega]
      rw [e64, Nat.mod_mul_right_div_self]
      have e2 : (2 : Nat) ^ (64 - j) = 2 * 2 ^ (63 - j) := by rw [← Nat.pow_succ']; congr 1; omega
      rw [e2, Nat.mod_mul_right_mod]
    rw [this]

theorem jLQ (g : Nat → Nat) (o t : Nat) : bvG g o (t + 1) = 2 * bvG g o t + g (o + t) := rfl
theorem jKC (k : Int → Option Res) (s : ByteArray) (hs : s.size < 100000000) (off w v : Nat) (hv : v < 340282366920938463463374607431768211456) (hw : w ≤ 128) (ho : off + w ≤ 8 * s.size) (z : ByteArray) (i : Nat) (hi : i < s.size) : ∀ (m t : Nat), t ≤ 8 → 8 - t < m →
    jjD FUEL k s (off : Int) (w : Int) z (i : Int) (wN v) m ((bvG (jbE (jax s) off w v) (8 * i) t : Nat) : Int) ((8 * i + t : Nat) : Int) = k ((bvG (jbE (jax s) off w v) (8 * i) 8 : Nat) : Int)
  | 0, _, _, h => by omega
  | m + 1, t, ht, hm => by
    show jry FUEL k s (off : Int) (w : Int) z (i : Int) (wN v) (jjD FUEL k s (off : Int) (w : Int) z (i : Int) (wN v) m) ((bvG (jbE (jax s) off w v) (8 * i) t : Nat) : Int) ((8 * i + t : Nat) : Int) = _
    unfold jry
    have e8 : IntKind.wrap .i64 (IntKind.wrap .i64 (8 * (i : Int)) + 8) = ((8 * i + 8 : Nat) : Int) := by rw [IntWalk.i64_in (8 * (i : Int)) (by omega), IntWalk.i64_in _ (by omega)]; omega
    have eow : IntKind.wrap .i64 ((off : Int) + (w : Int)) = ((off + w : Nat) : Int) := by rw [IntWalk.i64_in _ (by omega)]; omega
    rw [e8, eow]
    by_cases h : t < 8
    · have hb : bvG (jbE (jax s) off w v) (8 * i) t < 2 ^ t := jAF (jfD _ _ _ _) t
      have hb2 : (2 : Nat) ^ t ≤ 2 ^ 8 := Nat.pow_le_pow_right (by omega) ht
      have hp2 : (2 : Nat) ^ 8 = 256 := rfl
      have hg : jbE (jax s) off w v (8 * i + t) < 2 := jfD _ _ _ _ _
      have hstep : ∀ q : Nat, q = jbE (jax s) off w v (8 * i + t) → IntKind.wrap .u64 (IntKind.wrap .u64 (((bvG (jbE (jax s) off w v) (8 * i) t : Nat) : Int) * 2) + (q : Int)) = ((bvG (jbE (jax s) off w v) (8 * i) (t + 1) : Nat) : Int) := fun q hq => by
        rw [jLQ, ← hq]
        rw [jeb (((bvG (jbE (jax s) off w v) (8 * i) t : Nat) : Int) * 2) (by omega), jeb _ (by omega)]; omega
      have hnx : IntKind.wrap .i64 (((8 * i + t : Nat) : Int) + 1) = ((8 * i + (t + 1) : Nat) : Int) := by rw [IntWalk.i64_in _ (by omega)]; omega
      have ih := jKC k s hs off w v hv hw ho z i hi m (t + 1) (by omega) (by omega)
      refine jaJ (decide_eq_true (show ((8 * i + t : Nat) : Int) < ((8 * i + 8 : Nat) : Int) by omega)) ?_
      by_cases h1 : 8 * i + t ≥ off
      · refine jaJ (decide_eq_true (show ((8 * i + t : Nat) : Int) ≥ (off : Int) by omega)) ?_
        by_cases h2 : 8 * i + t < off + w
        · refine jaJ (decide_eq_true (show ((8 * i + t : Nat) : Int) < ((off + w : Nat) : Int) by omega)) ?_
          extract_lets -merge +onlyGivenNames y2
          have e_y2 : y2 = ((off + w - 1 - (8 * i + t) : Nat) : Int) := (by show IntKind.wrap .i64 (IntKind.wrap .i64 (((off + w : Nat) : Int) - 1) - ((8 * i + t : Nat) : Int)) = _; rw [IntWalk.i64_in (((off + w : Nat) : Int) - 1) (by omega), IntWalk.i64_in _ (by omega)]; omega)
          clear_value y2; subst e_y2
          extract_lets -merge +onlyGivenNames y3
          have e_y3 : y3 = _ := (congrArg RS.get (Q_rOf v (off + w - 1 - (8 * i + t)) hv (by omega))).trans (jag _)
          clear_value y3; subst e_y3
          refine jaA (Q_rOf v (off + w - 1 - (8 * i + t)) hv (by omega)) ?_
          rw [hnx]
          have := hstep (v / 2 ^ (off + w - 1 - (8 * i + t)) % 2) (by unfold jbE; rw [if_pos ⟨h1, h2⟩])
          rw [this]
          exact ih
        · refine jaI (decide_eq_false (show ¬ ((8 * i + t : Nat) : Int) < ((off + w : Nat) : Int) by omega)) ?_
          extract_lets -merge +onlyGivenNames yb
          have e_yb : yb = _ := (congrArg RS.get (jKk s (8 * i + t) (by omega) (by omega))).trans (jag _)
          clear_value yb; subst e_yb
          refine jaA (jKk s (8 * i + t) (by omega) (by omega)) ?_
          rw [hnx]
          have := hstep (jbC (bN s) (8 * i + t)) (by unfold jbE; rw [if_neg (by omega), jJq])
          rw [this]
          exact ih
      · refine jaI (decide_eq_false (show ¬ ((8 * i + t : Nat) : Int) ≥ (off : Int) by omega)) ?_
        extract_lets -merge +onlyGivenNames yb
        have e_yb : yb = _ := (congrArg RS.get (jKk s (8 * i + t) (by omega) (by omega))).trans (jag _)
        clear_value yb; subst e_yb
        refine jaA (jKk s (8 * i + t) (by omega) (by omega)) ?_
        rw [hnx]
        have := hstep (jbC (bN s) (8 * i + t)) (by unfold jbE; rw [if_neg (by omega), jJq])
        rw [this]
        exact ih
    · refine jaI (decide_eq_false (show ¬ ((8 * i + t : Nat) : Int) < ((8 * i + 8 : Nat) : Int) by omega)) ?_
      rw [show t = 8 by omega]
theorem jEh (b : List Int) (off w v i : Nat) (hi : i < b.length) : (putN b off w v).take (i + 1) = (putN b off w v).take i ++ [((bvG (jbE b off w v) (8 * i) 8 : Nat) : Int)] := by
  rw [List.take_add_one]
  congr 1
  unfold putN
  rw [jex hi]; rfl
theorem jcA (a b : List Int) : bytesOf (a ++ b) = bytesOf a ++ bytesOf b := by
  apply jvG
  rw [jbn, List.map_append, ← jbn, ← jbn]; simp
theorem jKD (k : ByteArray → Option Res) (s : ByteArray) (hs : s.size < 100000000) (off w v : Nat) (hv : v < 340282366920938463463374607431768211456) (hw : w ≤ 128) (ho : off + w ≤ 8 * s.size) : ∀ (m i : Nat), i ≤ s.size → s.size - i < m →
    jjE FUEL k s (off : Int) (w : Int) (wN v) m (bytesOf ((putN (jax s) off w v).take i)) (i : Int) = k (bytesOf (putN (jax s) off w v))
  | 0, _, _, h => by omega
  | m + 1, i, hi, hm => by
    have hbl := jba s
    show jrz FUEL k s (off : Int) (w : Int) (wN v) (jjE FUEL k s (off : Int) (w : Int) (wN v) m) (bytesOf ((putN (jax s) off w v).take i)) (i : Int) = _
    unfold jrz
    by_cases h : i < s.size
    · refine jaJ (decide_eq_true (show (i : Int) < ((s.size : Nat) : Int) by omega)) ?_
      have e8 : IntKind.wrap .i64 (8 * (i : Int)) = ((8 * i + 0 : Nat) : Int) := by rw [IntWalk.i64_in _ (by omega)]; omega
      rw [e8]
      refine (jKC _ s hs off w v hv hw ho _ i h FUEL 0 (by omega) (by unfold FUEL; omega)).trans ?_
      have hb : bvG (jbE (jax s) off w v) (8 * i) 8 < 2 ^ 8 := jAF (jfD _ _ _ _) 8
      have hp2 : (2 : Nat) ^ 8 = 256 := rfl
      have e : IntKind.wrap .u8 ((bvG (jbE (jax s) off w v) (8 * i) 8 : Nat) : Int) = ((bvG (jbE (jax s) off w v) (8 * i) 8 : Nat) : Int) := by simp [IntKind.wrap, IntKind.bits, IntKind.signed]; omega
      refine jaJ (decide_eq_true (by rw [jaw, jaw, List.length_take, jbG]; simp; omega)) ?_
      rw [e, ← jcA, ← jEh _ _ _ _ _ (by omega), jaD (by omega)]
      exact jKD k s hs off w v hv hw ho m (i + 1) (by omega) (by omega)
    · refine jaI (decide_eq_false (show ¬ (i : Int) < ((s.size : Nat) : Int) by omega)) ?_
      rw [List.take_of_length_le (by rw [jbG]; omega)]
theorem Q_rPut2 (s : ByteArray) (hs : s.size < 100000000) (off w v : Nat) (hv : v < 340282366920938463463374607431768211456) (h1 : 1 ≤ w) (h2 : w ≤ 128) (ho : off + w ≤ 8 * s.size) :
    jMh s (off : Int) (w : Int) (wN v) = some ((bytesOf (putN (jax s) off w v), (0, ())), ()) := by
  refine fin ?_
  unfold jND
  have q := jrm s (off : Int) (w : Int) (by omega)
  rw [if_pos (by omega)] at q
  extract_lets -merge +onlyGivenNames y1
  have e_y1 : y1 = _ := (congrArg RS.get (q)).trans (jag _)
  clear_value y1; subst e_y1
  refine jaA (q) ?_
  refine jaI (rfl) ?_
  exact jKD _ s hs off w v hv h2 ho FUEL 0 (by omega) (by unfold FUEL; omega)
theorem Q_rPut5 (s : ByteArray) (hs : s.size < 100000000) (off w v : Nat) (hv : v < 340282366920938463463374607431768211456) (h1 : 1 ≤ w) (h2 : w ≤ 128) (ho : off + w ≤ 8 * s.size) :
    jMg (off : Int) (w : Int) (wN v) s = some ((0, ()), ((bytesOf (putN (jax s) off w v), ()), ())) := by
  have hbl := jba s
  have hbo : s = bytesOf (jax s) := (jgK s).symm
  have hB := jgy s
  have q := jrm s (off : Int) (w : Int) (by omega)
  rw [if_pos (by omega)] at q
  have e8 : IntKind.wrap .i64 (Int.tdiv (off : Int) 8) = ((off / 8 : Nat) : Int) := by rw [Int.tdiv_eq_ediv_of_nonneg (by omega), IntWalk.i64_in _ (by omega)]; omega
  have e7 : IntKind.wrap .i64 (Int.tdiv (IntKind.wrap .i64 (IntKind.wrap .i64 ((off : Int) + (w : Int)) + 7)) 8) = (((off + w + 7) / 8 : Nat) : Int) := by
    rw [IntWalk.i64_in ((off : Int) + w) (by omega), IntWalk.i64_in ((off : Int) + w + 7) (by omega), Int.tdiv_eq_ediv_of_nonneg (by omega), IntWalk.i64_in _ (by omega)]; omega
  have e6 : IntKind.wrap .i64 ((off : Int) - IntKind.wrap .i64 (8 * ((off / 8 : Nat) : Int))) = ((off - 8 * (off / 8) : Nat) : Int) := by
    rw [IntWalk.i64_in (8 * ((off / 8 : Nat) : Int)) (by omega), IntWalk.i64_in _ (by omega)]; omega
  generalize hf : off / 8 = fr at e8 e6
  generalize hn : (off + w + 7) / 8 - fr = n
  have e7' : (off + w + 7) / 8 = fr + n := by omega
  rw [e7'] at e7
  have c3 : s.extract fr (fr + n) = bytesOf (((jax s).drop fr).take n) := by rw [hbo, jbl, jbc hB, List.drop_take, Nat.add_sub_cancel_left]
  have c6 : s.extract 0 fr = bytesOf ((jax s).take fr) := by rw [hbo, jbl, jbc hB, List.drop_zero]
  have c7 : s.extract (fr + n) s.size = bytesOf ((jax s).drop (fr + n)) := by
    rw [hbo, jbl, jbc hB, List.take_of_length_le (by rw [jaw]; exact Nat.le_refl _)]
  have hwl : (((jax s).drop fr).take n).length = n := by rw [List.length_take, List.length_drop]; omega
  have hwB : isB (((jax s).drop fr).take n) := fun x hx => hB x (List.mem_of_mem_drop (List.mem_of_mem_take hx))
  have q5 := Q_rPut2 (bytesOf (((jax s).drop fr).take n)) (by rw [jaw, hwl]; omega) (off - 8 * fr) w v hv h1 h2 (by rw [jaw, hwl]; omega)
  rw [jbc hwB] at q5
  have hnew := jlW (jax s) hB off w v fr n hf.symm hn.symm (by omega) h1
  refine fin ?_
  unfold jNC
  extract_lets -merge +onlyGivenNames y1
  have e_y1 : y1 = _ := (congrArg RS.get (q)).trans (jag _)
  clear_value y1; subst e_y1
  refine jaA (q) ?_
  refine jaI (rfl) ?_
  refine jaJ (rfl) ?_
  refine jaJ (rfl) ?_
  extract_lets -merge +onlyGivenNames y2
  have e_y2 : y2 = ((fr + n : Nat) : Int) := e7
  clear_value y2; subst e_y2
  rw [e8]
  refine jaJ (decide_eq_true (show (0 : Int) ≤ (fr : Int) ∧ (fr : Int) ≤ ((fr + n : Nat) : Int) ∧ ((fr + n : Nat) : Int) ≤ ((s.size : Nat) : Int) by omega)) ?_
  extract_lets -merge +onlyGivenNames y3
  have e_y3 : y3 = (bytesOf (((jax s).drop fr).take n)) := c3
  clear_value y3; subst e_y3
  extract_lets -merge +onlyGivenNames y4
  have e_y4 : y4 = ((off - 8 * fr : Nat) : Int) := e6
  clear_value y4; subst e_y4
  extract_lets -merge +onlyGivenNames y5
  have e_y5 : y5 = _ := (congrArg RS.get (q5)).trans (jag _)
  clear_value y5; subst e_y5
  refine jaA (q5) ?_
  refine jaJ (decide_eq_true (show (0 : Int) ≤ 0 ∧ (0 : Int) ≤ (fr : Int) ∧ (fr : Int) ≤ ((s.size : Nat) : Int) by omega)) ?_
  extract_lets -merge +onlyGivenNames y6
  have e_y6 : y6 = (bytesOf ((jax s).take fr)) := c6
  clear_value y6; subst e_y6
  have z1 : (bytesOf ((jax s).take fr)).size = fr := by rw [jaw, List.length_take]; omega
  have z2 : (bytesOf (putN (((jax s).drop fr).take n) (off - 8 * fr) w v)).size = n := by rw [jaw, jbG, hwl]
  have z3 : (bytesOf ((jax s).drop (fr + n))).size = s.size - (fr + n) := by rw [jaw, List.length_drop, hbl]
  refine jaJ (decide_eq_true (show (bytesOf ((jax s).take fr)).size + (bytesOf (putN (((jax s).drop fr).take n) (off - 8 * fr) w v)).size ≤ 9223372036854775807 by omega)) ?_
  refine jaJ (decide_eq_true (show (0 : Int) ≤ ((fr + n : Nat) : Int) ∧ ((fr + n : Nat) : Int) ≤ ((s.size : Nat) : Int) ∧ ((s.size : Nat) : Int) ≤ ((s.size : Nat) : Int) by omega)) ?_
  extract_lets -merge +onlyGivenNames y7
  have e_y7 : y7 = (bytesOf ((jax s).drop (fr + n))) := c7
  clear_value y7; subst e_y7
  refine jaJ (decide_eq_true (show (bytesOf ((jax s).take fr) ++ bytesOf (putN (((jax s).drop fr).take n) (off - 8 * fr) w v)).size + (bytesOf ((jax s).drop (fr + n))).size ≤ 9223372036854775807 by rw [ByteArray.size_append]; omega)) ?_
  have hfin : (bytesOf ((jax s).take fr) ++ bytesOf (putN (((jax s).drop fr).take n) (off - 8 * fr) w v)) ++ bytesOf ((jax s).drop (fr + n)) = bytesOf (putN (jax s) off w v) := by
    rw [← jcA, ← jcA, List.append_assoc, hnew]
  show some (jaa jsw jsM ((0, ()), ((((bytesOf ((jax s).take fr) ++ bytesOf (putN (((jax s).drop fr).take n) (off - 8 * fr) w v)) ++ bytesOf ((jax s).drop (fr + n))), ()), ()))) = _
  rw [hfin]
end Go.AMach

/- Layer 17: the reference's packet. -/
namespace Go.AMach
set_option linter.unusedVariables false
set_option linter.unusedSimpArgs false
set_option linter.unnecessarySimpa false
open Go
set_option linter.unusedVariables false

abbrev rS (hs : List jan) (pt : Int) (b mt : List Int) : HK.sems jlC := ((bytesOf b, (bytesOf mt, (pt, (hs.length, ())))), (hs, ()))
structure RkN (hs : List jan) (b mt : List Int) : Prop where
  n : PkN hs b mt
  m : mt.length ≤ 9216
theorem RkN.rk {hs : List jan} {b mt : List Int} (R : RkN hs b mt) : RkOk hs (bytesOf b) (bytesOf mt) := ⟨by rw [jaw]; exact R.n.long, by rw [jaw]; exact R.m, R.n.ok.hl, R.n.ok.at_⟩
theorem RkN.b_ {hs : List jan} {b mt : List Int} (R : RkN hs b mt) : jax (bytesOf b) = b := jbc R.n.ok.bB
theorem RkN.m_ {hs : List jan} {b mt : List Int} (R : RkN hs b mt) : jax (bytesOf mt) = mt := jbc R.n.ok.mB
theorem jmW {hs : List jan} {b mt : List Int} (R : RkN hs b mt) (f : jaB) : jch hs b mt f = (begV hs f).map fun a => (jax (inV (bytesOf b) (bytesOf mt) f), a) := by
  have := jsj hs (bytesOf b) (bytesOf mt) f
  rw [R.b_, R.m_] at this; exact this
theorem jJp {hs : List jan} {b mt : List Int} (R : RkN hs b mt) {f : jaB} {a : Int} (hb : begV hs f = some a) : 0 ≤ a ∧ a ≤ 1000000 := by
  unfold begV at hb
  by_cases c2 : f.2.1 = 2
  · rw [if_pos c2] at hb; exact jhh R.n.ok hb
  · rw [if_neg c2] at hb
    split at hb
    · cases hb; omega
    · cases hb
theorem jNr {hs : List jan} {b mt : List Int} (R : RkN hs b mt) (pt : Int) (f : jaB) (hf : jaT.good f) :
    jMj f (bytesOf b) (bytesOf mt) pt hs.length hs = some (((atF hs b mt f).1, ((atF hs b mt f).2, ())), rS hs pt b mt) := by
  obtain ⟨h1, h2, h3, h4, h5, _⟩ := hf
  have r4 := jsk h4
  have qb := jiT R.rk.hl (bytesOf b) (bytesOf mt) pt f
  have qi := jJU (hs := hs) (bytesOf b) (bytesOf mt) pt f
  have hin : (inV (bytesOf b) (bytesOf mt) f).size ≤ 9216 := by unfold inV; split; exact R.rk.ml; exact R.rk.sl
  have hw := jmW R f
  refine fin ?_
  cases hb : begV hs f with
  | none =>
    rw [hb] at qb hw
    have hA : atF hs b mt f = (0, 3) := by unfold atF; rw [hw]; rfl
    rw [hA]
    unfold jKm
    extract_lets -merge +onlyGivenNames y1
    have e_y1 : y1 = _ := (congrArg RS.get (qb)).trans (jag _)
    clear_value y1; subst e_y1
    refine jaA (qb) ?_
    refine jaJ (rfl) ?_
    rfl
  | some a =>
    have ha := jJp R hb
    rw [hb] at qb hw
    have hA : atF hs b mt f = atV a f.2.2.2.1 (inV (bytesOf b) (bytesOf mt) f).size := by unfold atF; rw [hw]; show atV a _ (jax _).length = _; rw [jba]
    rw [hA]
    unfold jKm
    extract_lets -merge +onlyGivenNames y1
    have e_y1 : y1 = _ := (congrArg RS.get (qb)).trans (jag _)
    clear_value y1; subst e_y1
    refine jaA (qb) ?_
    refine jaI (rfl) ?_
    unfold atV
    by_cases c1 : f.2.2.2.1 < 0
    · refine jaJ (decide_eq_true c1) ?_
      rw [if_pos c1]
    refine jaI (decide_eq_false c1) ?_
    refine jaJ (rfl) ?_
    extract_lets -merge +onlyGivenNames y2
    have e_y2 : y2 = _ := (congrArg RS.get (qi)).trans (jag _)
    clear_value y2; subst e_y2
    refine jaA (qi) ?_
    have e1 : IntKind.wrap .i64 (Int.tdiv f.2.2.2.1 8) = f.2.2.2.1 / 8 := by rw [Int.tdiv_eq_ediv_of_nonneg (by omega), IntWalk.i64_in _ (by omega)]
    have e2 : IntKind.wrap .i64 ((((inV (bytesOf b) (bytesOf mt) f).size : Nat) : Int) - a) = (((inV (bytesOf b) (bytesOf mt) f).size : Nat) : Int) - a := IntWalk.i64_in _ (by omega)
    rw [e1, if_neg c1]
    by_cases c2 : f.2.2.2.1 / 8 > (((inV (bytesOf b) (bytesOf mt) f).size : Nat) : Int) - a
    · refine jaJ (by show decide (_ > IntKind.wrap .i64 ((((inV (bytesOf b) (bytesOf mt) f).size : Nat) : Int) - a)) = true; rw [e2]; exact decide_eq_true c2) ?_
      rw [if_pos c2]
    · refine jaI (by show decide (_ > IntKind.wrap .i64 ((((inV (bytesOf b) (bytesOf mt) f).size : Nat) : Int) - a)) = false; rw [e2]; exact decide_eq_false c2) ?_
      refine jaJ (rfl) ?_
      rw [if_neg c2]
      show some (jaa jlo jlB ((IntKind.wrap .i64 (a + f.2.2.2.1 / 8), (0, ())), _)) = _
      rw [IntWalk.i64_in _ (by omega)]
theorem jwH {hs : List jan} {b mt : List Int} (R : RkN hs b mt) (pt : Int) (f : jaB) (hf : jaT.good f) :
    jMe f (bytesOf b) (bytesOf mt) pt hs.length hs = some (((jaN hs b mt f).1, ((jaN hs b mt f).2, ())), rS hs pt b mt) := by
  refine fin ?_
  unfold jNA jaN
  by_cases c3 : f.2.1 = 3
  · refine jaJ (beqT c3) ?_
    rw [if_pos c3]
  · refine jaI (beqF c3) ?_
    rw [if_neg c3]
    extract_lets -merge +onlyGivenNames y1
    have e_y1 : y1 = _ := (congrArg RS.get (jNr R pt f hf)).trans (jag _)
    clear_value y1; subst e_y1
    refine jaA (jNr R pt f hf) ?_
    rfl
theorem jNq {hs : List jan} {b mt : List Int} (R : RkN hs b mt) (pt : Int) (f : jaB) (v : Nat) :
    jJB f (bytesOf b) (bytesOf mt) pt hs.length hs = some (((putF hs b mt f v).1, ()), rS hs pt b mt) := by
  have qb := jiT R.rk.hl (bytesOf b) (bytesOf mt) pt f
  have qi := jJU (hs := hs) (bytesOf b) (bytesOf mt) pt f
  have hin : (inV (bytesOf b) (bytesOf mt) f).size ≤ 9216 := by unfold inV; split; exact R.rk.ml; exact R.rk.sl
  have hw := jmW R f
  refine fin ?_
  cases hb : begV hs f with
  | none =>
    rw [hb] at qb hw
    have hP : (putF hs b mt f v).1 = 3 := by unfold putF; rw [hw]; rfl
    rw [hP]
    unfold jCl
    extract_lets -merge +onlyGivenNames y1
    have e_y1 : y1 = _ := (congrArg RS.get (qb)).trans (jag _)
    clear_value y1; subst e_y1
    refine jaA (qb) ?_
    refine jaJ (rfl) ?_
    rfl
  | some a =>
    have ha := jJp R hb
    rw [hb] at qb hw
    have hP : (putF hs b mt f v).1 = if (getB (jax (inV (bytesOf b) (bytesOf mt) f)) (bitV a f.2.2.2.1) f.2.2.2.2.1).isSome then 0 else 1 := by unfold putF; rw [hw]; simp only [Option.map_some]; split <;> rfl
    have hgn : ¬ (0 ≤ bitV a f.2.2.2.1 ∧ 1 ≤ f.2.2.2.2.1 ∧ f.2.2.2.2.1 ≤ 128 ∧ bitV a f.2.2.2.1 + f.2.2.2.2.1 ≤ 8 * ((inV (bytesOf b) (bytesOf mt) f).size : Int)) → (putF hs b mt f v).1 = 1 := fun k => by
      rw [hP]; unfold getB; rw [jba, if_neg k]; rfl
    have hgs : (0 ≤ bitV a f.2.2.2.1 ∧ 1 ≤ f.2.2.2.2.1 ∧ f.2.2.2.2.1 ≤ 128 ∧ bitV a f.2.2.2.1 + f.2.2.2.2.1 ≤ 8 * ((inV (bytesOf b) (bytesOf mt) f).size : Int)) → (putF hs b mt f v).1 = 0 := fun k => by
      rw [hP]; unfold getB; rw [jba, if_pos k]; rfl
    clear hP
    generalize (putF hs b mt f v).1 = r at hgn hgs
    unfold jCl
    extract_lets -merge +onlyGivenNames y1
    have e_y1 : y1 = _ := (congrArg RS.get (qb)).trans (jag _)
    clear_value y1; subst e_y1
    refine jaA (qb) ?_
    refine jaI (rfl) ?_
    by_cases c1 : f.2.2.2.1 < 0
    · refine jaJ (decide_eq_true c1) ?_
      rw [hgn (by unfold bitV; rw [if_pos c1]; omega)]
    refine jaI (decide_eq_false c1) ?_
    have ebit : bitV a f.2.2.2.1 = 8 * a + min f.2.2.2.1 147456 := by unfold bitV; rw [if_neg c1]
    rw [ebit] at hgn hgs
    by_cases c2 : f.2.2.2.1 > 73728
    · refine jaJ (decide_eq_true c2) ?_
      rw [hgn (by omega)]
    refine jaI (decide_eq_false c2) ?_
    have e : IntKind.wrap .i64 (IntKind.wrap .i64 (8 * a) + f.2.2.2.1) = 8 * a + min f.2.2.2.1 147456 := by
      rw [IntWalk.i64_in (8 * a) (by omega), IntWalk.i64_in _ (by omega)]; omega
    extract_lets -merge +onlyGivenNames y2
    have e_y2 : y2 = _ := (congrArg RS.get (qi)).trans (jag _)
    clear_value y2; subst e_y2
    refine jaA (qi) ?_
    have qm := jrm (inV (bytesOf b) (bytesOf mt) f) (IntKind.wrap .i64 (IntKind.wrap .i64 (8 * a) + f.2.2.2.1)) f.2.2.2.2.1 (by omega)
    extract_lets -merge +onlyGivenNames y3
    have e_y3 : y3 = _ := (congrArg RS.get (qm)).trans (jag _)
    clear_value y3; subst e_y3
    refine jaA (qm) ?_
    by_cases c3 : 0 ≤ 8 * a + min f.2.2.2.1 147456 ∧ 1 ≤ f.2.2.2.2.1 ∧ f.2.2.2.2.1 ≤ 128 ∧ 8 * a + min f.2.2.2.1 147456 + f.2.2.2.2.1 ≤ 8 * ((inV (bytesOf b) (bytesOf mt) f).size : Int)
    · refine jaI (bne1 (by rw [e, if_pos c3])) ?_
      rw [hgs c3]
    · refine jaJ (bne0 (by rw [e, if_neg c3]; exact jfP _ _)) ?_
      rw [hgn c3]
theorem jwI {hs : List jan} {b mt : List Int} (R : RkN hs b mt) (pt : Int) (f : jaB) (hf : jaT.good f) (v : Nat) (hv : v < 340282366920938463463374607431768211456) :
    jMf f (wN v) (bytesOf b) (bytesOf mt) pt hs.length hs = some (((putF hs b mt f v).1, ()), rS hs pt (putF hs b mt f v).2.1 (putF hs b mt f v).2.2) := by
  have qw := jNq R pt f v
  have qb := jiT R.rk.hl (bytesOf b) (bytesOf mt) pt f
  have qi := jJU (hs := hs) (bytesOf b) (bytesOf mt) pt f
  have hin : (inV (bytesOf b) (bytesOf mt) f).size ≤ 9216 := by unfold inV; split; exact R.rk.ml; exact R.rk.sl
  have hw := jmW R f
  refine fin ?_
  unfold jNB
  extract_lets -merge +onlyGivenNames y1
  have e_y1 : y1 = _ := (congrArg RS.get (qw)).trans (jag _)
  clear_value y1; subst e_y1
  refine jaA (qw) ?_
  by_cases hz : (putF hs b mt f v).1 ≠ 0
  · refine jaJ (bne0 hz) ?_
    rw [jvq hz]
  have hz : (putF hs b mt f v).1 = 0 := Classical.byContradiction hz
  refine jaI (bne1 hz) ?_
  have hgo : ∃ x, getF hs b mt f = .ok x := by
    have := jLi hs b mt f v
    rw [hz] at this
    cases hg : getF hs b mt f with
    | ok x => exact ⟨x, rfl⟩
    | error e =>
      rw [hg] at this
      have this : (0 : Int) = e := this
      have := jLy hg
      omega
  obtain ⟨x, hx⟩ := hgo
  cases hb : begV hs f with
  | none =>
    rw [hb] at hw
    unfold getF at hx
    rw [hw] at hx
    cases hx
  | some a =>
    have ha := jJp R hb
    rw [hb] at hw qb
    simp only [Option.map_some] at hw
    have hgb : ∃ y, getB (jax (inV (bytesOf b) (bytesOf mt) f)) (bitV a f.2.2.2.1) f.2.2.2.2.1 = some y := by
      unfold getF at hx
      rw [hw] at hx
      simp only at hx
      cases hg : getB (jax (inV (bytesOf b) (bytesOf mt) f)) (bitV a f.2.2.2.1) f.2.2.2.2.1 with
      | none => rw [hg] at hx; cases hx
      | some y => exact ⟨y, rfl⟩
    obtain ⟨y, hgb⟩ := hgb
    obtain ⟨kk, _⟩ := getB_of hgb
    rw [jba] at kk
    have c1 : ¬ f.2.2.2.1 < 0 := fun c => by
      have : bitV a f.2.2.2.1 = -1 := by unfold bitV; rw [if_pos c]
      omega
    have ebit : bitV a f.2.2.2.1 = 8 * a + min f.2.2.2.1 147456 := by unfold bitV; rw [if_neg c1]
    have kk2 := kk
    rw [ebit] at kk2
    have e : IntKind.wrap .i64 (IntKind.wrap .i64 (8 * a) + f.2.2.2.1) = (((bitV a f.2.2.2.1).toNat : Nat) : Int) := by
      rw [ebit, IntWalk.i64_in (8 * a) (by omega), IntWalk.i64_in _ (by omega)]; omega
    have q5 := Q_rPut5 (inV (bytesOf b) (bytesOf mt) f) (by omega) (bitV a f.2.2.2.1).toNat f.2.2.2.2.1.toNat v hv (by omega) (by omega) (by omega)
    rw [show ((f.2.2.2.2.1.toNat : Nat) : Int) = f.2.2.2.2.1 by omega, ← e] at q5
    extract_lets -merge +onlyGivenNames y2
    have e_y2 : y2 = _ := (congrArg RS.get (qb)).trans (jag _)
    clear_value y2; subst e_y2
    refine jaA (qb) ?_
    extract_lets -merge +onlyGivenNames y3
    have e_y3 : y3 = _ := (congrArg RS.get (qi)).trans (jag _)
    clear_value y3; subst e_y3
    refine jaA (qi) ?_
    extract_lets -merge +onlyGivenNames y4
    have e_y4 : y4 = _ := (congrArg RS.get (q5)).trans (jag _)
    clear_value y4; subst e_y4
    refine jaA (q5) ?_
    have hput : (putF hs b mt f v).2 = if f.2.1 = 3 then (b, putB mt (bitV a f.2.2.2.1) f.2.2.2.2.1 v) else (putB b (bitV a f.2.2.2.1) f.2.2.2.2.1 v, mt) := by
      unfold putF; rw [hw]; simp only; rw [hgb]; rfl
    rw [hput]
    by_cases c3 : f.2.1 = 3
    · refine jaJ (beqT c3) ?_
      rw [if_pos c3]
      have : jax (inV (bytesOf b) (bytesOf mt) f) = mt := by unfold inV; rw [if_pos c3, R.m_]
      rw [this]
      rw [hz]; rfl
    · refine jaI (beqF c3) ?_
      rw [if_neg c3]
      have : jax (inV (bytesOf b) (bytesOf mt) f) = b := by unfold inV; rw [if_neg c3, R.b_]
      rw [this]
      rw [hz]; rfl
end Go.AMach

/- Layer 17: the reference's sums, Insert, Delete, Sum. -/
namespace Go.AMach
set_option linter.unusedVariables false
set_option linter.unusedSimpArgs false
set_option linter.unnecessarySimpa false
open Go
set_option linter.unusedVariables false

theorem jld (x : Int) (h : 0 ≤ x ∧ x ≤ 65535) : IntKind.wrap .u16 x = x := by simp [IntKind.wrap, IntKind.bits, IntKind.signed]; omega
theorem jud (x w : Nat) (hw : w ≤ 65535) : (if jbB x + w ≥ 65536 then jbB x + w - 65535 else jbB x + w) = jbB (x + w) := by
  by_cases h0 : x = 0
  · subst h0
    rw [show jbB 0 = 0 from rfl, if_neg (by omega), Nat.zero_add, jha hw]
  · obtain ⟨q, r, hr, rfl⟩ : ∃ q r : Nat, r < 65535 ∧ x = 65535 * q + r + 1 := ⟨(x - 1) / 65535, (x - 1) % 65535, Nat.mod_lt _ (by omega), by omega⟩
    have e1 : jbB (65535 * q + r + 1) = r + 1 := by
      unfold jbB
      rw [if_neg h0, show 65535 * q + r + 1 - 1 = 65535 * q + r by omega, Nat.mul_add_mod, Nat.mod_eq_of_lt hr]
    have e2 : jbB (65535 * q + r + 1 + w) = (r + w) % 65535 + 1 := by
      unfold jbB
      rw [if_neg (by omega), show 65535 * q + r + 1 + w - 1 = 65535 * q + (r + w) by omega, Nat.mul_add_mod]
    rw [e1, e2]
    by_cases c : r + 1 + w ≥ 65536
    · rw [if_pos c]; omega
    · rw [if_neg c]; omega
theorem jQV (a w : Nat) (ha : a ≤ 65535) (hw : w ≤ 65535) : jMa (a : Int) (w : Int) = some ((((if a + w ≥ 65536 then a + w - 65535 else a + w : Nat) : Int), ()), ()) := by
  have e : IntKind.wrap .i64 (IntKind.wrap .i64 (a : Int) + IntKind.wrap .i64 (w : Int)) = ((a + w : Nat) : Int) := by
    rw [IntWalk.i64_in (a : Int) (by omega), IntWalk.i64_in (w : Int) (by omega), IntWalk.i64_in _ (by omega)]; omega
  refine fin ?_
  unfold jNx
  rw [e]
  by_cases h : a + w ≥ 65536
  · refine jaJ (decide_eq_true (show ((a + w : Nat) : Int) ≥ 65536 by omega)) ?_
    extract_lets -merge +onlyGivenNames y1
    have e_y1 : y1 = ((a + w - 65536 : Nat) : Int) := (by show IntKind.wrap .i64 (((a + w : Nat) : Int) - 65536) = _; rw [IntWalk.i64_in _ (by omega)]; omega)
    clear_value y1; subst e_y1
    rw [if_pos h, jaD (by omega), jld _ (by omega)]
    rw [show a + w - 65536 + 1 = a + w - 65535 by omega]
  · refine jaI (decide_eq_false (show ¬ ((a + w : Nat) : Int) ≥ 65536 by omega)) ?_
    rw [if_neg h, jld _ (by omega)]
theorem jKB (k : Int → Option Res) (s : ByteArray) (hs : s.size ≤ 1000000) : ∀ (m i x : Nat), i ≤ s.size + 1 → s.size + 1 - i < m →
    jjy FUEL k s m ((jbB x : Nat) : Int) (i : Int) = k ((jbB (x + ws true ((nats s).drop i)) : Nat) : Int)
  | 0, _, _, _, h => by omega
  | m + 1, i, x, hi, hm => by
    show jrt FUEL k s (jjy FUEL k s m) ((jbB x : Nat) : Int) (i : Int) = _
    unfold jrt
    have hf := jgw x
    by_cases h : i < s.size
    · have hb : (nats s).getD i 0 < 256 := by
        rw [List.getD_eq_getElem?_getD, List.getElem?_eq_getElem (by rw [jbr]; exact h)]
        exact jpW s (List.getElem_mem _)
      refine jaJ (decide_eq_true (show (i : Int) < ((s.size : Nat) : Int) by omega)) ?_
      refine jaJ (decide_eq_true (show (0 : Int) ≤ (i : Int) ∧ (i : Int) < ((s.size : Nat) : Int) by omega)) ?_
      rw [jaD (by omega), jal, jal, jhe s h]
      have er : rdd 0 (nats s) i = (nats s).getD i 0 := rfl
      have hdrop := jaP (0 : Nat) (l := nats s) (i := i) (by rw [jbr]; exact h)
      rw [er] at hdrop
      generalize hb0 : (nats s).getD i 0 = b0 at hb hdrop
      have ei2 : IntKind.wrap .i64 ((i : Int) + 2) = ((i + 2 : Nat) : Int) := by rw [IntWalk.i64_in _ (by omega)]; omega
      have em : IntKind.wrap .u16 (IntKind.wrap .u16 (b0 : Int) * 256) = ((256 * b0 : Nat) : Int) := by rw [jld (b0 : Int) (by omega), jld _ (by omega)]; omega
      by_cases h1 : i + 1 < s.size
      · have hb1 : (nats s).getD (i + 1) 0 < 256 := by
          rw [List.getD_eq_getElem?_getD, List.getElem?_eq_getElem (by rw [jbr]; exact h1)]
          exact jpW s (List.getElem_mem _)
        have hdrop1 := jaP (0 : Nat) (l := nats s) (i := i + 1) (by rw [jbr]; exact h1)
        have er1 : rdd 0 (nats s) (i + 1) = (nats s).getD (i + 1) 0 := rfl
        rw [er1] at hdrop1
        refine jaJ (decide_eq_true (show ((i + 1 : Nat) : Int) < ((s.size : Nat) : Int) by omega)) ?_
        refine jaJ (decide_eq_true (show (0 : Int) ≤ ((i + 1 : Nat) : Int) ∧ ((i + 1 : Nat) : Int) < ((s.size : Nat) : Int) by omega)) ?_
        rw [jhe s h1]
        generalize (nats s).getD (i + 1) 0 = b1 at hb1 hdrop1
        extract_lets -merge +onlyGivenNames y1
        have e_y1 : y1 = ((256 * b0 + b1 : Nat) : Int) := (by show IntKind.wrap .u16 (IntKind.wrap .u16 (IntKind.wrap .u16 (b0 : Int) * 256) + IntKind.wrap .u16 (b1 : Int)) = _; rw [em, jld (b1 : Int) (by omega), jld _ (by omega)]; omega)
        clear_value y1; subst e_y1
        have qa := jQV (jbB x) (256 * b0 + b1) hf (by omega)
        rw [jud x _ (by omega)] at qa
        extract_lets -merge +onlyGivenNames y2
        have e_y2 : y2 = _ := (congrArg RS.get (qa)).trans (jag _)
        clear_value y2; subst e_y2
        refine jaA (qa) ?_
        rw [ei2]
        refine (jKB k s hs m (i + 2) (x + (256 * b0 + b1)) (by omega) (by omega)).trans ?_
        rw [hdrop, hdrop1]
        simp only [ws, show i + 1 + 1 = i + 2 by omega]
        rw [show x + (256 * b0 + b1) + ws true (List.drop (i + 2) (nats s)) = x + (256 * b0 + (b1 + ws true (List.drop (i + 2) (nats s)))) by omega]
      · refine jaI (decide_eq_false (show ¬ ((i + 1 : Nat) : Int) < ((s.size : Nat) : Int) by omega)) ?_
        have qa := jQV (jbB x) (256 * b0) hf (by omega)
        rw [jud x _ (by omega), ← em] at qa
        extract_lets -merge +onlyGivenNames y3
        have e_y3 : y3 = _ := (congrArg RS.get (qa)).trans (jag _)
        clear_value y3; subst e_y3
        refine jaA (qa) ?_
        rw [ei2]
        refine (jKB k s hs m (i + 2) (x + 256 * b0) (by omega) (by omega)).trans ?_
        rw [hdrop, List.drop_of_length_le (l := nats s) (i := i + 2) (by rw [jbr]; omega), List.drop_of_length_le (l := nats s) (i := i + 1) (by rw [jbr]; omega)]
        simp only [ws, Nat.add_zero]
    · refine jaI (decide_eq_false (show ¬ (i : Int) < ((s.size : Nat) : Int) by omega)) ?_
      rw [List.drop_of_length_le (by rw [jbr]; omega)]
      simp [ws]
theorem Q_rOf3 (s : ByteArray) (hs : s.size ≤ 1000000) : jLY s = some ((((65535 - jbB (ws true (nats s)) : Nat) : Int), ()), ()) := by
  have q : jLZ s = some ((((jbB (ws true (nats s)) : Nat) : Int), ()), ()) := by
    refine fin ?_
    unfold jNw
    have := jKB (fun y4 => some (jaa jxh jxL ((y4, ()), ()))) s hs FUEL 0 0 (by omega) (by unfold FUEL; omega)
    rw [Nat.zero_add, List.drop_zero] at this
    exact this
  have hf := jgw (ws true (nats s))
  refine fin ?_
  unfold jNv
  extract_lets -merge +onlyGivenNames y1
  have e_y1 : y1 = _ := (congrArg RS.get (q)).trans (jag _)
  clear_value y1; subst e_y1
  refine jaA (q) ?_
  show some (jaa jxg jxK ((IntKind.wrap .u16 (65535 - ((jbB (ws true (nats s)) : Nat) : Int)), ()), ())) = _
  rw [jld _ (by omega)]
  rw [show (65535 : Int) - ((jbB (ws true (nats s)) : Nat) : Int) = ((65535 - jbB (ws true (nats s)) : Nat) : Int) by omega]

theorem L_rMv (k : List jan → Option Res) (at_ d : Int) {hs : List jan} (hn6 : hs.length ≤ 1000000) (hat : ∀ h ∈ hs, 0 ≤ h.2.1 ∧ h.2.1 ≤ 1000000) (hd : -1000000 ≤ d ∧ d ≤ 1000000) : ∀ (m i : Nat) (row : List jan), i ≤ hs.length → hs.length - i < m → row = (hs.take i).map (mvH at_ d) ++ hs.drop i →
    jjC FUEL k d at_ hs.length m (i : Int) row = k (hs.map (mvH at_ d))
  | 0, _, _, _, h, _ => by omega
  | m + 1, i, row, hi, hm, hr => by
    show jrx FUEL k d at_ hs.length (jjC FUEL k d at_ hs.length m) (i : Int) row = _
    unfold jrx
    by_cases h : i < hs.length
    · have hlen : row.length = hs.length := by rw [hr]; simp; omega
      have hrd : rdd jak row i = rdd jak hs i := by
        rw [jbd (by omega), jbd h]
        have : row[i]'(by omega) = ((hs.take i).map (mvH at_ d) ++ hs.drop i)[i]'(by rw [← hr]; omega) := by simp only [hr]
        rw [this, List.getElem_append_right (by simp; omega), List.getElem_drop]
        congr 1
        simp; omega
      have hx := hat _ (jbO (d := jak) h)
      have hstep : ∀ x : jan, x = mvH at_ d (rdd jak hs i) → row.set i x = (hs.take (i + 1)).map (mvH at_ d) ++ hs.drop (i + 1) := fun x hx' => by
        rw [hr, jgc jak h, List.map_append, List.append_assoc, jaP jak h, hx']
        exact jlk _ _ _ (by simp; omega)
      refine jaJ (decide_eq_true (show (i : Int) < ((hs.length : Nat) : Int) by omega)) ?_
      refine jaJ (decide_eq_true (show (0 : Int) ≤ (i : Int) ∧ (i : Int) < ((hs.length : Nat) : Int) by omega)) ?_
      rw [jal, hrd, jaD (i := i) (by omega)]
      by_cases hge : (rdd jak hs i).2.1 ≥ at_
      · refine jaJ (decide_eq_true hge) ?_
        refine jaJ (decide_eq_true (show (0 : Int) ≤ (i : Int) ∧ (i : Int) < ((hs.length : Nat) : Int) by omega)) ?_
        refine jaJ (decide_eq_true (show (0 : Int) ≤ (i : Int) ∧ (i : Int) < ((hs.length : Nat) : Int) by omega)) ?_
        rw [IntWalk.i64_in _ (by omega)]
        exact L_rMv k at_ d hn6 hat hd m (i + 1) _ (by omega) (by omega) (hstep _ (by unfold mvH; rw [if_pos hge]))
      · refine jaI (decide_eq_false hge) ?_
        refine L_rMv k at_ d hn6 hat hd m (i + 1) row (by omega) (by omega) ?_
        have := hstep (rdd jak hs i) (by unfold mvH; rw [if_neg hge])
        rw [← this]
        apply List.ext_getElem?
        intro j
        by_cases e : j = i
        · subst e
          rw [List.getElem?_set_self (by omega), List.getElem?_eq_getElem (by omega), ← hrd, jbd (by omega)]
        · rw [List.getElem?_set_ne (fun k => e k.symm)]
    · refine jaI (decide_eq_false (show ¬ (i : Int) < ((hs.length : Nat) : Int) by omega)) ?_
      rw [hr, List.take_of_length_le (by omega), List.drop_of_length_le (by omega), List.append_nil]
theorem Q_rIns {hs : List jan} {b mt : List Int} (R : RkN hs b mt) (pt : Int) (f : jaB) (hf : jaT.good f) (m : Int) (hm : -9223372036854775808 ≤ m ∧ m ≤ 9223372036854775807) :
    (jcu hs b mt f m ≠ 0 → jJA f m (bytesOf b) (bytesOf mt) pt hs.length hs = some ((jcu hs b mt f m, ()), rS hs pt b mt)) ∧
    (jcu hs b mt f m = 0 → jJA f m (bytesOf b) (bytesOf mt) pt hs.length hs = some ((0, ()), rS (hs.map (mvH (jaN hs b mt f).1 m)) pt (insB b (jaN hs b mt f).1.toNat m.toNat) mt)) := by
  have qs := jwH R pt f hf
  have hbl := R.n.long
  have hsz : (bytesOf b).size = b.length := jaw b
  unfold jcu
  by_cases c1 : (jaN hs b mt f).2 ≠ 0
  · rw [if_pos c1]
    refine ⟨fun _ => fin ?_, fun h => absurd h c1⟩
    unfold jwL
    extract_lets -merge +onlyGivenNames y1
    have e_y1 : y1 = _ := (congrArg RS.get (qs)).trans (jag _)
    clear_value y1; subst e_y1
    refine jaA (qs) ?_
    refine jaJ (bne0 c1) ?_
    rfl
  rw [if_neg c1]
  have c1 : (jaN hs b mt f).2 = 0 := Classical.byContradiction c1
  have hsp := jen R.n c1
  rw [c1] at qs
  generalize hk : (jaN hs b mt f).1 = k0 at qs hsp
  obtain ⟨k, rfl⟩ : ∃ k : Nat, k0 = (k : Int) := ⟨k0.toNat, by omega⟩
  rw [jal]
  by_cases c2 : m < 0
  · rw [if_pos c2]
    refine ⟨fun _ => fin ?_, fun h => by cases h⟩
    unfold jwL
    extract_lets -merge +onlyGivenNames y1
    have e_y1 : y1 = _ := (congrArg RS.get (qs)).trans (jag _)
    clear_value y1; subst e_y1
    refine jaA (qs) ?_
    refine jaI (rfl) ?_
    refine jaJ (decide_eq_true c2) ?_
    rfl
  rw [if_neg c2]
  have h9 : IntKind.wrap .i64 ((9216 : Int) - (((bytesOf b).size : Nat) : Int)) = 9216 - (b.length : Int) := by rw [hsz]; exact IntWalk.i64_in _ (by omega)
  by_cases c3 : m > 9216 - (b.length : Int)
  · rw [if_pos c3]
    refine ⟨fun _ => fin ?_, fun h => by cases h⟩
    unfold jwL
    extract_lets -merge +onlyGivenNames y1
    have e_y1 : y1 = _ := (congrArg RS.get (qs)).trans (jag _)
    clear_value y1; subst e_y1
    refine jaA (qs) ?_
    refine jaI (rfl) ?_
    refine jaI (decide_eq_false c2) ?_
    refine jaJ (by rw [h9]; exact decide_eq_true c3) ?_
    rfl
  rw [if_neg c3]
  refine ⟨fun h => absurd rfl h, fun _ => fin ?_⟩
  unfold jwL
  extract_lets -merge +onlyGivenNames y1
  have e_y1 : y1 = _ := (congrArg RS.get (qs)).trans (jag _)
  clear_value y1; subst e_y1
  refine jaA (qs) ?_
  refine jaI (rfl) ?_
  refine jaI (decide_eq_false c2) ?_
  refine jaI (by rw [h9]; exact decide_eq_false c3) ?_
  obtain ⟨d, rfl⟩ : ∃ d : Nat, m = (d : Int) := ⟨m.toNat, by omega⟩
  rw [jal]
  have e2 : (bytesOf b).extract 0 k = bytesOf (b.take k) := by rw [jbl, List.drop_zero]
  have e3 : (bytesOf b).extract k (bytesOf b).size = bytesOf (b.drop k) := by rw [jbl, List.take_of_length_le (by omega)]
  have z0 : (bytesOf (mkL d fun _ => (0 : Int))).size = d := (jaw _).trans (jaZ _ _)
  refine jaJ (decide_eq_true (show (0 : Int) ≤ 0 ∧ (0 : Int) ≤ (k : Int) ∧ (k : Int) ≤ (((bytesOf b).size : Nat) : Int) by omega)) ?_
  extract_lets -merge +onlyGivenNames y2
  have e_y2 : y2 = (bytesOf (b.take k)) := e2
  clear_value y2; subst e_y2
  have z2 : (bytesOf (b.take k)).size = k := by rw [jaw, List.length_take]; omega
  have z3 : (bytesOf (b.drop k)).size = b.length - k := by rw [jaw, List.length_drop]
  refine jaJ (decide_eq_true (by omega)) ?_
  refine jaJ (decide_eq_true (show (bytesOf (b.take k)).size + (bytesOf (mkL d fun _ => (0 : Int))).size ≤ 9223372036854775807 by omega)) ?_
  refine jaJ (decide_eq_true (show (0 : Int) ≤ (k : Int) ∧ (k : Int) ≤ (((bytesOf b).size : Nat) : Int) ∧ (((bytesOf b).size : Nat) : Int) ≤ (((bytesOf b).size : Nat) : Int) by omega)) ?_
  extract_lets -merge +onlyGivenNames y3
  have e_y3 : y3 = (bytesOf (b.drop k)) := e3
  clear_value y3; subst e_y3
  refine jaJ (decide_eq_true (show (bytesOf (b.take k) ++ bytesOf (mkL d fun _ => (0 : Int))).size + (bytesOf (b.drop k)).size ≤ 9223372036854775807 by rw [ByteArray.size_append]; omega)) ?_
  extract_lets -merge +onlyGivenNames y4
  have e_y4 : y4 = (bytesOf (insB b k d)) := (by show (bytesOf (b.take k) ++ bytesOf (mkL d fun _ => (0 : Int))) ++ bytesOf (b.drop k) = _; rw [← jcA, ← jcA]; rfl)
  clear_value y4; subst e_y4
  refine (L_rMv _ (k : Int) (d : Int) R.n.ok.hl R.n.ok.at_ (by omega) FUEL 0 hs (by omega) (by have := R.n.ok.hl; unfold FUEL; omega) (by simp)).trans ?_
  have hml : (hs.map (mvH (k : Int) (d : Int))).length = hs.length := List.length_map _
  rw [jal, show rS (hs.map (mvH (k : Int) (d : Int))) pt (insB b k d) mt = ((bytesOf (insB b k d), (bytesOf mt, (pt, (hs.length, ())))), (hs.map (mvH (k : Int) (d : Int)), ())) by unfold rS; rw [hml]]
end Go.AMach
