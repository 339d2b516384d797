/- The document's packet: Get, the key, the number. -/
import Derived.Test.YtphmidhlgkclgaaBh
import Derived.Test.YtphmidhlgkclgaaBg
namespace Go.AMach
set_option linter.unusedVariables false
set_option linter.unusedSimpArgs false
set_option linter.unnecessarySimpa false
open Go
set_option linter.unusedVariables false

theorem bN_bl (s : ByteArray) (i : Nat) : bN s i = bl (bytesL s) i := by
  unfold bN bl rdd bytesL
  rw [List.getD_eq_getElem?_getD, List.getD_eq_getElem?_getD, List.getElem?_map]
  cases s.data.toList[i]? with
  | none => rfl
  | some b => simp
theorem bN_bl' (s : ByteArray) : bN s = bl (bytesL s) := funext (bN_bl s)

abbrev rkS (hs : List HeadS) (pt : Int) (S M : ByteArray) : HK.sems rh_z29 := ((S, (M, (pt, (hs.length, ())))), (hs, ()))

theorem L_begin (kr : Int → Bool → Option Res) (kt : Unit → Option Res) (hs : List HeadS) (hl : hs.length ≤ 1000000) (f : FieldS) : ∀ (m i : Nat), i ≤ hs.length → hs.length - i < m →
    L_z26_0 FUEL kr kt hs.length hs f m (i : Int) = (match atOf (hs.drop i) f.2.2.1 with | some a => kr a true | none => kt ())
  | 0, _, _, h => by omega
  | m + 1, i, hi, hm => by
    show F_z26_0 FUEL kr kt hs.length hs f (L_z26_0 FUEL kr kt hs.length hs f m) (i : Int) = _
    unfold F_z26_0
    simp only [cond_dec]
    by_cases h : i < hs.length
    · rw [if_pos (by omega), if_pos ⟨by omega, by omega⟩]
      simp only [toNat_cast, int_beq, cond_dec]
      rw [drop_rdd zHeadS h]
      unfold atOf
      rw [List.find?_cons]
      by_cases e : (rdd zHeadS hs i).1 = f.2.2.1
      · rw [if_pos e, decide_eq_true e, if_pos ⟨by omega, by omega⟩]; rfl
      · rw [if_neg e, decide_eq_false e, i64_succ (by omega), L_begin kr kt hs hl f m (i + 1) (by omega) (by omega)]
        rfl
    · rw [if_neg (by omega), List.drop_of_length_le (by omega)]
      rfl
/-- From which byte a field is counted, by the document. -/
def begV (hs : List HeadS) (f : FieldS) : Option Int := if f.2.1 = 2 then atOf hs f.2.2.1 else if f.2.1 = 1 ∨ f.2.1 = 3 then some 0 else none
theorem Q_rBegin {hs : List HeadS} (hl : hs.length ≤ 1000000) (S M : ByteArray) (pt : Int) (f : FieldS) : Q_z26 f S M pt hs.length hs = some (((begV hs f).getD 0, ((begV hs f).isSome, ())), rkS hs pt S M) := by
  refine fin ?_
  unfold M_z26 begV
  simp only [int_beq, cond_dec]
  by_cases c2 : f.2.1 = 2
  · rw [if_pos c2, if_pos c2]
    refine Eq.trans (L_begin _ _ hs hl f FUEL 0 (by omega) (by unfold FUEL; omega)) ?_
    rw [List.drop_zero]
    cases atOf hs f.2.2.1 <;> rfl
  · rw [if_neg c2, if_neg c2]
    by_cases c1 : f.2.1 = 1
    · rw [if_pos c1, if_pos (.inl c1)]; rfl
    · rw [if_neg c1]
      by_cases c3 : f.2.1 = 3
      · rw [if_pos (.inr c3), decide_eq_true c3]; rfl
      · rw [if_neg (by omega), decide_eq_false c3]; rfl
def inV (S M : ByteArray) (f : FieldS) : ByteArray := if f.2.1 = 3 then M else S
theorem Q_rIn {hs : List HeadS} (S M : ByteArray) (pt : Int) (f : FieldS) : Q_z27 f S M pt hs.length hs = some ((inV S M f, ()), rkS hs pt S M) := by
  refine fin ?_
  unfold M_z27 inV
  simp only [int_beq, cond_dec]
  by_cases c : f.2.1 = 3
  · rw [if_pos c, if_pos c]
  · rw [if_neg c, if_neg c]
theorem where_beg (hs : List HeadS) (S M : ByteArray) (f : FieldS) : whereF hs (bytesL S) (bytesL M) f = (begV hs f).map fun a => (bytesL (inV S M f), a) := by
  unfold whereF begV inV
  by_cases c1 : f.2.1 = 1
  · rw [if_pos c1, if_neg (show ¬ f.2.1 = 2 by omega), if_pos (show f.2.1 = 1 ∨ f.2.1 = 3 from .inl c1), if_neg (show ¬ f.2.1 = 3 by omega)]; rfl
  rw [if_neg c1]
  by_cases c3 : f.2.1 = 3
  · rw [if_pos c3, if_neg (show ¬ f.2.1 = 2 by omega), if_pos (show f.2.1 = 1 ∨ f.2.1 = 3 from .inr c3), if_pos c3]; rfl
  rw [if_neg c3]
  by_cases c2 : f.2.1 = 2
  · rw [if_pos c2, if_pos c2, if_neg c3]
  · rw [if_neg c2, if_neg c2, if_neg (show ¬ (f.2.1 = 1 ∨ f.2.1 = 3) by omega)]; rfl

theorem Q_rmay2 (s : ByteArray) (off w : Int) (hs : s.size < 1000000000) : Q_z1t s off w = some ((if 0 ≤ off ∧ 1 ≤ w ∧ w ≤ 128 ∧ off + w ≤ 8 * (s.size : Int) then 0 else getE off w, ()), ()) := by
  refine fin ?_
  unfold M_z1t
  simp only [cond_dec]
  unfold getE
  by_cases h1 : w < 1
  · rw [if_pos h1, if_neg (by omega), if_pos h1]
  rw [if_neg h1]
  by_cases h2 : w > 128
  · rw [if_pos h2, if_neg (by omega), if_neg h1, if_pos h2]
  rw [if_neg h2]
  by_cases h3 : off < 0
  · rw [if_pos h3, if_neg (by omega), if_neg h1, if_neg h2, if_pos h3]
  rw [if_neg h3, IntWalk.i64_in (8 * (s.size : Int)) (by omega), IntWalk.i64_in _ (by omega)]
  by_cases h4 : off > 8 * (s.size : Int) - w
  · rw [if_pos h4, if_neg (by omega), if_neg h1, if_neg h2, if_neg h3]
  · rw [if_neg h4, if_pos (by omega)]

structure RkOk (hs : List HeadS) (S M : ByteArray) : Prop where
  sl : S.size ≤ 9216
  ml : M.size ≤ 9216
  hl : hs.length ≤ 1000000
  at_ : ∀ h ∈ hs, 0 ≤ h.2.1 ∧ h.2.1 ≤ 1000000
theorem RkOk.pk {hs : List HeadS} {S M : ByteArray} (R : RkOk hs S M) : PkOk hs (bytesL S) (bytesL M) where
  bB := bytesL_isB S
  mB := bytesL_isB M
  bl := by have := R.sl; rw [bytesL_length]; omega
  ml := by have := R.ml; rw [bytesL_length]; omega
  hl := R.hl
  at_ := R.at_
abbrev exW (x : Except Int Nat) : WordS × (Int × Unit) := match x with
  | .ok v => (wN v, (0, ()))
  | .error r => (wN 0, (r, ()))
theorem wN_W2 (h l : Nat) (hl : l < 18446744073709551616) : W2 h l = wN (h * 18446744073709551616 + l) := wN_of h l hl

theorem Q_rPGet {hs : List HeadS} {S M : ByteArray} (R : RkOk hs S M) (pt : Int) (f : FieldS) (hf : FieldT.good f) :
    Q_z29 f S M pt hs.length hs = some (exW (getF hs (bytesL S) (bytesL M) f), rkS hs pt S M) := by
  have hg : getF hs (bytesL S) (bytesL M) f = match begV hs f with
      | none => .error 3
      | some a => match getB (bytesL (inV S M f)) (bitV a f.2.2.2.1) f.2.2.2.2.1 with
        | none => .error 1
        | some v => .ok v := by
    unfold getF
    rw [where_beg]
    cases begV hs f <;> rfl
  rw [hg]
  have hin : (inV S M f).size ≤ 9216 := by unfold inV; split; exact R.ml; exact R.sl
  have hwr : Q_z28 f S M pt hs.length hs = some ((match begV hs f with
      | none => 3
      | some a => match getB (bytesL (inV S M f)) (bitV a f.2.2.2.1) f.2.2.2.2.1 with
        | none => 1
        | some v => 0, ()), rkS hs pt S M) := by
    refine fin ?_
    unfold M_z28
    simp only [ok_z26, q_z26, Q_rBegin R.hl S M pt f, RS.get, Option.getD_some, Option.isSome_some, cond_true]
    cases hb : begV hs f with
    | none => rfl
    | some a =>
      have ha : 0 ≤ a ∧ a ≤ 1000000 := by
        unfold begV at hb
        by_cases c2 : f.2.1 = 2
        · rw [if_pos c2] at hb; exact atOf_ok R.pk hb
        · rw [if_neg c2] at hb
          split at hb
          · cases hb; omega
          · cases hb
      simp only [Option.isSome_some, Bool.not_true, cond_false, Option.getD_some, cond_dec]
      unfold getB bitV
      rw [bytesL_length]
      by_cases c1 : f.2.2.2.1 < 0
      · rw [if_pos c1, if_neg (by rw [if_pos c1]; omega)]
      rw [if_neg c1, if_neg c1]
      by_cases c2 : f.2.2.2.1 > 73728
      · rw [if_pos c2, if_neg (by omega)]
      rw [if_neg c2]
      have e : IntKind.wrap .i64 (IntKind.wrap .i64 (8 * a) + f.2.2.2.1) = 8 * a + min f.2.2.2.1 147456 := by
        rw [IntWalk.i64_in (8 * a) (by omega), IntWalk.i64_in _ (by omega)]; omega
      simp only [ok_z27, q_z27, Q_rIn S M pt f, RS.get, Option.getD_some, Option.isSome_some, cond_true, e, ok_z1t, q_z1t, Q_rmay2 _ _ _ (show (inV S M f).size < 1000000000 by omega)]
      by_cases c3 : 0 ≤ 8 * a + min f.2.2.2.1 147456 ∧ 1 ≤ f.2.2.2.2.1 ∧ f.2.2.2.2.1 ≤ 128 ∧ 8 * a + min f.2.2.2.1 147456 + f.2.2.2.2.1 ≤ 8 * ((inV S M f).size : Int)
      · rw [if_pos c3, if_pos c3]; rfl
      · rw [if_neg c3, if_neg c3, int_bne, decide_eq_false (getE_ne _ _), Bool.not_false, cond_true]
  refine fin ?_
  unfold M_z29
  simp only [ok_z28, q_z28, hwr, RS.get, Option.getD_some, Option.isSome_some, cond_true]
  cases hb : begV hs f with
  | none => rfl
  | some a =>
    simp only []
    have ha : 0 ≤ a ∧ a ≤ 1000000 := by
      unfold begV at hb
      by_cases c2 : f.2.1 = 2
      · rw [if_pos c2] at hb; exact atOf_ok R.pk hb
      · rw [if_neg c2] at hb
        split at hb
        · cases hb; omega
        · cases hb
    cases hv : getB (bytesL (inV S M f)) (bitV a f.2.2.2.1) f.2.2.2.2.1 with
    | none => rfl
    | some v =>
      simp only [int_bne, decide_true, Bool.not_true, cond_false, ok_z26, q_z26, Q_rBegin R.hl S M pt f, ok_z27, q_z27, Q_rIn S M pt f, RS.get, Option.getD_some, Option.isSome_some, cond_true, hb]
      unfold getB bitV at hv
      rw [bytesL_length] at hv
      by_cases c1 : f.2.2.2.1 < 0
      · rw [if_neg (by rw [if_pos c1]; omega)] at hv; cases hv
      rw [if_neg c1] at hv
      split at hv
      · rename_i k
        have e : IntKind.wrap .i64 (IntKind.wrap .i64 (8 * a) + f.2.2.2.1) = 8 * a + min f.2.2.2.1 147456 := by
          rw [IntWalk.i64_in (8 * a) (by omega), IntWalk.i64_in _ (by omega)]; omega
        obtain ⟨h, l, q, h1, h2, h3⟩ := Q_rGet (inV S M f) (8 * a + min f.2.2.2.1 147456).toNat f.2.2.2.2.1.toNat (by omega) (by omega) (by omega) (by omega)
        rw [if_pos (by omega), wN_W2 h l h2, h3, if_pos (by omega), show (((8 * a + min f.2.2.2.1 147456).toNat : Nat) : Int) = 8 * a + min f.2.2.2.1 147456 by omega, show ((f.2.2.2.2.1.toNat : Nat) : Int) = f.2.2.2.2.1 by omega, bN_bl', Option.some.inj hv] at q
        simp only [e, ok_z1w, q_z1w, q, RS.get, Option.getD_some, Option.isSome_some, cond_true]
      · cases hv

theorem L_rKey (kr : ByteArray → Int → ByteArray → ByteArray → Int → Nat → List HeadS → Option Res) (k : ByteArray → ByteArray → ByteArray → Int → Nat → List HeadS → Option Res) {hs : List HeadS} {S M : ByteArray} (R : RkOk hs S M) (pt : Int) (l : List FieldS) (hl : l.length ≤ 1000000) (hg : ∀ f ∈ l, FieldT.good f) : ∀ (m j : Nat) (acc : ByteArray), j ≤ l.length → l.length - j < m → acc.size ≤ 16 * j →
    L_z2d_0 FUEL kr k l m acc (j : Int) S M pt hs.length hs = (match keyL hs (bytesL S) (bytesL M) (l.drop j) with | .ok t => k (acc ++ t) S M pt hs.length hs | .error e => kr ByteArray.empty e S M pt hs.length hs)
  | 0, _, _, _, h, _ => by omega
  | m + 1, j, acc, hj, hm, ha => by
    show F_z2d_0 FUEL kr k l (L_z2d_0 FUEL kr k l m) acc (j : Int) S M pt hs.length hs = _
    unfold F_z2d_0
    simp only [cond_dec]
    by_cases h : j < l.length
    · rw [if_pos (by omega), drop_rdd zFieldS h]
      simp only [if_pos (show (0 : Int) ≤ (j : Int) ∧ (j : Int) < ((l.length : Nat) : Int) by omega), toNat_cast, ok_z29, q_z29, Q_rPGet R pt _ (hg _ (rdd_mem h)), RS.get, Option.getD_some, Option.isSome_some, cond_true, keyL, keyT]
      cases hv : getF hs (bytesL S) (bytesL M) (rdd zFieldS l j) with
      | error e =>
        have := getF_err hv
        simp only [exW, int_bne, decide_eq_false (show ¬ e = 0 by omega), Bool.not_false, cond_true]
        rfl
      | ok v =>
        obtain ⟨w1, w2, w3, w4⟩ := getF_ok hv
        have hn16 : nB (rdd zFieldS l j).2.2.2.2.1 ≤ 16 := by unfold nB; split <;> omega
        simp only [exW, int_bne, decide_true, Bool.not_true, cond_false, ok_z2c, q_z2c, Q_rText v w4 _ ⟨w1, w2⟩, RS.get, Option.getD_some, Option.isSome_some, cond_true, textV_size]
        rw [if_pos (by omega), i64_succ (by omega), L_rKey kr k R pt l hl hg m (j + 1) _ (by omega) (by omega) (by rw [ByteArray.size_append, textV_size]; omega)]
        cases keyL hs (bytesL S) (bytesL M) (l.drop (j + 1)) with
        | error e => rfl
        | ok t => simp only []; rw [show acc ++ textV v (rdd zFieldS l j).2.2.2.2.1 ++ t = acc ++ (textV v (rdd zFieldS l j).2.2.2.2.1 ++ t) by apply ba_ext'; simp]
    · rw [if_neg (by omega), List.drop_of_length_le (by omega)]
      simp only [keyL]
      rw [show acc ++ ByteArray.empty = acc by apply ba_ext'; simp]
theorem Q_rKey {hs : List HeadS} {S M : ByteArray} (R : RkOk hs S M) (pt : Int) (l : List FieldS) (hl : l.length ≤ 1000000) (hg : ∀ f ∈ l, FieldT.good f) :
    Q_z2d l S M pt hs.length hs = some (exS (keyL hs (bytesL S) (bytesL M) l), rkS hs pt S M) := by
  refine fin ?_
  unfold M_z2d
  refine Eq.trans (L_rKey _ _ R pt l hl hg FUEL 0 _ (by omega) (by unfold FUEL; omega) (by show 0 ≤ _; omega)) ?_
  rw [List.drop_zero]
  cases keyL hs (bytesL S) (bytesL M) l with
  | error e => rfl
  | ok t => simp only [exS]; rw [show (ByteArray.mk #[]) ++ t = t by apply ba_ext'; simp]

/-! ### The document's hash -/
theorem L_rMore (k : Int → Option Res) (s : ByteArray) (hs : s.size ≤ 1000000000) : ∀ (m i h : Nat), i ≤ s.size → s.size - i < m → h < 4294967296 →
    L_z2g_0 FUEL k s m (h : Int) (i : Int) = k ((fnvL h ((nats s).drop i) : Nat) : Int)
  | 0, _, _, _, h, _ => by omega
  | m + 1, i, h, hi, hm, hh => by
    show F_z2g_0 FUEL k s (L_z2g_0 FUEL k s m) (h : Int) (i : Int) = _
    unfold F_z2g_0
    simp only [cond_dec]
    by_cases hlt : i < s.size
    · rw [if_pos (by omega), if_pos ⟨by omega, by omega⟩]
      simp only [toNat_cast]
      have hb : (nats s).getD i 0 < 256 := by
        rw [List.getD_eq_getElem?_getD, List.getElem?_eq_getElem (by rw [nats_length]; exact hlt)]
        exact nats_lt s (List.getElem_mem _)
      rw [byteAt_nats s hlt, wrapu32 ((nats s).getD i 0), Nat.mod_eq_of_lt (by omega), xor32 h _ hh (by omega)]
      have e : IntKind.wrap .u32 (((h ^^^ (nats s).getD i 0 : Nat) : Int) * 16777619) = ((fnv h ((nats s).getD i 0) : Nat) : Int) := by
        rw [show (((h ^^^ (nats s).getD i 0 : Nat) : Int) * 16777619) = (((h ^^^ (nats s).getD i 0) * 16777619 : Nat) : Int) from (Int.natCast_mul _ 16777619).symm, wrapu32]; rfl
      rw [e, i64_succ (by omega), L_rMore k s hs m (i + 1) _ (by omega) (by omega) (fnv_lt _ _), drop_rdd (0 : Nat) (l := nats s) (i := i) (by rw [nats_length]; exact hlt)]
      rfl
    · rw [if_neg (by omega), List.drop_of_length_le (by rw [nats_length]; omega)]
      rfl
theorem Q_rMore (h : Nat) (hh : h < 4294967296) (s : ByteArray) (hs : s.size ≤ 1000000000) : Q_z2g (h : Int) s = some ((((fnvL h (nats s) : Nat) : Int), ()), ()) := by
  refine fin ?_
  unfold M_z2g
  refine Eq.trans (L_rMore _ s hs FUEL 0 h (by omega) (by unfold FUEL; omega) hh) ?_
  rw [List.drop_zero]
theorem Q_rHashOf1 (s : ByteArray) (hs : s.size ≤ 1000000000) : Q_z2h [s] = some ((((fnvL fnv0 (nats s) : Nat) : Int), ()), ()) := by
  refine fin ?_
  unfold M_z2h
  have hq := Q_rMore fnv0 (by decide) s hs
  have h1 : ∀ (m : Nat) (kk : Int → Option Res), 2 ≤ m → L_z2h_0 FUEL kk [s] m (2166136261 : Int) 0 = kk ((fnvL fnv0 (nats s) : Nat) : Int) := fun m kk hm => by
    obtain ⟨m, rfl⟩ : ∃ n, m = n + 2 := ⟨m - 2, by omega⟩
    show F_z2h_0 FUEL kk [s] (L_z2h_0 FUEL kk [s] (m + 1)) (2166136261 : Int) 0 = _
    unfold F_z2h_0
    rw [show (2166136261 : Int) = ((fnv0 : Nat) : Int) from rfl]
    have r0 : rdd ByteArray.empty [s] (Int.toNat 0) = s := rfl
    simp only [r0, ok_z2g, q_z2g, hq, RS.get, Option.getD_some, Option.isSome_some, cond_true]
    have c1 : decide ((0 : Int) < (([s].length : Nat) : Int)) = true := rfl
    have c2 : decide ((0 : Int) ≤ 0 ∧ (0 : Int) < (([s].length : Nat) : Int)) = true := rfl
    rw [c1, c2, cond_true, cond_true]
    show F_z2h_0 FUEL kk [s] (L_z2h_0 FUEL kk [s] m) _ 1 = _
    unfold F_z2h_0
    have c3 : decide ((1 : Int) < (([s].length : Nat) : Int)) = false := rfl
    rw [c3, cond_false]
  exact h1 FUEL _ (by unfold FUEL; omega)
theorem Q_rMix (h : Nat) (hh : h < 4294967296) : Q_z2i (h : Int) = some ((((mixV h : Nat) : Int), ()), ()) := by
  have dv : ∀ (k : Nat) (a : Nat), a < 4294967296 → IntKind.wrap .u32 (Int.tdiv (a : Int) ((2 ^ k : Nat) : Int)) = ((a / 2 ^ k : Nat) : Int) := fun k a ha => by
    rw [Int.tdiv_eq_ediv_of_nonneg (by omega), ← Int.natCast_ediv, wrapu32, Nat.mod_eq_of_lt (Nat.lt_of_le_of_lt (Nat.div_le_self _ _) ha)]
  have key : ∀ (k : Nat) (a : Nat), a < 4294967296 → IntKind.wrap .u32 ((BitVec.toNat (BitVec.ofInt (IntKind.bits .u32) (a : Int) ^^^ BitVec.ofInt (IntKind.bits .u32) (IntKind.wrap .u32 (Int.tdiv (a : Int) ((2 ^ k : Nat) : Int)))) : Nat) : Int) = ((xsh k a : Nat) : Int) := fun k a ha => by
    rw [dv k a ha, xor32 a _ ha (Nat.lt_of_le_of_lt (Nat.div_le_self _ _) ha)]; rfl
  have mul : ∀ (a c : Nat), IntKind.wrap .u32 ((a : Int) * (c : Int)) = ((a * c % 4294967296 : Nat) : Int) := fun a c => by
    rw [← Int.natCast_mul, wrapu32]
  refine fin ?_
  unfold M_z2i
  have d1 : ((65536 : Int) != 0) = true := rfl
  have d2 : ((8192 : Int) != 0) = true := rfl
  simp only [d1, d2, cond_true]
  rw [show (65536 : Int) = ((2 ^ 16 : Nat) : Int) from rfl, show (8192 : Int) = ((2 ^ 13 : Nat) : Int) from rfl, key 16 h hh, show (2246822507 : Int) = ((2246822507 : Nat) : Int) from rfl, mul, key 13 _ (Nat.mod_lt _ (by decide)), show (3266489909 : Int) = ((3266489909 : Nat) : Int) from rfl, mul, key 16 _ (Nat.mod_lt _ (by decide))]
  rfl
theorem Q_rNumber {hs : List HeadS} {S M : ByteArray} (R : RkOk hs S M) (pt : Int) (f : FieldS) (hf : FieldT.good f) :
    Q_z2j f S M pt hs.length hs = some (numX (keyT hs (bytesL S) (bytesL M) f), rkS hs pt S M) := by
  have k1 := Q_rKey R pt [f] (by simp) (fun y hy => by rw [List.mem_singleton.1 hy]; exact hf)
  rw [keyL_one] at k1
  refine fin ?_
  unfold M_z2j
  simp only [ok_z2d, q_z2d, k1, RS.get, Option.getD_some, Option.isSome_some, cond_true]
  cases h : keyT hs (bytesL S) (bytesL M) f with
  | error e =>
    have hne : e ≠ 0 := by
      unfold keyT at h
      split at h
      · cases h
      · rename_i r' hr
        cases h
        have := getF_err hr; omega
    simp only [exS, int_bne, decide_eq_false hne, Bool.not_false, cond_true]
    rfl
  | ok s =>
    have hx := (keyT_nB h).1
    have hx2 := (keyT_nB h).2.1
    simp only [exS, int_bne, decide_true, Bool.not_true, cond_false, ok_z2h, q_z2h, Q_rHashOf1 s (by omega), ok_z2i, q_z2i, Q_rMix _ (fnvL_lt (nats s) fnv0 (by decide)), RS.get, Option.getD_some, Option.isSome_some, cond_true]
    rfl
theorem L_rWidths (k : Nat → List Int → Option Res) (l : List FieldS) (hl : l.length ≤ 1000000) : ∀ (m j : Nat) (acc : List Int), acc.length = j → j ≤ l.length → l.length - j < m →
    L_z2e_0 FUEL k l m acc.length (j : Int) acc = k l.length (acc ++ widV (l.drop j))
  | 0, _, _, _, _, h => by omega
  | m + 1, j, acc, ha, hj, hm => by
    show F_z2e_0 FUEL k l (L_z2e_0 FUEL k l m) acc.length (j : Int) acc = _
    unfold F_z2e_0
    simp only [cond_dec, cutL_all]
    by_cases h : j < l.length
    · rw [if_pos (by omega), if_pos ⟨by omega, by omega⟩]
      simp only [toNat_cast, ok_z2a, q_z2a, Q_rBytes, RS.get, Option.getD_some, Option.isSome_some, cond_true]
      rw [if_pos (by omega), i64_succ (by omega)]
      have := L_rWidths k l hl m (j + 1) (acc ++ [((nB (rdd zFieldS l j).2.2.2.2.1 : Nat) : Int)]) (by simp [ha]) (by omega) (by omega)
      rw [show (acc ++ [((nB (rdd zFieldS l j).2.2.2.2.1 : Nat) : Int)]).length = acc.length + 1 by simp] at this
      rw [this, drop_rdd zFieldS h]
      simp [widV]
    · rw [if_neg (by omega), List.drop_of_length_le (by omega)]
      simp only [widV, List.map_nil, List.append_nil]
      rw [show acc.length = l.length by omega]
theorem Q_rWidths (l : List FieldS) (hl : l.length ≤ 1000000) : Q_z2e l = some ((l.length, ()), (widV l, ())) := by
  refine fin ?_
  unfold M_z2e
  have := L_rWidths (fun y2 y3 => some (encRes ro_z2e rh_z2e ((y2, ()), (y3, ())))) l hl FUEL 0 [] rfl (by omega) (by unfold FUEL; omega)
  exact this.trans rfl
end Go.AMach
