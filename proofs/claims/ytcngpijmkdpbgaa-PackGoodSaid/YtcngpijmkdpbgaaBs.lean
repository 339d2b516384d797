/- Layer 17: the sum of bytes. -/
import Derived.Test.YtcngpijmkdpbgaaBp
namespace Go.AMach
set_option linter.unusedVariables false
set_option linter.unusedSimpArgs false
set_option linter.unnecessarySimpa false
open Go
set_option linter.unusedVariables false

/-- A sum, what goes beyond 16 bits added again. -/
def foldV (n : Nat) : Nat := if n = 0 then 0 else (n - 1) % 65535 + 1
theorem foldV_le (n : Nat) : foldV n ≤ 65535 := by unfold foldV; split; omega; omega
theorem foldV_small {n : Nat} (h : n ≤ 65535) : foldV n = n := by unfold foldV; split; omega; omega
theorem foldV_step {n : Nat} (h : 65535 < n) : foldV (n % 65536 + n / 65536) = foldV n := by
  unfold foldV
  rw [if_neg (by omega), if_neg (by omega)]
  have e : n - 1 = (n % 65536 + n / 65536 - 1) + 65535 * (n / 65536) := by omega
  rw [e, Nat.add_mul_mod_self_left]
theorem foldV_fold (n : Nat) : foldV (foldV n) = foldV n := foldV_small (foldV_le n)
theorem and16 (a : Nat) (h : a < 18446744073709551616) : IntKind.wrap .u64 ((BitVec.toNat (BitVec.ofInt (IntKind.bits .u64) (a : Int) &&& BitVec.ofInt (IntKind.bits .u64) (65535 : Int)) : Nat) : Int) = ((a % 65536 : Nat) : Int) := by
  have := andU a 65535 h (by decide)
  rw [show (65535 : Nat) = 2 ^ 16 - 1 from rfl, Nat.and_two_pow_sub_one_eq_mod] at this
  exact this
theorem L_fold (k : Int → Option Res) : ∀ (m n : Nat), n < m → n < 1000000000000 → L_z21_0 FUEL k m (n : Int) = k ((foldV n : Nat) : Int)
  | 0, _, h, _ => by omega
  | m + 1, n, hm, hn => by
    show F_z21_0 FUEL k (L_z21_0 FUEL k m) (n : Int) = _
    unfold F_z21_0
    simp only [cond_dec]
    by_cases h : 65535 < n
    · rw [if_pos (by omega), and16 n (by omega), if_pos (by omega)]
      have e : Int.fdiv (n : Int) (2 ^ (min (Int.toNat 16) (IntKind.bits .u64))) = ((n / 65536 : Nat) : Int) := by
        rw [show min (Int.toNat 16) (IntKind.bits .u64) = 16 from rfl, fdiv_nat]
      have e2 : IntKind.wrap .u64 (((n % 65536 : Nat) : Int) + ((n / 65536 : Nat) : Int)) = ((n % 65536 + n / 65536 : Nat) : Int) := by rw [u64_in _ (by omega)]; omega
      simp only [e, e2]
      rw [L_fold k m (n % 65536 + n / 65536) (by omega) (by omega), foldV_step h]
    · rw [if_neg (by omega), foldV_small (by omega)]
theorem Q_fold (n : Nat) (h : n < 1000000000000) : Q_z21 (n : Int) = some ((((foldV n : Nat) : Int), ()), ()) := by
  refine fin ?_
  unfold M_z21
  refine Eq.trans (L_fold _ FUEL n (fuel_big (by omega)) h) ?_
  have := foldV_le n
  rw [show IntKind.wrap .u16 ((foldV n : Nat) : Int) = ((foldV n : Nat) : Int) by simp [IntKind.wrap, IntKind.bits, IntKind.signed]; omega]

/-- The sum of bytes, two and two. -/
def ws : Bool → List Nat → Nat
  | _, [] => 0
  | true, b :: r => 256 * b + ws false r
  | false, b :: r => b + ws true r
theorem ws_le : ∀ (hi : Bool) (l : List Nat), (∀ b ∈ l, b < 256) → ws hi l ≤ 65280 * l.length
  | _, [], _ => by simp [ws]
  | true, b :: r, h => by
    have := ws_le false r fun x hx => h x (List.mem_cons_of_mem _ hx)
    have := h b List.mem_cons_self
    simp only [ws, List.length_cons]; omega
  | false, b :: r, h => by
    have := ws_le true r fun x hx => h x (List.mem_cons_of_mem _ hx)
    have := h b List.mem_cons_self
    simp only [ws, List.length_cons]; omega
theorem ws_append : ∀ (x y : List Nat), x.length % 2 = 0 → ws true (x ++ y) = ws true x + ws true y
  | [], y, _ => by simp [ws]
  | [_], y, h => by simp at h
  | a :: b :: x, y, h => by
    have := ws_append x y (by simp at h; omega)
    simp only [List.cons_append, ws, this]; omega
theorem L_Sum2 (k : Int → Bool → Option Res) (s : ByteArray) (hs : s.size ≤ 1000000) : ∀ (m i acc : Nat) (hi : Bool), i ≤ s.size → s.size - i < m → acc ≤ 65280 * i → ∃ hi', L_z22_2 FUEL k s (s.size : Int) m (acc : Int) hi (i : Int) = k ((acc + ws hi ((nats s).drop i) : Nat) : Int) hi'
  | 0, _, _, _, _, h, _ => by omega
  | m + 1, i, acc, hi, hil, hm, ha => by
    show ∃ hi', F_z22_2 FUEL k s (s.size : Int) (L_z22_2 FUEL k s (s.size : Int) m) (acc : Int) hi (i : Int) = _
    unfold F_z22_2
    simp only [cond_dec]
    by_cases h : i < s.size
    · rw [if_pos (by omega), if_pos ⟨by omega, by omega⟩]
      simp only [toNat_cast]
      have hb : (nats s).getD i 0 < 256 := by
        rw [List.getD_eq_getElem?_getD, List.getElem?_eq_getElem (by rw [nats_length]; exact h)]
        exact nats_lt s (List.getElem_mem _)
      rw [byteAt_nats s h, drop_rdd (0 : Nat) (l := nats s) (i := i) (by rw [nats_length]; exact h)]
      have er : rdd 0 (nats s) i = (nats s).getD i 0 := rfl
      rw [er, i64_succ (by omega)]
      generalize (nats s).getD i 0 = b at hb
      cases hi with
      | true =>
        rw [cond_true, if_pos (by omega)]
        have e1 : IntKind.wrap .u64 (IntKind.wrap .u64 (b : Int) * 2 ^ (min (Int.toNat 8) (IntKind.bits .u64))) = ((256 * b : Nat) : Int) := by
          rw [show min (Int.toNat 8) (IntKind.bits .u64) = 8 from rfl, u64_in (b : Int) (by omega), u64_in _ (by omega)]; omega
        have e2 : IntKind.wrap .u64 ((acc : Int) + ((256 * b : Nat) : Int)) = ((acc + 256 * b : Nat) : Int) := by rw [u64_in _ (by omega)]; omega
        rw [e1, e2]
        obtain ⟨hi', hh⟩ := L_Sum2 k s hs m (i + 1) (acc + 256 * b) false (by omega) (by omega) (by omega)
        exact ⟨hi', by rw [Bool.not_true, hh]; simp only [ws, Nat.add_assoc]⟩
      | false =>
        rw [cond_false]
        have e2 : IntKind.wrap .u64 ((acc : Int) + IntKind.wrap .u64 (b : Int)) = ((acc + b : Nat) : Int) := by rw [u64_in (b : Int) (by omega), u64_in _ (by omega)]; omega
        rw [e2]
        obtain ⟨hi', hh⟩ := L_Sum2 k s hs m (i + 1) (acc + b) true (by omega) (by omega) (by omega)
        exact ⟨hi', by rw [Bool.not_false, hh]; simp only [ws, Nat.add_assoc]⟩
    · rw [if_neg (by omega), List.drop_of_length_le (by rw [nats_length]; omega)]
      exact ⟨hi, rfl⟩
theorem Q_Sum1 (s : ByteArray) (hs : s.size ≤ 1000000) : Q_z22 [s] = some ((((foldV (ws true (nats s)) : Nat) : Int), ()), ()) := by
  have hw := ws_le true (nats s) fun b hb => nats_lt s hb
  rw [nats_length] at hw
  have hf := foldV_le (ws true (nats s))
  refine fin ?_
  unfold M_z22
  have key : ∀ (m : Nat) (kk : Int → Option Res), 2 ≤ m → L_z22_0 FUEL kk [s] (([s].length : Nat) : Int) m 0 true 0 = kk ((foldV (ws true (nats s)) : Nat) : Int) := fun m kk hm => by
    obtain ⟨m, rfl⟩ : ∃ n, m = n + 2 := ⟨m - 2, by omega⟩
    show F_z22_0 FUEL kk [s] _ (L_z22_0 FUEL kk [s] _ (m + 1)) 0 true 0 = _
    unfold F_z22_0
    have c1 : decide ((0 : Int) < (([s].length : Nat) : Int)) = true := rfl
    have c2 : decide ((0 : Int) ≤ 0 ∧ (0 : Int) < (([s].length : Nat) : Int)) = true := rfl
    have r0 : rdd ByteArray.empty [s] (Int.toNat 0) = s := rfl
    rw [c1, c2, cond_true, cond_true, r0]
    obtain ⟨hi', hh⟩ := L_Sum2 (fun y2 y3 => let y4 : ((Int × Unit) × Unit) := (q_z21 y2)
 cond (ok_z21 y2)
 (L_z22_0 FUEL kk [s] (([s].length : Nat) : Int) (m + 1) (IntKind.wrap .u64 y4.1.1) y3 (IntKind.wrap .i64 ((0 : Int) + (1 : Int))))
 (none)) s hs FUEL 0 0 true (by omega) (by unfold FUEL; omega) (by omega)
    refine Eq.trans hh ?_
    rw [List.drop_zero, Nat.zero_add]
    simp only [ok_z21, q_z21, Q_fold _ (show ws true (nats s) < 1000000000000 by omega), RS.get, Option.getD_some, Option.isSome_some, cond_true]
    show F_z22_0 FUEL kk [s] _ (L_z22_0 FUEL kk [s] _ m) _ _ 1 = _
    unfold F_z22_0
    have c3 : decide ((1 : Int) < (([s].length : Nat) : Int)) = false := rfl
    rw [c3, cond_false, u64_in _ (by omega)]
  refine Eq.trans (key FUEL _ (by unfold FUEL; omega)) ?_
  simp only [ok_z21, q_z21, Q_fold _ (show foldV (ws true (nats s)) < 1000000000000 by omega), foldV_fold, RS.get, Option.getD_some, Option.isSome_some, cond_true]
theorem Q_Good (s : ByteArray) (hs : s.size ≤ 1000000) : Q_z25 s = some ((decide (foldV (ws true (nats s)) = 65535), ()), ()) := by
  refine fin ?_
  unfold M_z25
  simp only [ok_z22, q_z22, Q_Sum1 s hs, RS.get, Option.getD_some, Option.isSome_some, cond_true, int_beq]
  generalize foldV (ws true (nats s)) = x
  have : decide ((x : Int) = 65535) = decide (x = 65535) := decide_eq_decide.2 ⟨fun h => by omega, fun h => by omega⟩
  rw [this]

/-- Bytes, as natural numbers. -/
def natL (l : List Int) : List Nat := l.map Int.toNat
theorem nats_bytesOf {l : List Int} (h : isB l) : nats (bytesOf l) = natL l := by
  unfold nats natL
  rw [bytesOf_list, List.map_map]
  exact List.map_congr_left fun x hx => by
    have := u8_nat (h x hx)
    show (u8 x).toNat = x.toNat
    omega
/-- Two bytes, put as a number of 16 bits. -/
theorem putN_two {L R : List Int} {p q : Int} (hb : isB (L ++ p :: q :: R)) (v : Nat) : putN (L ++ p :: q :: R) (8 * L.length) 16 v = L ++ ((v / 256 % 256 : Nat) : Int) :: ((v % 256 : Nat) : Int) :: R := by
  have hB : isB (L ++ ((v / 256 % 256 : Nat) : Int) :: ((v % 256 : Nat) : Int) :: R) := fun x hx => by
    rcases List.mem_append.1 hx with hx | hx
    · exact hb x (List.mem_append.2 (.inl hx))
    · rcases List.mem_cons.1 hx with rfl | hx
      · omega
      · rcases List.mem_cons.1 hx with rfl | hx
        · omega
        · exact hb x (List.mem_append.2 (.inr (List.mem_cons_of_mem _ (List.mem_cons_of_mem _ hx))))
  have bm : ∀ (x k : Nat), k < 8 → x % 256 / 2 ^ k % 2 = x / 2 ^ k % 2 := fun x k hk => by
    rw [show (256 : Nat) = 2 ^ k * 2 ^ (8 - k) by rw [← Nat.pow_add, show k + (8 - k) = 8 by omega], Nat.mod_mul_right_div_self, Nat.mod_mod_of_dvd]
    exact ⟨2 ^ (8 - k - 1), by rw [← Nat.pow_succ']; congr 1; omega⟩
  refine bytes_ext (putN_isB _ _ _ _) hB (by rw [putN_length]; simp) fun i hi => ?_
  rw [putN_length] at hi
  rw [putN_bit _ _ _ _ _ hi]
  unfold putBit
  have hlen : (L ++ p :: q :: R).length = L.length + 2 + R.length := by simp; omega
  by_cases c0 : i / 8 < L.length
  · rw [if_neg (by omega)]
    refine bitOf_congr ?_
    unfold bl
    rw [rdd_lt (by simp; omega), rdd_lt (by simp; omega), List.getElem_append_left c0, List.getElem_append_left c0]
  by_cases c1 : i / 8 = L.length
  · rw [if_pos (by omega)]
    have : bl (L ++ ((v / 256 % 256 : Nat) : Int) :: ((v % 256 : Nat) : Int) :: R) (i / 8) = v / 256 % 256 := by
      unfold bl; rw [c1, rdd_mid, Int.toNat_natCast]
    unfold bitOf
    rw [this, bm _ _ (by omega), Nat.div_div_eq_div_mul, show (256 : Nat) * 2 ^ (7 - i % 8) = 2 ^ (8 * L.length + 16 - 1 - i) by rw [show (256 : Nat) = 2 ^ 8 from rfl, ← Nat.pow_add]; congr 1; omega]
  by_cases c2 : i / 8 = L.length + 1
  · rw [if_pos (by omega)]
    have : bl (L ++ ((v / 256 % 256 : Nat) : Int) :: ((v % 256 : Nat) : Int) :: R) (i / 8) = v % 256 := by
      unfold bl
      rw [c2, show L ++ ((v / 256 % 256 : Nat) : Int) :: ((v % 256 : Nat) : Int) :: R = (L ++ [((v / 256 % 256 : Nat) : Int)]) ++ ((v % 256 : Nat) : Int) :: R by simp]
      have := rdd_mid (d := (0 : Int)) (L ++ [((v / 256 % 256 : Nat) : Int)]) ((v % 256 : Nat) : Int) R
      rw [List.length_append, List.length_singleton] at this
      rw [this, Int.toNat_natCast]
    unfold bitOf
    rw [this, bm _ _ (by omega), show 7 - i % 8 = 8 * L.length + 16 - 1 - i by omega]
  · rw [if_neg (by omega)]
    refine bitOf_congr ?_
    unfold bl
    rw [rdd_lt (by rw [hlen]; omega), rdd_lt (by simp; omega), List.getElem_append_right (by omega), List.getElem_append_right (by omega)]
    obtain ⟨j, hj⟩ : ∃ j, i / 8 - L.length = j + 2 := ⟨i / 8 - L.length - 2, by omega⟩
    simp only [hj, List.getElem_cons_succ]
end Go.AMach
