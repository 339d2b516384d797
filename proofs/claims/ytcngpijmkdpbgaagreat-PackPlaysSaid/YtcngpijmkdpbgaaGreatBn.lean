/- Parts of the proof. -/
import Derived.Test.YtcngpijmkdpbgaaGreatDx
import Derived.KernelRfl
import Derived.Test.YtcngpijmkdpbgaaGreatPa
import Derived.Test.YtcngpijmkdpbgaaGreatPa
/- Layer 17: the examples. -/
namespace Go.AMach
set_option linter.unusedVariables false
set_option linter.unusedSimpArgs false
set_option linter.unnecessarySimpa false
theorem jeA : jMJ = some ((true, ()), ()) := by kernel_rfl
end Go.AMach

/- Layer 17: a packet at the statements' hands. -/
namespace Go.AMach
set_option linter.unusedVariables false
set_option linter.unusedSimpArgs false
set_option linter.unnecessarySimpa false
open Go
set_option linter.unusedVariables false

theorem jRm (k : Int → Option Res) (l : List jai) (hl : l.length < 9223372036854775807) : ∀ (m j : Nat) (acc : Int), 0 ≤ acc → acc ≤ 4000 → j ≤ l.length → 10 * (j : Int) ≤ acc → (acc < 1500 → ∀ x ∈ l.take j, jBS x < 3000) → l.length - j < m →
    ∃ r : Int, jjU FUEL k l m acc (j : Int) = k r ∧ (r < 1500 → ∀ x ∈ l, jBS x < 3000)
  | 0, _, _, _, _, _, _, _, h => by omega
  | m + 1, j, acc, h0, h1, hj, h10, ha, hm => by
    show ∃ r : Int, jrT FUEL k l (jjU FUEL k l m) acc (j : Int) = k r ∧ _
    unfold jrT
    simp only [jao]
    by_cases hjl : j < l.length
    · rw [if_pos (by omega)]
      by_cases hacc : acc < 1500
      · rw [if_pos hacc, if_pos ⟨by omega, by omega⟩]
        simp only [jal]
        rw [jaD (by omega), IntWalk.i64_in (acc + 10) (by omega)]
        generalize hx : rdd jaC l j = x
        have hx' : x = l[j] := by rw [← hx, jbd hjl]
        have hmin : ∀ a : Nat, (if ((a : Nat) : Int) < 1500 then ((a : Nat) : Int) else (1500 : Int)) = ((min a 1500 : Nat) : Int) := fun a => by split <;> omega
        rw [hmin]
        have hle : min (List.length x.2.2.2.2.2.2.2.1) 1500 ≤ 1500 := by omega
        rw [IntWalk.i64_in _ (by omega)]
        refine jRm k l hl m (j + 1) _ (by omega) (by omega) (by omega) (by omega) (fun hlt y hy => ?_) (by omega)
        rw [List.take_add_one, List.getElem?_eq_getElem hjl] at hy
        rcases List.mem_append.1 hy with hy | hy
        · exact ha hacc y hy
        · simp at hy
          subst hy
          rw [← hx']
          unfold jBS
          omega
      · rw [if_neg hacc]
        exact ⟨acc, rfl, fun h => absurd h hacc⟩
    · rw [if_neg (by omega)]
      have : j = l.length := by omega
      refine ⟨acc, rfl, fun h => fun x hx => ha h x ?_⟩
      rw [List.take_of_length_le (by omega)]; exact hx
theorem Q_Long (l : List jai) (hl : l.length < 9223372036854775807) : ∃ b, jMI l = some ((b, ()), ()) ∧ (b = false → ∀ x ∈ l, jBS x < 3000) := by
  obtain ⟨r, h1, h2⟩ := jRm (fun y2 => some (jaa jxs jxW (((decide (y2 ≥ (1500 : Int))), ()), ()))) l hl FUEL 0 0 (by omega) (by omega) (by omega) (by omega) (fun _ x hx => by simp at hx) (by unfold FUEL; omega)
  refine ⟨decide (r ≥ 1500), ?_, fun h => h2 (by simpa using h)⟩
  exact fin h1

abbrev exW (x : Except Int Nat) : jaW × (Int × Unit) := match x with
  | .ok v => (wN v, (0, ()))
  | .error r => (wN 0, (r, ()))
theorem jwJ (hs : List jan) (h : hs.length ≤ 1000000) : jJJ hs = some ((hs.length, ()), (hs, ())) := by
  unfold jJJ juj
  rw [if_pos (by omega)]
theorem L_hEq (kr : Bool → Option Res) (kt : Unit → Option Res) (a b : List jan) (hl : a.length = b.length) (ha : a.length ≤ 1000000) : ∀ (m j : Nat), j ≤ a.length → a.length - j < m →
    jjX FUEL kr kt a b m (j : Int) = if a.drop j = b.drop j then kt () else kr false
  | 0, _, _, h => by omega
  | m + 1, j, hj, hm => by
    show jrY FUEL kr kt a b (jjX FUEL kr kt a b m) (j : Int) = _
    unfold jrY
    simp only [jao]
    by_cases h : j < a.length
    · rw [if_pos (by omega), if_pos ⟨by omega, by omega⟩, if_pos ⟨by omega, by omega⟩]
      simp only [jal, jaD (show j < 9223372036854775807 by omega), jaQ]
      rw [L_hEq kr kt a b hl ha m (j + 1) (by omega) (by omega), jaP jak h, jaP (l := b) (i := j) jak (by omega)]
      generalize rdd jak a j = x
      generalize rdd jak b j = y
      obtain ⟨x1, x2, _⟩ := x
      obtain ⟨y1, y2, _⟩ := y
      by_cases e1 : x1 = y1
      · by_cases e2 : x2 = y2
        · simp [e1, e2]
        · simp [e1, e2]
      · simp [e1]
    · rw [if_neg (by omega), List.drop_of_length_le (by omega), List.drop_of_length_le (by omega), if_pos rfl]
theorem Q_hEq (a b : List jan) (ha : a.length ≤ 1000000) : jJI a b = some ((decide (a = b), ()), ()) := by
  refine fin ?_
  unfold jOh
  simp only [jaV]
  by_cases h : a.length = b.length
  · rw [decide_eq_true (show ((a.length : Nat) : Int) = ((b.length : Nat) : Int) by omega), Bool.not_true, cond_false]
    refine Eq.trans (L_hEq _ _ a b h ha FUEL 0 (by omega) (by unfold FUEL; omega)) ?_
    simp only [List.drop_zero]
    by_cases e : a = b
    · rw [if_pos e, decide_eq_true e]
    · rw [if_neg e, decide_eq_false e]
  · rw [decide_eq_false (show ¬ ((a.length : Nat) : Int) = ((b.length : Nat) : Int) by omega), Bool.not_false, cond_true, decide_eq_false (fun e => h (by rw [e]))]
theorem getB_of {b : List Int} {off w : Int} {x : Nat} (h : getB b off w = some x) : (0 ≤ off ∧ 1 ≤ w ∧ w ≤ 128 ∧ off + w ≤ 8 * (b.length : Int)) ∧ x = bv (bl b) off.toNat w.toNat := by
  unfold getB at h
  split at h
  · rename_i k; cases h; exact ⟨k, rfl⟩
  · cases h
end Go.AMach

/- Layer 17: the sum of bytes. -/
namespace Go.AMach
set_option linter.unusedVariables false
set_option linter.unusedSimpArgs false
set_option linter.unnecessarySimpa false
open Go
set_option linter.unusedVariables false

def jbB (n : Nat) : Nat := if n = 0 then 0 else (n - 1) % 65535 + 1
theorem jgw (n : Nat) : jbB n ≤ 65535 := by unfold jbB; split; omega; omega
theorem jha {n : Nat} (h : n ≤ 65535) : jbB n = n := by unfold jbB; split; omega; omega
theorem jBJ {n : Nat} (h : 65535 < n) : jbB (n % 65536 + n / 65536) = jbB n := by
  unfold jbB
  rw [if_neg (by omega), if_neg (by omega)]
  have e : n - 1 = (n % 65536 + n / 65536 - 1) + 65535 * (n / 65536) := by omega
  rw [e, Nat.add_mul_mod_self_left]
theorem jBK (n : Nat) : jbB (jbB n) = jbB n := jha (jgw n)
theorem and16 (a : Nat) (h : a < 18446744073709551616) : IntKind.wrap .u64 ((BitVec.toNat (BitVec.ofInt (IntKind.bits .u64) (a : Int) &&& BitVec.ofInt (IntKind.bits .u64) (65535 : Int)) : Nat) : Int) = ((a % 65536 : Nat) : Int) := by
  have := andU a 65535 h (by decide)
  rw [show (65535 : Nat) = 2 ^ 16 - 1 from rfl, Nat.and_two_pow_sub_one_eq_mod] at this
  exact this
theorem jRj (k : Int → Option Res) : ∀ (m n : Nat), n < m → n < 1000000000000 → jjA FUEL k m (n : Int) = k ((jbB n : Nat) : Int)
  | 0, _, h, _ => by omega
  | m + 1, n, hm, hn => by
    show jrv FUEL k (jjA FUEL k m) (n : Int) = _
    unfold jrv
    simp only [jao]
    by_cases h : 65535 < n
    · rw [if_pos (by omega), and16 n (by omega), if_pos (by omega)]
      have e : Int.fdiv (n : Int) (2 ^ (min (Int.toNat 16) (IntKind.bits .u64))) = ((n / 65536 : Nat) : Int) := by
        rw [show min (Int.toNat 16) (IntKind.bits .u64) = 16 from rfl, jzc]
      have e2 : IntKind.wrap .u64 (((n % 65536 : Nat) : Int) + ((n / 65536 : Nat) : Int)) = ((n % 65536 + n / 65536 : Nat) : Int) := by rw [jeb _ (by omega)]; omega
      simp only [e, e2]
      rw [jRj k m (n % 65536 + n / 65536) (by omega) (by omega), jBJ h]
    · rw [if_neg (by omega), jha (by omega)]
theorem jQY (n : Nat) (h : n < 1000000000000) : jMd (n : Int) = some ((((jbB n : Nat) : Int), ()), ()) := by
  refine fin ?_
  unfold jNz
  refine Eq.trans (jRj _ FUEL n (jLA (by omega)) h) ?_
  have := jgw n
  rw [show IntKind.wrap .u16 ((jbB n : Nat) : Int) = ((jbB n : Nat) : Int) by simp [IntKind.wrap, IntKind.bits, IntKind.signed]; omega]

def ws : Bool → List Nat → Nat
  | _, [] => 0
  | true, b :: r => 256 * b + ws false r
  | false, b :: r => b + ws true r
theorem ws_le : ∀ (hi : Bool) (l : List Nat), (∀ b ∈ l, b < 256) → ws hi l ≤ 65280 * l.length
  | _, [], _ => by simp [ws]
  | true, b :: r, h => by
    have := ws_le false r fun x hx => h x (List.mem_cons_of_mem _ hx)
    have := h b List.mem_cons_self
    simp only [ws, List.length_cons]; omega
  | false, b :: r, h => by
    have := ws_le true r fun x hx => h x (List.mem_cons_of_mem _ hx)
    have := h b List.mem_cons_self
    simp only [ws, List.length_cons]; omega
theorem jKJ (k : Int → Bool → Option Res) (s : ByteArray) (hs : s.size ≤ 1000000) : ∀ (m i acc : Nat) (hi : Bool), i ≤ s.size → s.size - i < m → acc ≤ 65280 * i → ∃ hi', jjz FUEL k s (s.size : Int) m (acc : Int) hi (i : Int) = k ((acc + ws hi ((nats s).drop i) : Nat) : Int) hi'
  | 0, _, _, _, _, h, _ => by omega
  | m + 1, i, acc, hi, hil, hm, ha => by
    show ∃ hi', jru FUEL k s (s.size : Int) (jjz FUEL k s (s.size : Int) m) (acc : Int) hi (i : Int) = _
    unfold jru
    simp only [jao]
    by_cases h : i < s.size
    · rw [if_pos (by omega), if_pos ⟨by omega, by omega⟩]
      simp only [jal]
      have hb : (nats s).getD i 0 < 256 := by
        rw [List.getD_eq_getElem?_getD, List.getElem?_eq_getElem (by rw [jbr]; exact h)]
        exact jpW s (List.getElem_mem _)
      rw [jhe s h, jaP (0 : Nat) (l := nats s) (i := i) (by rw [jbr]; exact h)]
      have er : rdd 0 (nats s) i = (nats s).getD i 0 := rfl
      rw [er, jaD (by omega)]
      generalize (nats s).getD i 0 = b at hb
      cases hi with
      | true =>
        rw [cond_true, if_pos (by omega)]
        have e1 : IntKind.wrap .u64 (IntKind.wrap .u64 (b : Int) * 2 ^ (min (Int.toNat 8) (IntKind.bits .u64))) = ((256 * b : Nat) : Int) := by
          rw [show min (Int.toNat 8) (IntKind.bits .u64) = 8 from rfl, jeb (b : Int) (by omega), jeb _ (by omega)]; omega
        have e2 : IntKind.wrap .u64 ((acc : Int) + ((256 * b : Nat) : Int)) = ((acc + 256 * b : Nat) : Int) := by rw [jeb _ (by omega)]; omega
        rw [e1, e2]
        obtain ⟨hi', hh⟩ := jKJ k s hs m (i + 1) (acc + 256 * b) false (by omega) (by omega) (by omega)
        exact ⟨hi', by rw [Bool.not_true, hh]; simp only [ws, Nat.add_assoc]⟩
      | false =>
        rw [cond_false]
        have e2 : IntKind.wrap .u64 ((acc : Int) + IntKind.wrap .u64 (b : Int)) = ((acc + b : Nat) : Int) := by rw [jeb (b : Int) (by omega), jeb _ (by omega)]; omega
        rw [e2]
        obtain ⟨hi', hh⟩ := jKJ k s hs m (i + 1) (acc + b) true (by omega) (by omega) (by omega)
        exact ⟨hi', by rw [Bool.not_false, hh]; simp only [ws, Nat.add_assoc]⟩
    · rw [if_neg (by omega), List.drop_of_length_le (by rw [jbr]; omega)]
      exact ⟨hi, rfl⟩
theorem Q_Sum1 (s : ByteArray) (hs : s.size ≤ 1000000) : jMc [s] = some ((((jbB (ws true (nats s)) : Nat) : Int), ()), ()) := by
  have hw := ws_le true (nats s) fun b hb => jpW s hb
  rw [jbr] at hw
  have hf := jgw (ws true (nats s))
  refine fin ?_
  unfold jNy
  have key : ∀ (m : Nat) (kk : Int → Option Res), 2 ≤ m → jfV FUEL kk [s] (([s].length : Nat) : Int) m 0 true 0 = kk ((jbB (ws true (nats s)) : Nat) : Int) := fun m kk hm => by
    obtain ⟨m, rfl⟩ : ∃ n, m = n + 2 := ⟨m - 2, by omega⟩
    show jkh FUEL kk [s] _ (jfV FUEL kk [s] _ (m + 1)) 0 true 0 = _
    unfold jkh
    have c1 : decide ((0 : Int) < (([s].length : Nat) : Int)) = true := rfl
    have c2 : decide ((0 : Int) ≤ 0 ∧ (0 : Int) < (([s].length : Nat) : Int)) = true := rfl
    have r0 : rdd ByteArray.empty [s] (Int.toNat 0) = s := rfl
    rw [c1, c2, cond_true, cond_true, r0]
    obtain ⟨hi', hh⟩ := jKJ (fun y2 y3 => let y4 : ((Int × Unit) × Unit) := (jDX y2)
 cond (jtk y2)
 (jfV FUEL kk [s] (([s].length : Nat) : Int) (m + 1) (IntKind.wrap .u64 y4.1.1) y3 (IntKind.wrap .i64 ((0 : Int) + (1 : Int))))
 (none)) s hs FUEL 0 0 true (by omega) (by unfold FUEL; omega) (by omega)
    refine Eq.trans hh ?_
    rw [List.drop_zero, Nat.zero_add]
    simp only [jtk, jDX, jQY _ (show ws true (nats s) < 1000000000000 by omega), RS.get, Option.getD_some, Option.isSome_some, cond_true]
    show jkh FUEL kk [s] _ (jfV FUEL kk [s] _ m) _ _ 1 = _
    unfold jkh
    have c3 : decide ((1 : Int) < (([s].length : Nat) : Int)) = false := rfl
    rw [c3, cond_false, jeb _ (by omega)]
  refine Eq.trans (key FUEL _ (by unfold FUEL; omega)) ?_
  simp only [jtk, jDX, jQY _ (show jbB (ws true (nats s)) < 1000000000000 by omega), jBK, RS.get, Option.getD_some, Option.isSome_some, cond_true]
def natL (l : List Int) : List Nat := l.map Int.toNat
theorem jky {l : List Int} (h : isB l) : nats (bytesOf l) = natL l := by
  unfold nats natL
  rw [jbn, List.map_map]
  exact List.map_congr_left fun x hx => by
    have := jCx (h x hx)
    show (u8 x).toNat = x.toNat
    omega
end Go.AMach

/- Layer 17: a checksum in a packet. -/
namespace Go.AMach
set_option linter.unusedVariables false
set_option linter.unusedSimpArgs false
set_option linter.unnecessarySimpa false
open Go
set_option linter.unusedVariables false

theorem jRc (n : Nat) (row : List Int) : jMR n row = some ((((n : Nat) : Int), ()), ((n, ()), (row, ()))) := fin rfl
def atV (fr off : Int) (len : Nat) : Int × Int := if off < 0 then (0, 1) else if off / 8 > (len : Int) - fr then (0, 1) else (fr + off / 8, 0)
theorem Q_atB (fr : Int) (f : jaB) (n : Nat) (row : List Int) (hf : 0 ≤ fr ∧ fr ≤ 1000000) (ho : f.2.2.2.1 ≤ 9223372036854775807) (hn : n ≤ 1000000) :
    jMQ fr f n row = some (((atV fr f.2.2.2.1 n).1, ((atV fr f.2.2.2.1 n).2, ())), ((n, ()), (row, ()))) := by
  refine fin ?_
  unfold jOd atV
  simp only [jao]
  by_cases h0 : f.2.2.2.1 < 0
  · rw [if_pos h0, if_pos h0]
  rw [if_neg h0, if_neg h0]
  have h8 : ((8 : Int) != 0) = true := by decide
  have e : IntKind.wrap .i64 (Int.tdiv f.2.2.2.1 8) = f.2.2.2.1 / 8 := by
    rw [Int.tdiv_eq_ediv_of_nonneg (by omega), IntWalk.i64_in _ (by omega)]
  have e2 : IntKind.wrap .i64 (((n : Nat) : Int) - fr) = (n : Int) - fr := IntWalk.i64_in _ (by omega)
  simp only [h8, cond_true, jyB, jLb, jRc, RS.get, Option.getD_some, Option.isSome_some, e, e2]
  by_cases h1 : f.2.2.2.1 / 8 > (n : Int) - fr
  · rw [if_pos h1, if_pos h1]
  · rw [if_neg h1, if_neg h1, IntWalk.i64_in _ (by omega)]
def atF (hs : List jan) (b mt : List Int) (f : jaB) : Int × Int := match jch hs b mt f with
  | none => (0, 3)
  | some (c, a) => atV a f.2.2.2.1 c.length
def jaN (hs : List jan) (b mt : List Int) (f : jaB) : Int × Int := if f.2.1 = 3 then (0, 3) else atF hs b mt f
theorem not16 (c : Nat) (h : c ≤ 65535) : IntKind.wrap .u16 ((BitVec.toNat (BitVec.ofInt (IntKind.bits .u16) (IntKind.max .u16) ^^^ BitVec.ofInt (IntKind.bits .u16) (c : Int)) : Nat) : Int) = ((65535 - c : Nat) : Int) := by
  have e : BitVec.toNat (BitVec.ofInt (IntKind.bits .u16) (IntKind.max .u16) ^^^ BitVec.ofInt (IntKind.bits .u16) (c : Int)) = 65535 - c := by
    show BitVec.toNat (BitVec.ofInt 16 65535 ^^^ BitVec.ofInt 16 (c : Int)) = _
    have e1 : BitVec.ofInt 16 65535 = BitVec.allOnes 16 := by decide
    rw [e1, BitVec.allOnes_xor, BitVec.toNat_not, BitVec.toNat_ofInt]
    omega
  rw [e]
  simp [IntKind.wrap, IntKind.bits, IntKind.signed]; omega

abbrev fldP (off w : Int) : jaB := (0, (1, (0, (off, (w, ())))))
end Go.AMach
