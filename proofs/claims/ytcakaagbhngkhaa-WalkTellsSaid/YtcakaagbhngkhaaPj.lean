/- Layer 16: WalkBehind, WalkCut. -/
import Derived.Test.YtcakaagbhngkhaaPi
namespace Go.AMach
set_option linter.unusedVariables false
set_option linter.unusedSimpArgs false
set_option linter.unnecessarySimpa false
open Go
set_option linter.unusedVariables false

theorem awake_ok : Q_turnoutlaw16_awake = some ((true, ()), ()) := by kernel_rfl

theorem L_large (k : Int → Option Res) (l : List NodeS) (hl : l.length < 9223372036854775807) : ∀ (m j : Nat) (acc : Int), 0 ≤ acc → acc ≤ 7000 → j ≤ l.length → 5 * (j : Int) ≤ acc → (acc < 3000 → ∀ x ∈ l.take j, armsN x < 3000) → l.length - j < m →
    ∃ r : Int, L_turnoutlaw16_large_0 FUEL k l m acc (j : Int) = k r ∧ (r < 3000 → l.length < 600 ∧ ∀ x ∈ l, armsN x < 3000)
  | 0, _, _, _, _, _, _, _, h => by omega
  | m + 1, j, acc, h0, h1, hj, h10, ha, hm => by
    show ∃ r : Int, F_turnoutlaw16_large_0 FUEL k l (L_turnoutlaw16_large_0 FUEL k l m) acc (j : Int) = k r ∧ _
    unfold F_turnoutlaw16_large_0
    simp only [cond_dec]
    by_cases hjl : j < l.length
    · rw [if_pos (by omega)]
      by_cases hacc : acc < 3000
      · rw [if_pos hacc, if_pos ⟨by omega, by omega⟩]
        simp only [toNat_cast]
        rw [i64_succ (by omega), IntWalk.i64_in (acc + 5) (by omega)]
        generalize hx : rdd zNodeS l j = x
        have hx' : x = l[j] := by rw [← hx, rdd_lt hjl]
        have hmin : ∀ a : Nat, (if ((a : Nat) : Int) < 3000 then ((a : Nat) : Int) else (3000 : Int)) = ((min a 3000 : Nat) : Int) := fun a => by split <;> omega
        rw [hmin]
        have hle : min (List.length x.2.2.2.2.2.2.2.1) 3000 ≤ 3000 := by omega
        rw [IntWalk.i64_in _ (by omega)]
        refine L_large k l hl m (j + 1) _ (by omega) (by omega) (by omega) (by omega) (fun hlt y hy => ?_) (by omega)
        rw [List.take_add_one, List.getElem?_eq_getElem hjl] at hy
        rcases List.mem_append.1 hy with hy | hy
        · exact ha hacc y hy
        · simp at hy
          subst hy
          rw [← hx']
          unfold armsN
          omega
      · rw [if_neg hacc]
        exact ⟨acc, rfl, fun h => absurd h hacc⟩
    · rw [if_neg (by omega)]
      have : j = l.length := by omega
      refine ⟨acc, rfl, fun h => ⟨by omega, fun x hx => ha h x ?_⟩⟩
      rw [List.take_of_length_le (by omega)]; exact hx

theorem Q_large (l : List NodeS) (hl : l.length < 9223372036854775807) : ∃ b, Q_turnoutlaw16_large l = some ((b, ()), ()) ∧ (b = false → l.length < 600 ∧ ∀ x ∈ l, armsN x < 3000) := by
  obtain ⟨r, h1, h2⟩ := L_large (fun y2 => some (encRes ro_turnoutlaw16_large rh_turnoutlaw16_large (((decide (y2 ≥ (3000 : Int))), ()), ()))) l hl FUEL 0 0 (by omega) (by omega) (by omega) (by omega) (fun _ x hx => by simp at hx) (by unfold FUEL; omega)
  refine ⟨decide (r ≥ 3000), ?_, fun h => h2 (by simpa using h)⟩
  exact fin h1

theorem nodes_of {l : List NodeS} (h : (Ty.slice NodeT).good l) (ha : ∀ x ∈ l, armsN x < 3000) : Nodes l where
  len := good_len h
  arms x hx := by have := ha x hx; unfold armsN at this; unfold nArms; omega
  g x hx := good_node (h.2 x hx)

theorem pre_append (s t : ByteArray) : Pre s (s ++ t) where
  le := by simp
  eq i hi := by
    unfold byteAt
    rw [List.getD_eq_getElem?_getD, List.getD_eq_getElem?_getD]
    have : (s ++ t).data.toList = s.data.toList ++ t.data.toList := by simp
    rw [this, List.getElem?_append_left (by simpa using hi)]
theorem pre_extract (s : ByteArray) {n : Nat} (h : n ≤ s.size) : Pre (s.extract 0 n) s where
  le := by simp; omega
  eq i hi := by
    have hi : i < n := by simpa [Nat.min_eq_left h] using hi
    unfold byteAt
    rw [List.getD_eq_getElem?_getD, List.getD_eq_getElem?_getD]
    have hs : (s.extract 0 n).data = s.data.extract 0 n := by simp
    have hsz : s.size = s.data.size := rfl
    have e1 : (s.extract 0 n).data.toList[i]? = s.data.toList[i]? := by
      rw [hs, Array.getElem?_toList, Array.getElem?_toList, Array.getElem?_extract, if_pos (by rw [hsz] at h; omega)]
      simp
    rw [e1]

theorem Pure.WalkBehind (l : List NodeS) (h : (Ty.slice NodeT).good l) (s : ByteArray) (hs : Ty.str.good s) (t : ByteArray) (ht : Ty.str.good t) : Q_turnoutlaw16_WalkBehind l s t = some ((true, ()), ()) := by
  refine fin ?_
  unfold M_turnoutlaw16_WalkBehind
  obtain ⟨b, hb, hb2⟩ := Q_large l (good_len h)
  simp only [ok_turnoutlaw16_large, q_turnoutlaw16_large, hb, ok_turnoutlaw16_awake, q_turnoutlaw16_awake, awake_ok, RS.get, Option.getD_some, Option.isSome_some, cond_true, Bool.not_true, cond_false]
  cases b with
  | true => rfl
  | false =>
  obtain ⟨_, ha⟩ := hb2 rfl
  have hl := nodes_of h ha
  simp only [cond_false, cond_dec]
  refine ite_eq (fun _ => rfl) fun c1 => ?_
  refine ite_eq (fun _ => rfl) fun c2 => ?_
  have hst : (s ++ t).size = s.size + t.size := by simp
  simp only [ok_walk_Walk, q_walk_Walk, Q_Walk l hl s (by omega), Q_Walk l hl (s ++ t) (by rw [hst]; omega), RS.get, Option.getD_some, Option.isSome_some, cond_true]
  obtain ⟨⟨r, h1⟩, h2, h3⟩ := walkV_mono (pre_append s t) l
  generalize walkV l (s ++ t) = B at h1 h2 h3 ⊢
  have hbA := walkV_bound l s
  generalize walkV l s = A at h1 h2 h3 hbA ⊢
  have hlen : B.1.length = A.1.length + r.length := by rw [h1]; simp
  rw [if_pos (by omega), if_neg (by omega), if_pos (by omega)]
  have e1 : cutL zHeadS B.1 0 (Int.toNat ((A.1.length : Nat) : Int) - Int.toNat 0) = A.1 := by
    rw [toNat_cast, show Int.toNat 0 = 0 from rfl, Nat.sub_zero, cutL_eq (by omega), h1]
    simp
  rw [e1, cutL_all]
  simp only [ok_turnoutref16_Heads, q_turnoutref16_Heads, Q_Heads A.1 A.1 (by omega), RS.get, Option.getD_some, Option.isSome_some, cond_true, decide_true, Bool.not_true, cond_false]
  rw [if_neg (by omega)]
  simp only [int_beq]
  rcases h3 with h3 | h3
  · rw [h3]; rfl
  · subst h3
    by_cases hw : B.2.2 = 1
    · rw [hw]; rfl
    · simp [hw]

theorem Pure.WalkCut (l : List NodeS) (h : (Ty.slice NodeT).good l) (s : ByteArray) (hs : Ty.str.good s) (c : Int) (hc : (Ty.int .i64).good c) : Q_turnoutlaw16_WalkCut l s c = some ((true, ()), ()) := by
  refine fin ?_
  unfold M_turnoutlaw16_WalkCut
  obtain ⟨b, hb, hb2⟩ := Q_large l (good_len h)
  simp only [ok_turnoutlaw16_large, q_turnoutlaw16_large, hb, ok_turnoutlaw16_awake, q_turnoutlaw16_awake, awake_ok, RS.get, Option.getD_some, Option.isSome_some, cond_true, Bool.not_true, cond_false]
  cases b with
  | true => rfl
  | false =>
  obtain ⟨_, ha⟩ := hb2 rfl
  have hl := nodes_of h ha
  simp only [cond_false, cond_dec]
  refine ite_eq (fun _ => rfl) fun c1 => ?_
  have e0 : IntKind.wrap .u64 (IntKind.wrap .i64 ((s.size : Int) + 1)) = ((s.size + 1 : Nat) : Int) := by
    rw [IntWalk.i64_in _ (by omega), u64_in _ (by omega)]; omega
  have hne : ((((s.size + 1 : Nat) : Int)) != 0) = true := by simp; omega
  simp only [e0, hne, cond_true]
  obtain ⟨k, hk1, hk2⟩ : ∃ k : Nat, k ≤ s.size ∧ IntKind.wrap .i64 (Int.tmod (IntKind.wrap .u64 c) ((s.size + 1 : Nat) : Int)) = (k : Int) := by
    have hu : 0 ≤ IntKind.wrap .u64 c := by simp [IntKind.wrap, IntKind.bits, IntKind.signed]; omega
    obtain ⟨u, hu⟩ := Int.eq_ofNat_of_zero_le hu
    rw [hu]
    have : Int.tmod (u : Int) ((s.size + 1 : Nat) : Int) = ((u % (s.size + 1) : Nat) : Int) := rfl
    rw [this]
    have hlt := Nat.mod_lt u (show 0 < s.size + 1 by omega)
    exact ⟨u % (s.size + 1), by omega, IntWalk.i64_in _ (by omega)⟩
  rw [hk2]
  have hsz : (s.extract 0 k).size ≤ s.size := by simp; omega
  simp only [toNat_cast, show Int.toNat 0 = 0 from rfl, ok_walk_Walk, q_walk_Walk, Q_Walk l hl s (by omega), Q_Walk l hl (s.extract 0 k) (by omega), RS.get, Option.getD_some, Option.isSome_some, cond_true]
  obtain ⟨⟨r, h1⟩, h2, h3⟩ := walkV_mono (pre_extract s hk1) l
  generalize walkV l s = B at h1 h2 h3 ⊢
  have hbA := walkV_bound l (s.extract 0 k)
  generalize walkV l (s.extract 0 k) = A at h1 h2 h3 hbA ⊢
  have hlen : B.1.length = A.1.length + r.length := by rw [h1]; simp
  rw [if_pos (by omega), if_neg (by omega), if_pos (by omega)]
  have e1 : cutL zHeadS B.1 0 (A.1.length - 0) = A.1 := by
    rw [Nat.sub_zero, cutL_eq (by omega), h1]
    simp
  rw [e1, cutL_all]
  simp only [ok_turnoutref16_Heads, q_turnoutref16_Heads, Q_Heads A.1 A.1 (by omega), RS.get, Option.getD_some, Option.isSome_some, cond_true, decide_true, Bool.not_true, cond_false]
  rw [if_neg (by omega)]
  simp only [int_beq]
  rcases h3 with h3 | h3
  · rw [h3]; rfl
  · subst h3
    by_cases hw : B.2.2 = 1
    · rw [hw]; rfl
    · simp [hw]
end Go.AMach
