/- Layer 18: KeyAlike. -/
import Derived.Test.YtphmidhlgkclgaaBe
namespace Go.AMach
set_option linter.unusedVariables false
set_option linter.unusedSimpArgs false
set_option linter.unnecessarySimpa false
open Go
set_option linter.unusedVariables false

theorem diffs_self : ∀ l : List Nat, diffs l l = 0
  | [] => rfl
  | a :: r => by simp [diffs, diffs_self r]
theorem diffs_le : ∀ l m : List Nat, diffs l m ≤ l.length
  | [], _ => by simp [diffs]
  | _ :: _, [] => by simp [diffs]
  | a :: r, b :: s => by
    have := diffs_le r s
    simp only [diffs, List.length_cons]
    split <;> omega
theorem byteAt_rdd (s : ByteArray) {i : Nat} (h : i < s.size) : byteAt s i = ((rdd 0 (nats s) i : Nat) : Int) := byteAt_nats s h
theorem L_Alike (k : Int → Option Res) (s t : ByteArray) (h : s.size = t.size) (hs : s.size ≤ 1000000) : ∀ (m j u : Nat), j ≤ s.size → u ≤ j → s.size - j < m →
    L_turnoutlaw18_KeyAlike_0 FUEL k s t m (u : Int) (j : Int) = k ((u + diffs ((nats s).drop j) ((nats t).drop j) : Nat) : Int)
  | 0, _, _, _, _, h => by omega
  | m + 1, j, u, hj, hu, hm => by
    show F_turnoutlaw18_KeyAlike_0 FUEL k s t (L_turnoutlaw18_KeyAlike_0 FUEL k s t m) (u : Int) (j : Int) = _
    unfold F_turnoutlaw18_KeyAlike_0
    simp only [int_beq, int_bne, cond_dec]
    by_cases hj' : j < s.size
    · rw [if_pos (by omega), if_pos (by omega), if_pos ⟨by omega, by omega⟩, if_pos ⟨by omega, by omega⟩]
      simp only [toNat_cast]
      rw [byteAt_rdd s hj', byteAt_rdd t (by omega), i64_succ (by omega), i64_succ (by omega), drop_rdd (0 : Nat) (l := nats s) (i := j) (by rw [nats_length]; omega), drop_rdd (0 : Nat) (l := nats t) (i := j) (by rw [nats_length]; omega)]
      simp only [diffs]
      by_cases e : rdd 0 (nats s) j = rdd 0 (nats t) j
      · rw [decide_eq_true (by omega), Bool.not_true, cond_false, if_pos e, L_Alike k s t h hs m (j + 1) u (by omega) (by omega) (by omega), Nat.zero_add]
      · rw [decide_eq_false (by omega), Bool.not_false, cond_true, if_neg e, L_Alike k s t h hs m (j + 1) (u + 1) (by omega) (by omega) (by omega), Nat.add_assoc]
    · rw [if_neg (by omega), List.drop_of_length_le (by rw [nats_length]; omega)]
      rfl
theorem L_Alike_no (k : Int → Option Res) (s t : ByteArray) (h : s.size ≠ t.size) : L_turnoutlaw18_KeyAlike_0 FUEL k s t FUEL 0 0 = k 0 := by
  have : ∀ m, 0 < m → L_turnoutlaw18_KeyAlike_0 FUEL k s t m 0 0 = k 0 := fun m hm => by
    cases m with
    | zero => omega
    | succ m =>
      show F_turnoutlaw18_KeyAlike_0 FUEL k s t (L_turnoutlaw18_KeyAlike_0 FUEL k s t m) 0 0 = _
      unfold F_turnoutlaw18_KeyAlike_0
      simp only [int_beq, cond_dec]
      refine ite_eq (fun _ => ?_) fun _ => rfl
      rw [if_neg (by omega)]
  exact this FUEL (by unfold FUEL; omega)

theorem keyT_size {hs : List HeadS} {b mt : List Int} {f : FieldS} {s : ByteArray} (h : keyT hs b mt f = .ok s) : s.size ≤ 16 := by
  have := keyL_size (hs := hs) (b := b) (mt := mt) (l := [f]) (s := s) (by rw [keyL_one]; exact h)
  simpa using this
theorem keyT_err {hs : List HeadS} {b mt : List Int} {f : FieldS} {e : Int} (h : keyT hs b mt f = .error e) : e ≠ 0 := by
  unfold keyT at h
  split at h
  · cases h
  · rename_i r hr
    cases h
    have := getF_err hr; omega

theorem alike_end (x y : ByteArray) (a b : Nat) (u : Nat) (h1 : u = 1 → a ≠ b) (h3 : x = y → a = b) (h2 : x = y → u = 0) : (cond (!(ByteArray.toList x == ByteArray.toList y))
      (cond (!decide ((u : Int) = 1)) (some (encRes ro_turnoutlaw18_KeyAlike rh_turnoutlaw18_KeyAlike ((true, ()), ()))) (some (encRes ro_turnoutlaw18_KeyAlike rh_turnoutlaw18_KeyAlike ((!decide ((a : Int) = (b : Int)), ()), ()))))
      (cond (decide ((a : Int) = (b : Int)))
        (cond (!decide ((u : Int) = 1)) (some (encRes ro_turnoutlaw18_KeyAlike rh_turnoutlaw18_KeyAlike ((true, ()), ()))) (some (encRes ro_turnoutlaw18_KeyAlike rh_turnoutlaw18_KeyAlike ((!decide ((a : Int) = (b : Int)), ()), ()))))
        (some (encRes ro_turnoutlaw18_KeyAlike rh_turnoutlaw18_KeyAlike ((false, ()), ()))))) = some (encRes ro_turnoutlaw18_KeyAlike rh_turnoutlaw18_KeyAlike ((true, ()), ())) := by
  rw [toList_beq]
  by_cases e : x = y
  · rw [decide_eq_true e, Bool.not_true, cond_false, decide_eq_true (by rw [h3 e]), cond_true, h2 e]; rfl
  · rw [decide_eq_false e, Bool.not_false, cond_true]
    by_cases hu : u = 1
    · have := h1 hu
      rw [decide_eq_false (show ¬ (a : Int) = (b : Int) by omega), hu]; rfl
    · rw [decide_eq_false (show ¬ (u : Int) = 1 by omega)]; rfl
theorem numX_why (x : Except Int ByteArray) : (numX x).2.1 = (exS x).2.1 := by cases x <;> rfl
theorem alike_head (r7 r8 r9 r10 : Int) (R : Option Res) (h1 : r7 = r9) (h2 : r8 = r10) :
    (cond (r7 != r9) (cond (r7 == r9) (some (encRes ro_turnoutlaw18_KeyAlike rh_turnoutlaw18_KeyAlike (((r8 == r10), ()), ()))) (some (encRes ro_turnoutlaw18_KeyAlike rh_turnoutlaw18_KeyAlike ((false, ()), ()))))
    (cond (r8 != r10) (cond (r7 == r9) (some (encRes ro_turnoutlaw18_KeyAlike rh_turnoutlaw18_KeyAlike (((r8 == r10), ()), ()))) (some (encRes ro_turnoutlaw18_KeyAlike rh_turnoutlaw18_KeyAlike ((false, ()), ()))))
    (cond (r7 != (0 : Int)) (cond (r7 == r9) (some (encRes ro_turnoutlaw18_KeyAlike rh_turnoutlaw18_KeyAlike (((r8 == r10), ()), ()))) (some (encRes ro_turnoutlaw18_KeyAlike rh_turnoutlaw18_KeyAlike ((false, ()), ()))))
    (cond (r8 != (0 : Int)) (cond (r7 == r9) (some (encRes ro_turnoutlaw18_KeyAlike rh_turnoutlaw18_KeyAlike (((r8 == r10), ()), ()))) (some (encRes ro_turnoutlaw18_KeyAlike rh_turnoutlaw18_KeyAlike ((false, ()), ())))) R))))
    = if r7 = 0 ∧ r8 = 0 then R else some (encRes ro_turnoutlaw18_KeyAlike rh_turnoutlaw18_KeyAlike ((true, ()), ())) := by
  subst h1 h2
  simp only [int_bne, int_beq, decide_true, Bool.not_true, cond_false, cond_true]
  by_cases a : r7 = 0
  · by_cases b : r8 = 0 <;> simp [a, b]
  · simp [a]
theorem Pure.KeyAlike (s : ByteArray) (hs : Ty.str.good s) (l : List NodeS) (h : (Ty.slice NodeT).good l) (f : FieldS) (hf : FieldT.good f) (g : FieldS) (hg : FieldT.good g) : Q_turnoutlaw18_KeyAlike s l f g = some ((true, ()), ()) := by
  refine fin ?_
  unfold M_turnoutlaw18_KeyAlike
  obtain ⟨bb, hb, hb2⟩ := Q_large l (good_len h)
  simp only [ok_turnoutlaw18_large, q_turnoutlaw18_large, hb, ok_turnoutlaw18_awake, q_turnoutlaw18_awake, awake18, RS.get, Option.getD_some, Option.isSome_some, cond_true, Bool.not_true, cond_false]
  cases bb with
  | true => rfl
  | false =>
  obtain ⟨_, ha⟩ := hb2 rfl
  have hl := nodes_of h ha
  simp only [cond_false, cond_dec]
  refine ite_eq (fun _ => rfl) fun c1 => ?_
  by_cases h9 : s.size ≤ 9216
  · obtain ⟨f0, f1⟩ := Q_found s l hl h9
    have P := pk_ok l s h9
    have k1 := Q_kOf P 1 [f] (by simp) (fun x hx => by rw [List.mem_singleton.1 hx]; exact hf)
    have k2 := Q_kOf P 1 [g] (by simp) (fun x hx => by rw [List.mem_singleton.1 hx]; exact hg)
    rw [keyL_one] at k1 k2
    have n1 := Q_kNumber P 1 f hf
    have n2 := Q_kNumber P 1 g hg
    simp only [ok_turnoutlaw18_found, ok_turnoutlaw18_found_1, q_turnoutlaw18_found_1, f0, f1, RS.get, Option.getD_some, Option.isSome_some, Option.isSome_none, cond_true, cond_false]
    simp only [ok_key_Ofxcab, q_key_Ofxcab, k1, k2, ok_key_Numberxc4b, q_key_Numberxc4b, n1, n2, RS.get, Option.getD_some, Option.isSome_some, cond_true]
    refine Eq.trans (alike_head _ _ _ _ _ (numX_why _).symm (numX_why _).symm) ?_
    refine ite_eq (fun hr => ?_) fun _ => rfl
    cases hx : keyT (hdsV l s) (bytesL s) zeros f with
    | error e => rw [hx] at hr; exact absurd hr.1 (keyT_err hx)
    | ok x =>
    cases hy : keyT (hdsV l s) (bytesL s) zeros g with
    | error e => rw [hy] at hr; exact absurd hr.2 (keyT_err hy)
    | ok y =>
    have sx := keyT_size hx
    have h1 : x.size = y.size → diffs (nats x) (nats y) = 1 → numT x ≠ numT y := fun e k => numT_ne e k
    have h3 : x = y → numT x = numT y := fun e => by rw [e]
    obtain ⟨a, ea⟩ : ∃ a : Nat, numX (.ok x) = ((a : Int), (0, ())) ∧ numT x = a := ⟨_, rfl, rfl⟩
    obtain ⟨b, eb⟩ : ∃ b : Nat, numX (.ok y) = ((b : Int), (0, ())) ∧ numT y = b := ⟨_, rfl, rfl⟩
    rw [ea.2, eb.2] at h1 h3
    rw [ea.1, eb.1]
    simp only [exS]
    by_cases hsz : x.size = y.size
    · refine Eq.trans (L_Alike _ x y hsz (by omega) FUEL 0 0 (by omega) (by omega) (by unfold FUEL; omega)) ?_
      rw [List.drop_zero, List.drop_zero, Nat.zero_add]
      exact alike_end x y _ _ _ (h1 hsz) h3 fun e => by rw [e]; exact diffs_self _
    · refine Eq.trans (L_Alike_no _ x y hsz) ?_
      exact alike_end x y _ _ 0 (fun e => by omega) h3 fun _ => rfl
  · simp only [ok_turnoutlaw18_found, Q_foundBad s l (by omega), Option.isSome_some, cond_true]
end Go.AMach
