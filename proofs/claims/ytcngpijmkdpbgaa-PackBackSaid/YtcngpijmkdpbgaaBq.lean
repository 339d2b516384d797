/- Layer 17: PackBack. -/
import Derived.Test.YtcngpijmkdpbgaaBp
namespace Go.AMach
set_option linter.unusedVariables false
set_option linter.unusedSimpArgs false
set_option linter.unnecessarySimpa false
open Go
set_option linter.unusedVariables false

theorem word_eq (a b : Nat) : ((wN a).1 == (wN b).1 && ((wN a).2.1 == (wN b).2.1 && true)) = decide (a = b) := by
  unfold wN W2
  simp only [int_beq, Bool.and_true]
  by_cases e : a = b
  · subst e; simp
  · rw [decide_eq_false e]
    by_cases h1 : a / 18446744073709551616 = b / 18446744073709551616
    · have : a % 18446744073709551616 ≠ b % 18446744073709551616 := by omega
      rw [decide_eq_false (show ¬ ((a % 18446744073709551616 : Nat) : Int) = ((b % 18446744073709551616 : Nat) : Int) by omega), Bool.and_false]
    · rw [decide_eq_false (show ¬ ((a / 18446744073709551616 : Nat) : Int) = ((b / 18446744073709551616 : Nat) : Int) by omega), Bool.false_and]
/-- The value that is told. -/
def valW (x : Except Int Nat) : Nat := match x with
  | .ok v => v
  | .error _ => 0
def whyW (x : Except Int Nat) : Int := match x with
  | .ok _ => 0
  | .error e => e
theorem exW_eq (x : Except Int Nat) : exW x = (wN (valW x), (whyW x, ())) := by cases x <;> rfl


/-- Put, asked, put back. -/
theorem back_facts {hs : List HeadS} {b mt : List Int} (P : PkOk hs b mt) (f : FieldS) (hf : FieldT.good f) (o : FieldS) (ho : FieldT.good o) (v : Nat) (hv : v < 340282366920938463463374607431768211456) {x : Nat} (hx : getF hs b mt f = .ok x) :
    ∃ (b1 m1 : List Int) (vo vo1 : Nat) (wo : Int), b1.length = b.length ∧ m1.length = mt.length ∧ (¬ (f.2.1 = 3 ↔ o.2.1 = 3) → vo1 = vo) ∧
      Q_z1c o hs.length 1 b.length b hs mt.length mt = some ((wN vo, (wo, ())), pkS hs 1 b mt) ∧
      Q_z1c f hs.length 1 b.length b hs mt.length mt = some ((wN x, (0, ())), pkS hs 1 b mt) ∧
      Q_z20 f (wN v) hs.length 1 b.length b hs mt.length mt = some ((0, ()), pkS hs 1 b1 m1) ∧
      Q_z1c f hs.length 1 b1.length b1 hs m1.length m1 = some ((wN (v % 2 ^ f.2.2.2.2.1.toNat), (0, ())), pkS hs 1 b1 m1) ∧
      Q_z1c o hs.length 1 b1.length b1 hs m1.length m1 = some ((wN vo1, (wo, ())), pkS hs 1 b1 m1) ∧
      Q_z20 f (wN x) hs.length 1 b1.length b1 hs m1.length m1 = some ((0, ()), pkS hs 1 b mt) := by
  have P1 := putF_ok P f v
  obtain ⟨l1, l2⟩ := putF_len hs b mt f v
  have hwhy : (putF hs b mt f v).1 = 0 := by rw [putF_why, hx]
  obtain ⟨_, _, _, xl⟩ := getF_ok hx
  have hQ1 := Q_pGet' P 1 o ho
  have hQ2 := Q_pGet' P 1 f hf
  have hQ3 := Q_pPut P 1 f hf v hv
  have hQ4 := Q_pGet' P1 1 f hf
  have hQ5 := Q_pGet' P1 1 o ho
  have hQ6 := Q_pPut P1 1 f hf x xl
  rw [hx] at hQ2
  rw [hwhy] at hQ3
  rw [getF_put v hwhy] at hQ4
  rw [putF_back P v hx] at hQ6
  have hother := getF_len (b := (putF hs b mt f v).2.1) (b' := b) (mt := (putF hs b mt f v).2.2) (mt' := mt) l1 l2 (hs := hs) o
  have hap : ¬ (f.2.1 = 3 ↔ o.2.1 = 3) → valW (getF hs (putF hs b mt f v).2.1 (putF hs b mt f v).2.2 o) = valW (getF hs b mt o) := fun k => by rw [getF_apart v k]
  rw [exW_eq] at hQ1 hQ5
  rw [exW_eq, exW_eq] at hother
  simp only at hother
  rw [hother] at hQ5
  exact ⟨_, _, _, _, _, l1, l2, hap, hQ1, hQ2, hQ3, hQ4, hQ5, hQ6⟩

theorem Pure.PackBack (s : ByteArray) (hs : Ty.str.good s) (l : List NodeS) (h : (Ty.slice NodeT).good l) (f : FieldS) (hf : FieldT.good f) (o : FieldS) (ho : FieldT.good o) (w : WordS) (hw : WordT.good w) : Q_z21 s l f o w = some ((true, ()), ()) := by
  refine fin ?_
  unfold M_z21
  rcases of_cases s l h with h0 | ⟨h0, h1, h4⟩
  · simp only [ok_z0z, h0, ok_z1u, q_z1u, awake17, RS.get, Option.getD_some, Option.isSome_some, cond_true]
  · obtain ⟨v, rfl, hv⟩ := word_N hw
    have P := pk_ok l s (by omega)
    have hlen := P.hl
    have hbl := bytesL_length s
    have hbo := bytesOf_bytesL s
    generalize hdsV l s = hd at h1 P hlen
    generalize bytesL s = b at h1 P hbl hbo
    have hzo : zeros.length = 32 := rfl
    have hzz : bytesOf (mkL (Int.toNat 32) fun i => (0 : Int)) = bytesOf zeros := rfl
    generalize zeros = mt at h1 P hzo hzz
    have qaw := awake17
    extract_lets y23 y24 y1 y4 y5 y6 y7 y8 y9 y10 y11 y12 y13 y14 y15 y16 y17 y18
    cases hx : getF hd b mt f with
    | ok x =>
      obtain ⟨w1, w2, _, xl⟩ := getF_ok hx
      obtain ⟨b1, m1, vo, vo1, wo, l1, l2, hap, q1, q2, q3, q4, q5, q6⟩ := back_facts P f hf o ho v hv hx
      have hcut := Cut_N v f.2.2.2.2.1.toNat (by omega) hv
      rw [show ((f.2.2.2.2.1.toNat : Nat) : Int) = f.2.2.2.2.1 by omega] at hcut
      have qh1 := Q_pHeads (b := b) (mt := mt) 1 hlen
      have qh2 := Q_pHeads (b := b1) (mt := m1) 1 hlen
      have ql := Q_pLen (hs := hd) (b := b1) (mt := m1) 1
      have qm := Q_pMeta (hs := hd) (b := b1) (mt := m1) 1
      have qt := Q_pTextW (hs := hd) (b := b) (mt := mt) 1
      have qm2 := Q_pMeta (hs := hd) (b := b) (mt := mt) 1
      have hm : (bytesOf m1).size = 32 := by rw [bytesOf_size, l2, hzo]
      have d : decide ((0 : Int) ≤ (32 : Int) ∧ (32 : Int) ≤ (32 : Int) ∧ (1 : Nat) * (32 : Int) ≤ (2 : Int) ^ 46) = true := by decide
      have hb1 : ((b1.length : Nat) : Int) = ((s.size : Nat) : Int) := by rw [l1, hbl]
      have e : y24 = _ := (congrArg RS.get qaw).trans (get_some _)
      clear_value y24; subst e
      have e : y1 = _ := (congrArg RS.get h1).trans (get_some _)
      clear_value y1; subst e
      have e : y4 = _ := (congrArg RS.get q1).trans (get_some _)
      clear_value y4; subst e
      have e : y5 = _ := (congrArg RS.get qh1).trans (get_some _)
      clear_value y5; subst e
      have e : y6 = _ := (congrArg RS.get q2).trans (get_some _)
      clear_value y6; subst e
      have e : y7 = _ := (congrArg RS.get q3).trans (get_some _)
      clear_value y7; subst e
      have e : y8 = _ := (congrArg RS.get q4).trans (get_some _)
      clear_value y8; subst e
      have e : y9 = _ := (congrArg RS.get (Q_Cut (wN v) f.2.2.2.2.1)).trans (get_some _)
      clear_value y9; subst e
      have e : y10 = _ := (congrArg RS.get qh2).trans (get_some _)
      clear_value y10; subst e
      have e : y11 = _ := (congrArg RS.get (Q_hEq _ _ (by rw [cutL_length']; exact hlen))).trans (get_some _)
      clear_value y11; subst e
      have e : y12 = _ := (congrArg RS.get ql).trans (get_some _)
      clear_value y12; subst e
      have e : y13 = _ := (congrArg RS.get qm).trans (get_some _)
      clear_value y13; subst e
      have e : y14 = _ := (congrArg RS.get q5).trans (get_some _)
      clear_value y14; subst e
      have e : y15 = _ := (congrArg RS.get q6).trans (get_some _)
      clear_value y15; subst e
      have e : y16 = _ := (congrArg RS.get qt).trans (get_some _)
      clear_value y16; subst e
      have e : y17 = _ := (congrArg RS.get qm2).trans (get_some _)
      clear_value y17; subst e
      have e : y18 = _ := (congrArg RS.get q1).trans (get_some _)
      clear_value y18; subst e
      simp only [ok_z0z, ok_z0z_1, h0, h1, ok_z1u, awake17, ok_z1c, ok_z13, ok_z20, q1, q2, q3, q4, q5, q6, qh1, qh2, cutL_all, ok_z0q, Q_Cut, hcut, word_eq, ok_z14, Q_hEq _ _ hlen, ok_z1v, ql, ok_z1w, qm, qm2, hm, hb1, ok_z1n, qt, hbo, toList_beq, d, hzz, Option.isSome_some, Option.isSome_none, cond_true, cond_false, int_bne, decide_true, Bool.not_true, show ((32 : Nat) : Int) = 32 from rfl]
      cases hd2 : (!((f.2.1 == (3 : Int)) == (o.2.1 == (3 : Int)))) with
      | false => simp only [cond_false]
      | true =>
        have hne : ¬ (f.2.1 = 3 ↔ o.2.1 = 3) := fun k => by
          simp only [int_beq] at hd2
          by_cases c : f.2.1 = 3
          · rw [decide_eq_true c, decide_eq_true (k.1 c)] at hd2; simp at hd2
          · rw [decide_eq_false c, decide_eq_false (fun c' => c (k.2 c'))] at hd2; simp at hd2
        simp only [cond_true, hap hne, decide_true, Bool.not_true, cond_false]
    | error r =>
      have hr := getF_err hx
      have q1 := Q_pGet' P 1 o ho
      have q2 := Q_pGet' P 1 f hf
      have q3 := Q_pPut P 1 f hf v hv
      have hwhy : (putF hd b mt f v).1 = r := by rw [putF_why, hx]
      rw [exW_eq] at q1
      rw [hx] at q2
      rw [hwhy, putF_no (by rw [hwhy]; omega)] at q3
      simp only [exW] at q2
      have qh1 := Q_pHeads (b := b) (mt := mt) 1 hlen
      have e : y24 = _ := (congrArg RS.get qaw).trans (get_some _)
      clear_value y24; subst e
      have e : y1 = _ := (congrArg RS.get h1).trans (get_some _)
      clear_value y1; subst e
      have e : y4 = _ := (congrArg RS.get q1).trans (get_some _)
      clear_value y4; subst e
      have e : y5 = _ := (congrArg RS.get qh1).trans (get_some _)
      clear_value y5; subst e
      have e : y6 = _ := (congrArg RS.get q2).trans (get_some _)
      clear_value y6; subst e
      have e : y7 = _ := (congrArg RS.get q3).trans (get_some _)
      clear_value y7; subst e
      simp only [ok_z0z, ok_z0z_1, h0, h1, ok_z1u, awake17, ok_z1c, ok_z13, ok_z20, q1, q2, q3, qh1, Option.isSome_some, Option.isSome_none, cond_true, cond_false, int_bne, decide_true, Bool.not_true, decide_eq_false (show ¬ r = 0 by omega), Bool.not_false]
      rfl
end Go.AMach
