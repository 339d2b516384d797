/- Layer 18: KeyPut. -/
import Derived.Test.YtphmidhlgkclgaaBm
import Derived.Test.YtphmidhlgkclgaaBe
namespace Go.AMach
set_option linter.unusedVariables false
set_option linter.unusedSimpArgs false
set_option linter.unnecessarySimpa false
open Go
set_option linter.unusedVariables false

theorem put_end (a : Nat) (R : Option Res) : (cond (((a : Int)) == (a : Int)) R none) = R := by rw [int_beq, decide_eq_true rfl, cond_true]

theorem Pure.KeyPut (s : ByteArray) (hs : Ty.str.good s) (l : List NodeS) (h : (Ty.slice NodeT).good l) (f : FieldS) (hf : FieldT.good f) (w : WordS) (hw : WordT.good w) : Q_z1z s l f w = some ((true, ()), ()) := by
  refine fin ?_
  unfold M_z1z
  obtain ⟨bb, hb, hb2⟩ := Q_large l (good_len h)
  simp only [ok_z0z, q_z0z, hb, ok_z0v, q_z0v, awake18, RS.get, Option.getD_some, Option.isSome_some, cond_true, Bool.not_true, cond_false]
  cases bb with
  | true => rfl
  | false =>
  obtain ⟨_, ha⟩ := hb2 rfl
  have hl := nodes_of h ha
  simp only [cond_false]
  rw [cond_dec]
  refine ite_eq (fun _ => rfl) fun c1 => ?_
  by_cases h9 : s.size ≤ 9216
  · obtain ⟨f0, f1⟩ := Q_found s l hl h9
    have P := pk_ok l s h9
    obtain ⟨v, rfl, hv⟩ := word_N hw
    have hp := Q_pPut P 1 f hf v hv
    have P' := putF_ok P f v
    obtain ⟨l1, l2⟩ := putF_len (hdsV l s) (bytesL s) zeros f v
    have k1 := Q_kOf P' 1 [f] (by simp) (fun x hx => by rw [List.mem_singleton.1 hx]; exact hf)
    rw [keyL_one] at k1
    have n1 := Q_kNumber P' 1 f hf
    simp only [ok_z1t, ok_z1t_1, q_z1t_1, f0, f1, RS.get, Option.getD_some, Option.isSome_some, Option.isSome_none, cond_true, cond_false]
    simp only [ok_z1y, q_z1y, hp, RS.get, Option.getD_some, Option.isSome_some, cond_true]
    by_cases e : (putF (hdsV l s) (bytesL s) zeros f v).1 = 0
    · have hg := getF_put v e
      obtain ⟨w1, w2, _, _⟩ := getF_ok hg
      have hk : keyT (hdsV l s) (putF (hdsV l s) (bytesL s) zeros f v).2.1 (putF (hdsV l s) (bytesL s) zeros f v).2.2 f = .ok (textV v f.2.2.2.2.1) := by
        unfold keyT; rw [hg]; simp only; rw [textV_mod]
      rw [hk] at k1 n1
      have hsz : (textV v f.2.2.2.2.1).size ≤ 16 := by rw [textV_size]; unfold nB; split <;> omega
      have t1 := Q_fText v hv f.2.2.2.2.1
      rw [if_neg (nB_pos ⟨w1, w2⟩), if_neg (nB_pos ⟨w1, w2⟩)] at t1
      have hh := Q_hashOf1 (textV v f.2.2.2.2.1) (by omega)
      have hm := Q_Mix _ (fnvL_lt (nats (textV v f.2.2.2.2.1)) fnv0 (by decide))
      obtain ⟨a, ea, em⟩ : ∃ a : Nat, numX (.ok (textV v f.2.2.2.2.1)) = ((a : Int), (0, ())) ∧ mixV (fnvL fnv0 (nats (textV v f.2.2.2.2.1))) = a := ⟨_, rfl, rfl⟩
      rw [ea] at n1
      rw [em] at hm
      generalize fnvL fnv0 (nats (textV v f.2.2.2.2.1)) = q at hh hm
      simp only [exS] at k1
      rw [e]
      simp only [ok_z1r, q_z1r, k1, ok_z0l, q_z0l, t1, ok_z1s, q_z1s, n1, ok_z0r, q_z0r, hh, ok_z0s, q_z0s, hm, toList_beq, RS.get, Option.getD_some, Option.isSome_some, cond_true, int_bne, int_beq, decide_true, Bool.not_true, cond_false]
    · have hno := putF_no e
      have hwhy := putF_why (hdsV l s) (bytesL s) zeros f v
      rw [hno] at k1
      have hk : keyT (hdsV l s) (bytesL s) zeros f = .error (putF (hdsV l s) (bytesL s) zeros f v).1 := by
        unfold keyT
        cases hg : getF (hdsV l s) (bytesL s) zeros f with
        | ok x => rw [hg] at hwhy; exact absurd hwhy e
        | error r => rw [hg] at hwhy; simp only at hwhy ⊢; rw [hwhy]
      rw [hk] at k1
      simp only [exS] at k1
      rw [hno]
      simp only [ok_z1r, q_z1r, k1, toList_beq, RS.get, Option.getD_some, Option.isSome_some, cond_true, int_bne, decide_eq_false e, Bool.not_false]
      rw [decide_eq_true (show ByteArray.empty = ByteArray.mk #[] from rfl), cond_true]
  · simp only [ok_z1t, Q_foundBad s l (by omega), Option.isSome_some, cond_true]
end Go.AMach
