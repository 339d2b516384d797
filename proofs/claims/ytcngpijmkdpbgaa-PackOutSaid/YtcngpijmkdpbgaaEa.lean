/- Parts of the proof. -/
import Derived.Test.YtcngpijmkdpbgaaBz
import Derived.Test.YtcngpijmkdpbgaaBz
/- Layer 17: a number put into a packet whose rows are longer than what is told of them. -/
namespace Go.AMach
set_option linter.unusedVariables false
set_option linter.unusedSimpArgs false
set_option linter.unnecessarySimpa false
open Go
set_option linter.unusedVariables false

theorem Vw.over {n : Nat} {row b : List Int} (V : Vw n row b) {fr m : Nat} (h : fr + m ≤ n) {c : List Int} (hc : c.length = m) :
    Vw n (cutL (0 : Int) row 0 fr ++ (c ++ cutL (0 : Int) row (fr + m) (row.length - (fr + m)))) (b.take fr ++ (c ++ b.drop (fr + m))) := by
  have hle := V.le
  have hbl := V.len
  have hb : b = row.take n := V.eq.symm
  refine ⟨by simp only [List.length_append, cutL_length', hc]; omega, ?_⟩
  rw [cutL_eq (by omega), cutL_eq (by omega), List.drop_zero, List.take_of_length_le (l := row.drop (fr + m)) (by rw [List.length_drop]; omega)]
  have h1 : (row.take fr).length = fr := by rw [List.length_take]; omega
  rw [List.take_append, List.take_of_length_le (l := row.take fr) (by omega), h1, List.take_append, List.take_of_length_le (l := c) (by omega), hc]
  have e1 : b.take fr = row.take fr := by rw [hb, List.take_take]; congr 1; omega
  have e2 : b.drop (fr + m) = (row.drop (fr + m)).take (n - fr - m) := by rw [hb, List.drop_take]; congr 1; omega
  rw [e1, e2]

theorem Q_bPutV {n : Nat} {row b : List Int} (V : Vw n row b) (hb : isB b) (off w : Int) (v : Nat) (hv : v < 340282366920938463463374607431768211456) (hl : n ≤ 1000000) (ho : -9223372036854775808 ≤ off ∧ off ≤ 9223372036854775807) :
    ∃ row', Vw n row' (if (getB b off w).isSome then putB b off w v else b) ∧
    Q_z24 off w (wN v) n row = some (((if (getB b off w).isSome then 0 else getE off w), ()), ((n, ()), (row', ()))) := by
  have hbl := V.len
  have hle := V.le
  obtain ⟨h0, h1⟩ := Q_bWinV V off w hl ho
  cases hg : getB b off w with
  | none =>
    refine ⟨row, V, fin ?_⟩
    unfold M_z24
    have hn' : ¬ (0 ≤ off ∧ 1 ≤ w ∧ w ≤ 128 ∧ off + w ≤ 8 * (b.length : Int)) := fun k => by unfold getB at hg; rw [if_pos k] at hg; cases hg
    simp only [ok_z1a, q_z1a, h0 hg, RS.get, Option.getD_some, Option.isSome_some, cond_true, V.all]
    have e : IntKind.wrap .i64 (off - IntKind.wrap .i64 (8 * (0 : Int))) = off := by
      rw [show IntKind.wrap .i64 (8 * (0 : Int)) = 0 by rfl, IntWalk.i64_in _ (by omega)]; omega
    rw [e]
    have := Q_fPutBad (bytesOf b) off w (wN v) (by rw [bytesOf_size]; omega) ho.2 (by rw [bytesOf_size]; exact hn')
    simp only [ok_z23, q_z23, this, RS.get, Option.getD_some, Option.isSome_some, cond_true, int_beq, decide_eq_false (getE_ne off w), cond_false]
    rfl
  | some v0 =>
    have hv' : 0 ≤ off ∧ 1 ≤ w ∧ w ≤ 128 ∧ off + w ≤ 8 * (b.length : Int) := Classical.byContradiction fun k => by unfold getB at hg; rw [if_neg k] at hg; cases hg
    have h1 := h1 v0 hg
    generalize hf : off.toNat / 8 = fr at h1
    generalize hn : (off.toNat + w.toNat + 7) / 8 - fr = m at h1
    have e : IntKind.wrap .i64 (off - IntKind.wrap .i64 (8 * ((fr : Nat) : Int))) = ((off.toNat - 8 * fr : Nat) : Int) := by
      rw [IntWalk.i64_in (8 * ((fr : Nat) : Int)) (by omega), IntWalk.i64_in _ (by omega)]; omega
    have hwn : w = ((w.toNat : Nat) : Int) := by omega
    have hcut : cutL (0 : Int) row fr m = (b.drop fr).take m := by rw [V.cut (by omega)]; exact cutL_eq (by omega)
    have hlen : ((b.drop fr).take m).length = m := by rw [List.length_take, List.length_drop]; omega
    have hcB : isB ((b.drop fr).take m) := fun x hx => hb _ (List.mem_of_mem_drop (List.mem_of_mem_take hx))
    have hP := Q_fPut v hv hcB (off.toNat - 8 * fr) w.toNat (by omega) (by rw [hlen]; omega) (by rw [hlen]; omega)
    rw [← hwn] at hP
    have hpl : (putN ((b.drop fr).take m) (off.toNat - 8 * fr) w.toNat v).length = m := by rw [putN_length, hlen]
    have hsz : (bytesOf (putN ((b.drop fr).take m) (off.toNat - 8 * fr) w.toNat v)).size = m := by rw [bytesOf_size, hpl]
    have hnew := putN_window b hb off.toNat w.toNat v fr m hf.symm hn.symm (by omega) (by omega)
    have hc2 : cutL (0 : Int) (bytesL (bytesOf (putN ((b.drop fr).take m) (off.toNat - 8 * fr) w.toNat v))) 0 (Nat.min m m) = putN ((b.drop fr).take m) (off.toNat - 8 * fr) w.toNat v := by
      rw [bytesL_bytesOf (putN_isB _ _ _ _), show Nat.min m m = m from Nat.min_self m]
      have := cutL_all (0 : Int) (putN ((b.drop fr).take m) (off.toNat - 8 * fr) w.toNat v)
      rw [hpl] at this; exact this
    have d1 : decide (fr + m ≤ row.length) = true := by rw [decide_eq_true_eq]; omega
    have VV := V.over (fr := fr) (m := m) (by omega) hpl
    rw [hnew] at VV
    refine ⟨_, VV, fin ?_⟩
    unfold M_z24
    simp only [Option.isSome_some, if_true]
    rcases h1 with ⟨z, a1⟩ | ⟨a1, a2⟩
    · subst z
      simp only [ok_z1a, q_z1a, a1, e, hcut, ok_z23, q_z23, hP, RS.get, Option.getD_some, Option.isSome_some, cond_true, int_beq, decide_true, d1, hsz, hc2, hpl]
    · simp only [ok_z1a, ok_z1a_1, q_z1a_1, a1, a2, e, hcut, ok_z23, q_z23, hP, RS.get, Option.getD_some, Option.isSome_some, Option.isSome_none, cond_true, cond_false, int_beq, decide_true, d1, hsz, hc2, hpl]

theorem Q_pPutV {hn bn mn : Nat} {hrow : List HeadS} {brow mrow : List Int} {hs : List HeadS} {b mt : List Int} (K : PkV hn bn mn hrow brow mrow hs b mt) (pt : Int) (f : FieldS) (hf : FieldT.good f) (v : Nat) (hv : v < 340282366920938463463374607431768211456) :
    ∃ brow' mrow', PkV hn bn mn hrow brow' mrow' hs (putF hs b mt f v).2.1 (putF hs b mt f v).2.2 ∧
    Q_z25 f (wN v) hn pt bn brow hrow mn mrow = some (((putF hs b mt f v).1, ()), pkV hn bn mn hrow brow' mrow' pt) := by
  obtain ⟨h1, h2, h3, h4, h5, _⟩ := hf
  have r4 := wf_i64 h4
  have lb := K.vb.len
  have lm := K.vm.len
  have hok := putF_ok K.ok f v
  obtain ⟨p1, p2, p3⟩ := Q_placeV K pt f
  have hbit : ∀ a, 0 ≤ a ∧ a ≤ 1000000 → Q_z18 a f.2.2.2.1 = some ((bitV a f.2.2.2.1, ()), ()) := fun a ha => Q_bit a _ ha r4.2
  have rbit : ∀ a, 0 ≤ a ∧ a ≤ 1000000 → -9223372036854775808 ≤ bitV a f.2.2.2.1 ∧ bitV a f.2.2.2.1 ≤ 9223372036854775807 := fun a ha => by unfold bitV; split <;> omega
  cases hw : whereF hs b mt f with
  | none =>
    obtain ⟨q0, q1, q2⟩ := p1 hw
    have e : putF hs b mt f v = (3, (b, mt)) := by unfold putF; rw [hw]
    rw [e]
    refine ⟨brow, mrow, K, fin ?_⟩
    unfold M_z25
    simp only [ok_z17, ok_z17_1, ok_z17_2, q_z17_2, q0, q1, q2, RS.get, Option.getD_some, Option.isSome_some, Option.isSome_none, cond_true, cond_false]
    rfl
  | some ca =>
    obtain ⟨c, a⟩ := ca
    rcases where_in hw with ⟨c3, rfl, rfl⟩ | ⟨c3, rfl, ha⟩
    · obtain ⟨q0, q1⟩ := p2 _ _ hw c3
      obtain ⟨row', VV, qp⟩ := Q_bPutV K.vm K.ok.mB (bitV 0 f.2.2.2.1) f.2.2.2.2.1 v hv (by have := K.ok.ml; omega) (rbit 0 (by omega))
      cases hg : getB c (bitV 0 f.2.2.2.1) f.2.2.2.2.1 with
      | none =>
        rw [hg] at qp VV
        simp only [Option.isSome_none, Bool.false_eq_true, if_false] at qp VV
        have e : putF hs b c f v = (1, (b, c)) := by unfold putF; rw [hw]; simp only; rw [hg]; rfl
        rw [e]
        refine ⟨brow, row', ⟨K.vh, K.vb, VV, K.ok⟩, fin ?_⟩
        unfold M_z25
        simp only [ok_z17, ok_z17_1, q_z17_1, q0, q1, RS.get, Option.getD_some, Option.isSome_some, Option.isSome_none, cond_true, cond_false]
        simp only [int_beq, int_bne, decide_true, cond_true, ok_z18, q_z18, hbit 0 (by omega), ok_z24, q_z24, qp, RS.get, Option.getD_some, Option.isSome_some, decide_eq_false (getE_ne _ _), Bool.not_false]
      | some x =>
        rw [hg] at qp VV
        simp only [Option.isSome_some, if_true] at qp VV
        have e : putF hs b c f v = (0, (b, putB c (bitV 0 f.2.2.2.1) f.2.2.2.2.1 v)) := by unfold putF; rw [hw]; simp only; rw [hg, if_pos c3]; rfl
        rw [e] at hok ⊢
        refine ⟨brow, row', ⟨K.vh, K.vb, VV, hok⟩, fin ?_⟩
        unfold M_z25
        simp only [ok_z17, ok_z17_1, q_z17_1, q0, q1, RS.get, Option.getD_some, Option.isSome_some, Option.isSome_none, cond_true, cond_false]
        simp only [int_beq, int_bne, decide_true, cond_true, ok_z18, q_z18, hbit 0 (by omega), ok_z24, q_z24, qp, RS.get, Option.getD_some, Option.isSome_some, Bool.not_true, cond_false]
    · have q0 := p3 _ _ hw c3
      have ha' : 0 ≤ a ∧ a ≤ 1000000 := by
        rcases ha with h | h
        · omega
        · exact atOf_ok K.ok h
      obtain ⟨row', VV, qp⟩ := Q_bPutV K.vb K.ok.bB (bitV a f.2.2.2.1) f.2.2.2.2.1 v hv (by have := K.ok.bl; omega) (rbit a ha')
      cases hg : getB c (bitV a f.2.2.2.1) f.2.2.2.2.1 with
      | none =>
        rw [hg] at qp VV
        simp only [Option.isSome_none, Bool.false_eq_true, if_false] at qp VV
        have e : putF hs c mt f v = (1, (c, mt)) := by unfold putF; rw [hw]; simp only; rw [hg]; rfl
        rw [e]
        refine ⟨row', mrow, ⟨K.vh, VV, K.vm, K.ok⟩, fin ?_⟩
        unfold M_z25
        simp only [ok_z17, q_z17, q0, RS.get, Option.getD_some, Option.isSome_some, cond_true]
        simp only [int_beq, int_bne, decide_true, cond_true, ok_z18, q_z18, hbit a ha', ok_z24, q_z24, qp, RS.get, Option.getD_some, Option.isSome_some, decide_eq_false (getE_ne _ _), Bool.not_false]
      | some x =>
        rw [hg] at qp VV
        simp only [Option.isSome_some, if_true] at qp VV
        have e : putF hs c mt f v = (0, (putB c (bitV a f.2.2.2.1) f.2.2.2.2.1 v, mt)) := by unfold putF; rw [hw]; simp only; rw [hg, if_neg c3]; rfl
        rw [e] at hok ⊢
        refine ⟨row', mrow, ⟨K.vh, VV, K.vm, hok⟩, fin ?_⟩
        unfold M_z25
        simp only [ok_z17, q_z17, q0, RS.get, Option.getD_some, Option.isSome_some, cond_true]
        simp only [int_beq, int_bne, decide_true, cond_true, ok_z18, q_z18, hbit a ha', ok_z24, q_z24, qp, RS.get, Option.getD_some, Option.isSome_some, Bool.not_true, cond_false]
end Go.AMach

/- Layer 17: bytes taken out. -/
namespace Go.AMach
set_option linter.unusedVariables false
set_option linter.unusedSimpArgs false
set_option linter.unnecessarySimpa false
open Go
set_option linter.unusedVariables false

/-- Bytes with some taken out. -/
def delB (b : List Int) (k m : Nat) : List Int := b.take k ++ b.drop (k + m)
theorem delB_length (b : List Int) (k m : Nat) (h : k + m ≤ b.length) : (delB b k m).length = b.length - m := by
  unfold delB; rw [List.length_append, List.length_take, List.length_drop]; omega
theorem delB_isB {b : List Int} (h : isB b) (k m : Nat) : isB (delB b k m) := fun x hx => by
  rcases List.mem_append.1 hx with hx | hx
  · exact h x (List.mem_of_mem_take hx)
  · exact h x (List.mem_of_mem_drop hx)
theorem delB_ins (b : List Int) (k m : Nat) (hk : k ≤ b.length) : delB (insB b k m) k m = b := by
  unfold delB insB
  have e1 : (b.take k ++ zerosL m).length = k + m := by rw [List.length_append, List.length_take, mkL_length]; omega
  rw [show (b.take k ++ zerosL m ++ b.drop k).drop (k + m) = b.drop k by rw [← e1, List.drop_left]]
  rw [List.append_assoc, List.take_append_of_le_length (by rw [List.length_take]; omega), List.take_of_length_le (by rw [List.length_take]; omega), List.take_append_drop]

theorem Q_bDel {n : Nat} {row b : List Int} (V : Vw n row b) (k : Nat) (m : Int) (hk : k ≤ n) (hn : n ≤ 1000000) (hm2 : m ≤ 9223372036854775807) :
    (¬ (0 ≤ m ∧ m ≤ (n : Int) - k) → ∃ e, e ≠ 0 ∧ Q_z1p (k : Int) m n row = some ((e, ()), ((n, ()), (row, ())))) ∧
    (∀ d : Nat, m = (d : Int) → k + d ≤ n → ∃ row', Vw (n - d) row' (delB b k d) ∧ Q_z1p (k : Int) m n row = some ((0, ()), ((n - d, ()), (row', ())))) := by
  have hbl := V.len
  have hle := V.le
  refine ⟨fun hbad => ?_, fun d hd hkd => ?_⟩
  · by_cases h0 : m < 0
    · refine ⟨1, by decide, fin ?_⟩
      have qo : Q_z1j (k : Int) m n row = some ((1, ()), ((n, ()), (row, ()))) := by
        refine fin ?_
        unfold M_z1j
        simp only [cond_dec]
        rw [if_neg (by omega), if_pos h0]
      unfold M_z1p
      extract_lets y1
      have e : y1 = _ := (congrArg RS.get qo).trans (get_some _)
      clear_value y1; subst e
      simp only [ok_z1j, qo, Option.isSome_some, cond_true, int_beq, show decide ((1 : Int) = 0) = false from rfl, cond_false]
    · refine ⟨4, by decide, fin ?_⟩
      have qo := Q_bOff (k : Int) m n row (by omega) (by omega) hn hm2
      rw [if_pos (by omega)] at qo
      unfold M_z1p
      extract_lets y1
      have e : y1 = _ := (congrArg RS.get qo).trans (get_some _)
      clear_value y1; subst e
      simp only [ok_z1j, qo, Option.isSome_some, cond_true, int_beq, show decide ((4 : Int) = 0) = false from rfl, cond_false]
  · subst hd
    have qo := Q_bOff (k : Int) (d : Int) n row (by omega) (by omega) hn hm2
    rw [if_neg (by omega)] at qo
    have ekd : IntKind.wrap .i64 ((k : Int) + (d : Int)) = ((k + d : Nat) : Int) := by rw [IntWalk.i64_in _ (by omega)]; omega
    have hmin : Nat.min (n - (k + d)) (n - k) = n - (k + d) := Nat.min_eq_left (by omega)
    have hlen : (cutL (0 : Int) row (k + d) (n - (k + d))).length = n - (k + d) := cutL_length' _ _ _ _
    have hcw : cutL (0 : Int) row (k + d) (n - (k + d)) = b.drop (k + d) := by
      rw [V.cut (by omega), cutL_eq (by omega), List.take_of_length_le (by rw [List.length_drop]; omega)]
    have hc0 : cutL (0 : Int) row 0 k = b.take k := by rw [V.cut (by omega), cutL_eq (by omega), List.drop_zero]
    have e2 : IntKind.wrap .i64 ((k : Int) + ((n - (k + d) : Nat) : Int)) = ((n - d : Nat) : Int) := by rw [IntWalk.i64_in _ (by omega)]; omega
    refine ⟨b.take k ++ (b.drop (k + d) ++ cutL (0 : Int) row (k + (n - (k + d))) (row.length - (k + (n - (k + d))))), ⟨?_, ?_⟩, fin ?_⟩
    · simp only [List.length_append, List.length_take, List.length_drop, cutL_length']; omega
    · rw [← List.append_assoc, List.take_append_of_le_length (by simp only [List.length_append, List.length_take, List.length_drop]; omega), List.take_of_length_le (by simp only [List.length_append, List.length_take, List.length_drop]; omega)]
      rfl
    · unfold M_z1p
      extract_lets y1 y2
      have e : y1 = _ := (congrArg RS.get qo).trans (get_some _)
      clear_value y1; subst e
      have hy2 : y2 = ((n - (k + d) : Nat) : Int) := by
        show (((Nat.min (Int.toNat ((n : Nat) : Int) - Int.toNat (IntKind.wrap .i64 ((k : Int) + (d : Int)))) (Int.toNat ((n : Nat) : Int) - Int.toNat (k : Int))) : Nat) : Int) = _
        rw [ekd, toNat_cast, toNat_cast, toNat_cast, hmin]
      clear_value y2; subst hy2
      have t0 : Int.toNat (0 : Int) = 0 := rfl
      have d1 : decide ((0 : Int) ≤ (k : Int) ∧ (k : Int) ≤ ((n : Nat) : Int) ∧ ((n : Nat) : Int) ≤ ((n : Nat) : Int) ∧ ((n : Nat) : Int) ≤ ((n : Nat) : Int)) = true := by rw [decide_eq_true_eq]; omega
      have d2 : decide ((0 : Int) ≤ ((k + d : Nat) : Int) ∧ ((k + d : Nat) : Int) ≤ ((n : Nat) : Int) ∧ ((n : Nat) : Int) ≤ ((n : Nat) : Int) ∧ ((n : Nat) : Int) ≤ ((n : Nat) : Int)) = true := by rw [decide_eq_true_eq]; omega
      have d3 : decide (k + d + (n - (k + d)) ≤ row.length) = true := by rw [decide_eq_true_eq]; omega
      have d4 : decide (k + (n - k) ≤ row.length) = true := by rw [decide_eq_true_eq]; omega
      have d5 : decide ((0 : Int) ≤ (0 : Int) ∧ (0 : Int) ≤ ((n - d : Nat) : Int) ∧ ((n - d : Nat) : Int) ≤ ((n : Nat) : Int) ∧ ((n : Nat) : Int) ≤ ((n : Nat) : Int)) = true := by rw [decide_eq_true_eq]; omega
      simp only [ok_z1j, qo, Option.isSome_some, cond_true, int_beq, decide_true, ekd, toNat_cast, t0, Nat.zero_add, Nat.sub_zero, hmin, e2, hlen, hcw, hc0, d1, d2, d3, d4, d5]
      have hl2 : (b.drop (k + d)).length = n - (k + d) := by rw [List.length_drop]; omega
      simp only [hl2]

/-! ### Headers taken out -/
def inDel (at_ d : Int) (h : HeadS) : Bool := decide (h.2.1 ≥ at_) && decide (h.2.1 < at_ + d)
theorem Q_del1 (h : HeadS) (at_ d : Int) (hd : -9223372036854775808 ≤ at_ + d ∧ at_ + d ≤ 9223372036854775807) : Q_z1q h at_ d = some ((inDel at_ d h, ()), ((at_, ()), ((d, ()), ()))) := by
  refine fin ?_
  unfold M_z1q inDel
  rw [IntWalk.i64_in _ hd]
  by_cases c : h.2.1 ≥ at_
  · rw [decide_eq_true c, cond_true, Bool.true_and]
  · rw [decide_eq_false c, cond_false, Bool.false_and]
theorem L_idx (kr : Int → Int → Int → Option Res) (kt : Int → Int → Option Res) (hs : List HeadS) (at_ d : Int) (hl : hs.length ≤ 1000000) (hd : -9223372036854775808 ≤ at_ + d ∧ at_ + d ≤ 9223372036854775807) : ∀ (m i : Nat), i ≤ hs.length → hs.length - i < m → (∀ j, j < i → inDel at_ d (rdd zHeadS hs j) = false) →
    (∃ j, j < hs.length ∧ inDel at_ d (rdd zHeadS hs j) = true ∧ (∀ k, k < j → inDel at_ d (rdd zHeadS hs k) = false) ∧ L_z1r_0 FUEL kr kt hs ((hs.length : Nat) : Int) m (i : Int) at_ d = kr (j : Int) at_ d) ∨
    ((∀ j, j < hs.length → inDel at_ d (rdd zHeadS hs j) = false) ∧ L_z1r_0 FUEL kr kt hs ((hs.length : Nat) : Int) m (i : Int) at_ d = kt at_ d)
  | 0, _, _, h, _ => by omega
  | m + 1, i, hi, hm, hj => by
    have hL : L_z1r_0 FUEL kr kt hs ((hs.length : Nat) : Int) (m + 1) (i : Int) at_ d = F_z1r_0 FUEL kr kt hs ((hs.length : Nat) : Int) (L_z1r_0 FUEL kr kt hs ((hs.length : Nat) : Int) m) (i : Int) at_ d := rfl
    rw [hL]
    unfold F_z1r_0
    simp only [cond_dec]
    by_cases h : i < hs.length
    · have q := Q_del1 (rdd zHeadS hs i) at_ d hd
      rw [if_pos (by omega), if_pos ⟨by omega, by omega⟩]
      simp only [toNat_cast, ok_z1q, q_z1q, q, RS.get, Option.getD_some, Option.isSome_some, cond_true]
      cases hb : inDel at_ d (rdd zHeadS hs i) with
      | true => left; exact ⟨i, h, hb, hj, rfl⟩
      | false =>
        rw [cond_false, i64_succ (by omega)]
        refine L_idx kr kt hs at_ d hl hd m (i + 1) (by omega) (by omega) fun j hj' => ?_
        by_cases e : j = i
        · rw [e]; exact hb
        · exact hj j (by omega)
    · right
      rw [if_neg (by omega)]
      exact ⟨fun j hj' => hj j (by omega), rfl⟩
theorem filter_all {p : HeadS → Bool} : ∀ {l : List HeadS}, (∀ j, j < l.length → p (rdd zHeadS l j) = false) → l.filter (fun h => !p h) = l
  | [], _ => rfl
  | x :: r, h => by
    have h0 := h 0 (by simp)
    rw [rdd_lt (by simp)] at h0
    simp only [List.getElem_cons_zero] at h0
    rw [List.filter_cons, if_pos (by simp [h0]), filter_all fun j hj => by
      have := h (j + 1) (by simpa using hj)
      rw [rdd_lt (by simpa using hj)] at this
      rw [rdd_lt hj]
      simpa using this]
theorem take_filter_none {p : HeadS → Bool} {l : List HeadS} {i : Nat} (hi : i ≤ l.length) (h : ∀ j, j < i → p (rdd zHeadS l j) = false) : (l.take i).filter (fun h => !p h) = l.take i :=
  filter_all fun j hj => by
    rw [List.length_take] at hj
    have := h j (by omega)
    rw [rdd_lt (by omega)] at this
    rw [rdd_lt (by rw [List.length_take]; omega), List.getElem_take]
    exact this
/-- The loop that keeps some. -/
theorem L_keep (kk : Int → List HeadS → Int → Int → Option Res) (at_ d : Int) {hn : Nat} {hs : List HeadS} (hl : hs.length = hn) (hn6 : hn ≤ 1000000) (hd : -9223372036854775808 ≤ at_ + d ∧ at_ + d ≤ 9223372036854775807) : ∀ (m i w : Nat) (row : List HeadS), i ≤ hn → hn - i < m → hn ≤ row.length → w ≤ i → (row.drop i).take (hn - i) = hs.drop i → row.take w = (hs.take i).filter (fun h => !inDel at_ d h) →
    ∃ (row' : List HeadS) (w' : Nat), hn ≤ row'.length ∧ w' ≤ hn ∧ row'.take w' = hs.filter (fun h => !inDel at_ d h) ∧ L_z1s_0 FUEL kk hn m (w : Int) (i : Int) row at_ d = kk (w' : Int) row' at_ d
  | 0, _, _, _, _, h, _, _, _, _ => by omega
  | m + 1, i, w, row, hi, hm, hle, hwi, hrest, hkept => by
    have hL : L_z1s_0 FUEL kk hn (m + 1) (w : Int) (i : Int) row at_ d = F_z1s_0 FUEL kk hn (L_z1s_0 FUEL kk hn m) (w : Int) (i : Int) row at_ d := rfl
    rw [hL]
    unfold F_z1s_0
    simp only [cond_dec]
    by_cases h : i < hn
    · have hrd : rdd zHeadS row i = rdd zHeadS hs i := by
        have h1 : (row.drop i).take (hn - i) = rdd zHeadS hs i :: hs.drop (i + 1) := by rw [hrest, drop_rdd zHeadS (show i < hs.length by omega)]
        rw [drop_rdd zHeadS (show i < row.length by omega), show hn - i = (hn - (i + 1)) + 1 by omega, List.take_succ_cons] at h1
        exact (List.cons.inj h1).1
      have hnext : (row.drop (i + 1)).take (hn - (i + 1)) = hs.drop (i + 1) := by
        have h1 : (row.drop i).take (hn - i) = rdd zHeadS hs i :: hs.drop (i + 1) := by rw [hrest, drop_rdd zHeadS (show i < hs.length by omega)]
        rw [drop_rdd zHeadS (show i < row.length by omega), show hn - i = (hn - (i + 1)) + 1 by omega, List.take_succ_cons] at h1
        exact (List.cons.inj h1).2
      have q := Q_del1 (rdd zHeadS hs i) at_ d hd
      have htk : (hs.take (i + 1)).filter (fun h => !inDel at_ d h) = (hs.take i).filter (fun h => !inDel at_ d h) ++ if inDel at_ d (rdd zHeadS hs i) then [] else [rdd zHeadS hs i] := by
        rw [take_rdd zHeadS (show i < hs.length by omega), List.filter_append]
        congr 1
        cases hb : inDel at_ d (rdd zHeadS hs i) <;> simp [hb]
      rw [if_pos (by omega), if_pos ⟨by omega, by omega⟩]
      simp only [toNat_cast, hrd, ok_z1q, q_z1q, q, RS.get, Option.getD_some, Option.isSome_some, cond_true]
      rw [i64_succ (i := i) (by omega)]
      cases hb : inDel at_ d (rdd zHeadS hs i) with
      | true =>
        rw [hb] at htk
        simp only [Bool.not_true, cond_false]
        exact L_keep kk at_ d hl hn6 hd m (i + 1) w row (by omega) (by omega) hle (by omega) hnext (by rw [htk, hkept]; simp)
      | false =>
        rw [hb] at htk
        simp only [Bool.not_false, cond_true]
        rw [if_pos ⟨by omega, by omega⟩, i64_succ (i := w) (by omega)]
        refine L_keep kk at_ d hl hn6 hd m (i + 1) (w + 1) _ (by omega) (by omega) (by simpa using hle) (by omega) ?_ ?_
        · rw [List.drop_set_of_lt (by omega)]; exact hnext
        · rw [List.take_add_one, List.getElem?_set_self (by omega), htk, List.take_set_of_le (by omega), hkept]
          simp
    · rw [if_neg (by omega)]
      refine ⟨row, w, hle, by omega, ?_, rfl⟩
      rw [hkept, List.take_of_length_le (by omega)]
end Go.AMach

/- Layer 17: pack.Delete, Copy. -/
namespace Go.AMach
set_option linter.unusedVariables false
set_option linter.unusedSimpArgs false
set_option linter.unnecessarySimpa false
open Go
set_option linter.unusedVariables false

/-- Headers without those that begin in some bytes. -/
def keepH (at_ d : Int) (hs : List HeadS) : List HeadS := hs.filter fun h => !inDel at_ d h
theorem Q_delF {hn : Nat} {hrow hs : List HeadS} (V : Vw hn hrow hs) (hn6 : hn ≤ 1000000) (at_ d : Int) (hd : -9223372036854775808 ≤ at_ + d ∧ at_ + d ≤ 9223372036854775807) :
    ∃ row', Vw (keepH at_ d hs).length row' (keepH at_ d hs) ∧ Q_z1s hn hrow at_ d = some (((keepH at_ d hs).length, ()), (row', ((at_, ()), ((d, ()), ())))) := by
  have hl := V.len
  have hle := V.le
  rcases L_idx (fun y2 y3 y4 => some (encRes ro_z1r rh_z1r ((y2, ()), ((y3, ()), ((y4, ()), ()))))) (fun y5 y6 => some (encRes ro_z1r rh_z1r (((-1 : Int), ()), ((y5, ()), ((y6, ()), ()))))) hs at_ d (by omega) hd FUEL 0 (by omega) (by unfold FUEL; omega) (fun j hj => by omega) with ⟨j, h1, h2, h3, h4⟩ | ⟨h1, h2⟩
  · have qi : Q_z1r hs at_ d = some (((j : Int), ()), ((at_, ()), ((d, ()), ()))) := fin h4
    have hkf : (hs.take (j + 1)).filter (fun h => !inDel at_ d h) = hrow.take j := by
      rw [take_rdd zHeadS h1, List.filter_append, take_filter_none (by omega) h3, ← V.eq, List.take_take, Nat.min_eq_left (by omega)]
      simp only [List.filter_cons, List.filter_nil]
      rw [show rdd zHeadS (hrow.take hn) j = rdd zHeadS hs j by rw [V.eq], h2]
      simp
    obtain ⟨row', w', l1, l2, l3, l4⟩ := L_keep (fun y3 y4 y5 y6 => cond (decide ((0 : Int) ≤ y3 ∧ y3 ≤ ((hn : Nat) : Int) ∧ ((hn : Nat) : Int) ≤ ((hn : Nat) : Int) ∧ ((hn : Nat) : Int) ≤ ((hn : Nat) : Int)))
 (cond (decide ((0 + Int.toNat y3) + (Int.toNat ((hn : Nat) : Int) - Int.toNat y3) ≤ (List.length y4)))
 (cond (decide ((0 : Int) ≤ (0 : Int) ∧ (0 : Int) ≤ y3 ∧ y3 ≤ ((hn : Nat) : Int) ∧ ((hn : Nat) : Int) ≤ ((hn : Nat) : Int)))
 (some (encRes ro_z1s rh_z1s (((Int.toNat y3 - Int.toNat (0 : Int)), ()), (((cutL zHeadS y4 0 (0 + Int.toNat y3)) ++ ((mkL (Int.toNat ((hn : Nat) : Int) - Int.toNat y3) (fun _ => zHeadS)) ++ (cutL zHeadS y4 ((0 + Int.toNat y3) + (List.length (mkL (Int.toNat ((hn : Nat) : Int) - Int.toNat y3) (fun _ => zHeadS)))) ((List.length y4) - ((0 + Int.toNat y3) + (List.length (mkL (Int.toNat ((hn : Nat) : Int) - Int.toNat y3) (fun _ => zHeadS)))))))), ((y5, ()), ((y6, ()), ()))))))
 (none))
 (none))
 (none)) at_ d hl hn6 hd FUEL (j + 1) j hrow (by omega) (by unfold FUEL; omega) hle (by omega) (by
      rw [← List.drop_take, V.eq]) hkf.symm
    have hkl : (keepH at_ d hs).length = w' := by unfold keepH; rw [← l3, List.length_take]; omega
    rw [hkl]
    have hc0 : cutL zHeadS row' 0 w' = keepH at_ d hs := by rw [cutL_eq (by omega), List.drop_zero]; exact l3
    have d1 : decide ((0 : Int) ≤ (w' : Int) ∧ (w' : Int) ≤ ((hn : Nat) : Int) ∧ ((hn : Nat) : Int) ≤ ((hn : Nat) : Int) ∧ ((hn : Nat) : Int) ≤ ((hn : Nat) : Int)) = true := by rw [decide_eq_true_eq]; omega
    have d2 : decide (w' + (hn - w') ≤ row'.length) = true := by rw [decide_eq_true_eq]; omega
    have d3 : decide ((0 : Int) ≤ (0 : Int) ∧ (0 : Int) ≤ (w' : Int) ∧ (w' : Int) ≤ ((hn : Nat) : Int) ∧ ((hn : Nat) : Int) ≤ ((hn : Nat) : Int)) = true := by rw [decide_eq_true_eq]; omega
    refine ⟨keepH at_ d hs ++ (mkL (hn - w') (fun _ => zHeadS) ++ cutL zHeadS row' (w' + (mkL (hn - w') (fun _ => zHeadS)).length) (row'.length - (w' + (mkL (hn - w') (fun _ => zHeadS)).length))), ⟨by rw [List.length_append, hkl]; omega, by rw [← hkl, List.take_left]⟩, fin ?_⟩
    unfold M_z1s
    rw [V.all]
    extract_lets +onlyGivenNames y1
    have e_y1 : y1 = _ := (congrArg RS.get (qi)).trans (get_some _)
    clear_value y1; subst e_y1
    refine stepC (qi) ?_
    refine stepF (beqF (show ((j : Nat) : Int) ≠ -1 by omega)) ?_
    show L_z1s_0 FUEL _ hn FUEL (j : Int) (IntKind.wrap .i64 ((j : Int) + 1)) hrow at_ d = _
    rw [i64_succ (by omega)]
    refine l4.trans ?_
    have t0 : Int.toNat (0 : Int) = 0 := rfl
    simp only [toNat_cast, t0, Nat.zero_add, Nat.sub_zero, d1, d2, d3, cond_true, hc0]
  · have qi : Q_z1r hs at_ d = some (((-1 : Int), ()), ((at_, ()), ((d, ()), ()))) := fin h2
    have hk : keepH at_ d hs = hs := filter_all h1
    rw [hk, hl]
    refine ⟨hrow, V, fin ?_⟩
    unfold M_z1s
    rw [V.all]
    extract_lets +onlyGivenNames y1
    have e_y1 : y1 = _ := (congrArg RS.get (qi)).trans (get_some _)
    clear_value y1; subst e_y1
    refine stepC (qi) ?_
    refine stepT (rfl) ?_
    rfl

/-- Why bytes are not taken out. -/
def delWhy (hs : List HeadS) (b mt : List Int) (f : FieldS) (m : Int) : Int :=
  if (spotF hs b mt f).2 ≠ 0 then (spotF hs b mt f).2 else if 0 ≤ m ∧ m ≤ (b.length : Int) - (spotF hs b mt f).1 then 0 else 1
def delHs (hs : List HeadS) (k m : Int) : List HeadS := (keepH k m hs).map (mvH k (-m))
theorem delN {hs : List HeadS} {b mt : List Int} (N : PkN hs b mt) (k m : Nat) (hkm : k + m ≤ b.length) : PkN (delHs hs (k : Int) (m : Int)) (delB b k m) mt := by
  have hl := delB_length b k m hkm
  have hb : ∀ h ∈ delHs hs (k : Int) (m : Int), 0 ≤ h.2.1 ∧ h.2.1 ≤ ((delB b k m).length : Int) := fun h hh => by
    obtain ⟨x, hx, rfl⟩ := List.mem_map.1 hh
    obtain ⟨hx1, hx2⟩ := List.mem_filter.1 hx
    have h1 := N.ok.at_ x hx1
    have h2 := N.at_ x hx1
    rw [mvH_at, hl]
    unfold inDel at hx2
    by_cases c : x.2.1 ≥ (k : Int)
    · rw [if_pos c]
      rw [decide_eq_true c, Bool.true_and] at hx2
      have : ¬ x.2.1 < (k : Int) + (m : Int) := fun k' => by rw [decide_eq_true k'] at hx2; cases hx2
      omega
    · rw [if_neg c]; omega
  have hlen : (delHs hs (k : Int) (m : Int)).length ≤ hs.length := by unfold delHs keepH; rw [List.length_map]; exact List.length_filter_le _ _
  refine ⟨⟨delB_isB N.ok.bB _ _, N.ok.mB, by have := N.ok.bl; omega, N.ok.ml, by have := N.ok.hl; omega, fun h hh => ?_⟩, by have := N.long; omega, fun h hh => (hb h hh).2⟩
  have := hb h hh
  have := N.long
  omega

theorem Q_pDel {hn bn mn : Nat} {hrow : List HeadS} {brow mrow : List Int} {hs : List HeadS} {b mt : List Int} (K : PkV hn bn mn hrow brow mrow hs b mt) (N : PkN hs b mt) (pt : Int) (f : FieldS) (hf : FieldT.good f) (m : Int) (hm : -9223372036854775808 ≤ m ∧ m ≤ 9223372036854775807) :
    (delWhy hs b mt f m ≠ 0 → Q_z1t f m hn pt bn brow hrow mn mrow = some ((delWhy hs b mt f m, ()), pkV hn bn mn hrow brow mrow pt)) ∧
    (delWhy hs b mt f m = 0 → ∃ (hn' n' : Nat) (hrow' : List HeadS) (brow' : List Int), PkV hn' n' mn hrow' brow' mrow (delHs hs (spotF hs b mt f).1 m) (delB b (spotF hs b mt f).1.toNat m.toNat) mt ∧
      Q_z1t f m hn pt bn brow hrow mn mrow = some ((0, ()), pkV hn' n' mn hrow' brow' mrow pt)) := by
  have qs := Q_pSpotV K pt f hf
  have lb := K.vb.len
  have hbl := N.long
  unfold delWhy
  by_cases c1 : (spotF hs b mt f).2 ≠ 0
  · rw [if_pos c1]
    refine ⟨fun _ => fin ?_, fun h => absurd h c1⟩
    unfold M_z1t
    extract_lets +onlyGivenNames y1
    have e_y1 : y1 = _ := (congrArg RS.get (qs)).trans (get_some _)
    clear_value y1; subst e_y1
    refine stepC (qs) ?_
    refine stepT (bne0 c1) ?_
    rfl
  rw [if_neg c1]
  have c1 : (spotF hs b mt f).2 = 0 := Classical.byContradiction c1
  have hsp := spotF_ok N c1
  rw [c1] at qs
  generalize hk : (spotF hs b mt f).1 = k0 at qs hsp
  obtain ⟨k, rfl⟩ : ∃ k : Nat, k0 = (k : Int) := ⟨k0.toNat, by omega⟩
  rw [toNat_cast]
  obtain ⟨d1, d2⟩ := Q_bDel K.vb k m (by omega) (by omega) (by omega)
  by_cases c2 : 0 ≤ m ∧ m ≤ (b.length : Int) - (k : Int)
  · rw [if_pos c2]
    refine ⟨fun h => absurd rfl h, fun _ => ?_⟩
    obtain ⟨d, rfl⟩ : ∃ d : Nat, m = (d : Int) := ⟨m.toNat, by omega⟩
    rw [toNat_cast]
    obtain ⟨brow', VB, qb⟩ := d2 d rfl (by omega)
    obtain ⟨hrow1, VH1, qh⟩ := Q_delF K.vh (by have := K.ok.hl; have := K.vh.len; omega) (k : Int) (d : Int) (by omega)
    have hat : ∀ h ∈ keepH (k : Int) (d : Int) hs, 0 ≤ h.2.1 ∧ h.2.1 ≤ 1000000 := fun h hh => K.ok.at_ h (List.mem_filter.1 hh).1
    have hlen : (keepH (k : Int) (d : Int) hs).length ≤ hs.length := List.length_filter_le _ _
    obtain ⟨hrow', VH, qm⟩ := Q_pMove VH1 (k : Int) (-(d : Int)) (by have := K.ok.hl; omega) hat (by omega) (bn - d) mn brow' mrow pt
    have N' := delN N k d (by omega)
    refine ⟨_, bn - d, hrow', brow', ⟨VH, VB, K.vm, N'.ok⟩, fin ?_⟩
    unfold M_z1t
    extract_lets +onlyGivenNames y1
    have e_y1 : y1 = _ := (congrArg RS.get (qs)).trans (get_some _)
    clear_value y1; subst e_y1
    refine stepC (qs) ?_
    refine stepF (rfl) ?_
    extract_lets +onlyGivenNames y2
    have e_y2 : y2 = _ := (congrArg RS.get (qb)).trans (get_some _)
    clear_value y2; subst e_y2
    refine stepC (qb) ?_
    refine stepF (rfl) ?_
    extract_lets +onlyGivenNames y3
    have e_y3 : y3 = _ := (congrArg RS.get (qh)).trans (get_some _)
    clear_value y3; subst e_y3
    refine stepC (qh) ?_
    have e0 : IntKind.wrap .i64 (0 - (d : Int)) = -(d : Int) := by rw [IntWalk.i64_in _ (by omega)]; omega
    rw [← e0] at qm
    extract_lets +onlyGivenNames y4
    have e_y4 : y4 = _ := (congrArg RS.get (qm)).trans (get_some _)
    clear_value y4; subst e_y4
    refine stepC (qm) ?_
    rfl
  · rw [if_neg c2]
    refine ⟨fun _ => fin ?_, fun h => by cases h⟩
    obtain ⟨e, he, qb⟩ := d1 (by omega)
    unfold M_z1t
    extract_lets +onlyGivenNames y1
    have e_y1 : y1 = _ := (congrArg RS.get (qs)).trans (get_some _)
    clear_value y1; subst e_y1
    refine stepC (qs) ?_
    refine stepF (rfl) ?_
    extract_lets +onlyGivenNames y2
    have e_y2 : y2 = _ := (congrArg RS.get (qb)).trans (get_some _)
    clear_value y2; subst e_y2
    refine stepC (qb) ?_
    refine stepT (bne0 he) ?_
    rfl

theorem Q_bCopyV {n : Nat} {row b : List Int} (V : Vw n row b) (hb : isB b) : Q_z1x n row = some (((), ()), ((n, ()), (row, ((b.length, ()), (b, ()))))) := by
  refine fin ?_
  unfold M_z1x
  rw [V.all, bytesOf_size, bytesL_bytesOf hb]
/-- A packet and its copy. -/
abbrev pk2 (x y : HK.sems rh_z17) : HK.sems rh_z20 := (x.1, (x.2.1, (x.2.2.1, (x.2.2.2.1, (x.2.2.2.2.1, (x.2.2.2.2.2.1, y))))))
theorem Q_pCopyV {hn bn mn : Nat} {hrow : List HeadS} {brow mrow : List Int} {hs : List HeadS} {b mt : List Int} (K : PkV hn bn mn hrow brow mrow hs b mt) (pt : Int) :
    Q_z1y hn pt bn brow hrow mn mrow = some (((), ()), pk2 (pkV hn bn mn hrow brow mrow pt) (pkV hs.length b.length mt.length hs b mt pt)) := by
  refine fin ?_
  unfold M_z1y
  rw [K.vh.all]
  extract_lets +onlyGivenNames y1
  have e_y1 : y1 = _ := (congrArg RS.get (Q_bCopyV K.vb K.ok.bB)).trans (get_some _)
  clear_value y1; subst e_y1
  refine stepC (Q_bCopyV K.vb K.ok.bB) ?_
  extract_lets +onlyGivenNames y2
  have e_y2 : y2 = _ := (congrArg RS.get (Q_clone hs K.ok.hl)).trans (get_some _)
  clear_value y2; subst e_y2
  refine stepC (Q_clone hs K.ok.hl) ?_
  extract_lets +onlyGivenNames y3
  have e_y3 : y3 = _ := (congrArg RS.get (Q_bCopyV K.vm K.ok.mB)).trans (get_some _)
  clear_value y3; subst e_y3
  refine stepC (Q_bCopyV K.vm K.ok.mB) ?_
  rfl
theorem Q_pPortV (hn bn mn : Nat) (hrow : List HeadS) (brow mrow : List Int) (pt : Int) : Q_z15 hn pt bn brow hrow mn mrow = some ((pt, ()), pkV hn bn mn hrow brow mrow pt) := fin rfl
theorem bytesOf_beq {a b : List Int} (ha : isB a) (hb : isB b) : (ByteArray.toList (bytesOf a) == ByteArray.toList (bytesOf b)) = decide (a = b) := by
  rw [toList_beq]
  by_cases e : a = b
  · subst e; rw [decide_eq_true rfl, decide_eq_true rfl]
  · rw [decide_eq_false e, decide_eq_false fun k => e (by rw [← bytesL_bytesOf ha, ← bytesL_bytesOf hb, k])]
theorem Q_sameV {hn bn mn hn2 bn2 mn2 : Nat} {hrow hrow2 : List HeadS} {brow mrow brow2 mrow2 : List Int} {hs hs2 : List HeadS} {b mt b2 mt2 : List Int} (K : PkV hn bn mn hrow brow mrow hs b mt) (K2 : PkV hn2 bn2 mn2 hrow2 brow2 mrow2 hs2 b2 mt2) (pt pt2 : Int) :
    Q_z20 hn pt bn brow hrow mn mrow hn2 pt2 bn2 brow2 hrow2 mn2 mrow2 = some ((decide (b = b2) && decide (mt = mt2) && decide (pt = pt2) && decide (hs = hs2), ()), pk2 (pkV hn bn mn hrow brow mrow pt) (pkV hn2 bn2 mn2 hrow2 brow2 mrow2 pt2)) := by
  have hb1 := bytesOf_beq K.ok.bB K2.ok.bB
  have hb2 := bytesOf_beq K.ok.mB K2.ok.mB
  refine fin ?_
  unfold M_z20
  extract_lets +onlyGivenNames y1
  have e_y1 : y1 = _ := (congrArg RS.get (Q_pTextV K pt)).trans (get_some _)
  clear_value y1; subst e_y1
  refine stepC (Q_pTextV K pt) ?_
  extract_lets +onlyGivenNames y2
  have e_y2 : y2 = _ := (congrArg RS.get (Q_pTextV K2 pt2)).trans (get_some _)
  clear_value y2; subst e_y2
  refine stepC (Q_pTextV K2 pt2) ?_
  by_cases e1 : b = b2
  · refine stepT (hb1.trans (decide_eq_true e1)) ?_
    extract_lets +onlyGivenNames y3
    have e_y3 : y3 = _ := (congrArg RS.get (Q_pMetaV K pt)).trans (get_some _)
    clear_value y3; subst e_y3
    refine stepC (Q_pMetaV K pt) ?_
    extract_lets +onlyGivenNames y4
    have e_y4 : y4 = _ := (congrArg RS.get (Q_pMetaV K2 pt2)).trans (get_some _)
    clear_value y4; subst e_y4
    refine stepC (Q_pMetaV K2 pt2) ?_
    by_cases e2 : mt = mt2
    · refine stepT (hb2.trans (decide_eq_true e2)) ?_
      extract_lets +onlyGivenNames y5
      have e_y5 : y5 = _ := (congrArg RS.get (Q_pPortV hn bn mn hrow brow mrow pt)).trans (get_some _)
      clear_value y5; subst e_y5
      refine stepC (Q_pPortV hn bn mn hrow brow mrow pt) ?_
      extract_lets +onlyGivenNames y6
      have e_y6 : y6 = _ := (congrArg RS.get (Q_pPortV hn2 bn2 mn2 hrow2 brow2 mrow2 pt2)).trans (get_some _)
      clear_value y6; subst e_y6
      refine stepC (Q_pPortV hn2 bn2 mn2 hrow2 brow2 mrow2 pt2) ?_
      by_cases e3 : pt = pt2
      · refine stepT (beqT e3) ?_
        extract_lets +onlyGivenNames y7
        have e_y7 : y7 = _ := (congrArg RS.get (Q_pHeadsV K pt)).trans (get_some _)
        clear_value y7; subst e_y7
        refine stepC (Q_pHeadsV K pt) ?_
        extract_lets +onlyGivenNames y8
        have e_y8 : y8 = _ := (congrArg RS.get (Q_pHeadsV K2 pt2)).trans (get_some _)
        clear_value y8; subst e_y8
        refine stepC (Q_pHeadsV K2 pt2) ?_
        have c1 := cutL_all zHeadS hs
        have c2 := cutL_all zHeadS hs2
        have qh : Q_z14 (cutL zHeadS hs 0 hs.length) (cutL zHeadS hs2 0 hs2.length) = some ((decide (hs = hs2), ()), ()) := by rw [c1, c2]; exact Q_hEq hs hs2 K.ok.hl
        extract_lets +onlyGivenNames y9
        have e_y9 : y9 = _ := (congrArg RS.get (qh)).trans (get_some _)
        clear_value y9; subst e_y9
        refine stepC (qh) ?_
        rw [decide_eq_true e1, decide_eq_true e2, decide_eq_true e3]
        rfl
      · refine stepF (beqF e3) ?_
        rw [decide_eq_true e1, decide_eq_true e2, decide_eq_false e3]
        rfl
    · refine stepF (hb2.trans (decide_eq_false e2)) ?_
      rw [decide_eq_true e1, decide_eq_false e2]
      rfl
  · refine stepF (hb1.trans (decide_eq_false e1)) ?_
    rw [decide_eq_false e1]
    rfl
end Go.AMach

/- Layer 17: PackOut. -/
namespace Go.AMach
set_option linter.unusedVariables false
set_option linter.unusedSimpArgs false
set_option linter.unnecessarySimpa false
open Go
set_option linter.unusedVariables false

theorem bytesOf_append (a b : List Int) : bytesOf (a ++ b) = bytesOf a ++ bytesOf b := by
  apply ba_ext'
  rw [bytesOf_list, List.map_append, ← bytesOf_list, ← bytesOf_list]; simp
theorem i64_wf {x : Int} (h : -9223372036854775808 ≤ x ∧ x ≤ 9223372036854775807) : (Lit.int .i64 x).wf = true := by
  show (decide (IntKind.i64.min ≤ x) && decide (x ≤ IntKind.i64.max)) = true
  rw [show IntKind.i64.min = -9223372036854775808 from rfl, show IntKind.i64.max = 9223372036854775807 from rfl, decide_eq_true h.1, decide_eq_true h.2]; rfl
abbrev fldH (node off w : Int) : FieldS := (0, (2, (node, (off, (w, ())))))
theorem spot_P {hs : List HeadS} {b mt : List Int} (k : Nat) (hk : k ≤ b.length) (w : Int) : spotF hs b mt (fldP ((8 * k : Nat) : Int) w) = ((k : Int), 0) := by
  unfold spotF atF whereF atV
  simp only [show ¬ ((1 : Int) = 3) by omega, if_false, if_true]
  rw [if_neg (by omega), if_neg (by omega)]
  congr 1
  omega
theorem mvH_back (k m : Nat) (h : HeadS) (h2 : h.2.2 = ()) : mvH (k : Int) (-(m : Int)) (mvH (k : Int) (m : Int) h) = h := by
  obtain ⟨a, x, ⟨⟩⟩ := h
  unfold mvH
  by_cases c : x ≥ (k : Int)
  · simp only [if_pos c]
    rw [if_pos (by omega), show x + (m : Int) + -(m : Int) = x by omega]
  · simp only [if_neg c]
theorem keep_ins (k m : Nat) (hs : List HeadS) : keepH (k : Int) (m : Int) (hs.map (mvH (k : Int) (m : Int))) = hs.map (mvH (k : Int) (m : Int)) := by
  unfold keepH
  refine List.filter_eq_self.2 fun x hx => ?_
  obtain ⟨y, _, rfl⟩ := List.mem_map.1 hx
  unfold inDel
  rw [mvH_at]
  by_cases c : y.2.1 ≥ (k : Int)
  · rw [if_pos c, decide_eq_true (by omega), decide_eq_false (by omega)]; rfl
  · rw [if_neg c, decide_eq_false c]; rfl
theorem del_ins (k m : Nat) (hs : List HeadS) : delHs (hs.map (mvH (k : Int) (m : Int))) (k : Int) (m : Int) = hs := by
  unfold delHs
  rw [keep_ins, List.map_map]
  refine (List.map_congr_left fun x _ => ?_).trans (List.map_id hs)
  exact mvH_back k m x rfl
theorem atOf_none {hs : List HeadS} {id : Int} (h : ∀ x ∈ hs, x.1 ≠ id) : atOf hs id = none := by
  unfold atOf
  rw [List.find?_eq_none.2 fun x hx => by simpa using h x hx]
  rfl
theorem atOf_some {hs : List HeadS} {x : HeadS} (h : x ∈ hs) : ∃ a, atOf hs x.1 = some a := by
  unfold atOf
  cases hf : hs.find? (fun h => decide (h.1 = x.1)) with
  | none => exact absurd (List.find?_eq_none.1 hf x h) (by simp)
  | some y => exact ⟨y.2.1, rfl⟩
theorem pair_eq {hs : List HeadS} (hp : hs.Pairwise fun a b => a.1 ≠ b.1) {x y : HeadS} (hx : x ∈ hs) (hy : y ∈ hs) (e : x.1 = y.1) : x = y := by
  induction hs with
  | nil => cases hx
  | cons z r ih =>
    obtain ⟨h1, h2⟩ := List.pairwise_cons.1 hp
    rcases List.mem_cons.1 hx with ex | hx <;> rcases List.mem_cons.1 hy with ey | hy
    · rw [ex, ey]
    · exact absurd (ex ▸ e) (h1 y hy)
    · exact absurd (ey ▸ e).symm (h1 x hx)
    · exact ih h2 hx hy
/-- Asked for a header's first bit: is the header there? -/
theorem get_head {hs : List HeadS} {b mt : List Int} (id : Int) : ((exW (getF hs b mt (fldH id 0 1))).2.1 = 3 ↔ atOf hs id = none) := by
  unfold getF whereF
  simp only [show ¬ ((2 : Int) = 1) by omega, show ¬ ((2 : Int) = 3) by omega, if_false, if_true]
  cases atOf hs id with
  | none => simp
  | some a =>
    simp only [Option.map_some]
    cases getB b (bitV a 0) 1 <;> simp

theorem L_pOut (kr : Bool → Option Res) (kt : (Nat × Nat) → Option Res) (k d : Nat) (hs : List HeadS) (hp : hs.Pairwise fun a b => a.1 ≠ b.1) (hat : ∀ h ∈ hs, 0 ≤ h.2.1 ∧ h.2.1 ≤ 1000000) (hgd : ∀ h ∈ hs, FieldT.good (fldH h.1 0 1)) (hl : hs.length ≤ 1000000) (hd6 : k + d ≤ 1000000)
    {hn bn mn : Nat} {hrow : List HeadS} {brow mrow : List Int} {b mt : List Int} (K : PkV hn bn mn hrow brow mrow (delHs hs (k : Int) (d : Int)) b mt) (pt : Int) : ∀ (m i e n : Nat), i ≤ hs.length → hs.length - i < m → e + n = (delHs hs (k : Int) (d : Int)).length → (delHs hs (k : Int) (d : Int)).drop e = delHs (hs.drop i) (k : Int) (d : Int) →
    L_z21_0 FUEL kr kt (d : Int) (k : Int) hs.length hs (delHs hs (k : Int) (d : Int)) m (e, n) (i : Int) hn pt bn brow hrow mn mrow = kt (e + n, 0)
  | 0, _, _, _, _, h, _, _ => by omega
  | m + 1, i, e, n, hi, hm, hen, hdr => by
    show F_z21_0 FUEL kr kt (d : Int) (k : Int) hs.length hs (delHs hs (k : Int) (d : Int)) (L_z21_0 FUEL kr kt (d : Int) (k : Int) hs.length hs (delHs hs (k : Int) (d : Int)) m) (e, n) (i : Int) hn pt bn brow hrow mn mrow = _
    unfold F_z21_0
    by_cases h : i < hs.length
    · have hmem := rdd_mem (d := zHeadS) h
      have hx := hat _ hmem
      have qin : Q_z16 ((rdd zHeadS hs i).1) 0 1 = some ((fldH ((rdd zHeadS hs i).1) 0 1, ()), ()) := fin rfl
      have hg := get_head (hs := delHs hs (k : Int) (d : Int)) (b := b) (mt := mt) (rdd zHeadS hs i).1
      have hmemL : ∀ x ∈ delHs hs (k : Int) (d : Int), ∃ y ∈ hs, inDel (k : Int) (d : Int) y = false ∧ x = mvH (k : Int) (-(d : Int)) y := fun x hx => by
        obtain ⟨y, hy, rfl⟩ := List.mem_map.1 hx
        obtain ⟨hy1, hy2⟩ := List.mem_filter.1 hy
        exact ⟨y, hy1, by simpa using hy2, rfl⟩
      have hgood : FieldT.good (fldH (rdd zHeadS hs i).1 0 1) := hgd _ hmem
      have hdr2 : delHs (hs.drop i) (k : Int) (d : Int) = (if inDel (k : Int) (d : Int) (rdd zHeadS hs i) then [] else [mvH (k : Int) (-(d : Int)) (rdd zHeadS hs i)]) ++ delHs (hs.drop (i + 1)) (k : Int) (d : Int) := by
        rw [drop_rdd zHeadS h]
        unfold delHs keepH
        rw [List.filter_cons]
        cases inDel (k : Int) (d : Int) (rdd zHeadS hs i) <;> simp
      have ekd : IntKind.wrap .i64 ((k : Int) + (d : Int)) = ((k + d : Nat) : Int) := by rw [IntWalk.i64_in _ (by omega)]; omega
      have qG := Q_pGetV K pt _ hgood
      refine stepT (decide_eq_true (show ((i : Int) < ((hs.length : Nat) : Int)) by omega)) ?_
      refine stepT (decide_eq_true (show (0 : Int) ≤ (i : Int) ∧ ((i : Int) < ((hs.length : Nat) : Int)) by omega)) ?_
      rw [toNat_cast, ekd, i64_succ (i := i) (by omega)]
      generalize hrd : rdd zHeadS hs i = x at *
      rw [hdr2] at hdr
      extract_lets +onlyGivenNames y18
      have e_y18 : y18 = _ := (congrArg RS.get (qin)).trans (get_some _)
      clear_value y18; subst e_y18
      refine stepC (qin) ?_
      extract_lets +onlyGivenNames y19
      have e_y19 : y19 = _ := (congrArg RS.get (qG)).trans (get_some _)
      clear_value y19; subst e_y19
      refine stepC (qG) ?_
      have hstep : ∀ (hd : inDel (k : Int) (d : Int) x = false), (exW (getF (delHs hs (k : Int) (d : Int)) b mt (fldH x.1 0 1))).2.1 ≠ 3 ∧ 0 < n ∧ rdd zHeadS (delHs hs (k : Int) (d : Int)) e = mvH (k : Int) (-(d : Int)) x ∧ (delHs hs (k : Int) (d : Int)).drop (e + 1) = delHs (hs.drop (i + 1)) (k : Int) (d : Int) := fun hd => by
        rw [hd] at hdr
        have hlt : e < (delHs hs (k : Int) (d : Int)).length := by
          have := congrArg List.length hdr
          rw [List.length_drop] at this
          simp at this
          omega
        rw [drop_rdd zHeadS hlt] at hdr
        simp only [Bool.false_eq_true, if_false, List.singleton_append, List.cons.injEq] at hdr
        refine ⟨fun c => ?_, by omega, hdr.1, hdr.2⟩
        obtain ⟨a, ha⟩ := atOf_some (hs := delHs hs (k : Int) (d : Int)) (List.mem_map.2 ⟨x, List.mem_filter.2 ⟨hmem, by simp [hd]⟩, rfl⟩)
        rw [mvH_id, hg.1 c] at ha
        cases ha
      by_cases c1 : x.2.1 ≥ (k : Int)
      · refine stepT (decide_eq_true c1) ?_
        by_cases c2 : x.2.1 < ((k + d : Nat) : Int)
        · refine stepT (decide_eq_true c2) ?_
          have hin : inDel (k : Int) (d : Int) x = true := by unfold inDel; rw [decide_eq_true c1, decide_eq_true (by omega)]; rfl
          rw [hin] at hdr
          have g3 : (exW (getF (delHs hs (k : Int) (d : Int)) b mt (fldH x.1 0 1))).2.1 = 3 := hg.2 (atOf_none fun y hy => by
            obtain ⟨z, hz, hz2, rfl⟩ := hmemL y hy
            rw [mvH_id]
            intro e'
            rw [pair_eq hp hz hmem e', hin] at hz2
            cases hz2)
          refine stepF (bneF g3) ?_
          exact L_pOut kr kt k d hs hp hat hgd hl hd6 K pt m (i + 1) e n (by omega) (by omega) hen hdr
        · refine stepF (decide_eq_false c2) ?_
          refine stepT (decide_eq_true (show x.2.1 ≥ ((k + d : Nat) : Int) by omega)) ?_
          obtain ⟨g3, n0, hhead, hnext⟩ := hstep (by unfold inDel; rw [decide_eq_true c1, decide_eq_false (by omega)]; rfl)
          refine stepF (beqF (show ((n : Nat) : Int) ≠ 0 by omega)) ?_
          refine stepT (decide_eq_true (show (0 : Int) ≤ 0 ∧ (0 : Int) < ((n : Nat) : Int) by omega)) ?_
          rw [show rdd zHeadS (delHs hs (k : Int) (d : Int)) (0 + (e, n).1) = mvH (k : Int) (-(d : Int)) x by rw [Nat.zero_add]; exact hhead]
          refine stepF (by unfold mvH; rw [if_pos c1, IntWalk.i64_in _ (by omega)]; show (!(_ && (_ && _))) = false; rw [beqT rfl, beqT (show x.2.1 + -(d : Int) = x.2.1 - (d : Int) by omega)]; rfl) ?_
          refine stepF (beqF g3) ?_
          refine stepT (decide_eq_true (show (0 : Int) ≤ 1 ∧ (1 : Int) ≤ ((n : Nat) : Int) ∧ ((n : Nat) : Int) ≤ ((n : Nat) : Int) ∧ ((n : Nat) : Int) ≤ ((n : Nat) : Int) by omega)) ?_
          have ih := L_pOut kr kt k d hs hp hat hgd hl hd6 K pt m (i + 1) (e + 1) (n - 1) (by omega) (by omega) (by omega) hnext
          rw [show e + 1 + (n - 1) = e + n by omega] at ih
          have e1 : ((e, n).1 + Int.toNat (1 : Int), Int.toNat (((e, n).2 : Nat) : Int) - Int.toNat (1 : Int)) = (e + 1, n - 1) := by
            rw [toNat_cast]; rfl
          rw [e1]
          exact ih
      · refine stepF (decide_eq_false c1) ?_
        refine stepF (decide_eq_false (show ¬ x.2.1 ≥ ((k + d : Nat) : Int) by omega)) ?_
        obtain ⟨g3, n0, hhead, hnext⟩ := hstep (by unfold inDel; rw [decide_eq_false c1]; rfl)
        refine stepF (beqF (show ((n : Nat) : Int) ≠ 0 by omega)) ?_
        refine stepT (decide_eq_true (show (0 : Int) ≤ 0 ∧ (0 : Int) < ((n : Nat) : Int) by omega)) ?_
        rw [show rdd zHeadS (delHs hs (k : Int) (d : Int)) (0 + (e, n).1) = mvH (k : Int) (-(d : Int)) x by rw [Nat.zero_add]; exact hhead]
        refine stepF (by unfold mvH; rw [if_neg c1]; show (!(_ && (_ && _))) = false; rw [beqT rfl, beqT rfl]; rfl) ?_
        refine stepF (beqF g3) ?_
        refine stepT (decide_eq_true (show (0 : Int) ≤ 1 ∧ (1 : Int) ≤ ((n : Nat) : Int) ∧ ((n : Nat) : Int) ≤ ((n : Nat) : Int) ∧ ((n : Nat) : Int) ≤ ((n : Nat) : Int) by omega)) ?_
        have ih := L_pOut kr kt k d hs hp hat hgd hl hd6 K pt m (i + 1) (e + 1) (n - 1) (by omega) (by omega) (by omega) hnext
        rw [show e + 1 + (n - 1) = e + n by omega] at ih
        have e1 : ((e, n).1 + Int.toNat (1 : Int), Int.toNat (((e, n).2 : Nat) : Int) - Int.toNat (1 : Int)) = (e + 1, n - 1) := by
          rw [toNat_cast]; rfl
        rw [e1]
        exact ih
    · refine stepF (decide_eq_false (show ¬ ((i : Int) < ((hs.length : Nat) : Int)) by omega)) ?_
      rw [List.drop_of_length_le (show hs.length ≤ i by omega)] at hdr
      have : (delHs hs (k : Int) (d : Int)).length ≤ e := by
        have := congrArg List.length hdr
        rw [List.length_drop] at this
        have h0 : (delHs [] (k : Int) (d : Int)).length = 0 := rfl
        omega
      have en : n = 0 := by omega
      subst en
      rfl

theorem W_ids {l : List NodeS} (hl : Nodes l) (s : ByteArray) : ∀ (f : Nat) (at_ : Int) (x : NodeS), findP l x.1 = some x → ∀ h ∈ (W l s f at_ x).1, ∃ y ∈ l, y.1 = h.1
  | 0, _, _, _, h, hh => by simp [W] at hh
  | f + 1, at_, x, hf, h, hh => by
    simp only [W] at hh
    by_cases c1 : (sizeV x s at_).2 ≠ 0
    · rw [if_pos c1] at hh; simp at hh
    rw [if_neg c1] at hh
    by_cases c2 : (nextV l x s at_).2 ≠ 0
    · rw [if_pos c2] at hh; simp at hh; exact ⟨x, (findP_some hf).1, by rw [hh]⟩
    rw [if_neg c2] at hh
    cases hy : findP l (nextV l x s at_).1 with
    | none => rw [hy] at hh; simp at hh; exact ⟨x, (findP_some hf).1, by rw [hh]⟩
    | some y =>
      rw [hy] at hh
      have hid := (findP_some hy).2
      rcases List.mem_cons.1 hh with rfl | hh
      · exact ⟨x, (findP_some hf).1, rfl⟩
      · exact W_ids hl s f _ y (by rw [hid]; exact hy) h hh
theorem walkV_ids (l : List NodeS) (hl : Nodes l) (s : ByteArray) : ∀ h ∈ (walkV l s).1, ∃ y ∈ l, y.1 = h.1 := by
  unfold walkV
  split
  · split
    · rename_i x hf
      exact W_ids hl s 64 0 x (by rw [(findP_some hf).2]; exact hf)
    · intro h hh; simp at hh
  · intro h hh; simp at hh
theorem head_good {l : List NodeS} (h : (Ty.slice NodeT).good l) (hl : Nodes l) (s : ByteArray) : ∀ x ∈ hdsV l s, FieldT.good (fldH x.1 0 1) := fun x hx => by
  obtain ⟨y, hy, e⟩ := walkV_ids l hl s x hx
  have hg := h.2 y hy
  rw [← e]
  exact ⟨rfl, rfl, hg.1, rfl, rfl, trivial⟩

theorem packOut_core (s : ByteArray) (l : List NodeS) (h : (Ty.slice NodeT).good l) (a2 a3 : Int) : Q_z21 s l a2 a3 = some ((true, ()), ()) := by
  refine fin ?_
  unfold M_z21
  rcases of_cases s l h with h0 | ⟨h0, h1, h4⟩
  · extract_lets +onlyGivenNames y35
    have e_y35 : y35 = _ := (congrArg RS.get (h0)).trans (get_some _)
    clear_value y35; subst e_y35
    refine stepC (h0) ?_
    extract_lets +onlyGivenNames y36
    have e_y36 : y36 = _ := (congrArg RS.get (awake17)).trans (get_some _)
    clear_value y36; subst e_y36
    refine stepC (awake17) ?_
    rfl
  extract_lets +onlyGivenNames y35
  refine stepN (h0) ?_
  have N := pk_N l s h4
  have hap : (hdsV l s).Pairwise fun a b => a.1 ≠ b.1 := walkV_apart l (of_nodes h h0) s
  have hgd := head_good h (of_nodes h h0) s
  have hbl := bytesL_length s
  have hbo := bytesOf_bytesL s
  generalize hdsV l s = hd at h1 N hap hgd
  generalize bytesL s = b at h1 N hbl hbo
  generalize zeros = mt at h1 N
  have P := N.ok
  have K0 := PkV.self P
  extract_lets +onlyGivenNames y1
  have e_y1 : y1 = _ := (congrArg RS.get (h1)).trans (get_some _)
  clear_value y1; subst e_y1
  refine stepC (h1) ?_
  extract_lets +onlyGivenNames y2
  have e_y2 : y2 = _ := (congrArg RS.get (awake17)).trans (get_some _)
  clear_value y2; subst e_y2
  refine stepC (awake17) ?_
  refine stepF (rfl) ?_
  extract_lets +onlyGivenNames y4
  have e_y4 : y4 = _ := (congrArg RS.get (Q_pCopyV K0 1)).trans (get_some _)
  clear_value y4; subst e_y4
  refine stepC (Q_pCopyV K0 1) ?_
  have hN1 : IntKind.wrap .u64 (IntKind.wrap .i64 (((s.size : Nat) : Int) + (1 : Int))) = ((s.size + 1 : Nat) : Int) := by rw [IntWalk.i64_in _ (by omega), u64_in _ (by omega)]; omega
  rw [hN1]
  refine stepT (by rw [bneT (show ((s.size + 1 : Nat) : Int) ≠ 0 by omega)]) ?_
  obtain ⟨k, hk, ek⟩ := tmodV a3 (s.size + 1) (by omega)
  extract_lets +onlyGivenNames y5
  have e_y5 : y5 = (k : Int) := ek
  clear_value y5; subst e_y5
  have ekk : IntKind.wrap .i64 (k : Int) = (k : Int) := IntWalk.i64_in _ (by omega)
  have e8k : IntKind.wrap .i64 (8 * (k : Int)) = ((8 * k : Nat) : Int) := by rw [IntWalk.i64_in _ (by omega)]; omega
  rw [ekk, e8k]
  have qin : Q_z1o ((8 * k : Nat) : Int) 8 = some ((fldP ((8 * k : Nat) : Int) 8, ()), ()) := fin rfl
  extract_lets +onlyGivenNames y6
  have e_y6 : y6 = _ := (congrArg RS.get (qin)).trans (get_some _)
  clear_value y6; subst e_y6
  refine stepC (qin) ?_
  refine stepT (rfl) ?_
  obtain ⟨m, hm, em⟩ := tmodV a2 300 (by omega)
  have em : IntKind.wrap .i64 (Int.tmod (IntKind.wrap .u64 a2) (300 : Int)) = (m : Int) := by
    have em : Int.tmod (IntKind.wrap .u64 a2) (300 : Int) = (m : Int) := em
    rw [em]; exact IntWalk.i64_in _ (by omega)
  rw [em]
  have hfg : FieldT.good (fldP ((8 * k : Nat) : Int) 8) := by
    exact ⟨rfl, rfl, rfl, i64_wf (show -9223372036854775808 ≤ ((8 * k : Nat) : Int) ∧ ((8 * k : Nat) : Int) ≤ 9223372036854775807 by omega), rfl, trivial⟩
  have hkb : k ≤ b.length := by omega
  obtain ⟨i1, i2⟩ := Q_pIns K0 N 1 (fldP ((8 * k : Nat) : Int) 8) hfg (m : Int) (by omega)
  have hw : insWhy hd b mt (fldP ((8 * k : Nat) : Int) 8) (m : Int) = 0 := by
    unfold insWhy
    rw [spot_P k hkb]
    rw [if_neg (by simp), if_neg (by omega), if_neg (by omega)]
  obtain ⟨n', hrow', brow', K', q⟩ := i2 hw
  rw [spot_P k hkb, toNat_cast] at K'
  have K' : PkV hd.length n' mt.length hrow' brow' mt (hd.map (mvH (k : Int) (m : Int))) (insB b k m) mt := K'
  have N' : PkN (hd.map (mvH (k : Int) (m : Int))) (insB b k m) mt := by
    have := insN N k (m : Int) hkb (by omega) (by omega)
    rw [toNat_cast] at this; exact this
  have hil := insB_length b k m hkb
  obtain ⟨_, dd⟩ := Q_pDel K' N' 1 (fldP ((8 * k : Nat) : Int) 8) hfg (m : Int) (by omega)
  have hwd : delWhy (hd.map (mvH (k : Int) (m : Int))) (insB b k m) mt (fldP ((8 * k : Nat) : Int) 8) (m : Int) = 0 := by
    unfold delWhy
    rw [spot_P k (by omega), if_neg (by simp), if_pos (by rw [hil]; simp only; omega)]
  obtain ⟨hn2, n2, hrow2, brow2, K2, q2⟩ := dd hwd
  rw [spot_P k (by omega), toNat_cast, toNat_cast] at K2
  have K2 : PkV hn2 n2 mt.length hrow2 brow2 mt hd b mt := by
    rw [show delHs (hd.map (mvH (k : Int) (m : Int))) (((k : Int), (0 : Int)) : Int × Int).1 (m : Int) = hd from del_ins k m hd, delB_ins b k m hkb] at K2; exact K2
  have qs := Q_sameV K2 K0 1 1
  rw [decide_eq_true rfl, decide_eq_true rfl, decide_eq_true rfl, decide_eq_true rfl] at qs
  have eN : IntKind.wrap .i64 (IntKind.wrap .i64 (((s.size : Nat) : Int) - (k : Int)) + (1 : Int)) = ((s.size - k + 1 : Nat) : Int) := by rw [IntWalk.i64_in (((s.size : Nat) : Int) - (k : Int)) (by omega), IntWalk.i64_in _ (by omega)]; omega
  obtain ⟨d, hd1, hd2⟩ : ∃ d : Nat, d < s.size - k + 1 ∧ Int.tmod (m : Int) ((s.size - k + 1 : Nat) : Int) = (d : Int) := ⟨m % (s.size - k + 1), Nat.mod_lt _ (by omega), by rw [Int.tmod_eq_emod_of_nonneg (by omega)]; omega⟩
  obtain ⟨_, dd⟩ := Q_pDel K2 N 1 (fldP ((8 * k : Nat) : Int) 8) hfg (d : Int) (by omega)
  have hwd : delWhy hd b mt (fldP ((8 * k : Nat) : Int) 8) (d : Int) = 0 := by
    unfold delWhy
    rw [spot_P k hkb, if_neg (by simp), if_pos (by simp only; omega)]
  obtain ⟨hn3, n3, hrow3, brow3, K3, q3⟩ := dd hwd
  rw [spot_P k hkb, toNat_cast, toNat_cast] at K3
  have K3 : PkV hn3 n3 mt.length hrow3 brow3 mt (delHs hd (k : Int) (d : Int)) (delB b k d) mt := K3
  have hs' : s = bytesOf b := hbo.symm
  have e28 : s.extract 0 k = bytesOf (b.take k) := by rw [hs', bytesOf_extract, List.drop_zero]
  have e30 : s.extract (k + d) s.size = bytesOf (b.drop (k + d)) := by rw [hs', bytesOf_extract, List.take_of_length_le (by rw [bytesOf_size]; omega)]
  have ekd : IntKind.wrap .i64 ((k : Int) + (d : Int)) = ((k + d : Nat) : Int) := by rw [IntWalk.i64_in _ (by omega)]; omega
  rcases q with q | ⟨q0, q⟩
  · extract_lets +onlyGivenNames y22
    have e_y22 : y22 = _ := (congrArg RS.get (q)).trans (get_some _)
    clear_value y22; subst e_y22
    refine stepC (q) ?_
    refine stepF (rfl) ?_
    extract_lets +onlyGivenNames y23
    have e_y23 : y23 = _ := (congrArg RS.get (q2)).trans (get_some _)
    clear_value y23; subst e_y23
    refine stepC (q2) ?_
    refine stepF (rfl) ?_
    extract_lets +onlyGivenNames y24
    have e_y24 : y24 = _ := (congrArg RS.get (qs)).trans (get_some _)
    clear_value y24; subst e_y24
    refine stepC (qs) ?_
    refine stepF (rfl) ?_
    extract_lets +onlyGivenNames y25
    have e_y25 : y25 = ((s.size - k + 1 : Nat) : Int) := eN
    clear_value y25; subst e_y25
    rw [hd2]
    refine stepT (by rw [bneT (show ((s.size - k + 1 : Nat) : Int) ≠ 0 by omega)]) ?_
    extract_lets +onlyGivenNames y26
    have e_y26 : y26 = _ := (congrArg RS.get (q3)).trans (get_some _)
    clear_value y26; subst e_y26
    refine stepC (q3) ?_
    refine stepF (rfl) ?_
    extract_lets +onlyGivenNames y27
    have e_y27 : y27 = _ := (congrArg RS.get (Q_pTextV K3 1)).trans (get_some _)
    clear_value y27; subst e_y27
    refine stepC (Q_pTextV K3 1) ?_
    refine stepT (decide_eq_true (show (0 : Int) ≤ 0 ∧ (0 : Int) ≤ (k : Int) ∧ (k : Int) ≤ ((s.size : Nat) : Int) by omega)) ?_
    extract_lets +onlyGivenNames y28
    have e_y28 : y28 = (bytesOf (b.take k)) := e28
    clear_value y28; subst e_y28
    extract_lets +onlyGivenNames y29
    have e_y29 : y29 = ((k + d : Nat) : Int) := ekd
    clear_value y29; subst e_y29
    refine stepT (decide_eq_true (show (0 : Int) ≤ ((k + d : Nat) : Int) ∧ ((k + d : Nat) : Int) ≤ ((s.size : Nat) : Int) ∧ ((s.size : Nat) : Int) ≤ ((s.size : Nat) : Int) by omega)) ?_
    extract_lets +onlyGivenNames y30
    have e_y30 : y30 = (bytesOf (b.drop (k + d))) := e30
    clear_value y30; subst e_y30
    refine stepT (decide_eq_true (by rw [bytesOf_size, bytesOf_size, List.length_take, List.length_drop]; omega)) ?_
    refine stepF (nbT (show bytesOf (delB b k d) = _ from bytesOf_append _ _)) ?_
    extract_lets +onlyGivenNames y31
    have e_y31 : y31 = _ := (congrArg RS.get (Q_pHeadsV K0 1)).trans (get_some _)
    clear_value y31; subst e_y31
    refine stepC (Q_pHeadsV K0 1) ?_
    extract_lets +onlyGivenNames y32
    have e_y32 : y32 = _ := (congrArg RS.get (Q_pHeadsV K3 1)).trans (get_some _)
    clear_value y32; subst e_y32
    refine stepC (Q_pHeadsV K3 1) ?_
    refine (L_pOut _ _ k d hd hap P.at_ hgd P.hl (by omega) K3 1 FUEL 0 0 (delHs hd (k : Int) (d : Int)).length (by omega) (by have := P.hl; unfold FUEL; omega) (by omega) rfl).trans ?_
    rfl
  · extract_lets +onlyGivenNames y22
    refine stepN (q0) ?_
    extract_lets +onlyGivenNames y7
    have e_y7 : y7 = _ := (congrArg RS.get (q)).trans (get_some _)
    clear_value y7; subst e_y7
    refine stepC (q) ?_
    refine stepF (rfl) ?_
    extract_lets +onlyGivenNames y23
    have e_y23 : y23 = _ := (congrArg RS.get (q2)).trans (get_some _)
    clear_value y23; subst e_y23
    refine stepC (q2) ?_
    refine stepF (rfl) ?_
    extract_lets +onlyGivenNames y24
    have e_y24 : y24 = _ := (congrArg RS.get (qs)).trans (get_some _)
    clear_value y24; subst e_y24
    refine stepC (qs) ?_
    refine stepF (rfl) ?_
    extract_lets +onlyGivenNames y25
    have e_y25 : y25 = ((s.size - k + 1 : Nat) : Int) := eN
    clear_value y25; subst e_y25
    rw [hd2]
    refine stepT (by rw [bneT (show ((s.size - k + 1 : Nat) : Int) ≠ 0 by omega)]) ?_
    extract_lets +onlyGivenNames y26
    have e_y26 : y26 = _ := (congrArg RS.get (q3)).trans (get_some _)
    clear_value y26; subst e_y26
    refine stepC (q3) ?_
    refine stepF (rfl) ?_
    extract_lets +onlyGivenNames y27
    have e_y27 : y27 = _ := (congrArg RS.get (Q_pTextV K3 1)).trans (get_some _)
    clear_value y27; subst e_y27
    refine stepC (Q_pTextV K3 1) ?_
    refine stepT (decide_eq_true (show (0 : Int) ≤ 0 ∧ (0 : Int) ≤ (k : Int) ∧ (k : Int) ≤ ((s.size : Nat) : Int) by omega)) ?_
    extract_lets +onlyGivenNames y28
    have e_y28 : y28 = (bytesOf (b.take k)) := e28
    clear_value y28; subst e_y28
    extract_lets +onlyGivenNames y29
    have e_y29 : y29 = ((k + d : Nat) : Int) := ekd
    clear_value y29; subst e_y29
    refine stepT (decide_eq_true (show (0 : Int) ≤ ((k + d : Nat) : Int) ∧ ((k + d : Nat) : Int) ≤ ((s.size : Nat) : Int) ∧ ((s.size : Nat) : Int) ≤ ((s.size : Nat) : Int) by omega)) ?_
    extract_lets +onlyGivenNames y30
    have e_y30 : y30 = (bytesOf (b.drop (k + d))) := e30
    clear_value y30; subst e_y30
    refine stepT (decide_eq_true (by rw [bytesOf_size, bytesOf_size, List.length_take, List.length_drop]; omega)) ?_
    refine stepF (nbT (show bytesOf (delB b k d) = _ from bytesOf_append _ _)) ?_
    extract_lets +onlyGivenNames y31
    have e_y31 : y31 = _ := (congrArg RS.get (Q_pHeadsV K0 1)).trans (get_some _)
    clear_value y31; subst e_y31
    refine stepC (Q_pHeadsV K0 1) ?_
    extract_lets +onlyGivenNames y32
    have e_y32 : y32 = _ := (congrArg RS.get (Q_pHeadsV K3 1)).trans (get_some _)
    clear_value y32; subst e_y32
    refine stepC (Q_pHeadsV K3 1) ?_
    refine (L_pOut _ _ k d hd hap P.at_ hgd P.hl (by omega) K3 1 FUEL 0 0 (delHs hd (k : Int) (d : Int)).length (by omega) (by have := P.hl; unfold FUEL; omega) (by omega) rfl).trans ?_
    rfl
theorem Pure.PackOut (s : ByteArray) (hs : Ty.str.good s) (l : List NodeS) (h : (Ty.slice NodeT).good l) (a2 : Int) (_ : (Ty.int .i64).good a2) (a3 : Int) (_ : (Ty.int .i64).good a3) : Q_z21 s l a2 a3 = some ((true, ()), ()) := packOut_core s l h a2 a3
end Go.AMach
