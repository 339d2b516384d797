/- Parts of the proof. -/
import Derived.Test.YtcngpijmkdpbgaaBz
/- Layer 17: a number put into a packet whose rows are longer than what is told of them. -/
namespace Go.AMach
set_option linter.unusedVariables false
set_option linter.unusedSimpArgs false
set_option linter.unnecessarySimpa false
open Go
set_option linter.unusedVariables false

theorem Vw.over {n : Nat} {row b : List Int} (V : Vw n row b) {fr m : Nat} (h : fr + m ≤ n) {c : List Int} (hc : c.length = m) :
    Vw n (cutL (0 : Int) row 0 fr ++ (c ++ cutL (0 : Int) row (fr + m) (row.length - (fr + m)))) (b.take fr ++ (c ++ b.drop (fr + m))) := by
  have hle := V.le
  have hbl := V.len
  have hb : b = row.take n := V.eq.symm
  refine ⟨by simp only [List.length_append, cutL_length', hc]; omega, ?_⟩
  rw [cutL_eq (by omega), cutL_eq (by omega), List.drop_zero, List.take_of_length_le (l := row.drop (fr + m)) (by rw [List.length_drop]; omega)]
  have h1 : (row.take fr).length = fr := by rw [List.length_take]; omega
  rw [List.take_append, List.take_of_length_le (l := row.take fr) (by omega), h1, List.take_append, List.take_of_length_le (l := c) (by omega), hc]
  have e1 : b.take fr = row.take fr := by rw [hb, List.take_take]; congr 1; omega
  have e2 : b.drop (fr + m) = (row.drop (fr + m)).take (n - fr - m) := by rw [hb, List.drop_take]; congr 1; omega
  rw [e1, e2]

theorem Q_bPutV {n : Nat} {row b : List Int} (V : Vw n row b) (hb : isB b) (off w : Int) (v : Nat) (hv : v < 340282366920938463463374607431768211456) (hl : n ≤ 1000000) (ho : -9223372036854775808 ≤ off ∧ off ≤ 9223372036854775807) :
    ∃ row', Vw n row' (if (getB b off w).isSome then putB b off w v else b) ∧
    Q_z22 off w (wN v) n row = some (((if (getB b off w).isSome then 0 else getE off w), ()), ((n, ()), (row', ()))) := by
  have hbl := V.len
  have hle := V.le
  obtain ⟨h0, h1⟩ := Q_bWinV V off w hl ho
  cases hg : getB b off w with
  | none =>
    refine ⟨row, V, fin ?_⟩
    unfold M_z22
    have hn' : ¬ (0 ≤ off ∧ 1 ≤ w ∧ w ≤ 128 ∧ off + w ≤ 8 * (b.length : Int)) := fun k => by unfold getB at hg; rw [if_pos k] at hg; cases hg
    simp only [ok_z1a, q_z1a, h0 hg, RS.get, Option.getD_some, Option.isSome_some, cond_true, V.all]
    have e : IntKind.wrap .i64 (off - IntKind.wrap .i64 (8 * (0 : Int))) = off := by
      rw [show IntKind.wrap .i64 (8 * (0 : Int)) = 0 by rfl, IntWalk.i64_in _ (by omega)]; omega
    rw [e]
    have := Q_fPutBad (bytesOf b) off w (wN v) (by rw [bytesOf_size]; omega) ho.2 (by rw [bytesOf_size]; exact hn')
    simp only [ok_z21, q_z21, this, RS.get, Option.getD_some, Option.isSome_some, cond_true, int_beq, decide_eq_false (getE_ne off w), cond_false]
    rfl
  | some v0 =>
    have hv' : 0 ≤ off ∧ 1 ≤ w ∧ w ≤ 128 ∧ off + w ≤ 8 * (b.length : Int) := Classical.byContradiction fun k => by unfold getB at hg; rw [if_neg k] at hg; cases hg
    have h1 := h1 v0 hg
    generalize hf : off.toNat / 8 = fr at h1
    generalize hn : (off.toNat + w.toNat + 7) / 8 - fr = m at h1
    have e : IntKind.wrap .i64 (off - IntKind.wrap .i64 (8 * ((fr : Nat) : Int))) = ((off.toNat - 8 * fr : Nat) : Int) := by
      rw [IntWalk.i64_in (8 * ((fr : Nat) : Int)) (by omega), IntWalk.i64_in _ (by omega)]; omega
    have hwn : w = ((w.toNat : Nat) : Int) := by omega
    have hcut : cutL (0 : Int) row fr m = (b.drop fr).take m := by rw [V.cut (by omega)]; exact cutL_eq (by omega)
    have hlen : ((b.drop fr).take m).length = m := by rw [List.length_take, List.length_drop]; omega
    have hcB : isB ((b.drop fr).take m) := fun x hx => hb _ (List.mem_of_mem_drop (List.mem_of_mem_take hx))
    have hP := Q_fPut v hv hcB (off.toNat - 8 * fr) w.toNat (by omega) (by rw [hlen]; omega) (by rw [hlen]; omega)
    rw [← hwn] at hP
    have hpl : (putN ((b.drop fr).take m) (off.toNat - 8 * fr) w.toNat v).length = m := by rw [putN_length, hlen]
    have hsz : (bytesOf (putN ((b.drop fr).take m) (off.toNat - 8 * fr) w.toNat v)).size = m := by rw [bytesOf_size, hpl]
    have hnew := putN_window b hb off.toNat w.toNat v fr m hf.symm hn.symm (by omega) (by omega)
    have hc2 : cutL (0 : Int) (bytesL (bytesOf (putN ((b.drop fr).take m) (off.toNat - 8 * fr) w.toNat v))) 0 (Nat.min m m) = putN ((b.drop fr).take m) (off.toNat - 8 * fr) w.toNat v := by
      rw [bytesL_bytesOf (putN_isB _ _ _ _), show Nat.min m m = m from Nat.min_self m]
      have := cutL_all (0 : Int) (putN ((b.drop fr).take m) (off.toNat - 8 * fr) w.toNat v)
      rw [hpl] at this; exact this
    have d1 : decide (fr + m ≤ row.length) = true := by rw [decide_eq_true_eq]; omega
    have VV := V.over (fr := fr) (m := m) (by omega) hpl
    rw [hnew] at VV
    refine ⟨_, VV, fin ?_⟩
    unfold M_z22
    simp only [Option.isSome_some, if_true]
    rcases h1 with ⟨z, a1⟩ | ⟨a1, a2⟩
    · subst z
      simp only [ok_z1a, q_z1a, a1, e, hcut, ok_z21, q_z21, hP, RS.get, Option.getD_some, Option.isSome_some, cond_true, int_beq, decide_true, d1, hsz, hc2, hpl]
    · simp only [ok_z1a, ok_z1a_1, q_z1a_1, a1, a2, e, hcut, ok_z21, q_z21, hP, RS.get, Option.getD_some, Option.isSome_some, Option.isSome_none, cond_true, cond_false, int_beq, decide_true, d1, hsz, hc2, hpl]

theorem Q_pPutV {hn bn mn : Nat} {hrow : List HeadS} {brow mrow : List Int} {hs : List HeadS} {b mt : List Int} (K : PkV hn bn mn hrow brow mrow hs b mt) (pt : Int) (f : FieldS) (hf : FieldT.good f) (v : Nat) (hv : v < 340282366920938463463374607431768211456) :
    ∃ brow' mrow', PkV hn bn mn hrow brow' mrow' hs (putF hs b mt f v).2.1 (putF hs b mt f v).2.2 ∧
    Q_z23 f (wN v) hn pt bn brow hrow mn mrow = some (((putF hs b mt f v).1, ()), pkV hn bn mn hrow brow' mrow' pt) := by
  obtain ⟨h1, h2, h3, h4, h5, _⟩ := hf
  have r4 := wf_i64 h4
  have lb := K.vb.len
  have lm := K.vm.len
  have hok := putF_ok K.ok f v
  obtain ⟨p1, p2, p3⟩ := Q_placeV K pt f
  have hbit : ∀ a, 0 ≤ a ∧ a ≤ 1000000 → Q_z18 a f.2.2.2.1 = some ((bitV a f.2.2.2.1, ()), ()) := fun a ha => Q_bit a _ ha r4.2
  have rbit : ∀ a, 0 ≤ a ∧ a ≤ 1000000 → -9223372036854775808 ≤ bitV a f.2.2.2.1 ∧ bitV a f.2.2.2.1 ≤ 9223372036854775807 := fun a ha => by unfold bitV; split <;> omega
  cases hw : whereF hs b mt f with
  | none =>
    obtain ⟨q0, q1, q2⟩ := p1 hw
    have e : putF hs b mt f v = (3, (b, mt)) := by unfold putF; rw [hw]
    rw [e]
    refine ⟨brow, mrow, K, fin ?_⟩
    unfold M_z23
    simp only [ok_z17, ok_z17_1, ok_z17_2, q_z17_2, q0, q1, q2, RS.get, Option.getD_some, Option.isSome_some, Option.isSome_none, cond_true, cond_false]
    rfl
  | some ca =>
    obtain ⟨c, a⟩ := ca
    rcases where_in hw with ⟨c3, rfl, rfl⟩ | ⟨c3, rfl, ha⟩
    · obtain ⟨q0, q1⟩ := p2 _ _ hw c3
      obtain ⟨row', VV, qp⟩ := Q_bPutV K.vm K.ok.mB (bitV 0 f.2.2.2.1) f.2.2.2.2.1 v hv (by have := K.ok.ml; omega) (rbit 0 (by omega))
      cases hg : getB c (bitV 0 f.2.2.2.1) f.2.2.2.2.1 with
      | none =>
        rw [hg] at qp VV
        simp only [Option.isSome_none, Bool.false_eq_true, if_false] at qp VV
        have e : putF hs b c f v = (1, (b, c)) := by unfold putF; rw [hw]; simp only; rw [hg]; rfl
        rw [e]
        refine ⟨brow, row', ⟨K.vh, K.vb, VV, K.ok⟩, fin ?_⟩
        unfold M_z23
        simp only [ok_z17, ok_z17_1, q_z17_1, q0, q1, RS.get, Option.getD_some, Option.isSome_some, Option.isSome_none, cond_true, cond_false]
        simp only [int_beq, int_bne, decide_true, cond_true, ok_z18, q_z18, hbit 0 (by omega), ok_z22, q_z22, qp, RS.get, Option.getD_some, Option.isSome_some, decide_eq_false (getE_ne _ _), Bool.not_false]
      | some x =>
        rw [hg] at qp VV
        simp only [Option.isSome_some, if_true] at qp VV
        have e : putF hs b c f v = (0, (b, putB c (bitV 0 f.2.2.2.1) f.2.2.2.2.1 v)) := by unfold putF; rw [hw]; simp only; rw [hg, if_pos c3]; rfl
        rw [e] at hok ⊢
        refine ⟨brow, row', ⟨K.vh, K.vb, VV, hok⟩, fin ?_⟩
        unfold M_z23
        simp only [ok_z17, ok_z17_1, q_z17_1, q0, q1, RS.get, Option.getD_some, Option.isSome_some, Option.isSome_none, cond_true, cond_false]
        simp only [int_beq, int_bne, decide_true, cond_true, ok_z18, q_z18, hbit 0 (by omega), ok_z22, q_z22, qp, RS.get, Option.getD_some, Option.isSome_some, Bool.not_true, cond_false]
    · have q0 := p3 _ _ hw c3
      have ha' : 0 ≤ a ∧ a ≤ 1000000 := by
        rcases ha with h | h
        · omega
        · exact atOf_ok K.ok h
      obtain ⟨row', VV, qp⟩ := Q_bPutV K.vb K.ok.bB (bitV a f.2.2.2.1) f.2.2.2.2.1 v hv (by have := K.ok.bl; omega) (rbit a ha')
      cases hg : getB c (bitV a f.2.2.2.1) f.2.2.2.2.1 with
      | none =>
        rw [hg] at qp VV
        simp only [Option.isSome_none, Bool.false_eq_true, if_false] at qp VV
        have e : putF hs c mt f v = (1, (c, mt)) := by unfold putF; rw [hw]; simp only; rw [hg]; rfl
        rw [e]
        refine ⟨row', mrow, ⟨K.vh, VV, K.vm, K.ok⟩, fin ?_⟩
        unfold M_z23
        simp only [ok_z17, q_z17, q0, RS.get, Option.getD_some, Option.isSome_some, cond_true]
        simp only [int_beq, int_bne, decide_true, cond_true, ok_z18, q_z18, hbit a ha', ok_z22, q_z22, qp, RS.get, Option.getD_some, Option.isSome_some, decide_eq_false (getE_ne _ _), Bool.not_false]
      | some x =>
        rw [hg] at qp VV
        simp only [Option.isSome_some, if_true] at qp VV
        have e : putF hs c mt f v = (0, (putB c (bitV a f.2.2.2.1) f.2.2.2.2.1 v, mt)) := by unfold putF; rw [hw]; simp only; rw [hg, if_neg c3]; rfl
        rw [e] at hok ⊢
        refine ⟨row', mrow, ⟨K.vh, VV, K.vm, hok⟩, fin ?_⟩
        unfold M_z23
        simp only [ok_z17, q_z17, q0, RS.get, Option.getD_some, Option.isSome_some, cond_true]
        simp only [int_beq, int_bne, decide_true, cond_true, ok_z18, q_z18, hbit a ha', ok_z22, q_z22, qp, RS.get, Option.getD_some, Option.isSome_some, Bool.not_true, cond_false]
end Go.AMach

/- Steps over a printed function; a walked packet. -/
namespace Go.AMach
set_option linter.unusedVariables false
set_option linter.unusedSimpArgs false
set_option linter.unnecessarySimpa false
open Go
set_option linter.unusedVariables false

/-! ### Steps over a printed function -/
theorem stepC {α β : Type} {o : Option α} {v : α} (h : o = some v) {A B X : β} (g : A = X) : cond o.isSome A B = X := by subst h; exact g
theorem stepN {α β : Type} {o : Option α} (h : o = none) {A B X : β} (g : B = X) : cond o.isSome A B = X := by subst h; exact g
theorem stepT {β : Type} {c : Bool} (h : c = true) {A B X : β} (g : A = X) : cond c A B = X := by subst h; exact g
theorem stepF {β : Type} {c : Bool} (h : c = false) {A B X : β} (g : B = X) : cond c A B = X := by subst h; exact g
theorem bne0 {x : Int} (h : x ≠ 0) : (x != (0 : Int)) = true := by rw [int_bne, decide_eq_false h]; rfl
theorem bne1 {x : Int} (h : x = 0) : (x != (0 : Int)) = false := by rw [int_bne, decide_eq_true h]; rfl
theorem beqT {x y : Int} (h : x = y) : (x == y) = true := by rw [int_beq, decide_eq_true h]
theorem beqF {x y : Int} (h : x ≠ y) : (x == y) = false := by rw [int_beq, decide_eq_false h]
theorem bneT {x y : Int} (h : x ≠ y) : (x != y) = true := by rw [int_bne, decide_eq_false h]; rfl
theorem bneF {x y : Int} (h : x = y) : (x != y) = false := by rw [int_bne, decide_eq_true h]; rfl
theorem nbT {a b : ByteArray} (h : a = b) : (!(ByteArray.toList a == ByteArray.toList b)) = false := by subst h; rw [toList_beq, decide_eq_true rfl]; rfl

theorem tmodV (x : Int) (d : Nat) (hd : 0 < d) : ∃ r : Nat, r < d ∧ Int.tmod (IntKind.wrap .u64 x) (d : Int) = (r : Int) := by
  have h0 : 0 ≤ IntKind.wrap .u64 x := by simp [IntKind.wrap, IntKind.bits, IntKind.signed]; omega
  have h1 := Int.emod_nonneg (IntKind.wrap .u64 x) (show (d : Int) ≠ 0 by omega)
  have h2 := Int.emod_lt_of_pos (IntKind.wrap .u64 x) (show (0 : Int) < d by omega)
  exact ⟨(IntKind.wrap .u64 x % (d : Int)).toNat, by omega, by rw [Int.tmod_eq_emod_of_nonneg h0]; omega⟩

theorem word_eqv (a b : Nat) : ((wN a).1 == (wN b).1 && ((wN a).2.1 == (wN b).2.1 && true)) = decide (a = b) := by
  unfold wN W2
  simp only [int_beq, Bool.and_true]
  by_cases e : a = b
  · subst e; simp
  · rw [decide_eq_false e]
    by_cases h1 : a / 18446744073709551616 = b / 18446744073709551616
    · have : a % 18446744073709551616 ≠ b % 18446744073709551616 := by omega
      rw [decide_eq_false (show ¬ ((a % 18446744073709551616 : Nat) : Int) = ((b % 18446744073709551616 : Nat) : Int) by omega), Bool.and_false]
    · rw [decide_eq_false (show ¬ ((a / 18446744073709551616 : Nat) : Int) = ((b / 18446744073709551616 : Nat) : Int) by omega), Bool.false_and]
/-- A walked packet as it is. -/
theorem pk_N (l : List NodeS) (s : ByteArray) (h : s.size ≤ 4000) : PkN (hdsV l s) (bytesL s) zeros where
  ok := pk_ok l s (by omega)
  long := by rw [bytesL_length]; omega
  at_ := fun x hx => by have := walkV_at l s x hx; rw [bytesL_length]; omega
theorem PkV.self {hs : List HeadS} {b mt : List Int} (P : PkOk hs b mt) : PkV hs.length b.length mt.length hs b mt hs b mt := ⟨Vw.self hs, Vw.self b, Vw.self mt, P⟩
theorem atOf_apart {hs : List HeadS} (hp : hs.Pairwise fun a b => a.1 ≠ b.1) {h : HeadS} (hm : h ∈ hs) : atOf hs h.1 = some h.2.1 := by
  induction hs with
  | nil => cases hm
  | cons x r ih =>
    unfold atOf at ih ⊢
    rw [List.find?_cons]
    obtain ⟨h1, h2⟩ := List.pairwise_cons.1 hp
    rcases List.mem_cons.1 hm with rfl | hm
    · rw [decide_eq_true rfl]; rfl
    · rw [decide_eq_false (h1 h hm)]; exact ih h2 hm
theorem atF_at {hs : List HeadS} {b mt : List Int} {f : FieldS} (h : (atF hs b mt f).2 = 0) : ∃ c a, whereF hs b mt f = some (c, a) ∧ 0 ≤ f.2.2.2.1 ∧ (atF hs b mt f).1 = a + f.2.2.2.1 / 8 := by
  unfold atF at h ⊢
  cases hw : whereF hs b mt f with
  | none => rw [hw] at h; simp at h
  | some ca =>
    obtain ⟨c, a⟩ := ca
    rw [hw] at h
    simp only at h ⊢
    refine ⟨c, a, rfl, ?_⟩
    unfold atV at h ⊢
    by_cases c1 : f.2.2.2.1 < 0
    · rw [if_pos c1] at h; simp at h
    rw [if_neg c1] at h ⊢
    by_cases c2 : f.2.2.2.1 / 8 > (c.length : Int) - a
    · rw [if_pos c2] at h; simp at h
    rw [if_neg c2]
    exact ⟨by omega, rfl⟩

end Go.AMach

/- Layer 17: bytes taken out. -/
namespace Go.AMach
set_option linter.unusedVariables false
set_option linter.unusedSimpArgs false
set_option linter.unnecessarySimpa false
open Go
set_option linter.unusedVariables false

/-- Bytes with some taken out. -/
def delB (b : List Int) (k m : Nat) : List Int := b.take k ++ b.drop (k + m)
theorem delB_length (b : List Int) (k m : Nat) (h : k + m ≤ b.length) : (delB b k m).length = b.length - m := by
  unfold delB; rw [List.length_append, List.length_take, List.length_drop]; omega
theorem delB_isB {b : List Int} (h : isB b) (k m : Nat) : isB (delB b k m) := fun x hx => by
  rcases List.mem_append.1 hx with hx | hx
  · exact h x (List.mem_of_mem_take hx)
  · exact h x (List.mem_of_mem_drop hx)
theorem delB_ins (b : List Int) (k m : Nat) (hk : k ≤ b.length) : delB (insB b k m) k m = b := by
  unfold delB insB
  have e1 : (b.take k ++ zerosL m).length = k + m := by rw [List.length_append, List.length_take, mkL_length]; omega
  rw [show (b.take k ++ zerosL m ++ b.drop k).drop (k + m) = b.drop k by rw [← e1, List.drop_left]]
  rw [List.append_assoc, List.take_append_of_le_length (by rw [List.length_take]; omega), List.take_of_length_le (by rw [List.length_take]; omega), List.take_append_drop]

theorem Q_bDel {n : Nat} {row b : List Int} (V : Vw n row b) (k : Nat) (m : Int) (hk : k ≤ n) (hn : n ≤ 1000000) (hm2 : m ≤ 9223372036854775807) :
    (¬ (0 ≤ m ∧ m ≤ (n : Int) - k) → ∃ e, e ≠ 0 ∧ Q_z1p (k : Int) m n row = some ((e, ()), ((n, ()), (row, ())))) ∧
    (∀ d : Nat, m = (d : Int) → k + d ≤ n → ∃ row', Vw (n - d) row' (delB b k d) ∧ Q_z1p (k : Int) m n row = some ((0, ()), ((n - d, ()), (row', ())))) := by
  have hbl := V.len
  have hle := V.le
  refine ⟨fun hbad => ?_, fun d hd hkd => ?_⟩
  · by_cases h0 : m < 0
    · refine ⟨1, by decide, fin ?_⟩
      have qo : Q_z1j (k : Int) m n row = some ((1, ()), ((n, ()), (row, ()))) := by
        refine fin ?_
        unfold M_z1j
        simp only [cond_dec]
        rw [if_neg (by omega), if_pos h0]
      unfold M_z1p
      extract_lets y1
      have e : y1 = _ := (congrArg RS.get qo).trans (get_some _)
      clear_value y1; subst e
      simp only [ok_z1j, qo, Option.isSome_some, cond_true, int_beq, show decide ((1 : Int) = 0) = false from rfl, cond_false]
    · refine ⟨4, by decide, fin ?_⟩
      have qo := Q_bOff (k : Int) m n row (by omega) (by omega) hn hm2
      rw [if_pos (by omega)] at qo
      unfold M_z1p
      extract_lets y1
      have e : y1 = _ := (congrArg RS.get qo).trans (get_some _)
      clear_value y1; subst e
      simp only [ok_z1j, qo, Option.isSome_some, cond_true, int_beq, show decide ((4 : Int) = 0) = false from rfl, cond_false]
  · subst hd
    have qo := Q_bOff (k : Int) (d : Int) n row (by omega) (by omega) hn hm2
    rw [if_neg (by omega)] at qo
    have ekd : IntKind.wrap .i64 ((k : Int) + (d : Int)) = ((k + d : Nat) : Int) := by rw [IntWalk.i64_in _ (by omega)]; omega
    have hmin : Nat.min (n - (k + d)) (n - k) = n - (k + d) := Nat.min_eq_left (by omega)
    have hlen : (cutL (0 : Int) row (k + d) (n - (k + d))).length = n - (k + d) := cutL_length' _ _ _ _
    have hcw : cutL (0 : Int) row (k + d) (n - (k + d)) = b.drop (k + d) := by
      rw [V.cut (by omega), cutL_eq (by omega), List.take_of_length_le (by rw [List.length_drop]; omega)]
    have hc0 : cutL (0 : Int) row 0 k = b.take k := by rw [V.cut (by omega), cutL_eq (by omega), List.drop_zero]
    have e2 : IntKind.wrap .i64 ((k : Int) + ((n - (k + d) : Nat) : Int)) = ((n - d : Nat) : Int) := by rw [IntWalk.i64_in _ (by omega)]; omega
    refine ⟨b.take k ++ (b.drop (k + d) ++ cutL (0 : Int) row (k + (n - (k + d))) (row.length - (k + (n - (k + d))))), ⟨?_, ?_⟩, fin ?_⟩
    · simp only [List.length_append, List.length_take, List.length_drop, cutL_length']; omega
    · rw [← List.append_assoc, List.take_append_of_le_length (by simp only [List.length_append, List.length_take, List.length_drop]; omega), List.take_of_length_le (by simp only [List.length_append, List.length_take, List.length_drop]; omega)]
      rfl
    · unfold M_z1p
      extract_lets y1 y2
      have e : y1 = _ := (congrArg RS.get qo).trans (get_some _)
      clear_value y1; subst e
      have hy2 : y2 = ((n - (k + d) : Nat) : Int) := by
        show (((Nat.min (Int.toNat ((n : Nat) : Int) - Int.toNat (IntKind.wrap .i64 ((k : Int) + (d : Int)))) (Int.toNat ((n : Nat) : Int) - Int.toNat (k : Int))) : Nat) : Int) = _
        rw [ekd, toNat_cast, toNat_cast, toNat_cast, hmin]
      clear_value y2; subst hy2
      have t0 : Int.toNat (0 : Int) = 0 := rfl
      have d1 : decide ((0 : Int) ≤ (k : Int) ∧ (k : Int) ≤ ((n : Nat) : Int) ∧ ((n : Nat) : Int) ≤ ((n : Nat) : Int) ∧ ((n : Nat) : Int) ≤ ((n : Nat) : Int)) = true := by rw [decide_eq_true_eq]; omega
      have d2 : decide ((0 : Int) ≤ ((k + d : Nat) : Int) ∧ ((k + d : Nat) : Int) ≤ ((n : Nat) : Int) ∧ ((n : Nat) : Int) ≤ ((n : Nat) : Int) ∧ ((n : Nat) : Int) ≤ ((n : Nat) : Int)) = true := by rw [decide_eq_true_eq]; omega
      have d3 : decide (k + d + (n - (k + d)) ≤ row.length) = true := by rw [decide_eq_true_eq]; omega
      have d4 : decide (k + (n - k) ≤ row.length) = true := by rw [decide_eq_true_eq]; omega
      have d5 : decide ((0 : Int) ≤ (0 : Int) ∧ (0 : Int) ≤ ((n - d : Nat) : Int) ∧ ((n - d : Nat) : Int) ≤ ((n : Nat) : Int) ∧ ((n : Nat) : Int) ≤ ((n : Nat) : Int)) = true := by rw [decide_eq_true_eq]; omega
      simp only [ok_z1j, qo, Option.isSome_some, cond_true, int_beq, decide_true, ekd, toNat_cast, t0, Nat.zero_add, Nat.sub_zero, hmin, e2, hlen, hcw, hc0, d1, d2, d3, d4, d5]
      have hl2 : (b.drop (k + d)).length = n - (k + d) := by rw [List.length_drop]; omega
      simp only [hl2]

/-! ### Headers taken out -/
def inDel (at_ d : Int) (h : HeadS) : Bool := decide (h.2.1 ≥ at_) && decide (h.2.1 < at_ + d)
theorem Q_del1 (h : HeadS) (at_ d : Int) (hd : -9223372036854775808 ≤ at_ + d ∧ at_ + d ≤ 9223372036854775807) : Q_z1q h at_ d = some ((inDel at_ d h, ()), ((at_, ()), ((d, ()), ()))) := by
  refine fin ?_
  unfold M_z1q inDel
  rw [IntWalk.i64_in _ hd]
  by_cases c : h.2.1 ≥ at_
  · rw [decide_eq_true c, cond_true, Bool.true_and]
  · rw [decide_eq_false c, cond_false, Bool.false_and]
theorem L_idx (kr : Int → Int → Int → Option Res) (kt : Int → Int → Option Res) (hs : List HeadS) (at_ d : Int) (hl : hs.length ≤ 1000000) (hd : -9223372036854775808 ≤ at_ + d ∧ at_ + d ≤ 9223372036854775807) : ∀ (m i : Nat), i ≤ hs.length → hs.length - i < m → (∀ j, j < i → inDel at_ d (rdd zHeadS hs j) = false) →
    (∃ j, j < hs.length ∧ inDel at_ d (rdd zHeadS hs j) = true ∧ (∀ k, k < j → inDel at_ d (rdd zHeadS hs k) = false) ∧ L_z1r_0 FUEL kr kt hs ((hs.length : Nat) : Int) m (i : Int) at_ d = kr (j : Int) at_ d) ∨
    ((∀ j, j < hs.length → inDel at_ d (rdd zHeadS hs j) = false) ∧ L_z1r_0 FUEL kr kt hs ((hs.length : Nat) : Int) m (i : Int) at_ d = kt at_ d)
  | 0, _, _, h, _ => by omega
  | m + 1, i, hi, hm, hj => by
    have hL : L_z1r_0 FUEL kr kt hs ((hs.length : Nat) : Int) (m + 1) (i : Int) at_ d = F_z1r_0 FUEL kr kt hs ((hs.length : Nat) : Int) (L_z1r_0 FUEL kr kt hs ((hs.length : Nat) : Int) m) (i : Int) at_ d := rfl
    rw [hL]
    unfold F_z1r_0
    simp only [cond_dec]
    by_cases h : i < hs.length
    · have q := Q_del1 (rdd zHeadS hs i) at_ d hd
      rw [if_pos (by omega), if_pos ⟨by omega, by omega⟩]
      simp only [toNat_cast, ok_z1q, q_z1q, q, RS.get, Option.getD_some, Option.isSome_some, cond_true]
      cases hb : inDel at_ d (rdd zHeadS hs i) with
      | true => left; exact ⟨i, h, hb, hj, rfl⟩
      | false =>
        rw [cond_false, i64_succ (by omega)]
        refine L_idx kr kt hs at_ d hl hd m (i + 1) (by omega) (by omega) fun j hj' => ?_
        by_cases e : j = i
        · rw [e]; exact hb
        · exact hj j (by omega)
    · right
      rw [if_neg (by omega)]
      exact ⟨fun j hj' => hj j (by omega), rfl⟩
theorem filter_all {p : HeadS → Bool} : ∀ {l : List HeadS}, (∀ j, j < l.length → p (rdd zHeadS l j) = false) → l.filter (fun h => !p h) = l
  | [], _ => rfl
  | x :: r, h => by
    have h0 := h 0 (by simp)
    rw [rdd_lt (by simp)] at h0
    simp only [List.getElem_cons_zero] at h0
    rw [List.filter_cons, if_pos (by simp [h0]), filter_all fun j hj => by
      have := h (j + 1) (by simpa using hj)
      rw [rdd_lt (by simpa using hj)] at this
      rw [rdd_lt hj]
      simpa using this]
theorem take_filter_none {p : HeadS → Bool} {l : List HeadS} {i : Nat} (hi : i ≤ l.length) (h : ∀ j, j < i → p (rdd zHeadS l j) = false) : (l.take i).filter (fun h => !p h) = l.take i :=
  filter_all fun j hj => by
    rw [List.length_take] at hj
    have := h j (by omega)
    rw [rdd_lt (by omega)] at this
    rw [rdd_lt (by rw [List.length_take]; omega), List.getElem_take]
    exact this
/-- The loop that keeps some. -/
theorem L_keep (kk : Int → List HeadS → Int → Int → Option Res) (at_ d : Int) {hn : Nat} {hs : List HeadS} (hl : hs.length = hn) (hn6 : hn ≤ 1000000) (hd : -9223372036854775808 ≤ at_ + d ∧ at_ + d ≤ 9223372036854775807) : ∀ (m i w : Nat) (row : List HeadS), i ≤ hn → hn - i < m → hn ≤ row.length → w ≤ i → (row.drop i).take (hn - i) = hs.drop i → row.take w = (hs.take i).filter (fun h => !inDel at_ d h) →
    ∃ (row' : List HeadS) (w' : Nat), hn ≤ row'.length ∧ w' ≤ hn ∧ row'.take w' = hs.filter (fun h => !inDel at_ d h) ∧ L_z1s_0 FUEL kk hn m (w : Int) (i : Int) row at_ d = kk (w' : Int) row' at_ d
  | 0, _, _, _, _, h, _, _, _, _ => by omega
  | m + 1, i, w, row, hi, hm, hle, hwi, hrest, hkept => by
    have hL : L_z1s_0 FUEL kk hn (m + 1) (w : Int) (i : Int) row at_ d = F_z1s_0 FUEL kk hn (L_z1s_0 FUEL kk hn m) (w : Int) (i : Int) row at_ d := rfl
    rw [hL]
    unfold F_z1s_0
    simp only [cond_dec]
    by_cases h : i < hn
    · have hrd : rdd zHeadS row i = rdd zHeadS hs i := by
        have h1 : (row.drop i).take (hn - i) = rdd zHeadS hs i :: hs.drop (i + 1) := by rw [hrest, drop_rdd zHeadS (show i < hs.length by omega)]
        rw [drop_rdd zHeadS (show i < row.length by omega), show hn - i = (hn - (i + 1)) + 1 by omega, List.take_succ_cons] at h1
        exact (List.cons.inj h1).1
      have hnext : (row.drop (i + 1)).take (hn - (i + 1)) = hs.drop (i + 1) := by
        have h1 : (row.drop i).take (hn - i) = rdd zHeadS hs i :: hs.drop (i + 1) := by rw [hrest, drop_rdd zHeadS (show i < hs.length by omega)]
        rw [drop_rdd zHeadS (show i < row.length by omega), show hn - i = (hn - (i + 1)) + 1 by omega, List.take_succ_cons] at h1
        exact (List.cons.inj h1).2
      have q := Q_del1 (rdd zHeadS hs i) at_ d hd
      have htk : (hs.take (i + 1)).filter (fun h => !inDel at_ d h) = (hs.take i).filter (fun h => !inDel at_ d h) ++ if inDel at_ d (rdd zHeadS hs i) then [] else [rdd zHeadS hs i] := by
        rw [take_rdd zHeadS (show i < hs.length by omega), List.filter_append]
        congr 1
        cases hb : inDel at_ d (rdd zHeadS hs i) <;> simp [hb]
      rw [if_pos (by omega), if_pos ⟨by omega, by omega⟩]
      simp only [toNat_cast, hrd, ok_z1q, q_z1q, q, RS.get, Option.getD_some, Option.isSome_some, cond_true]
      rw [i64_succ (i := i) (by omega)]
      cases hb : inDel at_ d (rdd zHeadS hs i) with
      | true =>
        rw [hb] at htk
        simp only [Bool.not_true, cond_false]
        exact L_keep kk at_ d hl hn6 hd m (i + 1) w row (by omega) (by omega) hle (by omega) hnext (by rw [htk, hkept]; simp)
      | false =>
        rw [hb] at htk
        simp only [Bool.not_false, cond_true]
        rw [if_pos ⟨by omega, by omega⟩, i64_succ (i := w) (by omega)]
        refine L_keep kk at_ d hl hn6 hd m (i + 1) (w + 1) _ (by omega) (by omega) (by simpa using hle) (by omega) ?_ ?_
        · rw [List.drop_set_of_lt (by omega)]; exact hnext
        · rw [List.take_add_one, List.getElem?_set_self (by omega), htk, List.take_set_of_le (by omega), hkept]
          simp
    · rw [if_neg (by omega)]
      refine ⟨row, w, hle, by omega, ?_, rfl⟩
      rw [hkept, List.take_of_length_le (by omega)]
end Go.AMach

/- Layer 17: pack.Delete, Copy. -/
namespace Go.AMach
set_option linter.unusedVariables false
set_option linter.unusedSimpArgs false
set_option linter.unnecessarySimpa false
open Go
set_option linter.unusedVariables false

/-- Headers without those that begin in some bytes. -/
def keepH (at_ d : Int) (hs : List HeadS) : List HeadS := hs.filter fun h => !inDel at_ d h
theorem Q_delF {hn : Nat} {hrow hs : List HeadS} (V : Vw hn hrow hs) (hn6 : hn ≤ 1000000) (at_ d : Int) (hd : -9223372036854775808 ≤ at_ + d ∧ at_ + d ≤ 9223372036854775807) :
    ∃ row', Vw (keepH at_ d hs).length row' (keepH at_ d hs) ∧ Q_z1s hn hrow at_ d = some (((keepH at_ d hs).length, ()), (row', ((at_, ()), ((d, ()), ())))) := by
  have hl := V.len
  have hle := V.le
  rcases L_idx (fun y2 y3 y4 => some (encRes ro_z1r rh_z1r ((y2, ()), ((y3, ()), ((y4, ()), ()))))) (fun y5 y6 => some (encRes ro_z1r rh_z1r (((-1 : Int), ()), ((y5, ()), ((y6, ()), ()))))) hs at_ d (by omega) hd FUEL 0 (by omega) (by unfold FUEL; omega) (fun j hj => by omega) with ⟨j, h1, h2, h3, h4⟩ | ⟨h1, h2⟩
  · have qi : Q_z1r hs at_ d = some (((j : Int), ()), ((at_, ()), ((d, ()), ()))) := fin h4
    have hkf : (hs.take (j + 1)).filter (fun h => !inDel at_ d h) = hrow.take j := by
      rw [take_rdd zHeadS h1, List.filter_append, take_filter_none (by omega) h3, ← V.eq, List.take_take, Nat.min_eq_left (by omega)]
      simp only [List.filter_cons, List.filter_nil]
      rw [show rdd zHeadS (hrow.take hn) j = rdd zHeadS hs j by rw [V.eq], h2]
      simp
    obtain ⟨row', w', l1, l2, l3, l4⟩ := L_keep (fun y3 y4 y5 y6 => cond (decide ((0 : Int) ≤ y3 ∧ y3 ≤ ((hn : Nat) : Int) ∧ ((hn : Nat) : Int) ≤ ((hn : Nat) : Int) ∧ ((hn : Nat) : Int) ≤ ((hn : Nat) : Int)))
 (cond (decide ((0 + Int.toNat y3) + (Int.toNat ((hn : Nat) : Int) - Int.toNat y3) ≤ (List.length y4)))
 (cond (decide ((0 : Int) ≤ (0 : Int) ∧ (0 : Int) ≤ y3 ∧ y3 ≤ ((hn : Nat) : Int) ∧ ((hn : Nat) : Int) ≤ ((hn : Nat) : Int)))
 (some (encRes ro_z1s rh_z1s (((Int.toNat y3 - Int.toNat (0 : Int)), ()), (((cutL zHeadS y4 0 (0 + Int.toNat y3)) ++ ((mkL (Int.toNat ((hn : Nat) : Int) - Int.toNat y3) (fun _ => zHeadS)) ++ (cutL zHeadS y4 ((0 + Int.toNat y3) + (List.length (mkL (Int.toNat ((hn : Nat) : Int) - Int.toNat y3) (fun _ => zHeadS)))) ((List.length y4) - ((0 + Int.toNat y3) + (List.length (mkL (Int.toNat ((hn : Nat) : Int) - Int.toNat y3) (fun _ => zHeadS)))))))), ((y5, ()), ((y6, ()), ()))))))
 (none))
 (none))
 (none)) at_ d hl hn6 hd FUEL (j + 1) j hrow (by omega) (by unfold FUEL; omega) hle (by omega) (by
      rw [← List.drop_take, V.eq]) hkf.symm
    have hkl : (keepH at_ d hs).length = w' := by unfold keepH; rw [← l3, List.length_take]; omega
    rw [hkl]
    have hc0 : cutL zHeadS row' 0 w' = keepH at_ d hs := by rw [cutL_eq (by omega), List.drop_zero]; exact l3
    have d1 : decide ((0 : Int) ≤ (w' : Int) ∧ (w' : Int) ≤ ((hn : Nat) : Int) ∧ ((hn : Nat) : Int) ≤ ((hn : Nat) : Int) ∧ ((hn : Nat) : Int) ≤ ((hn : Nat) : Int)) = true := by rw [decide_eq_true_eq]; omega
    have d2 : decide (w' + (hn - w') ≤ row'.length) = true := by rw [decide_eq_true_eq]; omega
    have d3 : decide ((0 : Int) ≤ (0 : Int) ∧ (0 : Int) ≤ (w' : Int) ∧ (w' : Int) ≤ ((hn : Nat) : Int) ∧ ((hn : Nat) : Int) ≤ ((hn : Nat) : Int)) = true := by rw [decide_eq_true_eq]; omega
    refine ⟨keepH at_ d hs ++ (mkL (hn - w') (fun _ => zHeadS) ++ cutL zHeadS row' (w' + (mkL (hn - w') (fun _ => zHeadS)).length) (row'.length - (w' + (mkL (hn - w') (fun _ => zHeadS)).length))), ⟨by rw [List.length_append, hkl]; omega, by rw [← hkl, List.take_left]⟩, fin ?_⟩
    unfold M_z1s
    rw [V.all]
    extract_lets -merge +onlyGivenNames y1
    have e_y1 : y1 = _ := (congrArg RS.get (qi)).trans (get_some _)
    clear_value y1; subst e_y1
    refine stepC (qi) ?_
    refine stepF (beqF (show ((j : Nat) : Int) ≠ -1 by omega)) ?_
    show L_z1s_0 FUEL _ hn FUEL (j : Int) (IntKind.wrap .i64 ((j : Int) + 1)) hrow at_ d = _
    rw [i64_succ (by omega)]
    refine l4.trans ?_
    have t0 : Int.toNat (0 : Int) = 0 := rfl
    simp only [toNat_cast, t0, Nat.zero_add, Nat.sub_zero, d1, d2, d3, cond_true, hc0]
  · have qi : Q_z1r hs at_ d = some (((-1 : Int), ()), ((at_, ()), ((d, ()), ()))) := fin h2
    have hk : keepH at_ d hs = hs := filter_all h1
    rw [hk, hl]
    refine ⟨hrow, V, fin ?_⟩
    unfold M_z1s
    rw [V.all]
    extract_lets -merge +onlyGivenNames y1
    have e_y1 : y1 = _ := (congrArg RS.get (qi)).trans (get_some _)
    clear_value y1; subst e_y1
    refine stepC (qi) ?_
    refine stepT (rfl) ?_
    rfl

/-- Why bytes are not taken out. -/
def delWhy (hs : List HeadS) (b mt : List Int) (f : FieldS) (m : Int) : Int :=
  if (spotF hs b mt f).2 ≠ 0 then (spotF hs b mt f).2 else if 0 ≤ m ∧ m ≤ (b.length : Int) - (spotF hs b mt f).1 then 0 else 1
def delHs (hs : List HeadS) (k m : Int) : List HeadS := (keepH k m hs).map (mvH k (-m))
theorem delN {hs : List HeadS} {b mt : List Int} (N : PkN hs b mt) (k m : Nat) (hkm : k + m ≤ b.length) : PkN (delHs hs (k : Int) (m : Int)) (delB b k m) mt := by
  have hl := delB_length b k m hkm
  have hb : ∀ h ∈ delHs hs (k : Int) (m : Int), 0 ≤ h.2.1 ∧ h.2.1 ≤ ((delB b k m).length : Int) := fun h hh => by
    obtain ⟨x, hx, rfl⟩ := List.mem_map.1 hh
    obtain ⟨hx1, hx2⟩ := List.mem_filter.1 hx
    have h1 := N.ok.at_ x hx1
    have h2 := N.at_ x hx1
    rw [mvH_at, hl]
    unfold inDel at hx2
    by_cases c : x.2.1 ≥ (k : Int)
    · rw [if_pos c]
      rw [decide_eq_true c, Bool.true_and] at hx2
      have : ¬ x.2.1 < (k : Int) + (m : Int) := fun k' => by rw [decide_eq_true k'] at hx2; cases hx2
      omega
    · rw [if_neg c]; omega
  have hlen : (delHs hs (k : Int) (m : Int)).length ≤ hs.length := by unfold delHs keepH; rw [List.length_map]; exact List.length_filter_le _ _
  refine ⟨⟨delB_isB N.ok.bB _ _, N.ok.mB, by have := N.ok.bl; omega, N.ok.ml, by have := N.ok.hl; omega, fun h hh => ?_⟩, by have := N.long; omega, fun h hh => (hb h hh).2⟩
  have := hb h hh
  have := N.long
  omega

theorem Q_pDel {hn bn mn : Nat} {hrow : List HeadS} {brow mrow : List Int} {hs : List HeadS} {b mt : List Int} (K : PkV hn bn mn hrow brow mrow hs b mt) (N : PkN hs b mt) (pt : Int) (f : FieldS) (hf : FieldT.good f) (m : Int) (hm : -9223372036854775808 ≤ m ∧ m ≤ 9223372036854775807) :
    (delWhy hs b mt f m ≠ 0 → Q_z1t f m hn pt bn brow hrow mn mrow = some ((delWhy hs b mt f m, ()), pkV hn bn mn hrow brow mrow pt)) ∧
    (delWhy hs b mt f m = 0 → ∃ (hn' n' : Nat) (hrow' : List HeadS) (brow' : List Int), PkV hn' n' mn hrow' brow' mrow (delHs hs (spotF hs b mt f).1 m) (delB b (spotF hs b mt f).1.toNat m.toNat) mt ∧
      Q_z1t f m hn pt bn brow hrow mn mrow = some ((0, ()), pkV hn' n' mn hrow' brow' mrow pt)) := by
  have qs := Q_pSpotV K pt f hf
  have lb := K.vb.len
  have hbl := N.long
  unfold delWhy
  by_cases c1 : (spotF hs b mt f).2 ≠ 0
  · rw [if_pos c1]
    refine ⟨fun _ => fin ?_, fun h => absurd h c1⟩
    unfold M_z1t
    extract_lets -merge +onlyGivenNames y1
    have e_y1 : y1 = _ := (congrArg RS.get (qs)).trans (get_some _)
    clear_value y1; subst e_y1
    refine stepC (qs) ?_
    refine stepT (bne0 c1) ?_
    rfl
  rw [if_neg c1]
  have c1 : (spotF hs b mt f).2 = 0 := Classical.byContradiction c1
  have hsp := spotF_ok N c1
  rw [c1] at qs
  generalize hk : (spotF hs b mt f).1 = k0 at qs hsp
  obtain ⟨k, rfl⟩ : ∃ k : Nat, k0 = (k : Int) := ⟨k0.toNat, by omega⟩
  rw [toNat_cast]
  obtain ⟨d1, d2⟩ := Q_bDel K.vb k m (by omega) (by omega) (by omega)
  by_cases c2 : 0 ≤ m ∧ m ≤ (b.length : Int) - (k : Int)
  · rw [if_pos c2]
    refine ⟨fun h => absurd rfl h, fun _ => ?_⟩
    obtain ⟨d, rfl⟩ : ∃ d : Nat, m = (d : Int) := ⟨m.toNat, by omega⟩
    rw [toNat_cast]
    obtain ⟨brow', VB, qb⟩ := d2 d rfl (by omega)
    obtain ⟨hrow1, VH1, qh⟩ := Q_delF K.vh (by have := K.ok.hl; have := K.vh.len; omega) (k : Int) (d : Int) (by omega)
    have hat : ∀ h ∈ keepH (k : Int) (d : Int) hs, 0 ≤ h.2.1 ∧ h.2.1 ≤ 1000000 := fun h hh => K.ok.at_ h (List.mem_filter.1 hh).1
    have hlen : (keepH (k : Int) (d : Int) hs).length ≤ hs.length := List.length_filter_le _ _
    obtain ⟨hrow', VH, qm⟩ := Q_pMove VH1 (k : Int) (-(d : Int)) (by have := K.ok.hl; omega) hat (by omega) (bn - d) mn brow' mrow pt
    have N' := delN N k d (by omega)
    refine ⟨_, bn - d, hrow', brow', ⟨VH, VB, K.vm, N'.ok⟩, fin ?_⟩
    unfold M_z1t
    extract_lets -merge +onlyGivenNames y1
    have e_y1 : y1 = _ := (congrArg RS.get (qs)).trans (get_some _)
    clear_value y1; subst e_y1
    refine stepC (qs) ?_
    refine stepF (rfl) ?_
    extract_lets -merge +onlyGivenNames y2
    have e_y2 : y2 = _ := (congrArg RS.get (qb)).trans (get_some _)
    clear_value y2; subst e_y2
    refine stepC (qb) ?_
    refine stepF (rfl) ?_
    extract_lets -merge +onlyGivenNames y3
    have e_y3 : y3 = _ := (congrArg RS.get (qh)).trans (get_some _)
    clear_value y3; subst e_y3
    refine stepC (qh) ?_
    have e0 : IntKind.wrap .i64 (0 - (d : Int)) = -(d : Int) := by rw [IntWalk.i64_in _ (by omega)]; omega
    rw [← e0] at qm
    extract_lets -merge +onlyGivenNames y4
    have e_y4 : y4 = _ := (congrArg RS.get (qm)).trans (get_some _)
    clear_value y4; subst e_y4
    refine stepC (qm) ?_
    rfl
  · rw [if_neg c2]
    refine ⟨fun _ => fin ?_, fun h => by cases h⟩
    obtain ⟨e, he, qb⟩ := d1 (by omega)
    unfold M_z1t
    extract_lets -merge +onlyGivenNames y1
    have e_y1 : y1 = _ := (congrArg RS.get (qs)).trans (get_some _)
    clear_value y1; subst e_y1
    refine stepC (qs) ?_
    refine stepF (rfl) ?_
    extract_lets -merge +onlyGivenNames y2
    have e_y2 : y2 = _ := (congrArg RS.get (qb)).trans (get_some _)
    clear_value y2; subst e_y2
    refine stepC (qb) ?_
    refine stepT (bne0 he) ?_
    rfl

theorem Q_bCopyV {n : Nat} {row b : List Int} (V : Vw n row b) (hb : isB b) : Q_z1w n row = some (((), ()), ((n, ()), (row, ((b.length, ()), (b, ()))))) := by
  refine fin ?_
  unfold M_z1w
  rw [V.all, bytesOf_size, bytesL_bytesOf hb]
/-- A packet and its copy. -/
abbrev pk2 (x y : HK.sems rh_z17) : HK.sems rh_z1z := (x.1, (x.2.1, (x.2.2.1, (x.2.2.2.1, (x.2.2.2.2.1, (x.2.2.2.2.2.1, y))))))
theorem Q_pCopyV {hn bn mn : Nat} {hrow : List HeadS} {brow mrow : List Int} {hs : List HeadS} {b mt : List Int} (K : PkV hn bn mn hrow brow mrow hs b mt) (pt : Int) :
    Q_z1x hn pt bn brow hrow mn mrow = some (((), ()), pk2 (pkV hn bn mn hrow brow mrow pt) (pkV hs.length b.length mt.length hs b mt pt)) := by
  refine fin ?_
  unfold M_z1x
  rw [K.vh.all]
  extract_lets -merge +onlyGivenNames y1
  have e_y1 : y1 = _ := (congrArg RS.get (Q_bCopyV K.vb K.ok.bB)).trans (get_some _)
  clear_value y1; subst e_y1
  refine stepC (Q_bCopyV K.vb K.ok.bB) ?_
  extract_lets -merge +onlyGivenNames y2
  have e_y2 : y2 = _ := (congrArg RS.get (Q_clone hs K.ok.hl)).trans (get_some _)
  clear_value y2; subst e_y2
  refine stepC (Q_clone hs K.ok.hl) ?_
  extract_lets -merge +onlyGivenNames y3
  have e_y3 : y3 = _ := (congrArg RS.get (Q_bCopyV K.vm K.ok.mB)).trans (get_some _)
  clear_value y3; subst e_y3
  refine stepC (Q_bCopyV K.vm K.ok.mB) ?_
  rfl
theorem Q_pPortV (hn bn mn : Nat) (hrow : List HeadS) (brow mrow : List Int) (pt : Int) : Q_z15 hn pt bn brow hrow mn mrow = some ((pt, ()), pkV hn bn mn hrow brow mrow pt) := fin rfl
theorem bytesOf_beq {a b : List Int} (ha : isB a) (hb : isB b) : (ByteArray.toList (bytesOf a) == ByteArray.toList (bytesOf b)) = decide (a = b) := by
  rw [toList_beq]
  by_cases e : a = b
  · subst e; rw [decide_eq_true rfl, decide_eq_true rfl]
  · rw [decide_eq_false e, decide_eq_false fun k => e (by rw [← bytesL_bytesOf ha, ← bytesL_bytesOf hb, k])]
theorem Q_sameV {hn bn mn hn2 bn2 mn2 : Nat} {hrow hrow2 : List HeadS} {brow mrow brow2 mrow2 : List Int} {hs hs2 : List HeadS} {b mt b2 mt2 : List Int} (K : PkV hn bn mn hrow brow mrow hs b mt) (K2 : PkV hn2 bn2 mn2 hrow2 brow2 mrow2 hs2 b2 mt2) (pt pt2 : Int) :
    Q_z1z hn pt bn brow hrow mn mrow hn2 pt2 bn2 brow2 hrow2 mn2 mrow2 = some ((decide (b = b2) && decide (mt = mt2) && decide (pt = pt2) && decide (hs = hs2), ()), pk2 (pkV hn bn mn hrow brow mrow pt) (pkV hn2 bn2 mn2 hrow2 brow2 mrow2 pt2)) := by
  have hb1 := bytesOf_beq K.ok.bB K2.ok.bB
  have hb2 := bytesOf_beq K.ok.mB K2.ok.mB
  refine fin ?_
  unfold M_z1z
  extract_lets -merge +onlyGivenNames y1
  have e_y1 : y1 = _ := (congrArg RS.get (Q_pTextV K pt)).trans (get_some _)
  clear_value y1; subst e_y1
  refine stepC (Q_pTextV K pt) ?_
  extract_lets -merge +onlyGivenNames y2
  have e_y2 : y2 = _ := (congrArg RS.get (Q_pTextV K2 pt2)).trans (get_some _)
  clear_value y2; subst e_y2
  refine stepC (Q_pTextV K2 pt2) ?_
  by_cases e1 : b = b2
  · refine stepT (hb1.trans (decide_eq_true e1)) ?_
    extract_lets -merge +onlyGivenNames y3
    have e_y3 : y3 = _ := (congrArg RS.get (Q_pMetaV K pt)).trans (get_some _)
    clear_value y3; subst e_y3
    refine stepC (Q_pMetaV K pt) ?_
    extract_lets -merge +onlyGivenNames y4
    have e_y4 : y4 = _ := (congrArg RS.get (Q_pMetaV K2 pt2)).trans (get_some _)
    clear_value y4; subst e_y4
    refine stepC (Q_pMetaV K2 pt2) ?_
    by_cases e2 : mt = mt2
    · refine stepT (hb2.trans (decide_eq_true e2)) ?_
      extract_lets -merge +onlyGivenNames y5
      have e_y5 : y5 = _ := (congrArg RS.get (Q_pPortV hn bn mn hrow brow mrow pt)).trans (get_some _)
      clear_value y5; subst e_y5
      refine stepC (Q_pPortV hn bn mn hrow brow mrow pt) ?_
      extract_lets -merge +onlyGivenNames y6
      have e_y6 : y6 = _ := (congrArg RS.get (Q_pPortV hn2 bn2 mn2 hrow2 brow2 mrow2 pt2)).trans (get_some _)
      clear_value y6; subst e_y6
      refine stepC (Q_pPortV hn2 bn2 mn2 hrow2 brow2 mrow2 pt2) ?_
      by_cases e3 : pt = pt2
      · refine stepT (beqT e3) ?_
        extract_lets -merge +onlyGivenNames y7
        have e_y7 : y7 = _ := (congrArg RS.get (Q_pHeadsV K pt)).trans (get_some _)
        clear_value y7; subst e_y7
        refine stepC (Q_pHeadsV K pt) ?_
        extract_lets -merge +onlyGivenNames y8
        have e_y8 : y8 = _ := (congrArg RS.get (Q_pHeadsV K2 pt2)).trans (get_some _)
        clear_value y8; subst e_y8
        refine stepC (Q_pHeadsV K2 pt2) ?_
        have c1 := cutL_all zHeadS hs
        have c2 := cutL_all zHeadS hs2
        have qh : Q_z14 (cutL zHeadS hs 0 hs.length) (cutL zHeadS hs2 0 hs2.length) = some ((decide (hs = hs2), ()), ()) := by rw [c1, c2]; exact Q_hEq hs hs2 K.ok.hl
        extract_lets -merge +onlyGivenNames y9
        have e_y9 : y9 = _ := (congrArg RS.get (qh)).trans (get_some _)
        clear_value y9; subst e_y9
        refine stepC (qh) ?_
        rw [decide_eq_true e1, decide_eq_true e2, decide_eq_true e3]
        rfl
      · refine stepF (beqF e3) ?_
        rw [decide_eq_true e1, decide_eq_true e2, decide_eq_false e3]
        rfl
    · refine stepF (hb2.trans (decide_eq_false e2)) ?_
      rw [decide_eq_true e1, decide_eq_false e2]
      rfl
  · refine stepF (hb1.trans (decide_eq_false e1)) ?_
    rw [decide_eq_false e1]
    rfl
end Go.AMach

/- Layer 17: Sum for views; an act. -/
namespace Go.AMach
set_option linter.unusedVariables false
set_option linter.unusedSimpArgs false
set_option linter.unnecessarySimpa false
open Go
set_option linter.unusedVariables false

theorem Q_bSumV {n : Nat} {row b : List Int} (V : Vw n row b) (hb : isB b) (hl : n ≤ 1000000) (k : Nat) (hk : k ≤ n) (m : Int) (hm2 : m ≤ 9223372036854775807) :
    (¬ (0 ≤ m ∧ m ≤ (n : Int) - k) → ∃ e, e ≠ 0 ∧ Q_z26 (k : Int) m n row = some (((0, (e, ())), ((n, ()), (row, ()))))) ∧
    (∀ d : Nat, m = (d : Int) → k + d ≤ n → Q_z26 (k : Int) m n row = some ((((foldV (ws true (natL ((b.drop k).take d))) : Nat) : Int), (0, ())), ((n, ()), (row, ())))) := by
  have hbl := V.len
  have hle := V.le
  refine ⟨fun hbad => ?_, fun d hd hkd => ?_⟩
  · by_cases h0 : m < 0
    · refine ⟨1, by decide, fin ?_⟩
      have qo : Q_z1j (k : Int) m n row = some ((1, ()), ((n, ()), (row, ()))) := by
        refine fin ?_
        unfold M_z1j
        simp only [cond_dec]
        rw [if_neg (by omega), if_pos h0]
      unfold M_z26
      extract_lets -merge +onlyGivenNames y1
      have e_y1 : y1 = _ := (congrArg RS.get (qo)).trans (get_some _)
      clear_value y1; subst e_y1
      refine stepC (qo) ?_
      refine stepT (rfl) ?_
      rfl
    · refine ⟨4, by decide, fin ?_⟩
      have qo := Q_bOff (k : Int) m n row (by omega) (by omega) hl hm2
      rw [if_pos (by omega)] at qo
      unfold M_z26
      extract_lets -merge +onlyGivenNames y1
      have e_y1 : y1 = _ := (congrArg RS.get (qo)).trans (get_some _)
      clear_value y1; subst e_y1
      refine stepC (qo) ?_
      refine stepT (rfl) ?_
      rfl
  · subst hd
    have qo := Q_bOff (k : Int) (d : Int) n row (by omega) (by omega) hl hm2
    rw [if_neg (by omega)] at qo
    refine fin ?_
    unfold M_z26
    have e : IntKind.wrap .i64 ((k : Int) + (d : Int)) = ((k + d : Nat) : Int) := by rw [IntWalk.i64_in _ (by omega)]; omega
    have hc : cutL (0 : Int) row (0 + k) (k + d - k) = (b.drop k).take d := by rw [V.cut (by omega), cutL_eq (by omega), Nat.zero_add, Nat.add_sub_cancel_left]
    have hB : isB ((b.drop k).take d) := fun x hx => hb x (List.mem_of_mem_drop (List.mem_of_mem_take hx))
    have hl2 : ((b.drop k).take d).length = d := by rw [List.length_take, List.length_drop]; omega
    have dd : decide ((0 : Int) ≤ (k : Int) ∧ (k : Int) ≤ ((k + d : Nat) : Int) ∧ ((k + d : Nat) : Int) ≤ ((n : Nat) : Int) ∧ ((n : Nat) : Int) ≤ ((n : Nat) : Int)) = true := by rw [decide_eq_true_eq]; omega
    have qs := Q_Sum1 _ (show (bytesOf ((b.drop k).take d)).size ≤ 1000000 by rw [bytesOf_size, hl2]; omega)
    rw [nats_bytesOf hB] at qs
    extract_lets -merge +onlyGivenNames y1
    have e_y1 : y1 = _ := (congrArg RS.get (qo)).trans (get_some _)
    clear_value y1; subst e_y1
    refine stepC (qo) ?_
    refine stepF (rfl) ?_
    rw [e, toNat_cast, toNat_cast]
    refine stepT dd ?_
    extract_lets -merge +onlyGivenNames y2
    have e_y2 : y2 = (bytesOf ((b.drop k).take d)) := (by show bytesOf (cutL (0 : Int) row (0 + k) (k + d - k)) = _; rw [hc])
    clear_value y2; subst e_y2
    extract_lets -merge +onlyGivenNames y3
    have e_y3 : y3 = _ := (congrArg RS.get (qs)).trans (get_some _)
    clear_value y3; subst e_y3
    refine stepC (qs) ?_
    rfl

/-- A checksum written: why not; the bytes, the metadata. -/
def sumF (hs : List HeadS) (b mt : List Int) (to fr : FieldS) (m : Int) : Int × (List Int × List Int) :=
  if (spotF hs b mt fr).2 ≠ 0 then ((spotF hs b mt fr).2, (b, mt)) else
  if ¬ (0 ≤ (if m = 0 then (b.length : Int) - (spotF hs b mt fr).1 else m) ∧ (if m = 0 then (b.length : Int) - (spotF hs b mt fr).1 else m) ≤ (b.length : Int) - (spotF hs b mt fr).1) then (1, (b, mt)) else
  if (putF hs b mt to 0).1 ≠ 0 then ((putF hs b mt to 0).1, (b, mt)) else
  putF hs (putF hs b mt to 0).2.1 (putF hs b mt to 0).2.2 to (65535 - foldV (ws true (natL (((putF hs b mt to 0).2.1.drop (spotF hs b mt fr).1.toNat).take (if m = 0 then (b.length : Int) - (spotF hs b mt fr).1 else m).toNat))))
theorem putF_why2 (hs : List HeadS) {b mt b' mt' : List Int} (f : FieldS) (v v' : Nat) (h1 : b'.length = b.length) (h2 : mt'.length = mt.length) : (putF hs b' mt' f v').1 = (putF hs b mt f v).1 := by
  have hg : ∀ {c c' : List Int} (x w : Int), c'.length = c.length → (getB c' x w).isSome = (getB c x w).isSome := fun x w e => by unfold getB; rw [e]; split <;> rfl
  unfold putF
  cases hw : whereF hs b mt f with
  | none =>
    have : whereF hs b' mt' f = none := by
      unfold whereF at hw ⊢
      split at hw
      · cases hw
      · rename_i c1
        rw [if_neg c1]
        split at hw
        · cases hw
        · rename_i c3
          rw [if_neg c3]
          split at hw
          · rename_i c2
            rw [if_pos c2]
            cases ha : atOf hs f.2.2.1 with
            | none => rfl
            | some a => rw [ha] at hw; cases hw
          · rename_i c2
            rw [if_neg c2]
    rw [this]
  | some ca =>
    obtain ⟨c, a⟩ := ca
    rw [where_put hw]
    have hc : (if f.2.1 = 3 then mt' else b').length = c.length := by
      rcases where_in hw with ⟨c3, rfl, _⟩ | ⟨c3, rfl, _⟩
      · rw [if_pos c3]; exact h2
      · rw [if_neg c3]; exact h1
    simp only
    rw [hg _ _ hc]
    split <;> rfl

theorem Q_pSumV {hn bn mn : Nat} {hrow : List HeadS} {brow mrow : List Int} {hs : List HeadS} {b mt : List Int} (K : PkV hn bn mn hrow brow mrow hs b mt) (N : PkN hs b mt) (pt : Int) (to fr : FieldS) (ht : FieldT.good to) (hf : FieldT.good fr) (m : Int) (hm : -9223372036854775808 ≤ m ∧ m ≤ 9223372036854775807) :
    ∃ brow' mrow', PkV hn bn mn hrow brow' mrow' hs (sumF hs b mt to fr m).2.1 (sumF hs b mt to fr m).2.2 ∧
      Q_z27 to fr m hn pt bn brow hrow mn mrow = some (((sumF hs b mt to fr m).1, ()), pkV hn bn mn hrow brow' mrow' pt) := by
  have qs := Q_pSpotV K pt fr hf
  have lb := K.vb.len
  have hbl := N.long
  by_cases c1 : (spotF hs b mt fr).2 ≠ 0
  · have e : sumF hs b mt to fr m = ((spotF hs b mt fr).2, (b, mt)) := by unfold sumF; rw [if_pos c1]
    rw [e]
    refine ⟨brow, mrow, K, fin ?_⟩
    unfold M_z27
    extract_lets -merge +onlyGivenNames y1
    have e_y1 : y1 = _ := (congrArg RS.get (qs)).trans (get_some _)
    clear_value y1; subst e_y1
    refine stepC (qs) ?_
    refine stepT (bne0 c1) ?_
    rfl
  have c1' : (spotF hs b mt fr).2 = 0 := Classical.byContradiction c1
  have hsp := spotF_ok N c1'
  have hS : sumF hs b mt to fr m = (if ¬ (0 ≤ (if m = 0 then (b.length : Int) - (spotF hs b mt fr).1 else m) ∧ (if m = 0 then (b.length : Int) - (spotF hs b mt fr).1 else m) ≤ (b.length : Int) - (spotF hs b mt fr).1) then (1, (b, mt)) else
  if (putF hs b mt to 0).1 ≠ 0 then ((putF hs b mt to 0).1, (b, mt)) else
  putF hs (putF hs b mt to 0).2.1 (putF hs b mt to 0).2.2 to (65535 - foldV (ws true (natL (((putF hs b mt to 0).2.1.drop (spotF hs b mt fr).1.toNat).take (if m = 0 then (b.length : Int) - (spotF hs b mt fr).1 else m).toNat))))) := by
    unfold sumF; rw [if_neg c1]
  rw [hS]
  rw [c1'] at qs
  generalize hk : (spotF hs b mt fr).1 = k0 at qs hsp
  obtain ⟨k, rfl⟩ : ∃ k : Nat, k0 = (k : Int) := ⟨k0.toNat, by omega⟩
  rw [toNat_cast]
  generalize hm' : (if m = 0 then (b.length : Int) - (k : Int) else m) = m'
  have hm2 : m' ≤ 9223372036854775807 := by rw [← hm']; split <;> omega
  obtain ⟨s1, s2⟩ := Q_bSumV K.vb K.ok.bB (by omega) k (by omega) m' hm2
  have hw0 : (((0 : Int), ((0 : Int), ())) : WordS) = wN 0 := rfl
  have ewr : m = 0 → IntKind.wrap .i64 (((bn : Nat) : Int) - (k : Int)) = m' := fun h0 => by rw [← hm', if_pos h0, IntWalk.i64_in _ (by omega)]; omega
  by_cases c2 : 0 ≤ m' ∧ m' ≤ (b.length : Int) - (k : Int)
  · rw [if_neg (not_not_intro c2)]
    obtain ⟨d, rfl⟩ : ∃ d : Nat, m' = (d : Int) := ⟨m'.toNat, by omega⟩
    rw [toNat_cast]
    have q1 := s2 d rfl (by omega)
    obtain ⟨br1, mr1, K1, q2⟩ := Q_pPutV K pt to ht 0 (by decide)
    obtain ⟨l1, l2⟩ := putF_len hs b mt to 0
    by_cases c3 : (putF hs b mt to 0).1 ≠ 0
    · rw [if_pos c3]
      have := putF_no c3
      rw [this] at K1
      refine ⟨br1, mr1, K1, fin ?_⟩
      unfold M_z27
      extract_lets -merge +onlyGivenNames y1
      have e_y1 : y1 = _ := (congrArg RS.get (qs)).trans (get_some _)
      clear_value y1; subst e_y1
      refine stepC (qs) ?_
      refine stepF (rfl) ?_
      by_cases h0 : m = 0
      · refine stepT (beqT h0) ?_
        extract_lets -merge +onlyGivenNames y2
        have e_y2 : y2 = _ := (congrArg RS.get (Q_pLenV hn bn mn hrow brow mrow pt)).trans (get_some _)
        clear_value y2; subst e_y2
        refine stepC (Q_pLenV hn bn mn hrow brow mrow pt) ?_
        rw [show IntKind.wrap .i64 (_ - _) = (d : Int) from ewr h0]
        extract_lets -merge +onlyGivenNames y3
        have e_y3 : y3 = _ := (congrArg RS.get (q1)).trans (get_some _)
        clear_value y3; subst e_y3
        refine stepC (q1) ?_
        refine stepF (rfl) ?_
        extract_lets -merge +onlyGivenNames y4
        have e_y4 : y4 = _ := (congrArg RS.get (q2)).trans (get_some _)
        clear_value y4; subst e_y4
        refine stepC (q2) ?_
        refine stepT (bne0 c3) ?_
        rfl
      · refine stepF (beqF h0) ?_
        rw [if_neg h0] at hm'
        rw [hm']
        extract_lets -merge +onlyGivenNames y9
        have e_y9 : y9 = _ := (congrArg RS.get (q1)).trans (get_some _)
        clear_value y9; subst e_y9
        refine stepC (q1) ?_
        refine stepF (rfl) ?_
        extract_lets -merge +onlyGivenNames y10
        have e_y10 : y10 = _ := (congrArg RS.get (q2)).trans (get_some _)
        clear_value y10; subst e_y10
        refine stepC (q2) ?_
        refine stepT (bne0 c3) ?_
        rfl
    rw [if_neg c3]
    have c3 : (putF hs b mt to 0).1 = 0 := Classical.byContradiction c3
    rw [c3] at q2
    obtain ⟨_, s2⟩ := Q_bSumV K1.vb K1.ok.bB (by omega) k (by omega) (d : Int) (by omega)
    have q3 := s2 d rfl (by omega)
    generalize hc : foldV (ws true (natL (((putF hs b mt to 0).2.1.drop k).take d))) = c at q3
    have hcl : c ≤ 65535 := by rw [← hc]; exact foldV_le _
    obtain ⟨br2, mr2, K2, q4⟩ := Q_pPutV K1 pt to ht (65535 - c) (by omega)
    have hw : (((0 : Int), (((65535 - c : Nat) : Int), ())) : WordS) = wN (65535 - c) := by
      unfold wN W2
      rw [Nat.div_eq_of_lt (by omega), Nat.mod_eq_of_lt (by omega)]; rfl
    have hu : IntKind.wrap .u64 ((65535 - c : Nat) : Int) = ((65535 - c : Nat) : Int) := u64_in _ (by omega)
    have qn : Q_z0k ((65535 - c : Nat) : Int) = some ((wN (65535 - c), ()), ()) := by rw [← hw]; exact Q_New _
    refine ⟨br2, mr2, K2, fin ?_⟩
    unfold M_z27
    extract_lets -merge +onlyGivenNames y1
    have e_y1 : y1 = _ := (congrArg RS.get (qs)).trans (get_some _)
    clear_value y1; subst e_y1
    refine stepC (qs) ?_
    refine stepF (rfl) ?_
    by_cases h0 : m = 0
    · refine stepT (beqT h0) ?_
      extract_lets -merge +onlyGivenNames y2
      have e_y2 : y2 = _ := (congrArg RS.get (Q_pLenV hn bn mn hrow brow mrow pt)).trans (get_some _)
      clear_value y2; subst e_y2
      refine stepC (Q_pLenV hn bn mn hrow brow mrow pt) ?_
      rw [show IntKind.wrap .i64 (_ - _) = (d : Int) from ewr h0]
      extract_lets -merge +onlyGivenNames y3
      have e_y3 : y3 = _ := (congrArg RS.get (q1)).trans (get_some _)
      clear_value y3; subst e_y3
      refine stepC (q1) ?_
      refine stepF (rfl) ?_
      extract_lets -merge +onlyGivenNames y4
      have e_y4 : y4 = _ := (congrArg RS.get (q2)).trans (get_some _)
      clear_value y4; subst e_y4
      refine stepC (q2) ?_
      refine stepF (rfl) ?_
      extract_lets -merge +onlyGivenNames y5
      have e_y5 : y5 = _ := (congrArg RS.get (q3)).trans (get_some _)
      clear_value y5; subst e_y5
      refine stepC (q3) ?_
      extract_lets -merge +onlyGivenNames y6
      have e_y6 : y6 = ((65535 - c : Nat) : Int) := (not16 c hcl)
      clear_value y6; subst e_y6
      rw [hu]
      extract_lets -merge +onlyGivenNames y7
      have e_y7 : y7 = _ := (congrArg RS.get (qn)).trans (get_some _)
      clear_value y7; subst e_y7
      refine stepC (qn) ?_
      extract_lets -merge +onlyGivenNames y8
      have e_y8 : y8 = _ := (congrArg RS.get (q4)).trans (get_some _)
      clear_value y8; subst e_y8
      refine stepC (q4) ?_
      rfl
    · refine stepF (beqF h0) ?_
      rw [if_neg h0] at hm'
      rw [hm']
      extract_lets -merge +onlyGivenNames y9
      have e_y9 : y9 = _ := (congrArg RS.get (q1)).trans (get_some _)
      clear_value y9; subst e_y9
      refine stepC (q1) ?_
      refine stepF (rfl) ?_
      extract_lets -merge +onlyGivenNames y10
      have e_y10 : y10 = _ := (congrArg RS.get (q2)).trans (get_some _)
      clear_value y10; subst e_y10
      refine stepC (q2) ?_
      refine stepF (rfl) ?_
      extract_lets -merge +onlyGivenNames y11
      have e_y11 : y11 = _ := (congrArg RS.get (q3)).trans (get_some _)
      clear_value y11; subst e_y11
      refine stepC (q3) ?_
      extract_lets -merge +onlyGivenNames y12
      have e_y12 : y12 = ((65535 - c : Nat) : Int) := (not16 c hcl)
      clear_value y12; subst e_y12
      rw [hu]
      extract_lets -merge +onlyGivenNames y13
      have e_y13 : y13 = _ := (congrArg RS.get (qn)).trans (get_some _)
      clear_value y13; subst e_y13
      refine stepC (qn) ?_
      extract_lets -merge +onlyGivenNames y14
      have e_y14 : y14 = _ := (congrArg RS.get (q4)).trans (get_some _)
      clear_value y14; subst e_y14
      refine stepC (q4) ?_
      rfl
  · rw [if_pos c2]
    obtain ⟨e, he, q1⟩ := s1 (by omega)
    refine ⟨brow, mrow, K, fin ?_⟩
    unfold M_z27
    extract_lets -merge +onlyGivenNames y1
    have e_y1 : y1 = _ := (congrArg RS.get (qs)).trans (get_some _)
    clear_value y1; subst e_y1
    refine stepC (qs) ?_
    refine stepF (rfl) ?_
    by_cases h0 : m = 0
    · refine stepT (beqT h0) ?_
      extract_lets -merge +onlyGivenNames y2
      have e_y2 : y2 = _ := (congrArg RS.get (Q_pLenV hn bn mn hrow brow mrow pt)).trans (get_some _)
      clear_value y2; subst e_y2
      refine stepC (Q_pLenV hn bn mn hrow brow mrow pt) ?_
      rw [show IntKind.wrap .i64 (_ - _) = m' from ewr h0]
      extract_lets -merge +onlyGivenNames y3
      have e_y3 : y3 = _ := (congrArg RS.get (q1)).trans (get_some _)
      clear_value y3; subst e_y3
      refine stepC (q1) ?_
      refine stepT (bne0 he) ?_
      rfl
    · refine stepF (beqF h0) ?_
      rw [if_neg h0] at hm'
      rw [hm']
      extract_lets -merge +onlyGivenNames y9
      have e_y9 : y9 = _ := (congrArg RS.get (q1)).trans (get_some _)
      clear_value y9; subst e_y9
      refine stepC (q1) ?_
      refine stepT (bne0 he) ?_
      rfl
end Go.AMach

/- Layer 17: an act; PackStays. -/
namespace Go.AMach
set_option linter.unusedVariables false
set_option linter.unusedSimpArgs false
set_option linter.unnecessarySimpa false
open Go
set_option linter.unusedVariables false

abbrev PkA := List HeadS × (List Int × List Int)
def whyE (x : Except Int Nat) : Int := match x with
  | .ok _ => 0
  | .error e => e
/-- A word's number. -/
def wv (w : WordS) : Nat := w.1.toNat * 18446744073709551616 + w.2.1.toNat
theorem wv_ok {w : WordS} (h : WordT.good w) : w = wN (wv w) ∧ wv w < 340282366920938463463374607431768211456 := by
  obtain ⟨h1, h2, _⟩ := h
  have r1 := wf_u64 h1
  have r2 := wf_u64 h2
  refine ⟨?_, by unfold wv; omega⟩
  rw [show wv w = w.1.toNat * 18446744073709551616 + w.2.1.toNat from rfl, ← wN_of _ _ (by omega)]
  unfold W2
  rw [show ((w.1.toNat : Nat) : Int) = w.1 by omega, show ((w.2.1.toNat : Nat) : Int) = w.2.1 by omega]
/-- What an act comes to. -/
def actV (a : ActS) (x : PkA) : Int × PkA :=
  if a.1 = 0 then (whyE (getF x.1 x.2.1 x.2.2 a.2.1), x)
  else if a.1 = 1 then ((putF x.1 x.2.1 x.2.2 a.2.1 (wv a.2.2.2.2.1)).1, (x.1, (putF x.1 x.2.1 x.2.2 a.2.1 (wv a.2.2.2.2.1)).2))
  else if a.1 = 2 then
    if insWhy x.1 x.2.1 x.2.2 a.2.1 a.2.2.2.1 ≠ 0 then (insWhy x.1 x.2.1 x.2.2 a.2.1 a.2.2.2.1, x)
    else (0, (x.1.map (mvH (spotF x.1 x.2.1 x.2.2 a.2.1).1 a.2.2.2.1), (insB x.2.1 (spotF x.1 x.2.1 x.2.2 a.2.1).1.toNat a.2.2.2.1.toNat, x.2.2)))
  else if a.1 = 3 then
    if delWhy x.1 x.2.1 x.2.2 a.2.1 a.2.2.2.1 ≠ 0 then (delWhy x.1 x.2.1 x.2.2 a.2.1 a.2.2.2.1, x)
    else (0, (delHs x.1 (spotF x.1 x.2.1 x.2.2 a.2.1).1 a.2.2.2.1, (delB x.2.1 (spotF x.1 x.2.1 x.2.2 a.2.1).1.toNat a.2.2.2.1.toNat, x.2.2)))
  else ((sumF x.1 x.2.1 x.2.2 a.2.1 a.2.2.1 a.2.2.2.1).1, (x.1, (sumF x.1 x.2.1 x.2.2 a.2.1 a.2.2.1 a.2.2.2.1).2))

theorem putF_N {hs : List HeadS} {b mt : List Int} (N : PkN hs b mt) (f : FieldS) (v : Nat) : PkN hs (putF hs b mt f v).2.1 (putF hs b mt f v).2.2 := by
  obtain ⟨l1, l2⟩ := putF_len hs b mt f v
  exact ⟨putF_ok N.ok f v, by rw [l1]; exact N.long, fun h hh => by rw [l1]; exact N.at_ h hh⟩
theorem sumF_N {hs : List HeadS} {b mt : List Int} (N : PkN hs b mt) (t f : FieldS) (m : Int) : PkN hs (sumF hs b mt t f m).2.1 (sumF hs b mt t f m).2.2 := by
  unfold sumF
  by_cases c1 : (spotF hs b mt f).2 ≠ 0
  · rw [if_pos c1]; exact N
  rw [if_neg c1]
  generalize (if m = 0 then (b.length : Int) - (spotF hs b mt f).1 else m) = m'
  split
  · exact N
  split
  · exact N
  exact putF_N (putF_N N t 0) t _
theorem spotF_why {hs : List HeadS} {b mt : List Int} (f : FieldS) : (spotF hs b mt f).2 = 0 ∨ (spotF hs b mt f).2 = 1 ∨ (spotF hs b mt f).2 = 3 := by
  unfold spotF
  split
  · exact .inr (.inr rfl)
  unfold atF
  split
  · exact .inr (.inr rfl)
  unfold atV
  split
  · exact .inr (.inl rfl)
  split
  · exact .inr (.inl rfl)
  · exact .inl rfl
theorem getF_why {hs : List HeadS} {b mt : List Int} (f : FieldS) : whyE (getF hs b mt f) = 0 ∨ whyE (getF hs b mt f) = 1 ∨ whyE (getF hs b mt f) = 3 := by
  unfold getF
  split
  · exact .inr (.inr rfl)
  split
  · exact .inr (.inl rfl)
  · exact .inl rfl
theorem putF_why3 {hs : List HeadS} {b mt : List Int} (f : FieldS) (v : Nat) : (putF hs b mt f v).1 = 0 ∨ (putF hs b mt f v).1 = 1 ∨ (putF hs b mt f v).1 = 3 := by
  unfold putF
  split
  · exact .inr (.inr rfl)
  split
  · exact .inl rfl
  · exact .inr (.inl rfl)
theorem sumF_why {hs : List HeadS} {b mt : List Int} (t f : FieldS) (m : Int) : ((sumF hs b mt t f m).1 = 0 ∨ (sumF hs b mt t f m).1 = 1 ∨ (sumF hs b mt t f m).1 = 3) ∧ ((sumF hs b mt t f m).1 ≠ 0 → (sumF hs b mt t f m).2 = (b, mt)) := by
  unfold sumF
  by_cases c1 : (spotF hs b mt f).2 ≠ 0
  · rw [if_pos c1]; exact ⟨spotF_why f, fun _ => rfl⟩
  rw [if_neg c1]
  generalize (if m = 0 then (b.length : Int) - (spotF hs b mt f).1 else m) = m'
  split
  · exact ⟨.inr (.inl rfl), fun _ => rfl⟩
  split
  · exact ⟨putF_why3 t 0, fun _ => rfl⟩
  · rename_i c3
    have c3 : (putF hs b mt t 0).1 = 0 := Classical.byContradiction c3
    obtain ⟨l1, l2⟩ := putF_len hs b mt t 0
    have e : ∀ v, (putF hs (putF hs b mt t 0).2.1 (putF hs b mt t 0).2.2 t v).1 = 0 := fun v => by rw [putF_why2 hs (b := b) (mt := mt) t 0 v l1 l2, c3]
    exact ⟨.inl (e _), fun k => absurd (e _) k⟩
theorem actV_N {x : PkA} (N : PkN x.1 x.2.1 x.2.2) (a : ActS) : PkN (actV a x).2.1 (actV a x).2.2.1 (actV a x).2.2.2 := by
  unfold actV
  split
  · exact N
  split
  · exact putF_N N _ _
  split
  · split
    · exact N
    · rename_i h
      have h : insWhy x.1 x.2.1 x.2.2 a.2.1 a.2.2.2.1 = 0 := Classical.byContradiction h
      have hs : (spotF x.1 x.2.1 x.2.2 a.2.1).2 = 0 := Classical.byContradiction fun k => by unfold insWhy at h; rw [if_pos k] at h; exact k h
      have hk := spotF_ok N hs
      unfold insWhy at h
      rw [if_neg (not_not_intro hs)] at h
      by_cases c2 : a.2.2.2.1 < 0
      · rw [if_pos c2] at h; cases h
      rw [if_neg c2] at h
      by_cases c3 : a.2.2.2.1 > 9216 - (x.2.1.length : Int)
      · rw [if_pos c3] at h; cases h
      have := insN N (spotF x.1 x.2.1 x.2.2 a.2.1).1.toNat a.2.2.2.1 (by omega) (by omega) (by omega)
      rw [show (((spotF x.1 x.2.1 x.2.2 a.2.1).1.toNat : Nat) : Int) = (spotF x.1 x.2.1 x.2.2 a.2.1).1 by omega] at this
      exact this
  split
  · split
    · exact N
    · rename_i h
      have h : delWhy x.1 x.2.1 x.2.2 a.2.1 a.2.2.2.1 = 0 := Classical.byContradiction h
      have hs : (spotF x.1 x.2.1 x.2.2 a.2.1).2 = 0 := Classical.byContradiction fun k => by unfold delWhy at h; rw [if_pos k] at h; exact k h
      have hk := spotF_ok N hs
      unfold delWhy at h
      rw [if_neg (not_not_intro hs)] at h
      by_cases c2 : 0 ≤ a.2.2.2.1 ∧ a.2.2.2.1 ≤ (x.2.1.length : Int) - (spotF x.1 x.2.1 x.2.2 a.2.1).1
      · have := delN N (spotF x.1 x.2.1 x.2.2 a.2.1).1.toNat a.2.2.2.1.toNat (by omega)
        rw [show (((spotF x.1 x.2.1 x.2.2 a.2.1).1.toNat : Nat) : Int) = (spotF x.1 x.2.1 x.2.2 a.2.1).1 by omega, show ((a.2.2.2.1.toNat : Nat) : Int) = a.2.2.2.1 by omega] at this
        exact this
      · rw [if_neg c2] at h; cases h
  · exact sumF_N N _ _ _
theorem actV_why (a : ActS) (x : PkA) : ((actV a x).1 = 0 ∨ (actV a x).1 = 1 ∨ (actV a x).1 = 2 ∨ (actV a x).1 = 3) ∧ ((actV a x).1 ≠ 0 ∨ a.1 = 0 → (actV a x).2 = x) := by
  unfold actV
  split
  · refine ⟨?_, fun _ => rfl⟩
    rcases getF_why (hs := x.1) (b := x.2.1) (mt := x.2.2) a.2.1 with h | h | h <;> simp [h]
  rename_i c0
  split
  · refine ⟨?_, fun k => ?_⟩
    · rcases putF_why3 (hs := x.1) (b := x.2.1) (mt := x.2.2) a.2.1 (wv a.2.2.2.2.1) with h | h | h <;> simp [h]
    · rcases k with k | k
      · show (x.1, (putF x.1 x.2.1 x.2.2 a.2.1 (wv a.2.2.2.2.1)).2) = x
        rw [putF_no k]
      · exact absurd k c0
  split
  · split
    · rename_i h
      refine ⟨?_, fun _ => rfl⟩
      simp only
      unfold insWhy
      split
      · rcases spotF_why (hs := x.1) (b := x.2.1) (mt := x.2.2) a.2.1 with h | h | h <;> simp [h]
      · split
        · simp
        · split <;> simp
    · exact ⟨.inl rfl, fun k => by rcases k with k | k; exact absurd rfl k; exact absurd k c0⟩
  split
  · split
    · refine ⟨?_, fun _ => rfl⟩
      simp only
      unfold delWhy
      split
      · rcases spotF_why (hs := x.1) (b := x.2.1) (mt := x.2.2) a.2.1 with h | h | h <;> simp [h]
      · split <;> simp
    · exact ⟨.inl rfl, fun k => by rcases k with k | k; exact absurd rfl k; exact absurd k c0⟩
  · obtain ⟨h1, h2⟩ := sumF_why (hs := x.1) (b := x.2.1) (mt := x.2.2) a.2.1 a.2.2.1 a.2.2.2.1
    refine ⟨?_, fun k => ?_⟩
    · rcases h1 with h | h | h <;> simp [h]
    · rcases k with k | k
      · show (x.1, (sumF x.1 x.2.1 x.2.2 a.2.1 a.2.2.1 a.2.2.2.1).2) = x
        rw [h2 k]
      · exact absurd k c0

theorem dec_step {y : Int} {x : HK.sems rh_z29_1} : decRes ro_z29 rh_z29 (some (encRes ro_z29_1 rh_z29_1 ((y, ()), x))) = none := rfl
/-- An act, as the program does it. -/
theorem Q_stepV {hn bn mn : Nat} {hrow : List HeadS} {brow mrow : List Int} {x : PkA} (K : PkV hn bn mn hrow brow mrow x.1 x.2.1 x.2.2) (N : PkN x.1 x.2.1 x.2.2) (pt : Int) (a : ActS) (ha : ActT.good a) :
    ∃ (hn' bn' : Nat) (hrow' : List HeadS) (brow' mrow' : List Int), PkV hn' bn' mn hrow' brow' mrow' (actV a x).2.1 (actV a x).2.2.1 (actV a x).2.2.2 ∧
      (Q_z29 a hn pt bn brow hrow mn mrow = some (((actV a x).1, ()), pkV hn' bn' mn hrow' brow' mrow' pt) ∨
       Q_z29 a hn pt bn brow hrow mn mrow = none ∧ ∃ g, Q_z29_1 a hn pt bn brow hrow mn mrow = some (((actV a x).1, ()), (((), (hn', ((), (pt, ())))), ((bn', ()), (g, (hrow', ((mn, ()), (mrow', (brow', ()))))))))) := by
  obtain ⟨_, hF, hFr, hN, hW, _⟩ := ha
  have rN := wf_i64 hN
  obtain ⟨ew, hw⟩ := wv_ok hW
  by_cases c0 : a.1 = 0
  · have e : actV a x = (whyE (getF x.1 x.2.1 x.2.2 a.2.1), x) := by unfold actV; rw [if_pos c0]
    rw [e]
    refine ⟨hn, bn, hrow, brow, mrow, K, .inl (fin ?_)⟩
    unfold M_z29
    refine stepT (beqT c0) ?_
    extract_lets -merge +onlyGivenNames y1
    have e_y1 : y1 = _ := (congrArg RS.get (Q_pGetV K pt a.2.1 hF)).trans (get_some _)
    clear_value y1; subst e_y1
    refine stepC (Q_pGetV K pt a.2.1 hF) ?_
    cases getF x.1 x.2.1 x.2.2 a.2.1 <;> rfl
  by_cases c1 : a.1 = 1
  · have e : actV a x = ((putF x.1 x.2.1 x.2.2 a.2.1 (wv a.2.2.2.2.1)).1, (x.1, (putF x.1 x.2.1 x.2.2 a.2.1 (wv a.2.2.2.2.1)).2)) := by unfold actV; rw [if_neg c0, if_pos c1]
    rw [e]
    obtain ⟨br, mr, K1, q⟩ := Q_pPutV K pt a.2.1 hF (wv a.2.2.2.2.1) hw
    rw [← ew] at q
    refine ⟨hn, bn, hrow, br, mr, K1, .inl (fin ?_)⟩
    unfold M_z29
    refine stepF (beqF c0) ?_
    refine stepT (beqT c1) ?_
    extract_lets -merge +onlyGivenNames y2
    have e_y2 : y2 = _ := (congrArg RS.get (q)).trans (get_some _)
    clear_value y2; subst e_y2
    refine stepC (q) ?_
    rfl
  by_cases c2 : a.1 = 2
  · obtain ⟨i1, i2⟩ := Q_pIns K N pt a.2.1 hF a.2.2.2.1 rN
    by_cases hz : insWhy x.1 x.2.1 x.2.2 a.2.1 a.2.2.2.1 ≠ 0
    · have e : actV a x = (insWhy x.1 x.2.1 x.2.2 a.2.1 a.2.2.2.1, x) := by unfold actV; rw [if_neg c0, if_neg c1, if_pos c2, if_pos hz]
      rw [e]
      refine ⟨hn, bn, hrow, brow, mrow, K, .inl (fin ?_)⟩
      unfold M_z29
      refine stepF (beqF c0) ?_
      refine stepF (beqF c1) ?_
      refine stepT (beqT c2) ?_
      extract_lets -merge +onlyGivenNames y4
      have e_y4 : y4 = _ := (congrArg RS.get ((i1 hz))).trans (get_some _)
      clear_value y4; subst e_y4
      refine stepC ((i1 hz)) ?_
      rfl
    · have e : actV a x = (0, (x.1.map (mvH (spotF x.1 x.2.1 x.2.2 a.2.1).1 a.2.2.2.1), (insB x.2.1 (spotF x.1 x.2.1 x.2.2 a.2.1).1.toNat a.2.2.2.1.toNat, x.2.2))) := by unfold actV; rw [if_neg c0, if_neg c1, if_pos c2, if_neg hz]
      rw [e]
      obtain ⟨n', hrow', brow', K', q⟩ := i2 (Classical.byContradiction hz)
      refine ⟨hn, n', hrow', brow', mrow, K', ?_⟩
      rcases q with q | ⟨q0, q⟩
      · refine .inl (fin ?_)
        unfold M_z29
        refine stepF (beqF c0) ?_
        refine stepF (beqF c1) ?_
        refine stepT (beqT c2) ?_
        extract_lets -merge +onlyGivenNames y4
        have e_y4 : y4 = _ := (congrArg RS.get (q)).trans (get_some _)
        clear_value y4; subst e_y4
        refine stepC (q) ?_
        rfl
      · have hM : M_z29 FUEL a hn pt bn brow hrow mn mrow = some (encRes ro_z29_1 rh_z29_1 ((0, ()), (((), (hn, ((), (pt, ())))), ((n', ()), (brow, (hrow', ((mn, ()), (mrow, (brow', ()))))))))) := by
          unfold M_z29
          refine stepF (beqF c0) ?_
          refine stepF (beqF c1) ?_
          refine stepT (beqT c2) ?_
          refine stepN (q0) ?_
          extract_lets -merge +onlyGivenNames y3
          have e_y3 : y3 = _ := (congrArg RS.get (q)).trans (get_some _)
          clear_value y3; subst e_y3
          refine stepC (q) ?_
          rfl
        exact .inr ⟨by unfold Q_z29; rw [hM]; exact dec_step, brow, fin hM⟩
  by_cases c3 : a.1 = 3
  · obtain ⟨i1, i2⟩ := Q_pDel K N pt a.2.1 hF a.2.2.2.1 rN
    by_cases hz : delWhy x.1 x.2.1 x.2.2 a.2.1 a.2.2.2.1 ≠ 0
    · have e : actV a x = (delWhy x.1 x.2.1 x.2.2 a.2.1 a.2.2.2.1, x) := by unfold actV; rw [if_neg c0, if_neg c1, if_neg c2, if_pos c3, if_pos hz]
      rw [e]
      refine ⟨hn, bn, hrow, brow, mrow, K, .inl (fin ?_)⟩
      unfold M_z29
      refine stepF (beqF c0) ?_
      refine stepF (beqF c1) ?_
      refine stepF (beqF c2) ?_
      refine stepT (beqT c3) ?_
      extract_lets -merge +onlyGivenNames y5
      have e_y5 : y5 = _ := (congrArg RS.get ((i1 hz))).trans (get_some _)
      clear_value y5; subst e_y5
      refine stepC ((i1 hz)) ?_
      rfl
    · have e : actV a x = (0, (delHs x.1 (spotF x.1 x.2.1 x.2.2 a.2.1).1 a.2.2.2.1, (delB x.2.1 (spotF x.1 x.2.1 x.2.2 a.2.1).1.toNat a.2.2.2.1.toNat, x.2.2))) := by unfold actV; rw [if_neg c0, if_neg c1, if_neg c2, if_pos c3, if_neg hz]
      rw [e]
      obtain ⟨hn', n', hrow', brow', K', q⟩ := i2 (Classical.byContradiction hz)
      refine ⟨hn', n', hrow', brow', mrow, K', .inl (fin ?_)⟩
      unfold M_z29
      refine stepF (beqF c0) ?_
      refine stepF (beqF c1) ?_
      refine stepF (beqF c2) ?_
      refine stepT (beqT c3) ?_
      extract_lets -merge +onlyGivenNames y5
      have e_y5 : y5 = _ := (congrArg RS.get (q)).trans (get_some _)
      clear_value y5; subst e_y5
      refine stepC (q) ?_
      rfl
  · have e : actV a x = ((sumF x.1 x.2.1 x.2.2 a.2.1 a.2.2.1 a.2.2.2.1).1, (x.1, (sumF x.1 x.2.1 x.2.2 a.2.1 a.2.2.1 a.2.2.2.1).2)) := by unfold actV; rw [if_neg c0, if_neg c1, if_neg c2, if_neg c3]
    rw [e]
    obtain ⟨br, mr, K1, q⟩ := Q_pSumV K N pt a.2.1 a.2.2.1 hF hFr a.2.2.2.1 rN
    refine ⟨hn, bn, hrow, br, mr, K1, .inl (fin ?_)⟩
    unfold M_z29
    refine stepF (beqF c0) ?_
    refine stepF (beqF c1) ?_
    refine stepF (beqF c2) ?_
    refine stepF (beqF c3) ?_
    extract_lets -merge +onlyGivenNames y6
    have e_y6 : y6 = _ := (congrArg RS.get (q)).trans (get_some _)
    clear_value y6; subst e_y6
    refine stepC (q) ?_
    rfl
end Go.AMach

/- Layer 17: PackApart. -/
namespace Go.AMach
set_option linter.unusedVariables false
set_option linter.unusedSimpArgs false
set_option linter.unnecessarySimpa false
open Go
set_option linter.unusedVariables false

/-- What acts come to. -/
def actsV (l : List ActS) (x : PkA) : PkA := l.foldl (fun x a => (actV a x).2) x
theorem actsV_cons (a : ActS) (l : List ActS) (x : PkA) : actsV (a :: l) x = actsV l (actV a x).2 := rfl
theorem L_apart0 (kt : Nat → Int → Nat → List Int → List HeadS → Nat → List Int → Option Res) (l : List ActS) (hg : ∀ a ∈ l, ActT.good a) (hl : l.length ≤ 60) (pt : Int) (mn : Nat) : ∀ (m i hn bn : Nat) (hrow : List HeadS) (brow mrow : List Int) (x : PkA), PkV hn bn mn hrow brow mrow x.1 x.2.1 x.2.2 → PkN x.1 x.2.1 x.2.2 → i ≤ l.length → l.length - i < m →
    ∃ (hn' bn' : Nat) (hrow' : List HeadS) (brow' mrow' : List Int), PkV hn' bn' mn hrow' brow' mrow' (actsV (l.drop i) x).1 (actsV (l.drop i) x).2.1 (actsV (l.drop i) x).2.2 ∧ PkN (actsV (l.drop i) x).1 (actsV (l.drop i) x).2.1 (actsV (l.drop i) x).2.2 ∧ L_z2a_0 FUEL kt l m (i : Int) hn pt bn brow hrow mn mrow = kt hn' pt bn' brow' hrow' mn mrow'
  | 0, _, _, _, _, _, _, _, _, _, _, h => by omega
  | m + 1, i, hn, bn, hrow, brow, mrow, x, K, N, hi, hm => by
    show ∃ (hn' bn' : Nat) (hrow' : List HeadS) (brow' mrow' : List Int), PkV hn' bn' mn hrow' brow' mrow' (actsV (l.drop i) x).1 (actsV (l.drop i) x).2.1 (actsV (l.drop i) x).2.2 ∧ PkN (actsV (l.drop i) x).1 (actsV (l.drop i) x).2.1 (actsV (l.drop i) x).2.2 ∧ F_z2a_0 FUEL kt l (L_z2a_0 FUEL kt l m) (i : Int) hn pt bn brow hrow mn mrow = kt hn' pt bn' brow' hrow' mn mrow'
    by_cases h : i < l.length
    · have ha := hg _ (rdd_mem (d := zActS) h)
      obtain ⟨hn', bn', hrow', brow', mrow', K', q⟩ := Q_stepV K N pt (rdd zActS l i) ha
      have N' := actV_N N (rdd zActS l i)
      obtain ⟨hn2, bn2, hrow2, brow2, mrow2, K2, N2, e⟩ := L_apart0 kt l hg hl pt mn m (i + 1) hn' bn' hrow' brow' mrow' (actV (rdd zActS l i) x).2 K' N' (by omega) (by omega)
      rw [← actsV_cons, ← drop_rdd zActS h] at K2 N2
      refine ⟨hn2, bn2, hrow2, brow2, mrow2, K2, N2, ?_⟩
      unfold F_z2a_0
      refine stepT (decide_eq_true (show ((i : Int) < ((l.length : Nat) : Int)) by omega)) ?_
      refine stepT (decide_eq_true (show (0 : Int) ≤ (i : Int) ∧ ((i : Int) < ((l.length : Nat) : Int)) by omega)) ?_
      rw [toNat_cast, i64_succ (i := i) (by omega)]
      rcases q with q | ⟨q0, g, q⟩
      · extract_lets -merge +onlyGivenNames y8
        have e_y8 : y8 = _ := (congrArg RS.get (q)).trans (get_some _)
        clear_value y8; subst e_y8
        refine stepC (q) ?_
        exact e
      · refine stepN (q0) ?_
        extract_lets -merge +onlyGivenNames y7
        have e_y7 : y7 = _ := (congrArg RS.get (q)).trans (get_some _)
        clear_value y7; subst e_y7
        refine stepC (q) ?_
        exact e
    · rw [List.drop_of_length_le (by omega)]
      refine ⟨hn, bn, hrow, brow, mrow, K, N, ?_⟩
      unfold F_z2a_0
      refine stepF (decide_eq_false (show ¬ ((i : Int) < ((l.length : Nat) : Int)) by omega)) ?_
      rfl
theorem L_apart2 (kt : Nat → Int → Nat → List Int → List HeadS → Nat → List Int → Option Res) (l : List ActS) (hg : ∀ a ∈ l, ActT.good a) (hl : l.length ≤ 60) (pt : Int) (mn : Nat) : ∀ (m i hn bn : Nat) (hrow : List HeadS) (brow mrow : List Int) (x : PkA), PkV hn bn mn hrow brow mrow x.1 x.2.1 x.2.2 → PkN x.1 x.2.1 x.2.2 → i ≤ l.length → l.length - i < m →
    ∃ (hn' bn' : Nat) (hrow' : List HeadS) (brow' mrow' : List Int), PkV hn' bn' mn hrow' brow' mrow' (actsV (l.drop i) x).1 (actsV (l.drop i) x).2.1 (actsV (l.drop i) x).2.2 ∧ PkN (actsV (l.drop i) x).1 (actsV (l.drop i) x).2.1 (actsV (l.drop i) x).2.2 ∧ L_z2a_2 FUEL kt l m (i : Int) hn pt bn brow hrow mn mrow = kt hn' pt bn' brow' hrow' mn mrow'
  | 0, _, _, _, _, _, _, _, _, _, _, h => by omega
  | m + 1, i, hn, bn, hrow, brow, mrow, x, K, N, hi, hm => by
    show ∃ (hn' bn' : Nat) (hrow' : List HeadS) (brow' mrow' : List Int), PkV hn' bn' mn hrow' brow' mrow' (actsV (l.drop i) x).1 (actsV (l.drop i) x).2.1 (actsV (l.drop i) x).2.2 ∧ PkN (actsV (l.drop i) x).1 (actsV (l.drop i) x).2.1 (actsV (l.drop i) x).2.2 ∧ F_z2a_2 FUEL kt l (L_z2a_2 FUEL kt l m) (i : Int) hn pt bn brow hrow mn mrow = kt hn' pt bn' brow' hrow' mn mrow'
    by_cases h : i < l.length
    · have ha := hg _ (rdd_mem (d := zActS) h)
      obtain ⟨hn', bn', hrow', brow', mrow', K', q⟩ := Q_stepV K N pt (rdd zActS l i) ha
      have N' := actV_N N (rdd zActS l i)
      obtain ⟨hn2, bn2, hrow2, brow2, mrow2, K2, N2, e⟩ := L_apart2 kt l hg hl pt mn m (i + 1) hn' bn' hrow' brow' mrow' (actV (rdd zActS l i) x).2 K' N' (by omega) (by omega)
      rw [← actsV_cons, ← drop_rdd zActS h] at K2 N2
      refine ⟨hn2, bn2, hrow2, brow2, mrow2, K2, N2, ?_⟩
      unfold F_z2a_2
      refine stepT (decide_eq_true (show ((i : Int) < ((l.length : Nat) : Int)) by omega)) ?_
      refine stepT (decide_eq_true (show (0 : Int) ≤ (i : Int) ∧ ((i : Int) < ((l.length : Nat) : Int)) by omega)) ?_
      rw [toNat_cast, i64_succ (i := i) (by omega)]
      rcases q with q | ⟨q0, g, q⟩
      · extract_lets -merge +onlyGivenNames y8
        have e_y8 : y8 = _ := (congrArg RS.get (q)).trans (get_some _)
        clear_value y8; subst e_y8
        refine stepC (q) ?_
        exact e
      · refine stepN (q0) ?_
        extract_lets -merge +onlyGivenNames y7
        have e_y7 : y7 = _ := (congrArg RS.get (q)).trans (get_some _)
        clear_value y7; subst e_y7
        refine stepC (q) ?_
        exact e
    · rw [List.drop_of_length_le (by omega)]
      refine ⟨hn, bn, hrow, brow, mrow, K, N, ?_⟩
      unfold F_z2a_2
      refine stepF (decide_eq_false (show ¬ ((i : Int) < ((l.length : Nat) : Int)) by omega)) ?_
      rfl
theorem packApart_core (s : ByteArray) (l : List NodeS) (h : (Ty.slice NodeT).good l) (as : List ActS) (hg : (Ty.slice ActT).good as) : Q_z2a s l as = some ((true, ()), ()) := by
  refine fin ?_
  unfold M_z2a
  rcases of_cases s l h with h0 | ⟨h0, h1, h4⟩
  · refine stepC (h0) ?_
    refine stepC (h0) ?_
    extract_lets -merge +onlyGivenNames y35
    have e_y35 : y35 = _ := (congrArg RS.get (awake17)).trans (get_some _)
    clear_value y35; subst e_y35
    refine stepC (awake17) ?_
    rfl
  refine stepN (h0) ?_
  have N := pk_N l s h4
  generalize hdsV l s = hd at h1 N
  generalize bytesL s = b at h1 N
  generalize zeros = mt at h1 N
  have K0 := PkV.self N.ok
  extract_lets -merge +onlyGivenNames y1
  have e_y1 : y1 = _ := (congrArg RS.get (h1)).trans (get_some _)
  clear_value y1; subst e_y1
  refine stepC (h1) ?_
  refine stepN (h0) ?_
  extract_lets -merge +onlyGivenNames y2
  have e_y2 : y2 = _ := (congrArg RS.get (h1)).trans (get_some _)
  clear_value y2; subst e_y2
  refine stepC (h1) ?_
  by_cases hl : as.length > 60
  · refine stepT (decide_eq_true (show ((as.length : Nat) : Int) > 60 by omega)) ?_
    extract_lets -merge +onlyGivenNames y3
    have e_y3 : y3 = _ := (congrArg RS.get (awake17)).trans (get_some _)
    clear_value y3; subst e_y3
    refine stepC (awake17) ?_
    rfl
  refine stepF (decide_eq_false (show ¬ ((as.length : Nat) : Int) > 60 by omega)) ?_
  extract_lets -merge +onlyGivenNames y4
  have e_y4 : y4 = _ := (congrArg RS.get (awake17)).trans (get_some _)
  clear_value y4; subst e_y4
  refine stepC (awake17) ?_
  refine stepF (rfl) ?_
  extract_lets -merge +onlyGivenNames y6
  have e_y6 : y6 = _ := (congrArg RS.get (Q_pCopyV K0 1)).trans (get_some _)
  clear_value y6; subst e_y6
  refine stepC (Q_pCopyV K0 1) ?_
  have hself : ∀ {hn bn mn hn2 bn2 mn2 : Nat} {hrow hrow2 : List HeadS} {brow mrow brow2 mrow2 : List Int} {x : PkA} (K : PkV hn bn mn hrow brow mrow x.1 x.2.1 x.2.2) (K2 : PkV hn2 bn2 mn2 hrow2 brow2 mrow2 x.1 x.2.1 x.2.2),
      Q_z1z hn 1 bn brow hrow mn mrow hn2 1 bn2 brow2 hrow2 mn2 mrow2 = some ((true, ()), pk2 (pkV hn bn mn hrow brow mrow 1) (pkV hn2 bn2 mn2 hrow2 brow2 mrow2 1)) := fun {_ _ _ _ _ _ _ _ _ _ _ _ x} K K2 => by
    have qs := Q_sameV K K2 1 1
    simpa using qs
  obtain ⟨hn1, bn1, hrow1, brow1, mrow1, K1, N1, e1⟩ := L_apart0 _ as hg.2 (by omega) 1 mt.length FUEL 0 hd.length b.length hd b mt (hd, (b, mt)) K0 N (by omega) (by unfold FUEL; omega)
  refine (e1).trans ?_
  clear e1
  extract_lets -merge +onlyGivenNames y16
  have e_y16 : y16 = _ := (congrArg RS.get (hself (x := (hd, (b, mt))) K0 K0)).trans (get_some _)
  clear_value y16; subst e_y16
  refine stepC (hself (x := (hd, (b, mt))) K0 K0) ?_
  refine stepF (rfl) ?_
  extract_lets -merge +onlyGivenNames y17
  have e_y17 : y17 = _ := (congrArg RS.get (Q_pCopyV K1 1)).trans (get_some _)
  clear_value y17; subst e_y17
  refine stepC (Q_pCopyV K1 1) ?_
  obtain ⟨hn2, bn2, hrow2, brow2, mrow2, K2, N2, e2⟩ := L_apart2 _ as hg.2 (by omega) 1 mt.length FUEL 0 hd.length b.length hd b mt (hd, (b, mt)) K0 N (by omega) (by unfold FUEL; omega)
  refine (e2).trans ?_
  clear e2
  extract_lets -merge +onlyGivenNames y27
  have e_y27 : y27 = _ := (congrArg RS.get (hself K1 (PkV.self K1.ok))).trans (get_some _)
  clear_value y27; subst e_y27
  refine stepC (hself K1 (PkV.self K1.ok)) ?_
  refine stepT (rfl) ?_
  extract_lets -merge +onlyGivenNames y28
  have e_y28 : y28 = _ := (congrArg RS.get (hself K2 K1)).trans (get_some _)
  clear_value y28; subst e_y28
  refine stepC (hself K2 K1) ?_
  rfl
theorem Pure.PackApart (s : ByteArray) (hs : Ty.str.good s) (l : List NodeS) (h : (Ty.slice NodeT).good l) (as : List ActS) (hg : (Ty.slice ActT).good as) : Q_z2a s l as = some ((true, ()), ()) := packApart_core s l h as hg
end Go.AMach
