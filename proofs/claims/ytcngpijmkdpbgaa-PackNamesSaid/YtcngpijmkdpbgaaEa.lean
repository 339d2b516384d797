/- Parts of the proof. -/
import Derived.Test.YtcngpijmkdpbgaaBz
import Derived.KernelRfl
/- Layer 17: a number put into a packet whose rows are longer than what is told of them. -/
namespace Go.AMach
set_option linter.unusedVariables false
set_option linter.unusedSimpArgs false
set_option linter.unnecessarySimpa false
open Go
set_option linter.unusedVariables false

theorem Vw.over {n : Nat} {row b : List Int} (V : Vw n row b) {fr m : Nat} (h : fr + m ≤ n) {c : List Int} (hc : c.length = m) :
    Vw n (cutL (0 : Int) row 0 fr ++ (c ++ cutL (0 : Int) row (fr + m) (row.length - (fr + m)))) (b.take fr ++ (c ++ b.drop (fr + m))) := by
  have hle := V.le
  have hbl := V.len
  have hb : b = row.take n := V.eq.symm
  refine ⟨by simp only [List.length_append, cutL_length', hc]; omega, ?_⟩
  rw [cutL_eq (by omega), cutL_eq (by omega), List.drop_zero, List.take_of_length_le (l := row.drop (fr + m)) (by rw [List.length_drop]; omega)]
  have h1 : (row.take fr).length = fr := by rw [List.length_take]; omega
  rw [List.take_append, List.take_of_length_le (l := row.take fr) (by omega), h1, List.take_append, List.take_of_length_le (l := c) (by omega), hc]
  have e1 : b.take fr = row.take fr := by rw [hb, List.take_take]; congr 1; omega
  have e2 : b.drop (fr + m) = (row.drop (fr + m)).take (n - fr - m) := by rw [hb, List.drop_take]; congr 1; omega
  rw [e1, e2]

theorem Q_bPutV {n : Nat} {row b : List Int} (V : Vw n row b) (hb : isB b) (off w : Int) (v : Nat) (hv : v < 340282366920938463463374607431768211456) (hl : n ≤ 1000000) (ho : -9223372036854775808 ≤ off ∧ off ≤ 9223372036854775807) :
    ∃ row', Vw n row' (if (getB b off w).isSome then putB b off w v else b) ∧
    Q_z21 off w (wN v) n row = some (((if (getB b off w).isSome then 0 else getE off w), ()), ((n, ()), (row', ()))) := by
  have hbl := V.len
  have hle := V.le
  obtain ⟨h0, h1⟩ := Q_bWinV V off w hl ho
  cases hg : getB b off w with
  | none =>
    refine ⟨row, V, fin ?_⟩
    unfold M_z21
    have hn' : ¬ (0 ≤ off ∧ 1 ≤ w ∧ w ≤ 128 ∧ off + w ≤ 8 * (b.length : Int)) := fun k => by unfold getB at hg; rw [if_pos k] at hg; cases hg
    simp only [ok_z1a, q_z1a, h0 hg, RS.get, Option.getD_some, Option.isSome_some, cond_true, V.all]
    have e : IntKind.wrap .i64 (off - IntKind.wrap .i64 (8 * (0 : Int))) = off := by
      rw [show IntKind.wrap .i64 (8 * (0 : Int)) = 0 by rfl, IntWalk.i64_in _ (by omega)]; omega
    rw [e]
    have := Q_fPutBad (bytesOf b) off w (wN v) (by rw [bytesOf_size]; omega) ho.2 (by rw [bytesOf_size]; exact hn')
    simp only [ok_z20, q_z20, this, RS.get, Option.getD_some, Option.isSome_some, cond_true, int_beq, decide_eq_false (getE_ne off w), cond_false]
    rfl
  | some v0 =>
    have hv' : 0 ≤ off ∧ 1 ≤ w ∧ w ≤ 128 ∧ off + w ≤ 8 * (b.length : Int) := Classical.byContradiction fun k => by unfold getB at hg; rw [if_neg k] at hg; cases hg
    have h1 := h1 v0 hg
    generalize hf : off.toNat / 8 = fr at h1
    generalize hn : (off.toNat + w.toNat + 7) / 8 - fr = m at h1
    have e : IntKind.wrap .i64 (off - IntKind.wrap .i64 (8 * ((fr : Nat) : Int))) = ((off.toNat - 8 * fr : Nat) : Int) := by
      rw [IntWalk.i64_in (8 * ((fr : Nat) : Int)) (by omega), IntWalk.i64_in _ (by omega)]; omega
    have hwn : w = ((w.toNat : Nat) : Int) := by omega
    have hcut : cutL (0 : Int) row fr m = (b.drop fr).take m := by rw [V.cut (by omega)]; exact cutL_eq (by omega)
    have hlen : ((b.drop fr).take m).length = m := by rw [List.length_take, List.length_drop]; omega
    have hcB : isB ((b.drop fr).take m) := fun x hx => hb _ (List.mem_of_mem_drop (List.mem_of_mem_take hx))
    have hP := Q_fPut v hv hcB (off.toNat - 8 * fr) w.toNat (by omega) (by rw [hlen]; omega) (by rw [hlen]; omega)
    rw [← hwn] at hP
    have hpl : (putN ((b.drop fr).take m) (off.toNat - 8 * fr) w.toNat v).length = m := by rw [putN_length, hlen]
    have hsz : (bytesOf (putN ((b.drop fr).take m) (off.toNat - 8 * fr) w.toNat v)).size = m := by rw [bytesOf_size, hpl]
    have hnew := putN_window b hb off.toNat w.toNat v fr m hf.symm hn.symm (by omega) (by omega)
    have hc2 : cutL (0 : Int) (bytesL (bytesOf (putN ((b.drop fr).take m) (off.toNat - 8 * fr) w.toNat v))) 0 (Nat.min m m) = putN ((b.drop fr).take m) (off.toNat - 8 * fr) w.toNat v := by
      rw [bytesL_bytesOf (putN_isB _ _ _ _), show Nat.min m m = m from Nat.min_self m]
      have := cutL_all (0 : Int) (putN ((b.drop fr).take m) (off.toNat - 8 * fr) w.toNat v)
      rw [hpl] at this; exact this
    have d1 : decide (fr + m ≤ row.length) = true := by rw [decide_eq_true_eq]; omega
    have VV := V.over (fr := fr) (m := m) (by omega) hpl
    rw [hnew] at VV
    refine ⟨_, VV, fin ?_⟩
    unfold M_z21
    simp only [Option.isSome_some, if_true]
    rcases h1 with ⟨z, a1⟩ | ⟨a1, a2⟩
    · subst z
      simp only [ok_z1a, q_z1a, a1, e, hcut, ok_z20, q_z20, hP, RS.get, Option.getD_some, Option.isSome_some, cond_true, int_beq, decide_true, d1, hsz, hc2, hpl]
    · simp only [ok_z1a, ok_z1a_1, q_z1a_1, a1, a2, e, hcut, ok_z20, q_z20, hP, RS.get, Option.getD_some, Option.isSome_some, Option.isSome_none, cond_true, cond_false, int_beq, decide_true, d1, hsz, hc2, hpl]

theorem Q_pPutV {hn bn mn : Nat} {hrow : List HeadS} {brow mrow : List Int} {hs : List HeadS} {b mt : List Int} (K : PkV hn bn mn hrow brow mrow hs b mt) (pt : Int) (f : FieldS) (hf : FieldT.good f) (v : Nat) (hv : v < 340282366920938463463374607431768211456) :
    ∃ brow' mrow', PkV hn bn mn hrow brow' mrow' hs (putF hs b mt f v).2.1 (putF hs b mt f v).2.2 ∧
    Q_z22 f (wN v) hn pt bn brow hrow mn mrow = some (((putF hs b mt f v).1, ()), pkV hn bn mn hrow brow' mrow' pt) := by
  obtain ⟨h1, h2, h3, h4, h5, _⟩ := hf
  have r4 := wf_i64 h4
  have lb := K.vb.len
  have lm := K.vm.len
  have hok := putF_ok K.ok f v
  obtain ⟨p1, p2, p3⟩ := Q_placeV K pt f
  have hbit : ∀ a, 0 ≤ a ∧ a ≤ 1000000 → Q_z18 a f.2.2.2.1 = some ((bitV a f.2.2.2.1, ()), ()) := fun a ha => Q_bit a _ ha r4.2
  have rbit : ∀ a, 0 ≤ a ∧ a ≤ 1000000 → -9223372036854775808 ≤ bitV a f.2.2.2.1 ∧ bitV a f.2.2.2.1 ≤ 9223372036854775807 := fun a ha => by unfold bitV; split <;> omega
  cases hw : whereF hs b mt f with
  | none =>
    obtain ⟨q0, q1, q2⟩ := p1 hw
    have e : putF hs b mt f v = (3, (b, mt)) := by unfold putF; rw [hw]
    rw [e]
    refine ⟨brow, mrow, K, fin ?_⟩
    unfold M_z22
    simp only [ok_z17, ok_z17_1, ok_z17_2, q_z17_2, q0, q1, q2, RS.get, Option.getD_some, Option.isSome_some, Option.isSome_none, cond_true, cond_false]
    rfl
  | some ca =>
    obtain ⟨c, a⟩ := ca
    rcases where_in hw with ⟨c3, rfl, rfl⟩ | ⟨c3, rfl, ha⟩
    · obtain ⟨q0, q1⟩ := p2 _ _ hw c3
      obtain ⟨row', VV, qp⟩ := Q_bPutV K.vm K.ok.mB (bitV 0 f.2.2.2.1) f.2.2.2.2.1 v hv (by have := K.ok.ml; omega) (rbit 0 (by omega))
      cases hg : getB c (bitV 0 f.2.2.2.1) f.2.2.2.2.1 with
      | none =>
        rw [hg] at qp VV
        simp only [Option.isSome_none, Bool.false_eq_true, if_false] at qp VV
        have e : putF hs b c f v = (1, (b, c)) := by unfold putF; rw [hw]; simp only; rw [hg]; rfl
        rw [e]
        refine ⟨brow, row', ⟨K.vh, K.vb, VV, K.ok⟩, fin ?_⟩
        unfold M_z22
        simp only [ok_z17, ok_z17_1, q_z17_1, q0, q1, RS.get, Option.getD_some, Option.isSome_some, Option.isSome_none, cond_true, cond_false]
        simp only [int_beq, int_bne, decide_true, cond_true, ok_z18, q_z18, hbit 0 (by omega), ok_z21, q_z21, qp, RS.get, Option.getD_some, Option.isSome_some, decide_eq_false (getE_ne _ _), Bool.not_false]
      | some x =>
        rw [hg] at qp VV
        simp only [Option.isSome_some, if_true] at qp VV
        have e : putF hs b c f v = (0, (b, putB c (bitV 0 f.2.2.2.1) f.2.2.2.2.1 v)) := by unfold putF; rw [hw]; simp only; rw [hg, if_pos c3]; rfl
        rw [e] at hok ⊢
        refine ⟨brow, row', ⟨K.vh, K.vb, VV, hok⟩, fin ?_⟩
        unfold M_z22
        simp only [ok_z17, ok_z17_1, q_z17_1, q0, q1, RS.get, Option.getD_some, Option.isSome_some, Option.isSome_none, cond_true, cond_false]
        simp only [int_beq, int_bne, decide_true, cond_true, ok_z18, q_z18, hbit 0 (by omega), ok_z21, q_z21, qp, RS.get, Option.getD_some, Option.isSome_some, Bool.not_true, cond_false]
    · have q0 := p3 _ _ hw c3
      have ha' : 0 ≤ a ∧ a ≤ 1000000 := by
        rcases ha with h | h
        · omega
        · exact atOf_ok K.ok h
      obtain ⟨row', VV, qp⟩ := Q_bPutV K.vb K.ok.bB (bitV a f.2.2.2.1) f.2.2.2.2.1 v hv (by have := K.ok.bl; omega) (rbit a ha')
      cases hg : getB c (bitV a f.2.2.2.1) f.2.2.2.2.1 with
      | none =>
        rw [hg] at qp VV
        simp only [Option.isSome_none, Bool.false_eq_true, if_false] at qp VV
        have e : putF hs c mt f v = (1, (c, mt)) := by unfold putF; rw [hw]; simp only; rw [hg]; rfl
        rw [e]
        refine ⟨row', mrow, ⟨K.vh, VV, K.vm, K.ok⟩, fin ?_⟩
        unfold M_z22
        simp only [ok_z17, q_z17, q0, RS.get, Option.getD_some, Option.isSome_some, cond_true]
        simp only [int_beq, int_bne, decide_true, cond_true, ok_z18, q_z18, hbit a ha', ok_z21, q_z21, qp, RS.get, Option.getD_some, Option.isSome_some, decide_eq_false (getE_ne _ _), Bool.not_false]
      | some x =>
        rw [hg] at qp VV
        simp only [Option.isSome_some, if_true] at qp VV
        have e : putF hs c mt f v = (0, (putB c (bitV a f.2.2.2.1) f.2.2.2.2.1 v, mt)) := by unfold putF; rw [hw]; simp only; rw [hg, if_neg c3]; rfl
        rw [e] at hok ⊢
        refine ⟨row', mrow, ⟨K.vh, VV, K.vm, hok⟩, fin ?_⟩
        unfold M_z22
        simp only [ok_z17, q_z17, q0, RS.get, Option.getD_some, Option.isSome_some, cond_true]
        simp only [int_beq, int_bne, decide_true, cond_true, ok_z18, q_z18, hbit a ha', ok_z21, q_z21, qp, RS.get, Option.getD_some, Option.isSome_some, Bool.not_true, cond_false]
end Go.AMach

/- Steps over a printed function; a walked packet. -/
namespace Go.AMach
set_option linter.unusedVariables false
set_option linter.unusedSimpArgs false
set_option linter.unnecessarySimpa false
open Go
set_option linter.unusedVariables false

/-! ### Steps over a printed function -/
theorem stepC {α β : Type} {o : Option α} {v : α} (h : o = some v) {A B X : β} (g : A = X) : cond o.isSome A B = X := by subst h; exact g
theorem stepN {α β : Type} {o : Option α} (h : o = none) {A B X : β} (g : B = X) : cond o.isSome A B = X := by subst h; exact g
theorem stepT {β : Type} {c : Bool} (h : c = true) {A B X : β} (g : A = X) : cond c A B = X := by subst h; exact g
theorem stepF {β : Type} {c : Bool} (h : c = false) {A B X : β} (g : B = X) : cond c A B = X := by subst h; exact g
theorem bne0 {x : Int} (h : x ≠ 0) : (x != (0 : Int)) = true := by rw [int_bne, decide_eq_false h]; rfl
theorem bne1 {x : Int} (h : x = 0) : (x != (0 : Int)) = false := by rw [int_bne, decide_eq_true h]; rfl
theorem beqT {x y : Int} (h : x = y) : (x == y) = true := by rw [int_beq, decide_eq_true h]
theorem beqF {x y : Int} (h : x ≠ y) : (x == y) = false := by rw [int_beq, decide_eq_false h]
theorem bneT {x y : Int} (h : x ≠ y) : (x != y) = true := by rw [int_bne, decide_eq_false h]; rfl
theorem bneF {x y : Int} (h : x = y) : (x != y) = false := by rw [int_bne, decide_eq_true h]; rfl
theorem nbT {a b : ByteArray} (h : a = b) : (!(ByteArray.toList a == ByteArray.toList b)) = false := by subst h; rw [toList_beq, decide_eq_true rfl]; rfl

theorem tmodV (x : Int) (d : Nat) (hd : 0 < d) : ∃ r : Nat, r < d ∧ Int.tmod (IntKind.wrap .u64 x) (d : Int) = (r : Int) := by
  have h0 : 0 ≤ IntKind.wrap .u64 x := by simp [IntKind.wrap, IntKind.bits, IntKind.signed]; omega
  have h1 := Int.emod_nonneg (IntKind.wrap .u64 x) (show (d : Int) ≠ 0 by omega)
  have h2 := Int.emod_lt_of_pos (IntKind.wrap .u64 x) (show (0 : Int) < d by omega)
  exact ⟨(IntKind.wrap .u64 x % (d : Int)).toNat, by omega, by rw [Int.tmod_eq_emod_of_nonneg h0]; omega⟩

theorem word_eqv (a b : Nat) : ((wN a).1 == (wN b).1 && ((wN a).2.1 == (wN b).2.1 && true)) = decide (a = b) := by
  unfold wN W2
  simp only [int_beq, Bool.and_true]
  by_cases e : a = b
  · subst e; simp
  · rw [decide_eq_false e]
    by_cases h1 : a / 18446744073709551616 = b / 18446744073709551616
    · have : a % 18446744073709551616 ≠ b % 18446744073709551616 := by omega
      rw [decide_eq_false (show ¬ ((a % 18446744073709551616 : Nat) : Int) = ((b % 18446744073709551616 : Nat) : Int) by omega), Bool.and_false]
    · rw [decide_eq_false (show ¬ ((a / 18446744073709551616 : Nat) : Int) = ((b / 18446744073709551616 : Nat) : Int) by omega), Bool.false_and]
/-- A walked packet as it is. -/
theorem pk_N (l : List NodeS) (s : ByteArray) (h : s.size ≤ 4000) : PkN (hdsV l s) (bytesL s) zeros where
  ok := pk_ok l s (by omega)
  long := by rw [bytesL_length]; omega
  at_ := fun x hx => by have := walkV_at l s x hx; rw [bytesL_length]; omega
theorem PkV.self {hs : List HeadS} {b mt : List Int} (P : PkOk hs b mt) : PkV hs.length b.length mt.length hs b mt hs b mt := ⟨Vw.self hs, Vw.self b, Vw.self mt, P⟩
theorem atOf_apart {hs : List HeadS} (hp : hs.Pairwise fun a b => a.1 ≠ b.1) {h : HeadS} (hm : h ∈ hs) : atOf hs h.1 = some h.2.1 := by
  induction hs with
  | nil => cases hm
  | cons x r ih =>
    unfold atOf at ih ⊢
    rw [List.find?_cons]
    obtain ⟨h1, h2⟩ := List.pairwise_cons.1 hp
    rcases List.mem_cons.1 hm with rfl | hm
    · rw [decide_eq_true rfl]; rfl
    · rw [decide_eq_false (h1 h hm)]; exact ih h2 hm
theorem atF_at {hs : List HeadS} {b mt : List Int} {f : FieldS} (h : (atF hs b mt f).2 = 0) : ∃ c a, whereF hs b mt f = some (c, a) ∧ 0 ≤ f.2.2.2.1 ∧ (atF hs b mt f).1 = a + f.2.2.2.1 / 8 := by
  unfold atF at h ⊢
  cases hw : whereF hs b mt f with
  | none => rw [hw] at h; simp at h
  | some ca =>
    obtain ⟨c, a⟩ := ca
    rw [hw] at h
    simp only at h ⊢
    refine ⟨c, a, rfl, ?_⟩
    unfold atV at h ⊢
    by_cases c1 : f.2.2.2.1 < 0
    · rw [if_pos c1] at h; simp at h
    rw [if_neg c1] at h ⊢
    by_cases c2 : f.2.2.2.1 / 8 > (c.length : Int) - a
    · rw [if_pos c2] at h; simp at h
    rw [if_neg c2]
    exact ⟨by omega, rfl⟩

end Go.AMach

/- Layer 17: bytes taken out. -/
namespace Go.AMach
set_option linter.unusedVariables false
set_option linter.unusedSimpArgs false
set_option linter.unnecessarySimpa false
open Go
set_option linter.unusedVariables false

/-- Bytes with some taken out. -/
def delB (b : List Int) (k m : Nat) : List Int := b.take k ++ b.drop (k + m)
theorem delB_length (b : List Int) (k m : Nat) (h : k + m ≤ b.length) : (delB b k m).length = b.length - m := by
  unfold delB; rw [List.length_append, List.length_take, List.length_drop]; omega
theorem delB_isB {b : List Int} (h : isB b) (k m : Nat) : isB (delB b k m) := fun x hx => by
  rcases List.mem_append.1 hx with hx | hx
  · exact h x (List.mem_of_mem_take hx)
  · exact h x (List.mem_of_mem_drop hx)
theorem delB_ins (b : List Int) (k m : Nat) (hk : k ≤ b.length) : delB (insB b k m) k m = b := by
  unfold delB insB
  have e1 : (b.take k ++ zerosL m).length = k + m := by rw [List.length_append, List.length_take, mkL_length]; omega
  rw [show (b.take k ++ zerosL m ++ b.drop k).drop (k + m) = b.drop k by rw [← e1, List.drop_left]]
  rw [List.append_assoc, List.take_append_of_le_length (by rw [List.length_take]; omega), List.take_of_length_le (by rw [List.length_take]; omega), List.take_append_drop]

theorem Q_bDel {n : Nat} {row b : List Int} (V : Vw n row b) (k : Nat) (m : Int) (hk : k ≤ n) (hn : n ≤ 1000000) (hm2 : m ≤ 9223372036854775807) :
    (¬ (0 ≤ m ∧ m ≤ (n : Int) - k) → ∃ e, e ≠ 0 ∧ Q_z1p (k : Int) m n row = some ((e, ()), ((n, ()), (row, ())))) ∧
    (∀ d : Nat, m = (d : Int) → k + d ≤ n → ∃ row', Vw (n - d) row' (delB b k d) ∧ Q_z1p (k : Int) m n row = some ((0, ()), ((n - d, ()), (row', ())))) := by
  have hbl := V.len
  have hle := V.le
  refine ⟨fun hbad => ?_, fun d hd hkd => ?_⟩
  · by_cases h0 : m < 0
    · refine ⟨1, by decide, fin ?_⟩
      have qo : Q_z1j (k : Int) m n row = some ((1, ()), ((n, ()), (row, ()))) := by
        refine fin ?_
        unfold M_z1j
        simp only [cond_dec]
        rw [if_neg (by omega), if_pos h0]
      unfold M_z1p
      extract_lets y1
      have e : y1 = _ := (congrArg RS.get qo).trans (get_some _)
      clear_value y1; subst e
      simp only [ok_z1j, qo, Option.isSome_some, cond_true, int_beq, show decide ((1 : Int) = 0) = false from rfl, cond_false]
    · refine ⟨4, by decide, fin ?_⟩
      have qo := Q_bOff (k : Int) m n row (by omega) (by omega) hn hm2
      rw [if_pos (by omega)] at qo
      unfold M_z1p
      extract_lets y1
      have e : y1 = _ := (congrArg RS.get qo).trans (get_some _)
      clear_value y1; subst e
      simp only [ok_z1j, qo, Option.isSome_some, cond_true, int_beq, show decide ((4 : Int) = 0) = false from rfl, cond_false]
  · subst hd
    have qo := Q_bOff (k : Int) (d : Int) n row (by omega) (by omega) hn hm2
    rw [if_neg (by omega)] at qo
    have ekd : IntKind.wrap .i64 ((k : Int) + (d : Int)) = ((k + d : Nat) : Int) := by rw [IntWalk.i64_in _ (by omega)]; omega
    have hmin : Nat.min (n - (k + d)) (n - k) = n - (k + d) := Nat.min_eq_left (by omega)
    have hlen : (cutL (0 : Int) row (k + d) (n - (k + d))).length = n - (k + d) := cutL_length' _ _ _ _
    have hcw : cutL (0 : Int) row (k + d) (n - (k + d)) = b.drop (k + d) := by
      rw [V.cut (by omega), cutL_eq (by omega), List.take_of_length_le (by rw [List.length_drop]; omega)]
    have hc0 : cutL (0 : Int) row 0 k = b.take k := by rw [V.cut (by omega), cutL_eq (by omega), List.drop_zero]
    have e2 : IntKind.wrap .i64 ((k : Int) + ((n - (k + d) : Nat) : Int)) = ((n - d : Nat) : Int) := by rw [IntWalk.i64_in _ (by omega)]; omega
    refine ⟨b.take k ++ (b.drop (k + d) ++ cutL (0 : Int) row (k + (n - (k + d))) (row.length - (k + (n - (k + d))))), ⟨?_, ?_⟩, fin ?_⟩
    · simp only [List.length_append, List.length_take, List.length_drop, cutL_length']; omega
    · rw [← List.append_assoc, List.take_append_of_le_length (by simp only [List.length_append, List.length_take, List.length_drop]; omega), List.take_of_length_le (by simp only [List.length_append, List.length_take, List.length_drop]; omega)]
      rfl
    · unfold M_z1p
      extract_lets y1 y2
      have e : y1 = _ := (congrArg RS.get qo).trans (get_some _)
      clear_value y1; subst e
      have hy2 : y2 = ((n - (k + d) : Nat) : Int) := by
        show (((Nat.min (Int.toNat ((n : Nat) : Int) - Int.toNat (IntKind.wrap .i64 ((k : Int) + (d : Int)))) (Int.toNat ((n : Nat) : Int) - Int.toNat (k : Int))) : Nat) : Int) = _
        rw [ekd, toNat_cast, toNat_cast, toNat_cast, hmin]
      clear_value y2; subst hy2
      have t0 : Int.toNat (0 : Int) = 0 := rfl
      have d1 : decide ((0 : Int) ≤ (k : Int) ∧ (k : Int) ≤ ((n : Nat) : Int) ∧ ((n : Nat) : Int) ≤ ((n : Nat) : Int) ∧ ((n : Nat) : Int) ≤ ((n : Nat) : Int)) = true := by rw [decide_eq_true_eq]; omega
      have d2 : decide ((0 : Int) ≤ ((k + d : Nat) : Int) ∧ ((k + d : Nat) : Int) ≤ ((n : Nat) : Int) ∧ ((n : Nat) : Int) ≤ ((n : Nat) : Int) ∧ ((n : Nat) : Int) ≤ ((n : Nat) : Int)) = true := by rw [decide_eq_true_eq]; omega
      have d3 : decide (k + d + (n - (k + d)) ≤ row.length) = true := by rw [decide_eq_true_eq]; omega
      have d4 : decide (k + (n - k) ≤ row.length) = true := by rw [decide_eq_true_eq]; omega
      have d5 : decide ((0 : Int) ≤ (0 : Int) ∧ (0 : Int) ≤ ((n - d : Nat) : Int) ∧ ((n - d : Nat) : Int) ≤ ((n : Nat) : Int) ∧ ((n : Nat) : Int) ≤ ((n : Nat) : Int)) = true := by rw [decide_eq_true_eq]; omega
      simp only [ok_z1j, qo, Option.isSome_some, cond_true, int_beq, decide_true, ekd, toNat_cast, t0, Nat.zero_add, Nat.sub_zero, hmin, e2, hlen, hcw, hc0, d1, d2, d3, d4, d5]
      have hl2 : (b.drop (k + d)).length = n - (k + d) := by rw [List.length_drop]; omega
      simp only [hl2]

/-! ### Headers taken out -/
def inDel (at_ d : Int) (h : HeadS) : Bool := decide (h.2.1 ≥ at_) && decide (h.2.1 < at_ + d)
theorem Q_del1 (h : HeadS) (at_ d : Int) (hd : -9223372036854775808 ≤ at_ + d ∧ at_ + d ≤ 9223372036854775807) : Q_z1q h at_ d = some ((inDel at_ d h, ()), ((at_, ()), ((d, ()), ()))) := by
  refine fin ?_
  unfold M_z1q inDel
  rw [IntWalk.i64_in _ hd]
  by_cases c : h.2.1 ≥ at_
  · rw [decide_eq_true c, cond_true, Bool.true_and]
  · rw [decide_eq_false c, cond_false, Bool.false_and]
theorem L_idx (kr : Int → Int → Int → Option Res) (kt : Int → Int → Option Res) (hs : List HeadS) (at_ d : Int) (hl : hs.length ≤ 1000000) (hd : -9223372036854775808 ≤ at_ + d ∧ at_ + d ≤ 9223372036854775807) : ∀ (m i : Nat), i ≤ hs.length → hs.length - i < m → (∀ j, j < i → inDel at_ d (rdd zHeadS hs j) = false) →
    (∃ j, j < hs.length ∧ inDel at_ d (rdd zHeadS hs j) = true ∧ (∀ k, k < j → inDel at_ d (rdd zHeadS hs k) = false) ∧ L_z1r_0 FUEL kr kt hs ((hs.length : Nat) : Int) m (i : Int) at_ d = kr (j : Int) at_ d) ∨
    ((∀ j, j < hs.length → inDel at_ d (rdd zHeadS hs j) = false) ∧ L_z1r_0 FUEL kr kt hs ((hs.length : Nat) : Int) m (i : Int) at_ d = kt at_ d)
  | 0, _, _, h, _ => by omega
  | m + 1, i, hi, hm, hj => by
    have hL : L_z1r_0 FUEL kr kt hs ((hs.length : Nat) : Int) (m + 1) (i : Int) at_ d = F_z1r_0 FUEL kr kt hs ((hs.length : Nat) : Int) (L_z1r_0 FUEL kr kt hs ((hs.length : Nat) : Int) m) (i : Int) at_ d := rfl
    rw [hL]
    unfold F_z1r_0
    simp only [cond_dec]
    by_cases h : i < hs.length
    · have q := Q_del1 (rdd zHeadS hs i) at_ d hd
      rw [if_pos (by omega), if_pos ⟨by omega, by omega⟩]
      simp only [toNat_cast, ok_z1q, q_z1q, q, RS.get, Option.getD_some, Option.isSome_some, cond_true]
      cases hb : inDel at_ d (rdd zHeadS hs i) with
      | true => left; exact ⟨i, h, hb, hj, rfl⟩
      | false =>
        rw [cond_false, i64_succ (by omega)]
        refine L_idx kr kt hs at_ d hl hd m (i + 1) (by omega) (by omega) fun j hj' => ?_
        by_cases e : j = i
        · rw [e]; exact hb
        · exact hj j (by omega)
    · right
      rw [if_neg (by omega)]
      exact ⟨fun j hj' => hj j (by omega), rfl⟩
theorem filter_all {p : HeadS → Bool} : ∀ {l : List HeadS}, (∀ j, j < l.length → p (rdd zHeadS l j) = false) → l.filter (fun h => !p h) = l
  | [], _ => rfl
  | x :: r, h => by
    have h0 := h 0 (by simp)
    rw [rdd_lt (by simp)] at h0
    simp only [List.getElem_cons_zero] at h0
    rw [List.filter_cons, if_pos (by simp [h0]), filter_all fun j hj => by
      have := h (j + 1) (by simpa using hj)
      rw [rdd_lt (by simpa using hj)] at this
      rw [rdd_lt hj]
      simpa using this]
theorem take_filter_none {p : HeadS → Bool} {l : List HeadS} {i : Nat} (hi : i ≤ l.length) (h : ∀ j, j < i → p (rdd zHeadS l j) = false) : (l.take i).filter (fun h => !p h) = l.take i :=
  filter_all fun j hj => by
    rw [List.length_take] at hj
    have := h j (by omega)
    rw [rdd_lt (by omega)] at this
    rw [rdd_lt (by rw [List.length_take]; omega), List.getElem_take]
    exact this
/-- The loop that keeps some. -/
theorem L_keep (kk : Int → List HeadS → Int → Int → Option Res) (at_ d : Int) {hn : Nat} {hs : List HeadS} (hl : hs.length = hn) (hn6 : hn ≤ 1000000) (hd : -9223372036854775808 ≤ at_ + d ∧ at_ + d ≤ 9223372036854775807) : ∀ (m i w : Nat) (row : List HeadS), i ≤ hn → hn - i < m → hn ≤ row.length → w ≤ i → (row.drop i).take (hn - i) = hs.drop i → row.take w = (hs.take i).filter (fun h => !inDel at_ d h) →
    ∃ (row' : List HeadS) (w' : Nat), hn ≤ row'.length ∧ w' ≤ hn ∧ row'.take w' = hs.filter (fun h => !inDel at_ d h) ∧ L_z1s_0 FUEL kk hn m (w : Int) (i : Int) row at_ d = kk (w' : Int) row' at_ d
  | 0, _, _, _, _, h, _, _, _, _ => by omega
  | m + 1, i, w, row, hi, hm, hle, hwi, hrest, hkept => by
    have hL : L_z1s_0 FUEL kk hn (m + 1) (w : Int) (i : Int) row at_ d = F_z1s_0 FUEL kk hn (L_z1s_0 FUEL kk hn m) (w : Int) (i : Int) row at_ d := rfl
    rw [hL]
    unfold F_z1s_0
    simp only [cond_dec]
    by_cases h : i < hn
    · have hrd : rdd zHeadS row i = rdd zHeadS hs i := by
        have h1 : (row.drop i).take (hn - i) = rdd zHeadS hs i :: hs.drop (i + 1) := by rw [hrest, drop_rdd zHeadS (show i < hs.length by omega)]
        rw [drop_rdd zHeadS (show i < row.length by omega), show hn - i = (hn - (i + 1)) + 1 by omega, List.take_succ_cons] at h1
        exact (List.cons.inj h1).1
      have hnext : (row.drop (i + 1)).take (hn - (i + 1)) = hs.drop (i + 1) := by
        have h1 : (row.drop i).take (hn - i) = rdd zHeadS hs i :: hs.drop (i + 1) := by rw [hrest, drop_rdd zHeadS (show i < hs.length by omega)]
        rw [drop_rdd zHeadS (show i < row.length by omega), show hn - i = (hn - (i + 1)) + 1 by omega, List.take_succ_cons] at h1
        exact (List.cons.inj h1).2
      have q := Q_del1 (rdd zHeadS hs i) at_ d hd
      have htk : (hs.take (i + 1)).filter (fun h => !inDel at_ d h) = (hs.take i).filter (fun h => !inDel at_ d h) ++ if inDel at_ d (rdd zHeadS hs i) then [] else [rdd zHeadS hs i] := by
        rw [take_rdd zHeadS (show i < hs.length by omega), List.filter_append]
        congr 1
        cases hb : inDel at_ d (rdd zHeadS hs i) <;> simp [hb]
      rw [if_pos (by omega), if_pos ⟨by omega, by omega⟩]
      simp only [toNat_cast, hrd, ok_z1q, q_z1q, q, RS.get, Option.getD_some, Option.isSome_some, cond_true]
      rw [i64_succ (i := i) (by omega)]
      cases hb : inDel at_ d (rdd zHeadS hs i) with
      | true =>
        rw [hb] at htk
        simp only [Bool.not_true, cond_false]
        exact L_keep kk at_ d hl hn6 hd m (i + 1) w row (by omega) (by omega) hle (by omega) hnext (by rw [htk, hkept]; simp)
      | false =>
        rw [hb] at htk
        simp only [Bool.not_false, cond_true]
        rw [if_pos ⟨by omega, by omega⟩, i64_succ (i := w) (by omega)]
        refine L_keep kk at_ d hl hn6 hd m (i + 1) (w + 1) _ (by omega) (by omega) (by simpa using hle) (by omega) ?_ ?_
        · rw [List.drop_set_of_lt (by omega)]; exact hnext
        · rw [List.take_add_one, List.getElem?_set_self (by omega), htk, List.take_set_of_le (by omega), hkept]
          simp
    · rw [if_neg (by omega)]
      refine ⟨row, w, hle, by omega, ?_, rfl⟩
      rw [hkept, List.take_of_length_le (by omega)]
end Go.AMach

/- Layer 17: PackNames. -/
namespace Go.AMach
set_option linter.unusedVariables false
set_option linter.unusedSimpArgs false
set_option linter.unnecessarySimpa false
open Go
set_option linter.unusedVariables false

abbrev nST (b : List Int) : HK.sems rh_z2f := (((), ((), ((), (0, ())))), ((9216, ()), (b, ((32, ()), (zeros, ())))))
theorem nIns1 (b : List Int) : Q_z2c (fldP 0 0) 1 0 9216 b 32 zeros = some ((2, ()), nST b) := by kernel_rfl
theorem nIns2 (b : List Int) : Q_z2c (fldP 0 0) (-1) 0 9216 b 32 zeros = some ((1, ()), nST b) := by kernel_rfl
theorem nIns3 (b : List Int) : Q_z2c (fldP 73728 0) 0 0 9216 b 32 zeros = some ((0, ()), nST b) := by kernel_rfl
theorem nIns4 (b : List Int) : Q_z2c (fldP 73736 0) 0 0 9216 b 32 zeros = some ((1, ()), nST b) := by kernel_rfl
theorem nIns5 (b : List Int) : Q_z2c (fldP 4611686018427387904 8) 1 0 9216 b 32 zeros = some ((1, ()), nST b) := by kernel_rfl
theorem nIns6 (b : List Int) : Q_z2c ((0, (3, (0, (0, (8, ()))))) : FieldS) 0 0 9216 b 32 zeros = some ((3, ()), nST b) := by kernel_rfl
theorem nDel1 (b : List Int) : Q_z2f ((0, (3, (0, (0, (8, ()))))) : FieldS) 0 0 9216 b 32 zeros = some ((3, ()), nST b) := by kernel_rfl
theorem nDel2 (b : List Int) : Q_z2f (fldP 8 8) 9216 0 9216 b 32 zeros = some ((1, ()), nST b) := by kernel_rfl
theorem nSpot (b : List Int) : Q_z2a (fldP 0 8) 0 9216 b 32 zeros = some ((0, (0, ())), nST b) := by kernel_rfl
theorem nDF : Q_z2e 0 9216 = some ((0, ()), ((0, ()), ((9216, ()), ([], ())))) := by kernel_rfl
theorem dec_nd {y : Int} {x : HK.sems rh_z2f_1} : decRes ro_z2f rh_z2f (some (encRes ro_z2f_1 rh_z2f_1 ((y, ()), x))) = none := rfl
theorem nDel3 (b : List Int) (hb : b.length = 9216) : ∃ row', Q_z2f (fldP 0 8) 9216 0 9216 b 32 zeros = none ∧ Q_z2f_1 (fldP 0 8) 9216 0 9216 b 32 zeros = some ((0, ()), (((), (0, ((), (0, ())))), ((0, ()), (row', ((32, ()), (zeros, ([], ()))))))) := by
  have V := Vw.self b
  rw [hb] at V
  obtain ⟨_, d2⟩ := Q_bDel V 0 9216 (by omega) (by omega) (by omega)
  obtain ⟨row', _, qb⟩ := d2 9216 rfl (by omega)
  have qm : Q_z1l 0 (IntKind.wrap .i64 (0 - 9216)) 0 0 0 row' [] 32 zeros = some ((), pkV 0 0 32 [] row' zeros 0) := by kernel_rfl
  have hM : M_z2f FUEL (fldP 0 8) 9216 0 9216 b 32 zeros = some (encRes ro_z2f_1 rh_z2f_1 ((0, ()), (((), (0, ((), (0, ())))), ((0, ()), (row', ((32, ()), (zeros, ([], ())))))))) := by
    unfold M_z2f
    extract_lets -merge +onlyGivenNames y1
    have e_y1 : y1 = _ := (congrArg RS.get (nSpot b)).trans (get_some _)
    clear_value y1; subst e_y1
    refine stepC (nSpot b) ?_
    refine stepF (rfl) ?_
    extract_lets -merge +onlyGivenNames y2
    have e_y2 : y2 = _ := (congrArg RS.get (qb)).trans (get_some _)
    clear_value y2; subst e_y2
    refine stepC (qb) ?_
    refine stepF (rfl) ?_
    extract_lets -merge +onlyGivenNames y3
    have e_y3 : y3 = _ := (congrArg RS.get (nDF)).trans (get_some _)
    clear_value y3; subst e_y3
    refine stepC (nDF) ?_
    extract_lets -merge +onlyGivenNames y4
    have e_y4 : y4 = _ := (congrArg RS.get (qm)).trans (get_some _)
    clear_value y4; subst e_y4
    refine stepC (qm) ?_
    rfl
  exact ⟨row', by unfold Q_z2f; rw [hM]; exact dec_nd, fin hM⟩

theorem nWalk0 : Q_z11 = none := by kernel_rfl
theorem nWalk1 : Q_z11_1 = some (((), ()), pkS [(1, (0, ())), (2, (2, ()))] 3 [0, 5, 2, 255, 255, 255] zeros) := by kernel_rfl
theorem nLen (row' : List Int) : Q_z2v 0 0 row' 32 zeros = some ((0, ()), (((), ((), ((), (0, ())))), ((0, ()), (row', ((32, ()), (zeros, ())))))) := by kernel_rfl
theorem names17 (hd : ByteArray → ByteArray) (hh : ∀ z, hd z = z) : MH_z2w FUEL hd = some (encRes ro_z2w rh_z2w ((true, ()), ())) := by
  unfold MH_z2w
  refine stepN (nWalk0) ?_
  extract_lets -merge +onlyGivenNames y1
  have e_y1 : y1 = _ := (congrArg RS.get (nWalk1)).trans (get_some _)
  clear_value y1; subst e_y1
  refine stepC (nWalk1) ?_
  extract_lets -merge +onlyGivenNames y2
  have e_y2 : y2 = _ := (congrArg RS.get (awake17)).trans (get_some _)
  clear_value y2; subst e_y2
  refine stepC (awake17) ?_
  refine stepF (rfl) ?_
  refine stepT ((by decide)) ?_
  extract_lets -merge +onlyGivenNames y0
  have hsz : (hd y0).size = 9216 := by rw [hh]; exact (bytesOf_size _).trans (mkL_length _ _)
  clear_value y0
  generalize hd y0 = y3 at hsz ⊢
  have hb := bytesL_length y3
  rw [hsz] at hb
  have q := Q_pNew 0 y3 (by omega)
  rw [hsz] at q
  have h1 : (ByteArray.mk #[97]).size = 1 := rfl
  have hs1 : (y3 ++ ByteArray.mk #[97]).size = 9217 := by rw [ByteArray.size_append, hsz, h1]
  obtain ⟨b0, b1⟩ := Q_pNewBad 0 (y3 ++ ByteArray.mk #[97]) (by omega)
  generalize bytesL y3 = b at q hb
  obtain ⟨row', d0, d1⟩ := nDel3 b hb
  have qP : ∀ a w, Q_z1o a w = some ((fldP a w, ()), ()) := fun a w => fin rfl
  have qM : ∀ a w, Q_z2d a w = some (((0, (3, (0, (a, (w, ()))))), ()), ()) := fun a w => fin rfl
  extract_lets -merge +onlyGivenNames y7
  have e_y7 : y7 = _ := (congrArg RS.get (q)).trans (get_some _)
  clear_value y7; subst e_y7
  refine stepC (q) ?_
  refine stepT (decide_eq_true (by rw [hsz, h1]; omega)) ?_
  refine stepN (b0) ?_
  refine stepC (b1) ?_
  extract_lets -merge +onlyGivenNames y9
  have e_y9 : y9 = _ := (congrArg RS.get (qP 0 0)).trans (get_some _)
  clear_value y9; subst e_y9
  refine stepC (qP 0 0) ?_
  extract_lets -merge +onlyGivenNames y10
  have e_y10 : y10 = _ := (congrArg RS.get (nIns1 b)).trans (get_some _)
  clear_value y10; subst e_y10
  refine stepC (nIns1 b) ?_
  refine stepF (rfl) ?_
  extract_lets -merge +onlyGivenNames y11
  have e_y11 : y11 = _ := (congrArg RS.get (qP 0 0)).trans (get_some _)
  clear_value y11; subst e_y11
  refine stepC (qP 0 0) ?_
  extract_lets -merge +onlyGivenNames y12
  have e_y12 : y12 = _ := (congrArg RS.get (nIns2 b)).trans (get_some _)
  clear_value y12; subst e_y12
  refine stepC (nIns2 b) ?_
  refine stepF (rfl) ?_
  extract_lets -merge +onlyGivenNames y13
  have e_y13 : y13 = _ := (congrArg RS.get (qP 73728 0)).trans (get_some _)
  clear_value y13; subst e_y13
  refine stepC (qP 73728 0) ?_
  extract_lets -merge +onlyGivenNames y14
  have e_y14 : y14 = _ := (congrArg RS.get (nIns3 b)).trans (get_some _)
  clear_value y14; subst e_y14
  refine stepC (nIns3 b) ?_
  refine stepF (rfl) ?_
  extract_lets -merge +onlyGivenNames y15
  have e_y15 : y15 = _ := (congrArg RS.get (qP 73736 0)).trans (get_some _)
  clear_value y15; subst e_y15
  refine stepC (qP 73736 0) ?_
  extract_lets -merge +onlyGivenNames y16
  have e_y16 : y16 = _ := (congrArg RS.get (nIns4 b)).trans (get_some _)
  clear_value y16; subst e_y16
  refine stepC (nIns4 b) ?_
  refine stepF (rfl) ?_
  extract_lets -merge +onlyGivenNames y17
  have e_y17 : y17 = _ := (congrArg RS.get (qP 4611686018427387904 8)).trans (get_some _)
  clear_value y17; subst e_y17
  refine stepC (qP 4611686018427387904 8) ?_
  extract_lets -merge +onlyGivenNames y18
  have e_y18 : y18 = _ := (congrArg RS.get (nIns5 b)).trans (get_some _)
  clear_value y18; subst e_y18
  refine stepC (nIns5 b) ?_
  refine stepF (rfl) ?_
  extract_lets -merge +onlyGivenNames y19
  have e_y19 : y19 = _ := (congrArg RS.get (qM 0 8)).trans (get_some _)
  clear_value y19; subst e_y19
  refine stepC (qM 0 8) ?_
  extract_lets -merge +onlyGivenNames y20
  have e_y20 : y20 = _ := (congrArg RS.get (nIns6 b)).trans (get_some _)
  clear_value y20; subst e_y20
  refine stepC (nIns6 b) ?_
  refine stepF (rfl) ?_
  extract_lets -merge +onlyGivenNames y21
  have e_y21 : y21 = _ := (congrArg RS.get (qM 0 8)).trans (get_some _)
  clear_value y21; subst e_y21
  refine stepC (qM 0 8) ?_
  extract_lets -merge +onlyGivenNames y111
  have e_y111 : y111 = _ := (congrArg RS.get (nDel1 b)).trans (get_some _)
  clear_value y111; subst e_y111
  refine stepC (nDel1 b) ?_
  refine stepF (rfl) ?_
  extract_lets -merge +onlyGivenNames y112
  have e_y112 : y112 = _ := (congrArg RS.get (qP 8 8)).trans (get_some _)
  clear_value y112; subst e_y112
  refine stepC (qP 8 8) ?_
  extract_lets -merge +onlyGivenNames y194
  have e_y194 : y194 = _ := (congrArg RS.get (nDel2 b)).trans (get_some _)
  clear_value y194; subst e_y194
  refine stepC (nDel2 b) ?_
  refine stepF (rfl) ?_
  extract_lets -merge +onlyGivenNames y195
  have e_y195 : y195 = _ := (congrArg RS.get (qP 0 8)).trans (get_some _)
  clear_value y195; subst e_y195
  refine stepC (qP 0 8) ?_
  refine stepN (d0) ?_
  extract_lets -merge +onlyGivenNames y196
  have e_y196 : y196 = _ := (congrArg RS.get (d1)).trans (get_some _)
  clear_value y196; subst e_y196
  refine stepC (d1) ?_
  refine stepF (rfl) ?_
  extract_lets -merge +onlyGivenNames y197
  have e_y197 : y197 = _ := (congrArg RS.get (Q_pLenV 0 0 32 [] row' zeros 0)).trans (get_some _)
  clear_value y197; subst e_y197
  refine stepC (Q_pLenV 0 0 32 [] row' zeros 0) ?_
  refine stepF (rfl) ?_
  kernel_rfl
theorem Pure.PackNames : Q_z2w = some ((true, ()), ()) := fin (names17 (fun b => b) fun _ => rfl)
end Go.AMach
