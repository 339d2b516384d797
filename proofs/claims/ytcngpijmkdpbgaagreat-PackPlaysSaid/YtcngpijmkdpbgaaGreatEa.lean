/- Parts of the proof. -/
import Derived.Test.YtcngpijmkdpbgaaGreatBv
/- Layer 17: a number put into a packet whose rows are longer than what is told of them. -/
namespace Go.AMach
set_option linter.unusedVariables false
set_option linter.unusedSimpArgs false
set_option linter.unnecessarySimpa false
open Go
set_option linter.unusedVariables false

theorem Vw.over {n : Nat} {row b : List Int} (V : Vw n row b) {fr m : Nat} (h : fr + m ≤ n) {c : List Int} (hc : c.length = m) :
    Vw n (cutL (0 : Int) row 0 fr ++ (c ++ cutL (0 : Int) row (fr + m) (row.length - (fr + m)))) (b.take fr ++ (c ++ b.drop (fr + m))) := by
  have hle := V.le
  have hbl := V.len
  have hb : b = row.take n := V.eq.symm
  refine ⟨by simp only [List.length_append, jbV, hc]; omega, ?_⟩
  rw [jek (by omega), jek (by omega), List.drop_zero, List.take_of_length_le (l := row.drop (fr + m)) (by rw [List.length_drop]; omega)]
  have h1 : (row.take fr).length = fr := by rw [List.length_take]; omega
  rw [List.take_append, List.take_of_length_le (l := row.take fr) (by omega), h1, List.take_append, List.take_of_length_le (l := c) (by omega), hc]
  have e1 : b.take fr = row.take fr := by rw [hb, List.take_take]; congr 1; omega
  have e2 : b.drop (fr + m) = (row.drop (fr + m)).take (n - fr - m) := by rw [hb, List.drop_take]; congr 1; omega
  rw [e1, e2]

theorem jKd {n : Nat} {row b : List Int} (V : Vw n row b) (hb : isB b) (off w : Int) (v : Nat) (hv : v < 340282366920938463463374607431768211456) (hl : n ≤ 1000000) (ho : -9223372036854775808 ≤ off ∧ off ≤ 9223372036854775807) :
    ∃ row', Vw n row' (if (getB b off w).isSome then putB b off w v else b) ∧
    jMp off w (wN v) n row = some (((if (getB b off w).isSome then 0 else getE off w), ()), ((n, ()), (row', ()))) := by
  have hbl := V.len
  have hle := V.le
  obtain ⟨h0, h1⟩ := jKb V off w hl ho
  cases hg : getB b off w with
  | none =>
    refine ⟨row, V, fin ?_⟩
    unfold jKn
    have hn' : ¬ (0 ≤ off ∧ 1 ≤ w ∧ w ≤ 128 ∧ off + w ≤ 8 * (b.length : Int)) := fun k => by unfold getB at hg; rw [if_pos k] at hg; cases hg
    simp only [jkv, jBs, h0 hg, RS.get, Option.getD_some, Option.isSome_some, cond_true, V.all]
    have e : IntKind.wrap .i64 (off - IntKind.wrap .i64 (8 * (0 : Int))) = off := by
      rw [show IntKind.wrap .i64 (8 * (0 : Int)) = 0 by rfl, IntWalk.i64_in _ (by omega)]; omega
    rw [e]
    have := jKa (bytesOf b) off w (wN v) (by rw [jaw]; omega) ho.2 (by rw [jaw]; exact hn')
    simp only [jtm, jDZ, this, RS.get, Option.getD_some, Option.isSome_some, cond_true, jaQ, decide_eq_false (jfP off w), cond_false]
    rfl
  | some v0 =>
    have hv' : 0 ≤ off ∧ 1 ≤ w ∧ w ≤ 128 ∧ off + w ≤ 8 * (b.length : Int) := Classical.byContradiction fun k => by unfold getB at hg; rw [if_neg k] at hg; cases hg
    have h1 := h1 v0 hg
    generalize hf : off.toNat / 8 = fr at h1
    generalize hn : (off.toNat + w.toNat + 7) / 8 - fr = m at h1
    have e : IntKind.wrap .i64 (off - IntKind.wrap .i64 (8 * ((fr : Nat) : Int))) = ((off.toNat - 8 * fr : Nat) : Int) := by
      rw [IntWalk.i64_in (8 * ((fr : Nat) : Int)) (by omega), IntWalk.i64_in _ (by omega)]; omega
    have hwn : w = ((w.toNat : Nat) : Int) := by omega
    have hcut : cutL (0 : Int) row fr m = (b.drop fr).take m := by rw [V.cut (by omega)]; exact jek (by omega)
    have hlen : ((b.drop fr).take m).length = m := by rw [List.length_take, List.length_drop]; omega
    have hcB : isB ((b.drop fr).take m) := fun x hx => hb _ (List.mem_of_mem_drop (List.mem_of_mem_take hx))
    have hP := Q_fPut v hv hcB (off.toNat - 8 * fr) w.toNat (by omega) (by rw [hlen]; omega) (by rw [hlen]; omega)
    rw [← hwn] at hP
    have hpl : (putN ((b.drop fr).take m) (off.toNat - 8 * fr) w.toNat v).length = m := by rw [jbG, hlen]
    have hsz : (bytesOf (putN ((b.drop fr).take m) (off.toNat - 8 * fr) w.toNat v)).size = m := by rw [jaw, hpl]
    have hnew := jlW b hb off.toNat w.toNat v fr m hf.symm hn.symm (by omega) (by omega)
    have hc2 : cutL (0 : Int) (jax (bytesOf (putN ((b.drop fr).take m) (off.toNat - 8 * fr) w.toNat v))) 0 (Nat.min m m) = putN ((b.drop fr).take m) (off.toNat - 8 * fr) w.toNat v := by
      rw [jbc (jgq _ _ _ _), show Nat.min m m = m from Nat.min_self m]
      have := jbI (0 : Int) (putN ((b.drop fr).take m) (off.toNat - 8 * fr) w.toNat v)
      rw [hpl] at this; exact this
    have d1 : decide (fr + m ≤ row.length) = true := by rw [decide_eq_true_eq]; omega
    have VV := V.over (fr := fr) (m := m) (by omega) hpl
    rw [hnew] at VV
    refine ⟨_, VV, fin ?_⟩
    unfold jKn
    simp only [Option.isSome_some, if_true]
    rcases h1 with ⟨z, a1⟩ | ⟨a1, a2⟩
    · subst z
      simp only [jkv, jBs, a1, e, hcut, jtm, jDZ, hP, RS.get, Option.getD_some, Option.isSome_some, cond_true, jaQ, decide_true, d1, hsz, hc2, hpl]
    · simp only [jkv, jkQ, jpO, a1, a2, e, hcut, jtm, jDZ, hP, RS.get, Option.getD_some, Option.isSome_some, Option.isSome_none, cond_true, cond_false, jaQ, decide_true, d1, hsz, hc2, hpl]

theorem jrp {hn bn mn : Nat} {hrow : List jan} {brow mrow : List Int} {hs : List jan} {b mt : List Int} (K : PkV hn bn mn hrow brow mrow hs b mt) (pt : Int) (f : jaB) (hf : jaT.good f) (v : Nat) (hv : v < 340282366920938463463374607431768211456) :
    ∃ brow' mrow', PkV hn bn mn hrow brow' mrow' hs (putF hs b mt f v).2.1 (putF hs b mt f v).2.2 ∧
    jJC f (wN v) hn pt bn brow hrow mn mrow = some (((putF hs b mt f v).1, ()), pkV hn bn mn hrow brow' mrow' pt) := by
  obtain ⟨h1, h2, h3, h4, h5, _⟩ := hf
  have r4 := jsk h4
  have lb := K.vb.len
  have lm := K.vm.len
  have hok := jvp K.ok f v
  obtain ⟨p1, p2, p3⟩ := jrn K pt f
  have hbit : ∀ a, 0 ≤ a ∧ a ≤ 1000000 → jCb a f.2.2.2.1 = some ((bitV a f.2.2.2.1, ()), ()) := fun a ha => Q_bit a _ ha r4.2
  have rbit : ∀ a, 0 ≤ a ∧ a ≤ 1000000 → -9223372036854775808 ≤ bitV a f.2.2.2.1 ∧ bitV a f.2.2.2.1 ≤ 9223372036854775807 := fun a ha => by unfold bitV; split <;> omega
  cases hw : jch hs b mt f with
  | none =>
    obtain ⟨q0, q1, q2⟩ := p1 hw
    have e : putF hs b mt f v = (3, (b, mt)) := by unfold putF; rw [hw]
    rw [e]
    refine ⟨brow, mrow, K, fin ?_⟩
    unfold juz
    simp only [jes, jcC, jgr, jjg, q0, q1, q2, RS.get, Option.getD_some, Option.isSome_some, Option.isSome_none, cond_true, cond_false]
    rfl
  | some ca =>
    obtain ⟨c, a⟩ := ca
    rcases jij hw with ⟨c3, rfl, rfl⟩ | ⟨c3, rfl, ha⟩
    · obtain ⟨q0, q1⟩ := p2 _ _ hw c3
      obtain ⟨row', VV, qp⟩ := jKd K.vm K.ok.mB (bitV 0 f.2.2.2.1) f.2.2.2.2.1 v hv (by have := K.ok.ml; omega) (rbit 0 (by omega))
      cases hg : getB c (bitV 0 f.2.2.2.1) f.2.2.2.2.1 with
      | none =>
        rw [hg] at qp VV
        simp only [Option.isSome_none, Bool.false_eq_true, if_false] at qp VV
        have e : putF hs b c f v = (1, (b, c)) := by unfold putF; rw [hw]; simp only; rw [hg]; rfl
        rw [e]
        refine ⟨brow, row', ⟨K.vh, K.vb, VV, K.ok⟩, fin ?_⟩
        unfold juz
        simp only [jes, jcC, jgS, q0, q1, RS.get, Option.getD_some, Option.isSome_some, Option.isSome_none, cond_true, cond_false]
        simp only [jaQ, jaV, decide_true, cond_true, jfp, jkL, hbit 0 (by omega), jor, jBo, qp, RS.get, Option.getD_some, Option.isSome_some, decide_eq_false (jfP _ _), Bool.not_false]
      | some x =>
        rw [hg] at qp VV
        simp only [Option.isSome_some, if_true] at qp VV
        have e : putF hs b c f v = (0, (b, putB c (bitV 0 f.2.2.2.1) f.2.2.2.2.1 v)) := by unfold putF; rw [hw]; simp only; rw [hg, if_pos c3]; rfl
        rw [e] at hok ⊢
        refine ⟨brow, row', ⟨K.vh, K.vb, VV, hok⟩, fin ?_⟩
        unfold juz
        simp only [jes, jcC, jgS, q0, q1, RS.get, Option.getD_some, Option.isSome_some, Option.isSome_none, cond_true, cond_false]
        simp only [jaQ, jaV, decide_true, cond_true, jfp, jkL, hbit 0 (by omega), jor, jBo, qp, RS.get, Option.getD_some, Option.isSome_some, Bool.not_true, cond_false]
    · have q0 := p3 _ _ hw c3
      have ha' : 0 ≤ a ∧ a ≤ 1000000 := by
        rcases ha with h | h
        · omega
        · exact jhh K.ok h
      obtain ⟨row', VV, qp⟩ := jKd K.vb K.ok.bB (bitV a f.2.2.2.1) f.2.2.2.2.1 v hv (by have := K.ok.bl; omega) (rbit a ha')
      cases hg : getB c (bitV a f.2.2.2.1) f.2.2.2.2.1 with
      | none =>
        rw [hg] at qp VV
        simp only [Option.isSome_none, Bool.false_eq_true, if_false] at qp VV
        have e : putF hs c mt f v = (1, (c, mt)) := by unfold putF; rw [hw]; simp only; rw [hg]; rfl
        rw [e]
        refine ⟨row', mrow, ⟨K.vh, VV, K.vm, K.ok⟩, fin ?_⟩
        unfold juz
        simp only [jes, jvl, q0, RS.get, Option.getD_some, Option.isSome_some, cond_true]
        simp only [jaQ, jaV, decide_true, cond_true, jfp, jkL, hbit a ha', jor, jBo, qp, RS.get, Option.getD_some, Option.isSome_some, decide_eq_false (jfP _ _), Bool.not_false]
      | some x =>
        rw [hg] at qp VV
        simp only [Option.isSome_some, if_true] at qp VV
        have e : putF hs c mt f v = (0, (putB c (bitV a f.2.2.2.1) f.2.2.2.2.1 v, mt)) := by unfold putF; rw [hw]; simp only; rw [hg, if_neg c3]; rfl
        rw [e] at hok ⊢
        refine ⟨row', mrow, ⟨K.vh, VV, K.vm, hok⟩, fin ?_⟩
        unfold juz
        simp only [jes, jvl, q0, RS.get, Option.getD_some, Option.isSome_some, cond_true]
        simp only [jaQ, jaV, decide_true, cond_true, jfp, jkL, hbit a ha', jor, jBo, qp, RS.get, Option.getD_some, Option.isSome_some, Bool.not_true, cond_false]
end Go.AMach

/- Steps over a printed function; a walked packet. -/
namespace Go.AMach
set_option linter.unusedVariables false
set_option linter.unusedSimpArgs false
set_option linter.unnecessarySimpa false
open Go
set_option linter.unusedVariables false

theorem jaA {α β : Type} {o : Option α} {v : α} (h : o = some v) {A B X : β} (g : A = X) : cond o.isSome A B = X := by subst h; exact g
theorem jsm {α β : Type} {o : Option α} (h : o = none) {A B X : β} (g : B = X) : cond o.isSome A B = X := by subst h; exact g
theorem jaJ {β : Type} {c : Bool} (h : c = true) {A B X : β} (g : A = X) : cond c A B = X := by subst h; exact g
theorem jaI {β : Type} {c : Bool} (h : c = false) {A B X : β} (g : B = X) : cond c A B = X := by subst h; exact g
theorem bne0 {x : Int} (h : x ≠ 0) : (x != (0 : Int)) = true := by rw [jaV, decide_eq_false h]; rfl
theorem bne1 {x : Int} (h : x = 0) : (x != (0 : Int)) = false := by rw [jaV, decide_eq_true h]; rfl
theorem beqT {x y : Int} (h : x = y) : (x == y) = true := by rw [jaQ, decide_eq_true h]
theorem beqF {x y : Int} (h : x ≠ y) : (x == y) = false := by rw [jaQ, decide_eq_false h]
theorem bneF {x y : Int} (h : x = y) : (x != y) = false := by rw [jaV, decide_eq_true h]; rfl
theorem nbT {a b : ByteArray} (h : a = b) : (!(ByteArray.toList a == ByteArray.toList b)) = false := by subst h; rw [jAX, decide_eq_true rfl]; rfl

theorem PkV.self {hs : List jan} {b mt : List Int} (P : PkOk hs b mt) : PkV hs.length b.length mt.length hs b mt hs b mt := ⟨Vw.self hs, Vw.self b, Vw.self mt, P⟩
end Go.AMach

/- Layer 17: bytes taken out. -/
namespace Go.AMach
set_option linter.unusedVariables false
set_option linter.unusedSimpArgs false
set_option linter.unnecessarySimpa false
open Go
set_option linter.unusedVariables false

def delB (b : List Int) (k m : Nat) : List Int := b.take k ++ b.drop (k + m)
theorem jvz (b : List Int) (k m : Nat) (h : k + m ≤ b.length) : (delB b k m).length = b.length - m := by
  unfold delB; rw [List.length_append, List.length_take, List.length_drop]; omega
theorem jLE {b : List Int} (h : isB b) (k m : Nat) : isB (delB b k m) := fun x hx => by
  rcases List.mem_append.1 hx with hx | hx
  · exact h x (List.mem_of_mem_take hx)
  · exact h x (List.mem_of_mem_drop hx)
theorem Q_bDel {n : Nat} {row b : List Int} (V : Vw n row b) (k : Nat) (m : Int) (hk : k ≤ n) (hn : n ≤ 1000000) (hm2 : m ≤ 9223372036854775807) :
    (¬ (0 ≤ m ∧ m ≤ (n : Int) - k) → ∃ e, e ≠ 0 ∧ jJH (k : Int) m n row = some ((e, ()), ((n, ()), (row, ())))) ∧
    (∀ d : Nat, m = (d : Int) → k + d ≤ n → ∃ row', Vw (n - d) row' (delB b k d) ∧ jJH (k : Int) m n row = some ((0, ()), ((n - d, ()), (row', ())))) := by
  have hbl := V.len
  have hle := V.le
  refine ⟨fun hbad => ?_, fun d hd hkd => ?_⟩
  · by_cases h0 : m < 0
    · refine ⟨1, by decide, fin ?_⟩
      have qo : jBZ (k : Int) m n row = some ((1, ()), ((n, ()), (row, ()))) := by
        refine fin ?_
        unfold jCo
        simp only [jao]
        rw [if_neg (by omega), if_pos h0]
      unfold jCn
      extract_lets y1
      have e : y1 = _ := (congrArg RS.get qo).trans (jag _)
      clear_value y1; subst e
      simp only [jfJ, qo, Option.isSome_some, cond_true, jaQ, show decide ((1 : Int) = 0) = false from rfl, cond_false]
    · refine ⟨4, by decide, fin ?_⟩
      have qo := juw (k : Int) m n row (by omega) (by omega) hn hm2
      rw [if_pos (by omega)] at qo
      unfold jCn
      extract_lets y1
      have e : y1 = _ := (congrArg RS.get qo).trans (jag _)
      clear_value y1; subst e
      simp only [jfJ, qo, Option.isSome_some, cond_true, jaQ, show decide ((4 : Int) = 0) = false from rfl, cond_false]
  · subst hd
    have qo := juw (k : Int) (d : Int) n row (by omega) (by omega) hn hm2
    rw [if_neg (by omega)] at qo
    have ekd : IntKind.wrap .i64 ((k : Int) + (d : Int)) = ((k + d : Nat) : Int) := by rw [IntWalk.i64_in _ (by omega)]; omega
    have hmin : Nat.min (n - (k + d)) (n - k) = n - (k + d) := Nat.min_eq_left (by omega)
    have hlen : (cutL (0 : Int) row (k + d) (n - (k + d))).length = n - (k + d) := jbV _ _ _ _
    have hcw : cutL (0 : Int) row (k + d) (n - (k + d)) = b.drop (k + d) := by
      rw [V.cut (by omega), jek (by omega), List.take_of_length_le (by rw [List.length_drop]; omega)]
    have hc0 : cutL (0 : Int) row 0 k = b.take k := by rw [V.cut (by omega), jek (by omega), List.drop_zero]
    have e2 : IntKind.wrap .i64 ((k : Int) + ((n - (k + d) : Nat) : Int)) = ((n - d : Nat) : Int) := by rw [IntWalk.i64_in _ (by omega)]; omega
    refine ⟨b.take k ++ (b.drop (k + d) ++ cutL (0 : Int) row (k + (n - (k + d))) (row.length - (k + (n - (k + d))))), ⟨?_, ?_⟩, fin ?_⟩
    · simp only [List.length_append, List.length_take, List.length_drop, jbV]; omega
    · rw [← List.append_assoc, List.take_append_of_le_length (by simp only [List.length_append, List.length_take, List.length_drop]; omega), List.take_of_length_le (by simp only [List.length_append, List.length_take, List.length_drop]; omega)]
      rfl
    · unfold jCn
      extract_lets y1 y2
      have e : y1 = _ := (congrArg RS.get qo).trans (jag _)
      clear_value y1; subst e
      have hy2 : y2 = ((n - (k + d) : Nat) : Int) := by
        show (((Nat.min (Int.toNat ((n : Nat) : Int) - Int.toNat (IntKind.wrap .i64 ((k : Int) + (d : Int)))) (Int.toNat ((n : Nat) : Int) - Int.toNat (k : Int))) : Nat) : Int) = _
        rw [ekd, jal, jal, jal, hmin]
      clear_value y2; subst hy2
      have t0 : Int.toNat (0 : Int) = 0 := rfl
      have d1 : decide ((0 : Int) ≤ (k : Int) ∧ (k : Int) ≤ ((n : Nat) : Int) ∧ ((n : Nat) : Int) ≤ ((n : Nat) : Int) ∧ ((n : Nat) : Int) ≤ ((n : Nat) : Int)) = true := by rw [decide_eq_true_eq]; omega
      have d2 : decide ((0 : Int) ≤ ((k + d : Nat) : Int) ∧ ((k + d : Nat) : Int) ≤ ((n : Nat) : Int) ∧ ((n : Nat) : Int) ≤ ((n : Nat) : Int) ∧ ((n : Nat) : Int) ≤ ((n : Nat) : Int)) = true := by rw [decide_eq_true_eq]; omega
      have d3 : decide (k + d + (n - (k + d)) ≤ row.length) = true := by rw [decide_eq_true_eq]; omega
      have d4 : decide (k + (n - k) ≤ row.length) = true := by rw [decide_eq_true_eq]; omega
      have d5 : decide ((0 : Int) ≤ (0 : Int) ∧ (0 : Int) ≤ ((n - d : Nat) : Int) ∧ ((n - d : Nat) : Int) ≤ ((n : Nat) : Int) ∧ ((n : Nat) : Int) ≤ ((n : Nat) : Int)) = true := by rw [decide_eq_true_eq]; omega
      simp only [jfJ, qo, Option.isSome_some, cond_true, jaQ, decide_true, ekd, jal, t0, Nat.zero_add, Nat.sub_zero, hmin, e2, hlen, hcw, hc0, d1, d2, d3, d4, d5]
      have hl2 : (b.drop (k + d)).length = n - (k + d) := by rw [List.length_drop]; omega
      simp only [hl2]

def jcK (at_ d : Int) (h : jan) : Bool := decide (h.2.1 ≥ at_) && decide (h.2.1 < at_ + d)
theorem jRa (h : jan) (at_ d : Int) (hd : -9223372036854775808 ≤ at_ + d ∧ at_ + d ≤ 9223372036854775807) : jML h at_ d = some ((jcK at_ d h, ()), ((at_, ()), ((d, ()), ()))) := by
  refine fin ?_
  unfold jNY jcK
  rw [IntWalk.i64_in _ hd]
  by_cases c : h.2.1 ≥ at_
  · rw [decide_eq_true c, cond_true, Bool.true_and]
  · rw [decide_eq_false c, cond_false, Bool.false_and]
theorem L_idx (kr : Int → Int → Int → Option Res) (kt : Int → Int → Option Res) (hs : List jan) (at_ d : Int) (hl : hs.length ≤ 1000000) (hd : -9223372036854775808 ≤ at_ + d ∧ at_ + d ≤ 9223372036854775807) : ∀ (m i : Nat), i ≤ hs.length → hs.length - i < m → (∀ j, j < i → jcK at_ d (rdd jak hs j) = false) →
    (∃ j, j < hs.length ∧ jcK at_ d (rdd jak hs j) = true ∧ (∀ k, k < j → jcK at_ d (rdd jak hs k) = false) ∧ jfY FUEL kr kt hs ((hs.length : Nat) : Int) m (i : Int) at_ d = kr (j : Int) at_ d) ∨
    ((∀ j, j < hs.length → jcK at_ d (rdd jak hs j) = false) ∧ jfY FUEL kr kt hs ((hs.length : Nat) : Int) m (i : Int) at_ d = kt at_ d)
  | 0, _, _, h, _ => by omega
  | m + 1, i, hi, hm, hj => by
    have hL : jfY FUEL kr kt hs ((hs.length : Nat) : Int) (m + 1) (i : Int) at_ d = jrV FUEL kr kt hs ((hs.length : Nat) : Int) (jfY FUEL kr kt hs ((hs.length : Nat) : Int) m) (i : Int) at_ d := rfl
    rw [hL]
    unfold jrV
    simp only [jao]
    by_cases h : i < hs.length
    · have q := jRa (rdd jak hs i) at_ d hd
      rw [if_pos (by omega), if_pos ⟨by omega, by omega⟩]
      simp only [jal, jyw, jKY, q, RS.get, Option.getD_some, Option.isSome_some, cond_true]
      cases hb : jcK at_ d (rdd jak hs i) with
      | true => left; exact ⟨i, h, hb, hj, rfl⟩
      | false =>
        rw [cond_false, jaD (by omega)]
        refine L_idx kr kt hs at_ d hl hd m (i + 1) (by omega) (by omega) fun j hj' => ?_
        by_cases e : j = i
        · rw [e]; exact hb
        · exact hj j (by omega)
    · right
      rw [if_neg (by omega)]
      exact ⟨fun j hj' => hj j (by omega), rfl⟩
theorem jjn {p : jan → Bool} : ∀ {l : List jan}, (∀ j, j < l.length → p (rdd jak l j) = false) → l.filter (fun h => !p h) = l
  | [], _ => rfl
  | x :: r, h => by
    have h0 := h 0 (by simp)
    rw [jbd (by simp)] at h0
    simp only [List.getElem_cons_zero] at h0
    rw [List.filter_cons, if_pos (by simp [h0]), jjn fun j hj => by
      have := h (j + 1) (by simpa using hj)
      rw [jbd (by simpa using hj)] at this
      rw [jbd hj]
      simpa using this]
theorem jkH {p : jan → Bool} {l : List jan} {i : Nat} (hi : i ≤ l.length) (h : ∀ j, j < i → p (rdd jak l j) = false) : (l.take i).filter (fun h => !p h) = l.take i :=
  jjn fun j hj => by
    rw [List.length_take] at hj
    have := h j (by omega)
    rw [jbd (by omega)] at this
    rw [jbd (by rw [List.length_take]; omega), List.getElem_take]
    exact this
theorem jKF (kk : Int → List jan → Int → Int → Option Res) (at_ d : Int) {hn : Nat} {hs : List jan} (hl : hs.length = hn) (hn6 : hn ≤ 1000000) (hd : -9223372036854775808 ≤ at_ + d ∧ at_ + d ≤ 9223372036854775807) : ∀ (m i w : Nat) (row : List jan), i ≤ hn → hn - i < m → hn ≤ row.length → w ≤ i → (row.drop i).take (hn - i) = hs.drop i → row.take w = (hs.take i).filter (fun h => !jcK at_ d h) →
    ∃ (row' : List jan) (w' : Nat), hn ≤ row'.length ∧ w' ≤ hn ∧ row'.take w' = hs.filter (fun h => !jcK at_ d h) ∧ jfX FUEL kk hn m (w : Int) (i : Int) row at_ d = kk (w' : Int) row' at_ d
  | 0, _, _, _, _, h, _, _, _, _ => by omega
  | m + 1, i, w, row, hi, hm, hle, hwi, hrest, hkept => by
    have hL : jfX FUEL kk hn (m + 1) (w : Int) (i : Int) row at_ d = jrU FUEL kk hn (jfX FUEL kk hn m) (w : Int) (i : Int) row at_ d := rfl
    rw [hL]
    unfold jrU
    simp only [jao]
    by_cases h : i < hn
    · have hrd : rdd jak row i = rdd jak hs i := by
        have h1 : (row.drop i).take (hn - i) = rdd jak hs i :: hs.drop (i + 1) := by rw [hrest, jaP jak (show i < hs.length by omega)]
        rw [jaP jak (show i < row.length by omega), show hn - i = (hn - (i + 1)) + 1 by omega, List.take_succ_cons] at h1
        exact (List.cons.inj h1).1
      have hnext : (row.drop (i + 1)).take (hn - (i + 1)) = hs.drop (i + 1) := by
        have h1 : (row.drop i).take (hn - i) = rdd jak hs i :: hs.drop (i + 1) := by rw [hrest, jaP jak (show i < hs.length by omega)]
        rw [jaP jak (show i < row.length by omega), show hn - i = (hn - (i + 1)) + 1 by omega, List.take_succ_cons] at h1
        exact (List.cons.inj h1).2
      have q := jRa (rdd jak hs i) at_ d hd
      have htk : (hs.take (i + 1)).filter (fun h => !jcK at_ d h) = (hs.take i).filter (fun h => !jcK at_ d h) ++ if jcK at_ d (rdd jak hs i) then [] else [rdd jak hs i] := by
        rw [jgc jak (show i < hs.length by omega), List.filter_append]
        congr 1
        cases hb : jcK at_ d (rdd jak hs i) <;> simp [hb]
      rw [if_pos (by omega), if_pos ⟨by omega, by omega⟩]
      simp only [jal, hrd, jyw, jKY, q, RS.get, Option.getD_some, Option.isSome_some, cond_true]
      rw [jaD (i := i) (by omega)]
      cases hb : jcK at_ d (rdd jak hs i) with
      | true =>
        rw [hb] at htk
        simp only [Bool.not_true, cond_false]
        exact jKF kk at_ d hl hn6 hd m (i + 1) w row (by omega) (by omega) hle (by omega) hnext (by rw [htk, hkept]; simp)
      | false =>
        rw [hb] at htk
        simp only [Bool.not_false, cond_true]
        rw [if_pos ⟨by omega, by omega⟩, jaD (i := w) (by omega)]
        refine jKF kk at_ d hl hn6 hd m (i + 1) (w + 1) _ (by omega) (by omega) (by simpa using hle) (by omega) ?_ ?_
        · rw [List.drop_set_of_lt (by omega)]; exact hnext
        · rw [List.take_add_one, List.getElem?_set_self (by omega), htk, List.take_set_of_le (by omega), hkept]
          simp
    · rw [if_neg (by omega)]
      refine ⟨row, w, hle, by omega, ?_, rfl⟩
      rw [hkept, List.take_of_length_le (by omega)]
end Go.AMach

/- Layer 17: pack.Delete, Copy. -/
namespace Go.AMach
set_option linter.unusedVariables false
set_option linter.unusedSimpArgs false
set_option linter.unnecessarySimpa false
open Go
set_option linter.unusedVariables false

def jiM (at_ d : Int) (hs : List jan) : List jan := hs.filter fun h => !jcK at_ d h
theorem Q_delF {hn : Nat} {hrow hs : List jan} (V : Vw hn hrow hs) (hn6 : hn ≤ 1000000) (at_ d : Int) (hd : -9223372036854775808 ≤ at_ + d ∧ at_ + d ≤ 9223372036854775807) :
    ∃ row', Vw (jiM at_ d hs).length row' (jiM at_ d hs) ∧ jMK hn hrow at_ d = some (((jiM at_ d hs).length, ()), (row', ((at_, ()), ((d, ()), ())))) := by
  have hl := V.len
  have hle := V.le
  rcases L_idx (fun y2 y3 y4 => some (jaa jnZ jog ((y2, ()), ((y3, ()), ((y4, ()), ()))))) (fun y5 y6 => some (jaa jnZ jog (((-1 : Int), ()), ((y5, ()), ((y6, ()), ()))))) hs at_ d (by omega) hd FUEL 0 (by omega) (by unfold FUEL; omega) (fun j hj => by omega) with ⟨j, h1, h2, h3, h4⟩ | ⟨h1, h2⟩
  · have qi : jJG hs at_ d = some (((j : Int), ()), ((at_, ()), ((d, ()), ()))) := fin h4
    have hkf : (hs.take (j + 1)).filter (fun h => !jcK at_ d h) = hrow.take j := by
      rw [jgc jak h1, List.filter_append, jkH (by omega) h3, ← V.eq, List.take_take, Nat.min_eq_left (by omega)]
      simp only [List.filter_cons, List.filter_nil]
      rw [show rdd jak (hrow.take hn) j = rdd jak hs j by rw [V.eq], h2]
      simp
    obtain ⟨row', w', l1, l2, l3, l4⟩ := jKF (fun y3 y4 y5 y6 => cond (decide ((0 : Int) ≤ y3 ∧ y3 ≤ ((hn : Nat) : Int) ∧ ((hn : Nat) : Int) ≤ ((hn : Nat) : Int) ∧ ((hn : Nat) : Int) ≤ ((hn : Nat) : Int)))
 (cond (decide ((0 + Int.toNat y3) + (Int.toNat ((hn : Nat) : Int) - Int.toNat y3) ≤ (List.length y4)))
 (cond (decide ((0 : Int) ≤ (0 : Int) ∧ (0 : Int) ≤ y3 ∧ y3 ≤ ((hn : Nat) : Int) ∧ ((hn : Nat) : Int) ≤ ((hn : Nat) : Int)))
 (some (jaa jsB jsR (((Int.toNat y3 - Int.toNat (0 : Int)), ()), (((cutL jak y4 0 (0 + Int.toNat y3)) ++ ((mkL (Int.toNat ((hn : Nat) : Int) - Int.toNat y3) (fun _ => jak)) ++ (cutL jak y4 ((0 + Int.toNat y3) + (List.length (mkL (Int.toNat ((hn : Nat) : Int) - Int.toNat y3) (fun _ => jak)))) ((List.length y4) - ((0 + Int.toNat y3) + (List.length (mkL (Int.toNat ((hn : Nat) : Int) - Int.toNat y3) (fun _ => jak)))))))), ((y5, ()), ((y6, ()), ()))))))
 (none))
 (none))
 (none)) at_ d hl hn6 hd FUEL (j + 1) j hrow (by omega) (by unfold FUEL; omega) hle (by omega) (by
      rw [← List.drop_take, V.eq]) hkf.symm
    have hkl : (jiM at_ d hs).length = w' := by unfold jiM; rw [← l3, List.length_take]; omega
    rw [hkl]
    have hc0 : cutL jak row' 0 w' = jiM at_ d hs := by rw [jek (by omega), List.drop_zero]; exact l3
    have d1 : decide ((0 : Int) ≤ (w' : Int) ∧ (w' : Int) ≤ ((hn : Nat) : Int) ∧ ((hn : Nat) : Int) ≤ ((hn : Nat) : Int) ∧ ((hn : Nat) : Int) ≤ ((hn : Nat) : Int)) = true := by rw [decide_eq_true_eq]; omega
    have d2 : decide (w' + (hn - w') ≤ row'.length) = true := by rw [decide_eq_true_eq]; omega
    have d3 : decide ((0 : Int) ≤ (0 : Int) ∧ (0 : Int) ≤ (w' : Int) ∧ (w' : Int) ≤ ((hn : Nat) : Int) ∧ ((hn : Nat) : Int) ≤ ((hn : Nat) : Int)) = true := by rw [decide_eq_true_eq]; omega
    refine ⟨jiM at_ d hs ++ (mkL (hn - w') (fun _ => jak) ++ cutL jak row' (w' + (mkL (hn - w') (fun _ => jak)).length) (row'.length - (w' + (mkL (hn - w') (fun _ => jak)).length))), ⟨by rw [List.length_append, hkl]; omega, by rw [← hkl, List.take_left]⟩, fin ?_⟩
    unfold jKr
    rw [V.all]
    extract_lets -merge +onlyGivenNames y1
    have e_y1 : y1 = _ := (congrArg RS.get (qi)).trans (jag _)
    clear_value y1; subst e_y1
    refine jaA (qi) ?_
    refine jaI (beqF (show ((j : Nat) : Int) ≠ -1 by omega)) ?_
    show jfX FUEL _ hn FUEL (j : Int) (IntKind.wrap .i64 ((j : Int) + 1)) hrow at_ d = _
    rw [jaD (by omega)]
    refine l4.trans ?_
    have t0 : Int.toNat (0 : Int) = 0 := rfl
    simp only [jal, t0, Nat.zero_add, Nat.sub_zero, d1, d2, d3, cond_true, hc0]
  · have qi : jJG hs at_ d = some (((-1 : Int), ()), ((at_, ()), ((d, ()), ()))) := fin h2
    have hk : jiM at_ d hs = hs := jjn h1
    rw [hk, hl]
    refine ⟨hrow, V, fin ?_⟩
    unfold jKr
    rw [V.all]
    extract_lets -merge +onlyGivenNames y1
    have e_y1 : y1 = _ := (congrArg RS.get (qi)).trans (jag _)
    clear_value y1; subst e_y1
    refine jaA (qi) ?_
    refine jaJ (rfl) ?_
    rfl

def jcL (hs : List jan) (b mt : List Int) (f : jaB) (m : Int) : Int :=
  if (jaN hs b mt f).2 ≠ 0 then (jaN hs b mt f).2 else if 0 ≤ m ∧ m ≤ (b.length : Int) - (jaN hs b mt f).1 then 0 else 1
def jeJ (hs : List jan) (k m : Int) : List jan := (jiM k m hs).map (mvH k (-m))
theorem delN {hs : List jan} {b mt : List Int} (N : PkN hs b mt) (k m : Nat) (hkm : k + m ≤ b.length) : PkN (jeJ hs (k : Int) (m : Int)) (delB b k m) mt := by
  have hl := jvz b k m hkm
  have hb : ∀ h ∈ jeJ hs (k : Int) (m : Int), 0 ≤ h.2.1 ∧ h.2.1 ≤ ((delB b k m).length : Int) := fun h hh => by
    obtain ⟨x, hx, rfl⟩ := List.mem_map.1 hh
    obtain ⟨hx1, hx2⟩ := List.mem_filter.1 hx
    have h1 := N.ok.at_ x hx1
    have h2 := N.at_ x hx1
    rw [mvH_at, hl]
    unfold jcK at hx2
    by_cases c : x.2.1 ≥ (k : Int)
    · rw [if_pos c]
      rw [decide_eq_true c, Bool.true_and] at hx2
      have : ¬ x.2.1 < (k : Int) + (m : Int) := fun k' => by rw [decide_eq_true k'] at hx2; cases hx2
      omega
    · rw [if_neg c]; omega
  have hlen : (jeJ hs (k : Int) (m : Int)).length ≤ hs.length := by unfold jeJ jiM; rw [List.length_map]; exact List.length_filter_le _ _
  refine ⟨⟨jLE N.ok.bB _ _, N.ok.mB, by have := N.ok.bl; omega, N.ok.ml, by have := N.ok.hl; omega, fun h hh => ?_⟩, by have := N.long; omega, fun h hh => (hb h hh).2⟩
  have := hb h hh
  have := N.long
  omega

theorem Q_pDel {hn bn mn : Nat} {hrow : List jan} {brow mrow : List Int} {hs : List jan} {b mt : List Int} (K : PkV hn bn mn hrow brow mrow hs b mt) (N : PkN hs b mt) (pt : Int) (f : jaB) (hf : jaT.good f) (m : Int) (hm : -9223372036854775808 ≤ m ∧ m ≤ 9223372036854775807) :
    (jcL hs b mt f m ≠ 0 → jJF f m hn pt bn brow hrow mn mrow = some ((jcL hs b mt f m, ()), pkV hn bn mn hrow brow mrow pt)) ∧
    (jcL hs b mt f m = 0 → ∃ (hn' n' : Nat) (hrow' : List jan) (brow' : List Int), PkV hn' n' mn hrow' brow' mrow (jeJ hs (jaN hs b mt f).1 m) (delB b (jaN hs b mt f).1.toNat m.toNat) mt ∧
      jJF f m hn pt bn brow hrow mn mrow = some ((0, ()), pkV hn' n' mn hrow' brow' mrow pt)) := by
  have qs := jro K pt f hf
  have lb := K.vb.len
  have hbl := N.long
  unfold jcL
  by_cases c1 : (jaN hs b mt f).2 ≠ 0
  · rw [if_pos c1]
    refine ⟨fun _ => fin ?_, fun h => absurd h c1⟩
    unfold jCm
    extract_lets -merge +onlyGivenNames y1
    have e_y1 : y1 = _ := (congrArg RS.get (qs)).trans (jag _)
    clear_value y1; subst e_y1
    refine jaA (qs) ?_
    refine jaJ (bne0 c1) ?_
    rfl
  rw [if_neg c1]
  have c1 : (jaN hs b mt f).2 = 0 := Classical.byContradiction c1
  have hsp := jen N c1
  rw [c1] at qs
  generalize hk : (jaN hs b mt f).1 = k0 at qs hsp
  obtain ⟨k, rfl⟩ : ∃ k : Nat, k0 = (k : Int) := ⟨k0.toNat, by omega⟩
  rw [jal]
  obtain ⟨d1, d2⟩ := Q_bDel K.vb k m (by omega) (by omega) (by omega)
  by_cases c2 : 0 ≤ m ∧ m ≤ (b.length : Int) - (k : Int)
  · rw [if_pos c2]
    refine ⟨fun h => absurd rfl h, fun _ => ?_⟩
    obtain ⟨d, rfl⟩ : ∃ d : Nat, m = (d : Int) := ⟨m.toNat, by omega⟩
    rw [jal]
    obtain ⟨brow', VB, qb⟩ := d2 d rfl (by omega)
    obtain ⟨hrow1, VH1, qh⟩ := Q_delF K.vh (by have := K.ok.hl; have := K.vh.len; omega) (k : Int) (d : Int) (by omega)
    have hat : ∀ h ∈ jiM (k : Int) (d : Int) hs, 0 ≤ h.2.1 ∧ h.2.1 ≤ 1000000 := fun h hh => K.ok.at_ h (List.mem_filter.1 hh).1
    have hlen : (jiM (k : Int) (d : Int) hs).length ≤ hs.length := List.length_filter_le _ _
    obtain ⟨hrow', VH, qm⟩ := jJW VH1 (k : Int) (-(d : Int)) (by have := K.ok.hl; omega) hat (by omega) (bn - d) mn brow' mrow pt
    have N' := delN N k d (by omega)
    refine ⟨_, bn - d, hrow', brow', ⟨VH, VB, K.vm, N'.ok⟩, fin ?_⟩
    unfold jCm
    extract_lets -merge +onlyGivenNames y1
    have e_y1 : y1 = _ := (congrArg RS.get (qs)).trans (jag _)
    clear_value y1; subst e_y1
    refine jaA (qs) ?_
    refine jaI (rfl) ?_
    extract_lets -merge +onlyGivenNames y2
    have e_y2 : y2 = _ := (congrArg RS.get (qb)).trans (jag _)
    clear_value y2; subst e_y2
    refine jaA (qb) ?_
    refine jaI (rfl) ?_
    extract_lets -merge +onlyGivenNames y3
    have e_y3 : y3 = _ := (congrArg RS.get (qh)).trans (jag _)
    clear_value y3; subst e_y3
    refine jaA (qh) ?_
    have e0 : IntKind.wrap .i64 (0 - (d : Int)) = -(d : Int) := by rw [IntWalk.i64_in _ (by omega)]; omega
    rw [← e0] at qm
    extract_lets -merge +onlyGivenNames y4
    have e_y4 : y4 = _ := (congrArg RS.get (qm)).trans (jag _)
    clear_value y4; subst e_y4
    refine jaA (qm) ?_
    rfl
  · rw [if_neg c2]
    refine ⟨fun _ => fin ?_, fun h => by cases h⟩
    obtain ⟨e, he, qb⟩ := d1 (by omega)
    unfold jCm
    extract_lets -merge +onlyGivenNames y1
    have e_y1 : y1 = _ := (congrArg RS.get (qs)).trans (jag _)
    clear_value y1; subst e_y1
    refine jaA (qs) ?_
    refine jaI (rfl) ?_
    extract_lets -merge +onlyGivenNames y2
    have e_y2 : y2 = _ := (congrArg RS.get (qb)).trans (jag _)
    clear_value y2; subst e_y2
    refine jaA (qb) ?_
    refine jaJ (bne0 he) ?_
    rfl

theorem jkX {n : Nat} {row b : List Int} (V : Vw n row b) (hb : isB b) : jMr n row = some (((), ()), ((n, ()), (row, ((b.length, ()), (b, ()))))) := by
  refine fin ?_
  unfold jNL
  rw [V.all, jaw, jbc hb]
theorem jAI (hn bn mn : Nat) (hrow : List jan) (brow mrow : List Int) (pt : Int) : jMU hn pt bn brow hrow mn mrow = some ((pt, ()), pkV hn bn mn hrow brow mrow pt) := fin rfl
end Go.AMach

/- Layer 17: Sum for views; an act. -/
namespace Go.AMach
set_option linter.unusedVariables false
set_option linter.unusedSimpArgs false
set_option linter.unnecessarySimpa false
open Go
set_option linter.unusedVariables false

theorem jKc {n : Nat} {row b : List Int} (V : Vw n row b) (hb : isB b) (hl : n ≤ 1000000) (k : Nat) (hk : k ≤ n) (m : Int) (hm2 : m ≤ 9223372036854775807) :
    (¬ (0 ≤ m ∧ m ≤ (n : Int) - k) → ∃ e, e ≠ 0 ∧ jJz (k : Int) m n row = some (((0, (e, ())), ((n, ()), (row, ()))))) ∧
    (∀ d : Nat, m = (d : Int) → k + d ≤ n → jJz (k : Int) m n row = some ((((jbB (ws true (natL ((b.drop k).take d))) : Nat) : Int), (0, ())), ((n, ()), (row, ())))) := by
  have hbl := V.len
  have hle := V.le
  refine ⟨fun hbad => ?_, fun d hd hkd => ?_⟩
  · by_cases h0 : m < 0
    · refine ⟨1, by decide, fin ?_⟩
      have qo : jBZ (k : Int) m n row = some ((1, ()), ((n, ()), (row, ()))) := by
        refine fin ?_
        unfold jCo
        simp only [jao]
        rw [if_neg (by omega), if_pos h0]
      unfold jCk
      extract_lets -merge +onlyGivenNames y1
      have e_y1 : y1 = _ := (congrArg RS.get (qo)).trans (jag _)
      clear_value y1; subst e_y1
      refine jaA (qo) ?_
      refine jaJ (rfl) ?_
      rfl
    · refine ⟨4, by decide, fin ?_⟩
      have qo := juw (k : Int) m n row (by omega) (by omega) hl hm2
      rw [if_pos (by omega)] at qo
      unfold jCk
      extract_lets -merge +onlyGivenNames y1
      have e_y1 : y1 = _ := (congrArg RS.get (qo)).trans (jag _)
      clear_value y1; subst e_y1
      refine jaA (qo) ?_
      refine jaJ (rfl) ?_
      rfl
  · subst hd
    have qo := juw (k : Int) (d : Int) n row (by omega) (by omega) hl hm2
    rw [if_neg (by omega)] at qo
    refine fin ?_
    unfold jCk
    have e : IntKind.wrap .i64 ((k : Int) + (d : Int)) = ((k + d : Nat) : Int) := by rw [IntWalk.i64_in _ (by omega)]; omega
    have hc : cutL (0 : Int) row (0 + k) (k + d - k) = (b.drop k).take d := by rw [V.cut (by omega), jek (by omega), Nat.zero_add, Nat.add_sub_cancel_left]
    have hB : isB ((b.drop k).take d) := fun x hx => hb x (List.mem_of_mem_drop (List.mem_of_mem_take hx))
    have hl2 : ((b.drop k).take d).length = d := by rw [List.length_take, List.length_drop]; omega
    have dd : decide ((0 : Int) ≤ (k : Int) ∧ (k : Int) ≤ ((k + d : Nat) : Int) ∧ ((k + d : Nat) : Int) ≤ ((n : Nat) : Int) ∧ ((n : Nat) : Int) ≤ ((n : Nat) : Int)) = true := by rw [decide_eq_true_eq]; omega
    have qs := Q_Sum1 _ (show (bytesOf ((b.drop k).take d)).size ≤ 1000000 by rw [jaw, hl2]; omega)
    rw [jky hB] at qs
    extract_lets -merge +onlyGivenNames y1
    have e_y1 : y1 = _ := (congrArg RS.get (qo)).trans (jag _)
    clear_value y1; subst e_y1
    refine jaA (qo) ?_
    refine jaI (rfl) ?_
    rw [e, jal, jal]
    refine jaJ dd ?_
    extract_lets -merge +onlyGivenNames y2
    have e_y2 : y2 = (bytesOf ((b.drop k).take d)) := (by show bytesOf (cutL (0 : Int) row (0 + k) (k + d - k)) = _; rw [hc])
    clear_value y2; subst e_y2
    extract_lets -merge +onlyGivenNames y3
    have e_y3 : y3 = _ := (congrArg RS.get (qs)).trans (jag _)
    clear_value y3; subst e_y3
    refine jaA (qs) ?_
    rfl

def sumF (hs : List jan) (b mt : List Int) (to fr : jaB) (m : Int) : Int × (List Int × List Int) :=
  if (jaN hs b mt fr).2 ≠ 0 then ((jaN hs b mt fr).2, (b, mt)) else
  if ¬ (0 ≤ (if m = 0 then (b.length : Int) - (jaN hs b mt fr).1 else m) ∧ (if m = 0 then (b.length : Int) - (jaN hs b mt fr).1 else m) ≤ (b.length : Int) - (jaN hs b mt fr).1) then (1, (b, mt)) else
  if (putF hs b mt to 0).1 ≠ 0 then ((putF hs b mt to 0).1, (b, mt)) else
  putF hs (putF hs b mt to 0).2.1 (putF hs b mt to 0).2.2 to (65535 - jbB (ws true (natL (((putF hs b mt to 0).2.1.drop (jaN hs b mt fr).1.toNat).take (if m = 0 then (b.length : Int) - (jaN hs b mt fr).1 else m).toNat))))
theorem Q_pSumV {hn bn mn : Nat} {hrow : List jan} {brow mrow : List Int} {hs : List jan} {b mt : List Int} (K : PkV hn bn mn hrow brow mrow hs b mt) (N : PkN hs b mt) (pt : Int) (to fr : jaB) (ht : jaT.good to) (hf : jaT.good fr) (m : Int) (hm : -9223372036854775808 ≤ m ∧ m ≤ 9223372036854775807) :
    ∃ brow' mrow', PkV hn bn mn hrow brow' mrow' hs (sumF hs b mt to fr m).2.1 (sumF hs b mt to fr m).2.2 ∧
      jMb to fr m hn pt bn brow hrow mn mrow = some (((sumF hs b mt to fr m).1, ()), pkV hn bn mn hrow brow' mrow' pt) := by
  have qs := jro K pt fr hf
  have lb := K.vb.len
  have hbl := N.long
  by_cases c1 : (jaN hs b mt fr).2 ≠ 0
  · have e : sumF hs b mt to fr m = ((jaN hs b mt fr).2, (b, mt)) := by unfold sumF; rw [if_pos c1]
    rw [e]
    refine ⟨brow, mrow, K, fin ?_⟩
    unfold jwK
    extract_lets -merge +onlyGivenNames y1
    have e_y1 : y1 = _ := (congrArg RS.get (qs)).trans (jag _)
    clear_value y1; subst e_y1
    refine jaA (qs) ?_
    refine jaJ (bne0 c1) ?_
    rfl
  have c1' : (jaN hs b mt fr).2 = 0 := Classical.byContradiction c1
  have hsp := jen N c1'
  have hS : sumF hs b mt to fr m = (if ¬ (0 ≤ (if m = 0 then (b.length : Int) - (jaN hs b mt fr).1 else m) ∧ (if m = 0 then (b.length : Int) - (jaN hs b mt fr).1 else m) ≤ (b.length : Int) - (jaN hs b mt fr).1) then (1, (b, mt)) else
  if (putF hs b mt to 0).1 ≠ 0 then ((putF hs b mt to 0).1, (b, mt)) else
  putF hs (putF hs b mt to 0).2.1 (putF hs b mt to 0).2.2 to (65535 - jbB (ws true (natL (((putF hs b mt to 0).2.1.drop (jaN hs b mt fr).1.toNat).take (if m = 0 then (b.length : Int) - (jaN hs b mt fr).1 else m).toNat))))) := by
    unfold sumF; rw [if_neg c1]
  rw [hS]
  rw [c1'] at qs
  generalize hk : (jaN hs b mt fr).1 = k0 at qs hsp
  obtain ⟨k, rfl⟩ : ∃ k : Nat, k0 = (k : Int) := ⟨k0.toNat, by omega⟩
  rw [jal]
  generalize hm' : (if m = 0 then (b.length : Int) - (k : Int) else m) = m'
  have hm2 : m' ≤ 9223372036854775807 := by rw [← hm']; split <;> omega
  obtain ⟨s1, s2⟩ := jKc K.vb K.ok.bB (by omega) k (by omega) m' hm2
  have hw0 : (((0 : Int), ((0 : Int), ())) : jaW) = wN 0 := rfl
  have ewr : m = 0 → IntKind.wrap .i64 (((bn : Nat) : Int) - (k : Int)) = m' := fun h0 => by rw [← hm', if_pos h0, IntWalk.i64_in _ (by omega)]; omega
  by_cases c2 : 0 ≤ m' ∧ m' ≤ (b.length : Int) - (k : Int)
  · rw [if_neg (not_not_intro c2)]
    obtain ⟨d, rfl⟩ : ∃ d : Nat, m' = (d : Int) := ⟨m'.toNat, by omega⟩
    rw [jal]
    have q1 := s2 d rfl (by omega)
    obtain ⟨br1, mr1, K1, q2⟩ := jrp K pt to ht 0 (by decide)
    obtain ⟨l1, l2⟩ := jeX hs b mt to 0
    by_cases c3 : (putF hs b mt to 0).1 ≠ 0
    · rw [if_pos c3]
      have := jvq c3
      rw [this] at K1
      refine ⟨br1, mr1, K1, fin ?_⟩
      unfold jwK
      extract_lets -merge +onlyGivenNames y1
      have e_y1 : y1 = _ := (congrArg RS.get (qs)).trans (jag _)
      clear_value y1; subst e_y1
      refine jaA (qs) ?_
      refine jaI (rfl) ?_
      by_cases h0 : m = 0
      · refine jaJ (beqT h0) ?_
        extract_lets -merge +onlyGivenNames y2
        have e_y2 : y2 = _ := (congrArg RS.get (jfU hn bn mn hrow brow mrow pt)).trans (jag _)
        clear_value y2; subst e_y2
        refine jaA (jfU hn bn mn hrow brow mrow pt) ?_
        rw [show IntKind.wrap .i64 (_ - _) = (d : Int) from ewr h0]
        extract_lets -merge +onlyGivenNames y3
        have e_y3 : y3 = _ := (congrArg RS.get (q1)).trans (jag _)
        clear_value y3; subst e_y3
        refine jaA (q1) ?_
        refine jaI (rfl) ?_
        extract_lets -merge +onlyGivenNames y4
        have e_y4 : y4 = _ := (congrArg RS.get (q2)).trans (jag _)
        clear_value y4; subst e_y4
        refine jaA (q2) ?_
        refine jaJ (bne0 c3) ?_
        rfl
      · refine jaI (beqF h0) ?_
        rw [if_neg h0] at hm'
        rw [hm']
        extract_lets -merge +onlyGivenNames y9
        have e_y9 : y9 = _ := (congrArg RS.get (q1)).trans (jag _)
        clear_value y9; subst e_y9
        refine jaA (q1) ?_
        refine jaI (rfl) ?_
        extract_lets -merge +onlyGivenNames y10
        have e_y10 : y10 = _ := (congrArg RS.get (q2)).trans (jag _)
        clear_value y10; subst e_y10
        refine jaA (q2) ?_
        refine jaJ (bne0 c3) ?_
        rfl
    rw [if_neg c3]
    have c3 : (putF hs b mt to 0).1 = 0 := Classical.byContradiction c3
    rw [c3] at q2
    obtain ⟨_, s2⟩ := jKc K1.vb K1.ok.bB (by omega) k (by omega) (d : Int) (by omega)
    have q3 := s2 d rfl (by omega)
    generalize hc : jbB (ws true (natL (((putF hs b mt to 0).2.1.drop k).take d))) = c at q3
    have hcl : c ≤ 65535 := by rw [← hc]; exact jgw _
    obtain ⟨br2, mr2, K2, q4⟩ := jrp K1 pt to ht (65535 - c) (by omega)
    have hw : (((0 : Int), (((65535 - c : Nat) : Int), ())) : jaW) = wN (65535 - c) := by
      unfold wN W2
      rw [Nat.div_eq_of_lt (by omega), Nat.mod_eq_of_lt (by omega)]; rfl
    have hu : IntKind.wrap .u64 ((65535 - c : Nat) : Int) = ((65535 - c : Nat) : Int) := jeb _ (by omega)
    have qn : jJM ((65535 - c : Nat) : Int) = some ((wN (65535 - c), ()), ()) := by rw [← hw]; exact jKi _
    refine ⟨br2, mr2, K2, fin ?_⟩
    unfold jwK
    extract_lets -merge +onlyGivenNames y1
    have e_y1 : y1 = _ := (congrArg RS.get (qs)).trans (jag _)
    clear_value y1; subst e_y1
    refine jaA (qs) ?_
    refine jaI (rfl) ?_
    by_cases h0 : m = 0
    · refine jaJ (beqT h0) ?_
      extract_lets -merge +onlyGivenNames y2
      have e_y2 : y2 = _ := (congrArg RS.get (jfU hn bn mn hrow brow mrow pt)).trans (jag _)
      clear_value y2; subst e_y2
      refine jaA (jfU hn bn mn hrow brow mrow pt) ?_
      rw [show IntKind.wrap .i64 (_ - _) = (d : Int) from ewr h0]
      extract_lets -merge +onlyGivenNames y3
      have e_y3 : y3 = _ := (congrArg RS.get (q1)).trans (jag _)
      clear_value y3; subst e_y3
      refine jaA (q1) ?_
      refine jaI (rfl) ?_
      extract_lets -merge +onlyGivenNames y4
      have e_y4 : y4 = _ := (congrArg RS.get (q2)).trans (jag _)
      clear_value y4; subst e_y4
      refine jaA (q2) ?_
      refine jaI (rfl) ?_
      extract_lets -merge +onlyGivenNames y5
      have e_y5 : y5 = _ := (congrArg RS.get (q3)).trans (jag _)
      clear_value y5; subst e_y5
      refine jaA (q3) ?_
      extract_lets -merge +onlyGivenNames y6
      have e_y6 : y6 = ((65535 - c : Nat) : Int) := (not16 c hcl)
      clear_value y6; subst e_y6
      rw [hu]
      extract_lets -merge +onlyGivenNames y7
      have e_y7 : y7 = _ := (congrArg RS.get (qn)).trans (jag _)
      clear_value y7; subst e_y7
      refine jaA (qn) ?_
      extract_lets -merge +onlyGivenNames y8
      have e_y8 : y8 = _ := (congrArg RS.get (q4)).trans (jag _)
      clear_value y8; subst e_y8
      refine jaA (q4) ?_
      rfl
    · refine jaI (beqF h0) ?_
      rw [if_neg h0] at hm'
      rw [hm']
      extract_lets -merge +onlyGivenNames y9
      have e_y9 : y9 = _ := (congrArg RS.get (q1)).trans (jag _)
      clear_value y9; subst e_y9
      refine jaA (q1) ?_
      refine jaI (rfl) ?_
      extract_lets -merge +onlyGivenNames y10
      have e_y10 : y10 = _ := (congrArg RS.get (q2)).trans (jag _)
      clear_value y10; subst e_y10
      refine jaA (q2) ?_
      refine jaI (rfl) ?_
      extract_lets -merge +onlyGivenNames y11
      have e_y11 : y11 = _ := (congrArg RS.get (q3)).trans (jag _)
      clear_value y11; subst e_y11
      refine jaA (q3) ?_
      extract_lets -merge +onlyGivenNames y12
      have e_y12 : y12 = ((65535 - c : Nat) : Int) := (not16 c hcl)
      clear_value y12; subst e_y12
      rw [hu]
      extract_lets -merge +onlyGivenNames y13
      have e_y13 : y13 = _ := (congrArg RS.get (qn)).trans (jag _)
      clear_value y13; subst e_y13
      refine jaA (qn) ?_
      extract_lets -merge +onlyGivenNames y14
      have e_y14 : y14 = _ := (congrArg RS.get (q4)).trans (jag _)
      clear_value y14; subst e_y14
      refine jaA (q4) ?_
      rfl
  · rw [if_pos c2]
    obtain ⟨e, he, q1⟩ := s1 (by omega)
    refine ⟨brow, mrow, K, fin ?_⟩
    unfold jwK
    extract_lets -merge +onlyGivenNames y1
    have e_y1 : y1 = _ := (congrArg RS.get (qs)).trans (jag _)
    clear_value y1; subst e_y1
    refine jaA (qs) ?_
    refine jaI (rfl) ?_
    by_cases h0 : m = 0
    · refine jaJ (beqT h0) ?_
      extract_lets -merge +onlyGivenNames y2
      have e_y2 : y2 = _ := (congrArg RS.get (jfU hn bn mn hrow brow mrow pt)).trans (jag _)
      clear_value y2; subst e_y2
      refine jaA (jfU hn bn mn hrow brow mrow pt) ?_
      rw [show IntKind.wrap .i64 (_ - _) = m' from ewr h0]
      extract_lets -merge +onlyGivenNames y3
      have e_y3 : y3 = _ := (congrArg RS.get (q1)).trans (jag _)
      clear_value y3; subst e_y3
      refine jaA (q1) ?_
      refine jaJ (bne0 he) ?_
      rfl
    · refine jaI (beqF h0) ?_
      rw [if_neg h0] at hm'
      rw [hm']
      extract_lets -merge +onlyGivenNames y9
      have e_y9 : y9 = _ := (congrArg RS.get (q1)).trans (jag _)
      clear_value y9; subst e_y9
      refine jaA (q1) ?_
      refine jaJ (bne0 he) ?_
      rfl
end Go.AMach
