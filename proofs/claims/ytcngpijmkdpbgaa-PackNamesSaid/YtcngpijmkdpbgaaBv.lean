/- Parts of the proof. -/
import Derived.Test.YtcngpijmkdpbgaaBn
/- Layer 17: a packet whose rows are longer than what is told of them. -/
namespace Go.AMach
set_option linter.unusedVariables false
set_option linter.unusedSimpArgs false
set_option linter.unnecessarySimpa false
open Go
set_option linter.unusedVariables false

/-- The first n of a row. -/
structure Vw {α : Type} (n : Nat) (row b : List α) : Prop where
  le : n ≤ row.length
  eq : row.take n = b
theorem Vw.len {α : Type} {n : Nat} {row b : List α} (V : Vw n row b) : b.length = n := by rw [← V.eq, List.length_take]; have := V.le; omega
theorem Vw.self {α : Type} (b : List α) : Vw b.length b b := ⟨Nat.le_refl _, List.take_of_length_le (Nat.le_refl _)⟩
theorem Vw.rdd {α : Type} {d : α} {n : Nat} {row b : List α} (V : Vw n row b) {i : Nat} (h : i < n) : Go.AMach.rdd d row i = Go.AMach.rdd d b i := by
  have hl := V.len
  have hle := V.le
  rw [rdd_lt (by omega), rdd_lt (by omega)]
  have : b[i]'(by omega) = (row.take n)[i]'(by rw [V.eq]; omega) := by simp only [V.eq]
  rw [this, List.getElem_take]
theorem Vw.cut {α : Type} {d : α} {n : Nat} {row b : List α} (V : Vw n row b) {a m : Nat} (h : a + m ≤ n) : cutL d row a m = cutL d b a m := by
  have hl := V.len
  have hle := V.le
  apply List.ext_getElem?
  intro i
  by_cases hi : i < m
  · unfold cutL
    rw [mkL_get hi, mkL_get hi, V.rdd (by omega)]
  · rw [List.getElem?_eq_none (by rw [cutL_length']; omega), List.getElem?_eq_none (by rw [cutL_length']; omega)]
theorem Vw.all {α : Type} {d : α} {n : Nat} {row b : List α} (V : Vw n row b) : cutL d row 0 n = b := by
  have hl := V.len
  rw [V.cut (by omega), ← hl, cutL_all]

theorem Q_bWinV {n : Nat} {row b : List Int} (V : Vw n row b) (off w : Int) (hl : n ≤ 1000000) (ho : -9223372036854775808 ≤ off ∧ off ≤ 9223372036854775807) :
    (getB b off w = none → Q_z1a off w n row = some ((n, (0, ())), ((n, ()), (row, ())))) ∧
    (∀ v, getB b off w = some v → (off.toNat / 8 = 0 ∧ Q_z1a off w n row = some (((off.toNat + w.toNat + 7) / 8 - off.toNat / 8, (((off.toNat / 8 : Nat) : Int), ())), ((n, ()), (row, ())))) ∨ Q_z1a off w n row = none ∧ Q_z1a_1 off w n row = some (((off.toNat / 8, (off.toNat + w.toNat + 7) / 8 - off.toNat / 8), (((off.toNat / 8 : Nat) : Int), ())), ((n, ()), (row, ())))) := by
  have hbl := V.len
  have hw : 1 ≤ w → w ≤ 128 → IntKind.wrap .i64 (IntKind.wrap .i64 (8 * (n : Int)) - w) = 8 * (n : Int) - w := fun h1 h2 => by
    rw [IntWalk.i64_in (8 * (n : Int)) (by omega), IntWalk.i64_in _ (by omega)]
  refine ⟨fun hn => ?_, fun v hv => ?_⟩
  · have hn' : ¬ (0 ≤ off ∧ 1 ≤ w ∧ w ≤ 128 ∧ off + w ≤ 8 * (b.length : Int)) := fun k => by unfold getB at hn; rw [if_pos k] at hn; cases hn
    refine fin ?_
    unfold M_z1a
    simp only [cond_dec]
    refine ite_eq (fun _ => rfl) fun h1 => ite_eq (fun _ => rfl) fun h2 => ite_eq (fun _ => rfl) fun h3 => ?_
    rw [hw (by omega) (by omega), if_pos (by omega)]
  · have hv' : 0 ≤ off ∧ 1 ≤ w ∧ w ≤ 128 ∧ off + w ≤ 8 * (b.length : Int) := Classical.byContradiction fun k => by unfold getB at hv; rw [if_neg k] at hv; cases hv
    have hM : M_z1a FUEL off w n row = some (encRes ro_z1a_1 rh_z1a_1 (((off.toNat / 8, (off.toNat + w.toNat + 7) / 8 - off.toNat / 8), (((off.toNat / 8 : Nat) : Int), ())), ((n, ()), (row, ())))) := by
      unfold M_z1a
      simp only [cond_dec]
      have e2 : IntKind.wrap .i64 (Int.tdiv off 8) = ((off.toNat / 8 : Nat) : Int) := by
        rw [Int.tdiv_eq_ediv_of_nonneg (by omega), IntWalk.i64_in _ (by omega)]; omega
      have e1 : IntKind.wrap .i64 (Int.tdiv (IntKind.wrap .i64 (IntKind.wrap .i64 (off + w) + 7)) 8) = (((off.toNat + w.toNat + 7) / 8 : Nat) : Int) := by
        rw [IntWalk.i64_in (off + w) (by omega), IntWalk.i64_in (off + w + 7) (by omega), Int.tdiv_eq_ediv_of_nonneg (by omega), IntWalk.i64_in _ (by omega)]; omega
      have h8 : ((8 : Int) != 0) = true := by decide
      rw [if_neg (by omega), if_neg (by omega), if_neg (by omega), hw (by omega) (by omega), if_neg (by omega)]
      simp only [h8, cond_true, e1, e2, toNat_cast, Nat.zero_add]
      rw [if_pos ⟨by omega, by omega, by omega, by omega⟩]
    by_cases hz : off.toNat / 8 = 0
    · refine .inl ⟨hz, ?_⟩
      rw [hz] at hM ⊢
      exact fin hM
    · refine .inr ⟨?_, fin hM⟩
      show decRes _ _ _ = _
      rw [hM]
      generalize off.toNat / 8 = fr at hz ⊢
      exact dec_off hz

theorem Q_bGetV {n : Nat} {row b : List Int} (V : Vw n row b) (hb : isB b) (off w : Int) (hl : n ≤ 1000000) (ho : -9223372036854775808 ≤ off ∧ off ≤ 9223372036854775807) :
    Q_z1b off w n row = some ((match getB b off w with | some v => (wN v, (0, ())) | none => (wN 0, (getE off w, ()))), ((n, ()), (row, ()))) := by
  have hbl := V.len
  obtain ⟨h0, h1⟩ := Q_bWinV V off w hl ho
  refine fin ?_
  unfold M_z1b
  cases hg : getB b off w with
  | none =>
    have hn' : ¬ (0 ≤ off ∧ 1 ≤ w ∧ w ≤ 128 ∧ off + w ≤ 8 * (b.length : Int)) := fun k => by unfold getB at hg; rw [if_pos k] at hg; cases hg
    simp only [ok_z1a, q_z1a, h0 hg, RS.get, Option.getD_some, Option.isSome_some, cond_true, V.all]
    have e : IntKind.wrap .i64 (off - IntKind.wrap .i64 (8 * (0 : Int))) = off := by
      rw [show IntKind.wrap .i64 (8 * (0 : Int)) = 0 by rfl, IntWalk.i64_in _ (by omega)]; omega
    rw [e]
    have := Q_GetBad (bytesOf b) off w (by rw [bytesOf_size]; omega) ho.2 (by rw [bytesOf_size]; exact hn')
    simp only [ok_z0r, q_z0r, this, RS.get, Option.getD_some, Option.isSome_some, cond_true]
  | some v =>
    have hv' : 0 ≤ off ∧ 1 ≤ w ∧ w ≤ 128 ∧ off + w ≤ 8 * (b.length : Int) := Classical.byContradiction fun k => by unfold getB at hg; rw [if_neg k] at hg; cases hg
    have hvv : bv (bl b) off.toNat w.toNat = v := by unfold getB at hg; rw [if_pos hv'] at hg; exact Option.some.inj hg
    have h1 := h1 v hg
    generalize hf : off.toNat / 8 = fr at h1
    generalize hn : (off.toNat + w.toNat + 7) / 8 - fr = n' at h1
    have e : IntKind.wrap .i64 (off - IntKind.wrap .i64 (8 * ((fr : Nat) : Int))) = ((off.toNat - 8 * fr : Nat) : Int) := by
      rw [IntWalk.i64_in (8 * ((fr : Nat) : Int)) (by omega), IntWalk.i64_in _ (by omega)]; omega
    have hwn : w = ((w.toNat : Nat) : Int) := by omega
    have hrow : cutL (0 : Int) row fr n' = cutL (0 : Int) b fr n' := V.cut (by omega)
    have hcut : cutL (0 : Int) b fr n' = (b.drop fr).take n' := cutL_eq (by omega)
    have hlen : (cutL (0 : Int) b fr n').length = n' := cutL_length' _ _ _ _
    have hcB : isB (cutL (0 : Int) b fr n') := fun x hx => by
      rw [hcut] at hx
      exact hb _ (List.mem_of_mem_drop (List.mem_of_mem_take hx))
    have hG := Q_Get (bytesOf (cutL (0 : Int) b fr n')) (off.toNat - 8 * fr) w.toNat (by rw [bytesOf_size, hlen]; omega) (by omega) (by omega) (by omega)
    rw [if_pos (by rw [bytesOf_size, hlen]; omega), ← hwn] at hG
    have hval : getP (byteAt (bytesOf (cutL (0 : Int) b fr n'))) (off.toNat - 8 * fr) w.toNat = wN v := by
      have c1 : getP (byteAt (bytesOf (cutL (0 : Int) b fr n'))) (off.toNat - 8 * fr) w.toNat = getP (fun i => ((bl (cutL (0 : Int) b fr n') i : Nat) : Int)) (off.toNat - 8 * fr) w.toNat :=
        getP_congr (by omega) fun i hi => by rw [byteAt_bytesOf hcB (by rw [hlen]; omega), bl_cast hcB]
      rw [c1, getP_wN _ (bl_lt hcB) _ _ (by omega) (by omega)]
      congr 1
      rw [← hvv]
      have c2 : bv (bl (cutL (0 : Int) b fr n')) (off.toNat - 8 * fr) w.toNat = bv (fun j => bl b (fr + j)) (off.toNat - 8 * fr) w.toNat :=
        bv_congr _ fun i h1 h2 => bitOf_congr (by
          unfold bl
          rw [hcut, rdd_lt (by rw [List.length_take, List.length_drop]; omega), rdd_lt (by omega)]
          simp)
      rw [c2, bv_shift, show 8 * fr + (off.toNat - 8 * fr) = off.toNat by omega]
    rcases h1 with ⟨z, a1⟩ | ⟨a1, a2⟩
    · subst z
      simp only [ok_z1a, q_z1a, a1, e, hrow, ok_z0r, q_z0r, hG, RS.get, Option.getD_some, Option.isSome_some, cond_true, hval]
    · simp only [ok_z1a, ok_z1a_1, q_z1a_1, a1, a2, e, hrow, ok_z0r, q_z0r, hG, RS.get, Option.getD_some, Option.isSome_some, Option.isSome_none, cond_true, cond_false, hval]

/-! -: Packets -/
/-- A packet's blocks, and what they tell. -/
structure PkV (hn bn mn : Nat) (hrow : List HeadS) (brow mrow : List Int) (hs : List HeadS) (b mt : List Int) : Prop where
  vh : Vw hn hrow hs
  vb : Vw bn brow b
  vm : Vw mn mrow mt
  ok : PkOk hs b mt
abbrev pkV (hn bn mn : Nat) (hrow : List HeadS) (brow mrow : List Int) (pt : Int) : HK.sems rh_z17 := (((), (hn, ((), (pt, ())))), ((bn, ()), (brow, (hrow, ((mn, ()), (mrow, ()))))))
theorem L_placeV (kr : Int → Int → Option Res) (kt : Unit → Option Res) {hn : Nat} {hrow hs : List HeadS} (V : Vw hn hrow hs) (hl : hn ≤ 1000000) (f : FieldS) : ∀ (m i : Nat), i ≤ hn → hn - i < m →
    L_z17_1 FUEL kr kt hn (hn : Int) hrow f m (i : Int) = (match atOf (hs.drop i) f.2.2.1 with | some a => kr a 0 | none => kt ())
  | 0, _, _, h => by omega
  | m + 1, i, hi, hm => by
    have hlen := V.len
    show F_z17_1 FUEL kr kt hn (hn : Int) hrow f (L_z17_1 FUEL kr kt hn (hn : Int) hrow f m) (i : Int) = _
    unfold F_z17_1
    simp only [cond_dec]
    by_cases h : i < hn
    · rw [if_pos (by omega), if_pos ⟨by omega, by omega⟩]
      simp only [toNat_cast, int_beq, cond_dec, V.rdd h]
      rw [drop_rdd zHeadS (show i < hs.length by omega)]
      unfold atOf
      rw [List.find?_cons]
      by_cases e : (rdd zHeadS hs i).1 = f.2.2.1
      · rw [if_pos e, decide_eq_true e]; rfl
      · rw [if_neg e, decide_eq_false e, i64_succ (by omega), L_placeV kr kt V hl f m (i + 1) (by omega) (by omega)]
        rfl
    · rw [if_neg (by omega), List.drop_of_length_le (by omega)]
      rfl
theorem Q_placeV {hn bn mn : Nat} {hrow : List HeadS} {brow mrow : List Int} {hs : List HeadS} {b mt : List Int} (K : PkV hn bn mn hrow brow mrow hs b mt) (pt : Int) (f : FieldS) :
    (whereF hs b mt f = none → Q_z17 f hn pt bn brow hrow mn mrow = none ∧ Q_z17_1 f hn pt bn brow hrow mn mrow = none ∧ Q_z17_2 f hn pt bn brow hrow mn mrow = some (((), (0, (3, ()))), pkV hn bn mn hrow brow mrow pt)) ∧
    (∀ c a, whereF hs b mt f = some (c, a) → f.2.1 = 3 → Q_z17 f hn pt bn brow hrow mn mrow = none ∧ Q_z17_1 f hn pt bn brow hrow mn mrow = some (((), (a, (0, ()))), pkV hn bn mn hrow brow mrow pt)) ∧
    (∀ c a, whereF hs b mt f = some (c, a) → f.2.1 ≠ 3 → Q_z17 f hn pt bn brow hrow mn mrow = some (((), (a, (0, ()))), pkV hn bn mn hrow brow mrow pt)) := by
  have hhl := K.vh.len
  have hM : M_z17 FUEL f hn pt bn brow hrow mn mrow = if f.2.1 = 3 then some (encRes ro_z17_1 rh_z17_1 (((), (0, (0, ()))), pkV hn bn mn hrow brow mrow pt))
      else (match whereF hs b mt f with | some (c, a) => some (encRes ro_z17 rh_z17 (((), (a, (0, ()))), pkV hn bn mn hrow brow mrow pt)) | none => some (encRes ro_z17_2 rh_z17_2 (((), (0, (3, ()))), pkV hn bn mn hrow brow mrow pt))) := by
    unfold M_z17 whereF
    simp only [int_beq, cond_dec]
    by_cases c1 : f.2.1 = 1
    · rw [if_pos c1, if_pos c1, if_neg (by omega)]
    rw [if_neg c1, if_neg c1]
    by_cases c3 : f.2.1 = 3
    · rw [if_pos c3, if_pos c3]
    rw [if_neg c3, if_neg c3, if_neg c3]
    by_cases c2 : f.2.1 = 2
    · rw [if_pos c2, if_pos c2]
      refine Eq.trans (L_placeV _ _ K.vh (by have := K.ok.hl; omega) f FUEL 0 (by omega) (by have := K.ok.hl; unfold FUEL; omega)) ?_
      rw [List.drop_zero]
      cases atOf hs f.2.2.1 <;> rfl
    · rw [if_neg c2, if_neg c2]
  refine ⟨fun hw => ?_, fun c a hw c3 => ?_, fun c a hw c3 => ?_⟩
  · have c3 : ¬ f.2.1 = 3 := fun k => by unfold whereF at hw; rw [if_neg (by omega), if_pos k] at hw; cases hw
    rw [if_neg c3, hw] at hM
    exact ⟨by unfold Q_z17; rw [hM]; exact dec_p1, by unfold Q_z17_1; rw [hM]; exact dec_p2, fin hM⟩
  · rw [if_pos c3] at hM
    have ha : a = 0 := by rcases where_in hw with ⟨_, _, h⟩ | ⟨h, _⟩; exact h; exact absurd c3 h
    subst ha
    exact ⟨by unfold Q_z17; rw [hM]; exact dec_p0, fin hM⟩
  · rw [if_neg c3, hw] at hM
    exact fin hM
theorem Q_pGetV {hn bn mn : Nat} {hrow : List HeadS} {brow mrow : List Int} {hs : List HeadS} {b mt : List Int} (K : PkV hn bn mn hrow brow mrow hs b mt) (pt : Int) (f : FieldS) (hf : FieldT.good f) :
    Q_z1c f hn pt bn brow hrow mn mrow = some (exW (getF hs b mt f), pkV hn bn mn hrow brow mrow pt) := by
  obtain ⟨h1, h2, h3, h4, h5, _⟩ := hf
  have r4 := wf_i64 h4
  have lb := K.vb.len
  have lm := K.vm.len
  obtain ⟨p1, p2, p3⟩ := Q_placeV K pt f
  have hbit : ∀ a, 0 ≤ a ∧ a ≤ 1000000 → Q_z18 a f.2.2.2.1 = some ((bitV a f.2.2.2.1, ()), ()) := fun a ha => Q_bit a _ ha r4.2
  have rbit : ∀ a, 0 ≤ a ∧ a ≤ 1000000 → -9223372036854775808 ≤ bitV a f.2.2.2.1 ∧ bitV a f.2.2.2.1 ≤ 9223372036854775807 := fun a ha => by unfold bitV; split <;> omega
  have ne := getE_ne
  refine fin ?_
  unfold M_z1c getF
  cases hw : whereF hs b mt f with
  | none =>
    obtain ⟨q0, q1, q2⟩ := p1 hw
    simp only [ok_z17, ok_z17_1, ok_z17_2, q_z17_2, q0, q1, q2, RS.get, Option.getD_some, Option.isSome_some, Option.isSome_none, cond_true, cond_false]
    rfl
  | some ca =>
    obtain ⟨c, a⟩ := ca
    rcases where_in hw with ⟨c3, rfl, rfl⟩ | ⟨c3, rfl, ha⟩
    · obtain ⟨q0, q1⟩ := p2 _ _ hw c3
      simp only [ok_z17, ok_z17_1, q_z17_1, q0, q1, RS.get, Option.getD_some, Option.isSome_some, Option.isSome_none, cond_true, cond_false]
      simp only [int_bne, decide_true, Bool.not_true, cond_false, ok_z18, q_z18, hbit 0 (by omega), ok_z1b, q_z1b, Q_bGetV K.vm K.ok.mB (bitV 0 f.2.2.2.1) f.2.2.2.2.1 (by have := K.ok.ml; omega) (rbit 0 (by omega)), RS.get, Option.getD_some, Option.isSome_some, cond_true]
      cases getB c (bitV 0 f.2.2.2.1) f.2.2.2.2.1 with
      | none => simp only [decide_eq_false (ne _ _), Bool.not_false, cond_true]; rfl
      | some v => simp only [decide_true, Bool.not_true, cond_false]
    · have q0 := p3 _ _ hw c3
      have ha' : 0 ≤ a ∧ a ≤ 1000000 := by
        rcases ha with h | h
        · omega
        · exact atOf_ok K.ok h
      simp only [ok_z17, q_z17, q0, RS.get, Option.getD_some, Option.isSome_some, cond_true]
      simp only [int_bne, decide_true, Bool.not_true, cond_false, ok_z18, q_z18, hbit a ha', ok_z1b, q_z1b, Q_bGetV K.vb K.ok.bB (bitV a f.2.2.2.1) f.2.2.2.2.1 (by have := K.ok.bl; omega) (rbit a ha'), RS.get, Option.getD_some, Option.isSome_some, cond_true]
      cases getB c (bitV a f.2.2.2.1) f.2.2.2.2.1 with
      | none => simp only [decide_eq_false (ne _ _), Bool.not_false, cond_true]; rfl
      | some v => simp only [decide_true, Bool.not_true, cond_false]
theorem Q_pAtV {hn bn mn : Nat} {hrow : List HeadS} {brow mrow : List Int} {hs : List HeadS} {b mt : List Int} (K : PkV hn bn mn hrow brow mrow hs b mt) (pt : Int) (f : FieldS) (hf : FieldT.good f) :
    Q_z1h f hn pt bn brow hrow mn mrow = some (((atF hs b mt f).1, ((atF hs b mt f).2, ())), pkV hn bn mn hrow brow mrow pt) := by
  obtain ⟨h1, h2, h3, h4, h5, _⟩ := hf
  have r4 := wf_i64 h4
  have lb := K.vb.len
  have lm := K.vm.len
  obtain ⟨p1, p2, p3⟩ := Q_placeV K pt f
  refine fin ?_
  unfold M_z1h atF
  cases hw : whereF hs b mt f with
  | none =>
    obtain ⟨q0, q1, q2⟩ := p1 hw
    simp only [ok_z17, ok_z17_1, ok_z17_2, q_z17_2, q0, q1, q2, RS.get, Option.getD_some, Option.isSome_some, Option.isSome_none, cond_true, cond_false]
    rfl
  | some ca =>
    obtain ⟨c, a⟩ := ca
    rcases where_in hw with ⟨c3, rfl, rfl⟩ | ⟨c3, rfl, ha⟩
    · obtain ⟨q0, q1⟩ := p2 _ _ hw c3
      simp only [ok_z17, ok_z17_1, q_z17_1, q0, q1, RS.get, Option.getD_some, Option.isSome_some, Option.isSome_none, cond_true, cond_false, int_bne, decide_true, Bool.not_true, ok_z1g, q_z1g, Q_atB 0 f mn mrow (by omega) r4.2 (by have := K.ok.ml; omega), lm]
    · have q0 := p3 _ _ hw c3
      have ha' : 0 ≤ a ∧ a ≤ 1000000 := by
        rcases ha with h | h
        · omega
        · exact atOf_ok K.ok h
      simp only [ok_z17, q_z17, q0, RS.get, Option.getD_some, Option.isSome_some, cond_true, cond_false, int_bne, decide_true, Bool.not_true, ok_z1g, q_z1g, Q_atB a f bn brow ha' r4.2 (by have := K.ok.bl; omega), lb]
theorem Q_pSpotV {hn bn mn : Nat} {hrow : List HeadS} {brow mrow : List Int} {hs : List HeadS} {b mt : List Int} (K : PkV hn bn mn hrow brow mrow hs b mt) (pt : Int) (f : FieldS) (hf : FieldT.good f) :
    Q_z1i f hn pt bn brow hrow mn mrow = some (((spotF hs b mt f).1, ((spotF hs b mt f).2, ())), pkV hn bn mn hrow brow mrow pt) := by
  refine fin ?_
  unfold M_z1i spotF
  simp only [int_beq, cond_dec]
  by_cases c3 : f.2.1 = 3
  · rw [if_pos c3, if_pos c3]
  · rw [if_neg c3, if_neg c3]
    simp only [ok_z1h, q_z1h, Q_pAtV K pt f hf, RS.get, Option.getD_some, Option.isSome_some, cond_true]
theorem Q_bTextV {n : Nat} {row b : List Int} (V : Vw n row b) : Q_z03 n row = some ((bytesOf b, ()), ((n, ()), (row, ()))) := by
  refine fin ?_
  unfold M_z03
  rw [V.all]
theorem Q_pTextV {hn bn mn : Nat} {hrow : List HeadS} {brow mrow : List Int} {hs : List HeadS} {b mt : List Int} (K : PkV hn bn mn hrow brow mrow hs b mt) (pt : Int) :
    Q_z1n hn pt bn brow hrow mn mrow = some ((bytesOf b, ()), pkV hn bn mn hrow brow mrow pt) := by
  refine fin ?_
  unfold M_z1n
  simp only [ok_z03, q_z03, Q_bTextV K.vb, RS.get, Option.getD_some, Option.isSome_some, cond_true]
theorem Q_pMetaV {hn bn mn : Nat} {hrow : List HeadS} {brow mrow : List Int} {hs : List HeadS} {b mt : List Int} (K : PkV hn bn mn hrow brow mrow hs b mt) (pt : Int) :
    Q_z1y hn pt bn brow hrow mn mrow = some ((bytesOf mt, ()), pkV hn bn mn hrow brow mrow pt) := by
  refine fin ?_
  unfold M_z1y
  simp only [ok_z03, q_z03, Q_bTextV K.vm, RS.get, Option.getD_some, Option.isSome_some, cond_true]
theorem Q_pLenV (hn bn mn : Nat) (hrow : List HeadS) (brow mrow : List Int) (pt : Int) :
    Q_z1v hn pt bn brow hrow mn mrow = some ((((bn : Nat) : Int), ()), pkV hn bn mn hrow brow mrow pt) := by
  refine fin ?_
  unfold M_z1v
  simp only [ok_z1f, q_z1f, Q_bLen, RS.get, Option.getD_some, Option.isSome_some, cond_true]
theorem Q_pHeadsV {hn bn mn : Nat} {hrow : List HeadS} {brow mrow : List Int} {hs : List HeadS} {b mt : List Int} (K : PkV hn bn mn hrow brow mrow hs b mt) (pt : Int) :
    Q_z13 hn pt bn brow hrow mn mrow = some ((hs.length, ()), (((), (hn, ((), (pt, ())))), ((bn, ()), (brow, (hrow, ((mn, ()), (mrow, (hs, ())))))))) := by
  refine fin ?_
  unfold M_z13
  simp only [K.vh.all, ok_z12, q_z12, Q_clone hs K.ok.hl, RS.get, Option.getD_some, Option.isSome_some, cond_true]
end Go.AMach

/- Layer 17: bytes put in. -/
namespace Go.AMach
set_option linter.unusedVariables false
set_option linter.unusedSimpArgs false
set_option linter.unnecessarySimpa false
open Go
set_option linter.unusedVariables false

abbrev zerosL (m : Nat) : List Int := mkL m fun _ => (0 : Int)
/-- Bytes with zeros put in. -/
def insB (b : List Int) (k m : Nat) : List Int := b.take k ++ zerosL m ++ b.drop k
theorem insB_length (b : List Int) (k m : Nat) (h : k ≤ b.length) : (insB b k m).length = b.length + m := by
  unfold insB; simp only [List.length_append, List.length_take, List.length_drop, mkL_length]; omega
theorem zerosL_isB (m : Nat) : isB (zerosL m) := fun x hx => by
  unfold zerosL mkL at hx
  simp only [List.mem_map] at hx
  obtain ⟨_, _, rfl⟩ := hx
  omega
theorem insB_isB {b : List Int} (h : isB b) (k m : Nat) : isB (insB b k m) := fun x hx => by
  rcases List.mem_append.1 hx with hx | hx
  · rcases List.mem_append.1 hx with hx | hx
    · exact h x (List.mem_of_mem_take hx)
    · exact zerosL_isB m x hx
  · exact h x (List.mem_of_mem_drop hx)

theorem Q_bOff (k m : Int) (n : Nat) (row : List Int) (hk : 0 ≤ k ∧ k ≤ n) (hm : 0 ≤ m) (hn : n ≤ 1000000) (hm2 : m ≤ 9223372036854775807) :
    Q_z1j k m n row = some ((if m > (n : Int) - k then 4 else 0, ()), ((n, ()), (row, ()))) := by
  refine fin ?_
  unfold M_z1j
  simp only [cond_dec]
  rw [if_neg (by omega), if_neg (by omega), if_neg (by omega), IntWalk.i64_in _ (by omega)]
  by_cases h : m > (n : Int) - k
  · rw [if_pos h, if_pos h]
  · rw [if_neg h, if_neg h]

theorem dec_ins {y : Int} {x : HK.sems rh_z1k_1} : decRes ro_z1k rh_z1k (some (encRes ro_z1k_1 rh_z1k_1 ((y, ()), x))) = none := rfl

/-- Put in, or too long. -/
theorem Q_bIns {n : Nat} {row b : List Int} (V : Vw n row b) (k : Nat) (m : Int) (hk : k ≤ n) (hm : 0 ≤ m ∧ m ≤ 9223372036854775807) (hn : n ≤ 9216) :
    (m > 9216 - (n : Int) → Q_z1k (k : Int) m n row = some ((5, ()), ((n, ()), (row, ())))) ∧
    (m ≤ 9216 - (n : Int) → (∃ (n' : Nat) (row' : List Int), Vw n' row' (insB b k m.toNat) ∧
      (Q_z1k (k : Int) m n row = some ((0, ()), ((n', ()), (row', ()))) ∨
       Q_z1k (k : Int) m n row = none ∧ Q_z1k_1 (k : Int) m n row = some ((0, ()), ((n', ()), (row, (row', ()))))))) := by
  have hbl := V.len
  have hle := V.le
  have hmin : (if (0 : Int) < m then (0 : Int) else m) = 0 := by split <;> omega
  have ho := Q_bOff (k : Int) 0 n row (by omega) (by omega) (by omega) (by omega)
  rw [if_neg (by omega)] at ho
  have h9 : IntKind.wrap .i64 ((9216 : Int) - ((n : Nat) : Int)) = 9216 - (n : Int) := IntWalk.i64_in _ (by omega)
  refine ⟨fun hlong => ?_, fun hfit => ?_⟩
  · refine fin ?_
    unfold M_z1k
    simp only [hmin, ok_z1j, q_z1j, ho, RS.get, Option.getD_some, Option.isSome_some, cond_true, int_bne, decide_true, Bool.not_true, cond_false, h9, decide_eq_true hlong]
  · have hct : cutL (0 : Int) row 0 k = b.take k := by rw [V.cut (by omega), cutL_eq (by omega), List.drop_zero]
    have hcd : cutL (0 : Int) row (0 + k) (n - k) = b.drop k := by rw [V.cut (by omega), Nat.zero_add, cutL_eq (by omega), List.take_of_length_le (by rw [List.length_drop]; omega)]
    have hlt : (b.take k).length = k := by rw [List.length_take]; omega
    have hld : (b.drop k).length = n - k := by rw [List.length_drop]; omega
    have d1 : decide ((0 : Int) ≤ (0 : Int) ∧ (0 : Int) ≤ (k : Int) ∧ (k : Int) ≤ (k : Int) ∧ (k : Int) ≤ ((n : Nat) : Int)) = true := by rw [decide_eq_true_eq]; omega
    have d2 : decide ((0 : Int) ≤ (k : Int) ∧ (k : Int) ≤ ((n : Nat) : Int) ∧ ((n : Nat) : Int) ≤ ((n : Nat) : Int) ∧ ((n : Nat) : Int) ≤ ((n : Nat) : Int)) = true := by rw [decide_eq_true_eq]; omega
    have d3 : decide ((0 : Int) ≤ m) = true := decide_eq_true hm.1
    have dk : decide ((k : Int) = (k : Int)) = true := decide_eq_true rfl
    have t0 : Int.toNat (0 : Int) = 0 := rfl
    have hfl : decide (m > 9216 - (n : Int)) = false := decide_eq_false (by omega)
    by_cases c0 : k = 0
    · subst c0
      have hM : M_z1k FUEL ((0 : Nat) : Int) m n row = some (encRes ro_z1k_1 rh_z1k_1 ((0, ()), ((m.toNat + n, ()), (row, (zerosL m.toNat ++ b, ()))))) := by
        have hz : cutL (0 : Int) (zerosL m.toNat) 0 m.toNat = zerosL m.toNat := by
          have := cutL_all (0 : Int) (zerosL m.toNat)
          rw [mkL_length] at this; exact this
        have e1 : (mkL m.toNat fun _ => (0 : Int)).length = m.toNat := mkL_length _ _
        have hrow : cutL (0 : Int) row 0 n = b := V.all
        have d4 : decide (m.toNat * 1 ≤ 2 ^ 46 ∧ m.toNat ≤ 2 ^ 46) = true := by rw [decide_eq_true_eq]; omega
        have d5 : decide ((m.toNat + n) * 1 ≤ 2 ^ 46 ∧ m.toNat + n ≤ 2 ^ 46) = true := by rw [decide_eq_true_eq]; omega
        unfold M_z1k
        simp only [hmin, ok_z1j, q_z1j, ho, RS.get, Option.getD_some, Option.isSome_some, cond_true, int_bne, int_beq, decide_true, Bool.not_true, cond_false, h9, hfl, d1, d2, d3, dk, toNat_cast, t0, Nat.sub_self, Nat.sub_zero, show ((0 : Nat) == 0) = true from rfl, e1, Nat.zero_add, Nat.add_zero, d4, hz, hrow, hbl, d5]
      refine ⟨m.toNat + n, zerosL m.toNat ++ b, ⟨by simp [mkL_length, hbl], ?_⟩, .inr ⟨?_, fin hM⟩⟩
      · rw [List.take_of_length_le (by simp [mkL_length, hbl])]
        simp [insB]
      · unfold Q_z1k; rw [hM]; exact dec_ins
    · have hkb : (k == 0) = false := by simp [c0]
      have e1 : (mkL m.toNat fun _ => (0 : Int)).length = m.toNat := mkL_length _ _
      have e0 : (mkL 0 fun _ => (0 : Int)).length = 0 := mkL_length _ _
      by_cases m0 : m = 0
      · subst m0
        by_cases ckn : k = n
        · have hM : M_z1k FUEL (k : Int) 0 n row = some (encRes ro_z1k rh_z1k ((0, ()), ((k, ()), (row, ())))) := by
            have hnb : (b.drop k).length = 0 := by rw [hld]; omega
            unfold M_z1k
            simp only [hmin, ok_z1j, q_z1j, ho, RS.get, Option.getD_some, Option.isSome_some, cond_true, int_bne, int_beq, decide_true, Bool.not_true, cond_false, h9, hfl, d1, d2, d3, dk, toNat_cast, t0, Nat.sub_zero, hkb, e0, show ((0 : Nat) == 0) = true from rfl, hcd, hnb]
          refine ⟨k, row, ⟨by omega, ?_⟩, .inl (fin hM)⟩
          rw [ckn, V.eq]
          unfold insB
          rw [← hbl, List.take_of_length_le (Nat.le_refl _), List.drop_of_length_le (Nat.le_refl _)]
          simp [zerosL, mkL]
        · have hM : M_z1k FUEL (k : Int) 0 n row = some (encRes ro_z1k_1 rh_z1k_1 ((0, ()), ((k + (n - k), ()), (row, (b.take k ++ b.drop k, ()))))) := by
            have hnb : (n - k == 0) = false := by simp; omega
            have d5 : decide ((k + (n - k)) * 1 ≤ 2 ^ 46 ∧ k + (n - k) ≤ 2 ^ 46) = true := by rw [decide_eq_true_eq]; omega
            unfold M_z1k
            simp only [hmin, ok_z1j, q_z1j, ho, RS.get, Option.getD_some, Option.isSome_some, cond_true, int_bne, int_beq, decide_true, Bool.not_true, cond_false, h9, hfl, d1, d2, d3, dk, toNat_cast, t0, Nat.sub_zero, hkb, e0, show ((0 : Nat) == 0) = true from rfl, hcd, hld, hnb, hct, hlt, d5]
          refine ⟨k + (n - k), b.take k ++ b.drop k, ⟨by rw [List.length_append, hlt, hld]; omega, ?_⟩, .inr ⟨?_, fin hM⟩⟩
          · rw [List.take_of_length_le (by rw [List.length_append, hlt, hld]; omega)]
            simp [insB, zerosL, mkL]
          · unfold Q_z1k; rw [hM]; exact dec_ins
      · have hM : M_z1k FUEL (k : Int) m n row = some (encRes ro_z1k_1 rh_z1k_1 ((0, ()), ((k + m.toNat + (n - k), ()), (row, (b.take k ++ zerosL m.toNat ++ b.drop k, ()))))) := by
          have hmb : (m.toNat == 0) = false := by simp; omega
          have d4 : decide ((k + m.toNat) * 1 ≤ 2 ^ 46 ∧ k + m.toNat ≤ 2 ^ 46) = true := by rw [decide_eq_true_eq]; omega
          have d5 : decide ((k + m.toNat + (n - k)) * 1 ≤ 2 ^ 46 ∧ k + m.toNat + (n - k) ≤ 2 ^ 46) = true := by rw [decide_eq_true_eq]; omega
          have hall : cutL (0 : Int) (b.take k ++ mkL m.toNat fun _ => (0 : Int)) 0 (k + m.toNat) = b.take k ++ mkL m.toNat fun _ => (0 : Int) := by
            have := cutL_all (0 : Int) (b.take k ++ mkL m.toNat fun _ => (0 : Int))
            rw [List.length_append, hlt, e1] at this; exact this
          unfold M_z1k
          simp only [hmin, ok_z1j, q_z1j, ho, RS.get, Option.getD_some, Option.isSome_some, cond_true, int_bne, int_beq, decide_true, Bool.not_true, cond_false, h9, hfl, d1, d2, d3, dk, toNat_cast, t0, Nat.sub_zero, hkb, e1, hmb, hcd, hld, hct, hlt, d4, hall, List.length_append, d5]
        refine ⟨k + m.toNat + (n - k), b.take k ++ zerosL m.toNat ++ b.drop k, ⟨by rw [List.length_append, List.length_append, hlt, hld, mkL_length]; omega, ?_⟩, .inr ⟨?_, fin hM⟩⟩
        · rw [List.take_of_length_le (by rw [List.length_append, List.length_append, hlt, hld, mkL_length]; omega)]
          rfl
        · unfold Q_z1k; rw [hM]; exact dec_ins
end Go.AMach

/- Layer 17: headers moved; Insert. -/
namespace Go.AMach
set_option linter.unusedVariables false
set_option linter.unusedSimpArgs false
set_option linter.unnecessarySimpa false
open Go
set_option linter.unusedVariables false

/-- A header, moved. -/
def mvH (at_ d : Int) (h : HeadS) : HeadS := if h.2.1 ≥ at_ then (h.1, (h.2.1 + d, ())) else h
theorem L_mv (k : List HeadS → Option Res) (at_ d : Int) {hn : Nat} {hs : List HeadS} (hl : hs.length = hn) (hn6 : hn ≤ 1000000) (hat : ∀ h ∈ hs, 0 ≤ h.2.1 ∧ h.2.1 ≤ 1000000) (hd : -1000000 ≤ d ∧ d ≤ 1000000) : ∀ (m i : Nat) (row : List HeadS), i ≤ hn → hn - i < m → hn ≤ row.length → row.take hn = (hs.take i).map (mvH at_ d) ++ hs.drop i →
    ∃ row', Vw hn row' (hs.map (mvH at_ d)) ∧ L_z1l_0 FUEL k at_ d hn (hn : Int) hn m (i : Int) row = k row'
  | 0, _, _, _, h, _, _ => by omega
  | m + 1, i, row, hi, hm, hle, ht => by
    show ∃ row', Vw hn row' (hs.map (mvH at_ d)) ∧ F_z1l_0 FUEL k at_ d hn (hn : Int) hn (L_z1l_0 FUEL k at_ d hn (hn : Int) hn m) (i : Int) row = k row'
    unfold F_z1l_0
    simp only [cond_dec]
    by_cases h : i < hn
    · have hrd : rdd zHeadS row i = rdd zHeadS hs i := by
        have h1 : rdd zHeadS row i = rdd zHeadS (row.take hn) i := by
          rw [rdd_lt (by omega), rdd_lt (by rw [List.length_take]; omega), List.getElem_take]
        rw [h1, ht, rdd_lt (by simp; omega), List.getElem_append_right (by simp; omega), rdd_lt (by omega), List.getElem_drop]
        congr 1
        simp; omega
      have hx := hat _ (rdd_mem (d := zHeadS) (show i < hs.length by omega))
      rw [if_pos (by omega), if_pos ⟨by omega, by omega⟩]
      simp only [toNat_cast, hrd]
      rw [i64_succ (by omega)]
      have hstep : ∀ x : HeadS, x = mvH at_ d (rdd zHeadS hs i) → (row.set i x).take hn = (hs.take (i + 1)).map (mvH at_ d) ++ hs.drop (i + 1) := fun x hx' => by
        rw [List.take_set, ht, take_rdd zHeadS (show i < hs.length by omega), List.map_append, List.append_assoc, drop_rdd zHeadS (show i < hs.length by omega), hx']
        exact set_mid _ _ _ (by simp; omega)
      by_cases hge : (rdd zHeadS hs i).2.1 ≥ at_
      · rw [if_pos hge, if_pos ⟨by omega, by omega⟩, if_pos ⟨by omega, by omega⟩, IntWalk.i64_in _ (by omega)]
        exact L_mv k at_ d hl hn6 hat hd m (i + 1) _ (by omega) (by omega) (by simpa using hle) (hstep _ (by unfold mvH; rw [if_pos hge]))
      · rw [if_neg hge]
        refine L_mv k at_ d hl hn6 hat hd m (i + 1) _ (by omega) (by omega) hle ?_
        have := hstep (rdd zHeadS hs i) (by unfold mvH; rw [if_neg hge])
        rw [← this]
        congr 1
        apply List.ext_getElem?
        intro j
        by_cases e : j = i
        · subst e
          rw [List.getElem?_set_self (by omega), List.getElem?_eq_getElem (by omega), ← hrd, rdd_lt (by omega)]
        · rw [List.getElem?_set_ne (fun k => e k.symm)]
    · rw [if_neg (by omega)]
      refine ⟨row, ⟨hle, ?_⟩, rfl⟩
      rw [ht, List.take_of_length_le (by omega), List.drop_of_length_le (by omega), List.append_nil]
theorem Q_pMove {hn : Nat} {hrow hs : List HeadS} (V : Vw hn hrow hs) (at_ d : Int) (hn6 : hn ≤ 1000000) (hat : ∀ h ∈ hs, 0 ≤ h.2.1 ∧ h.2.1 ≤ 1000000) (hd : -1000000 ≤ d ∧ d ≤ 1000000) (bn mn : Nat) (brow mrow : List Int) (pt : Int) :
    ∃ hrow', Vw hn hrow' (hs.map (mvH at_ d)) ∧ Q_z1l at_ d hn pt bn brow hrow mn mrow = some ((), pkV hn bn mn hrow' brow mrow pt) := by
  obtain ⟨row', h1, h2⟩ := L_mv (fun y1 => some (encRes ro_z1l rh_z1l ((), (((), (hn, ((), (pt, ())))), ((bn, ()), (brow, (y1, ((mn, ()), (mrow, ())))))))))  at_ d V.len hn6 hat hd FUEL 0 hrow (by omega) (by unfold FUEL; omega) V.le (by rw [V.eq]; simp)
  refine ⟨row', h1, fin ?_⟩
  unfold M_z1l
  exact h2
end Go.AMach

/- Layer 17: pack.Insert. -/
namespace Go.AMach
set_option linter.unusedVariables false
set_option linter.unusedSimpArgs false
set_option linter.unnecessarySimpa false
open Go
set_option linter.unusedVariables false

/-- A packet as it may be. -/
structure PkN (hs : List HeadS) (b mt : List Int) : Prop where
  ok : PkOk hs b mt
  long : b.length ≤ 9216
  at_ : ∀ h ∈ hs, h.2.1 ≤ (b.length : Int)
/-- Why bytes are not put in. -/
def insWhy (hs : List HeadS) (b mt : List Int) (f : FieldS) (m : Int) : Int :=
  if (spotF hs b mt f).2 ≠ 0 then (spotF hs b mt f).2 else if m < 0 then 1 else if m > 9216 - (b.length : Int) then 2 else 0
theorem spotF_ok {hs : List HeadS} {b mt : List Int} (N : PkN hs b mt) {f : FieldS} (h : (spotF hs b mt f).2 = 0) : 0 ≤ (spotF hs b mt f).1 ∧ (spotF hs b mt f).1 ≤ (b.length : Int) := by
  unfold spotF at h ⊢
  by_cases c3 : f.2.1 = 3
  · rw [if_pos c3] at h; simp at h
  rw [if_neg c3] at h ⊢
  unfold atF at h ⊢
  cases hw : whereF hs b mt f with
  | none => rw [hw] at h; simp at h
  | some ca =>
    obtain ⟨c, a⟩ := ca
    rw [hw] at h
    simp only at h ⊢
    rcases where_in hw with ⟨k, _⟩ | ⟨_, rfl, ha⟩
    · exact absurd k c3
    have ha' : 0 ≤ a := by
      rcases ha with h' | h'
      · omega
      · exact (atOf_ok N.ok h').1
    unfold atV at h ⊢
    by_cases c1 : f.2.2.2.1 < 0
    · rw [if_pos c1] at h; simp at h
    rw [if_neg c1] at h ⊢
    by_cases c2 : f.2.2.2.1 / 8 > (c.length : Int) - a
    · rw [if_pos c2] at h; simp at h
    rw [if_neg c2]
    simp only
    omega
theorem insN {hs : List HeadS} {b mt : List Int} (N : PkN hs b mt) (k : Nat) (m : Int) (hk : k ≤ b.length) (hm : 0 ≤ m) (hfit : m ≤ 9216 - (b.length : Int)) : PkN (hs.map (mvH (k : Int) m)) (insB b k m.toNat) mt := by
  have hl := insB_length b k m.toNat hk
  refine ⟨⟨insB_isB N.ok.bB _ _, N.ok.mB, by rw [hl]; omega, N.ok.ml, by rw [List.length_map]; exact N.ok.hl, fun h hh => ?_⟩, by rw [hl]; omega, fun h hh => ?_⟩
  · obtain ⟨x, hx, rfl⟩ := List.mem_map.1 hh
    have h1 := N.ok.at_ x hx
    have h2 := N.at_ x hx
    have := N.long
    unfold mvH
    split
    · simp only; omega
    · exact h1
  · obtain ⟨x, hx, rfl⟩ := List.mem_map.1 hh
    have h2 := N.at_ x hx
    rw [hl]
    unfold mvH
    split
    · simp only; omega
    · omega
theorem dec_pins {y : Int} {x : HK.sems rh_z1m_1} : decRes ro_z1m rh_z1m (some (encRes ro_z1m_1 rh_z1m_1 ((y, ()), x))) = none := rfl

theorem Q_pIns {hn bn mn : Nat} {hrow : List HeadS} {brow mrow : List Int} {hs : List HeadS} {b mt : List Int} (K : PkV hn bn mn hrow brow mrow hs b mt) (N : PkN hs b mt) (pt : Int) (f : FieldS) (hf : FieldT.good f) (m : Int) (hm : -9223372036854775808 ≤ m ∧ m ≤ 9223372036854775807) :
    (insWhy hs b mt f m ≠ 0 → Q_z1m f m hn pt bn brow hrow mn mrow = some ((insWhy hs b mt f m, ()), pkV hn bn mn hrow brow mrow pt)) ∧
    (insWhy hs b mt f m = 0 → ∃ (n' : Nat) (hrow' : List HeadS) (brow' : List Int), PkV hn n' mn hrow' brow' mrow (hs.map (mvH (spotF hs b mt f).1 m)) (insB b (spotF hs b mt f).1.toNat m.toNat) mt ∧
      (Q_z1m f m hn pt bn brow hrow mn mrow = some ((0, ()), pkV hn n' mn hrow' brow' mrow pt) ∨
       Q_z1m f m hn pt bn brow hrow mn mrow = none ∧ Q_z1m_1 f m hn pt bn brow hrow mn mrow = some ((0, ()), (((), (hn, ((), (pt, ())))), ((n', ()), (brow, (hrow', ((mn, ()), (mrow, (brow', ()))))))))))  := by
  have qs := Q_pSpotV K pt f hf
  have lb := K.vb.len
  have hbl := N.long
  unfold insWhy
  by_cases c1 : (spotF hs b mt f).2 ≠ 0
  · rw [if_pos c1]
    refine ⟨fun _ => fin ?_, fun h => absurd h c1⟩
    unfold M_z1m
    simp only [ok_z1i, q_z1i, qs, RS.get, Option.getD_some, Option.isSome_some, cond_true, int_bne, decide_eq_false c1, Bool.not_false]
  rw [if_neg c1]
  have c1 : (spotF hs b mt f).2 = 0 := Classical.byContradiction c1
  have hsp := spotF_ok N c1
  rw [c1] at qs
  generalize hk : (spotF hs b mt f).1 = k0 at qs hsp
  obtain ⟨k, rfl⟩ : ∃ k : Nat, k0 = (k : Int) := ⟨k0.toNat, by omega⟩
  rw [toNat_cast]
  by_cases c2 : m < 0
  · rw [if_pos c2]
    refine ⟨fun _ => fin ?_, fun h => by cases h⟩
    unfold M_z1m
    simp only [ok_z1i, q_z1i, qs, RS.get, Option.getD_some, Option.isSome_some, cond_true, int_bne, decide_true, Bool.not_true, cond_false, decide_eq_true c2]
  rw [if_neg c2]
  obtain ⟨i1, i2⟩ := Q_bIns K.vb k m (by omega) (by omega) (by omega)
  by_cases c3 : m > 9216 - (b.length : Int)
  · rw [if_pos c3]
    refine ⟨fun _ => fin ?_, fun h => by cases h⟩
    have q := i1 (by omega)
    unfold M_z1m
    simp only [ok_z1i, q_z1i, qs, ok_z1k, q_z1k, q, RS.get, Option.getD_some, Option.isSome_some, cond_true, int_bne, decide_true, Bool.not_true, cond_false, decide_eq_false c2, show decide ((5 : Int) = 0) = false from rfl, Bool.not_false]
  rw [if_neg c3]
  refine ⟨fun h => absurd rfl h, fun _ => ?_⟩
  obtain ⟨n', row', V', q⟩ := i2 (by omega)
  have N' := insN N k m (by omega) (by omega) (by omega)
  obtain ⟨hrow', VH, qm⟩ := Q_pMove K.vh (k : Int) m (by have := K.ok.hl; have := K.vh.len; omega) K.ok.at_ (by omega) n' mn row' mrow pt
  refine ⟨n', hrow', row', ⟨VH, V', K.vm, N'.ok⟩, ?_⟩
  rcases q with q | ⟨q0, q⟩
  · refine .inl (fin ?_)
    unfold M_z1m
    simp only [ok_z1i, q_z1i, qs, ok_z1k, q_z1k, q, ok_z1l, q_z1l, qm, RS.get, Option.getD_some, Option.isSome_some, cond_true, int_bne, decide_true, Bool.not_true, cond_false, decide_eq_false c2]
  · have hM : M_z1m FUEL f m hn pt bn brow hrow mn mrow = some (encRes ro_z1m_1 rh_z1m_1 ((0, ()), (((), (hn, ((), (pt, ())))), ((n', ()), (brow, (hrow', ((mn, ()), (mrow, (row', ()))))))))) := by
      unfold M_z1m
      simp only [ok_z1i, q_z1i, qs, ok_z1k, ok_z1k_1, q_z1k_1, q0, q, ok_z1l, q_z1l, qm, RS.get, Option.getD_some, Option.isSome_some, Option.isSome_none, cond_true, int_bne, decide_true, Bool.not_true, cond_false, decide_eq_false c2]
    exact .inr ⟨by unfold Q_z1m; rw [hM]; exact dec_pins, fin hM⟩
end Go.AMach
