/- A packet: its fields and their texts. -/
import Derived.Test.YtcngpijmkdpbgaaBa
namespace Go.AMach
set_option linter.unusedVariables false
set_option linter.unusedSimpArgs false
set_option linter.unnecessarySimpa false
open Go
set_option linter.unusedVariables false

/-- Bytes as natural numbers. -/
def bl (b : List Int) (i : Nat) : Nat := (rdd 0 b i).toNat
theorem isB_rdd {b : List Int} (h : isB b) (i : Nat) : 0 ≤ rdd 0 b i ∧ rdd 0 b i ≤ 255 := by
  by_cases hi : i < b.length
  · exact h _ (rdd_mem hi)
  · rw [rdd_ge (by omega)]; omega
theorem bl_lt {b : List Int} (h : isB b) (i : Nat) : bl b i < 256 := by have := isB_rdd h i; unfold bl; omega
theorem bl_cast {b : List Int} (h : isB b) (i : Nat) : ((bl b i : Nat) : Int) = rdd 0 b i := by have := isB_rdd h i; unfold bl; omega
/-- A number among bytes, by its bits. -/
def getB (b : List Int) (off w : Int) : Option Nat := if 0 ≤ off ∧ 1 ≤ w ∧ w ≤ 128 ∧ off + w ≤ 8 * (b.length : Int) then some (bv (bl b) off.toNat w.toNat) else none
def getE (off w : Int) : Int := if w < 1 then 1 else if w > 128 then 1 else if off < 0 then 1 else 4
theorem getE_ne (off w : Int) : getE off w ≠ 0 := by unfold getE; split; decide; split; decide; split <;> decide

theorem Q_GetBad (s : ByteArray) (off w : Int) (hs : s.size < 1000000000) (ho : off ≤ 9223372036854775807)
    (h : ¬ (0 ≤ off ∧ 1 ≤ w ∧ w ≤ 128 ∧ off + w ≤ 8 * (s.size : Int))) : Q_z0r s off w = some (((wN 0), (getE off w, ())), ()) := by
  have hm : Q_z0i s off w = some ((getE off w, ()), ()) := by
    refine fin ?_
    unfold M_z0i getE
    simp only [cond_dec]
    refine ite_eq (fun h1 => by rw [if_pos h1]) fun h1 => ?_
    rw [if_neg h1]
    refine ite_eq (fun h2 => by rw [if_pos h2]) fun h2 => ?_
    rw [if_neg h2]
    refine ite_eq (fun h3 => by rw [if_pos h3]) fun h3 => ?_
    rw [if_neg h3, IntWalk.i64_in (8 * (s.size : Int)) (by omega), IntWalk.i64_in _ (by omega), if_pos (by omega)]
  refine fin ?_
  unfold M_z0r
  simp only [ok_z0i, q_z0i, hm, RS.get, Option.getD_some, Option.isSome_some, cond_true, int_bne]
  rw [decide_eq_false (getE_ne off w), Bool.not_false, cond_true]
  rfl

theorem bv_congr {f g : Nat → Nat} {off : Nat} : ∀ (w : Nat), (∀ i, off ≤ i → i < off + w → bitOf f i = bitOf g i) → bv f off w = bv g off w
  | 0, _ => rfl
  | w + 1, h => by
    rw [bv_add f off w 1, bv_add g off w 1, bv_congr w fun i h1 h2 => h i h1 (by omega)]
    congr 1
    show 2 * 0 + bitOf f (off + w) = 2 * 0 + bitOf g (off + w)
    rw [h (off + w) (by omega) (by omega)]
theorem bitOf_congr {f g : Nat → Nat} {i : Nat} (h : f (i / 8) = g (i / 8)) : bitOf f i = bitOf g i := by unfold bitOf; rw [h]

/-- A slice that does not begin at a block's beginning. -/
theorem decs_hs {id e fr n : Nat} {r : List EK} {xs : List AV} (h : fr ≠ e) : EK.decs (.hs id e :: r) (.hs false id fr n :: xs) = none := by
  have : EK.dec (.hs id e) (.hs false id fr n) = none := if_neg fun k => h k.2
  simp only [EK.decs, this]
theorem dec_off {fr n : Nat} {y : Int} {x : HK.sems rh_z1a_1} (h : fr ≠ 0) : decRes ro_z1a rh_z1a (some (encRes ro_z1a_1 rh_z1a_1 (((fr, n), (y, ())), x))) = none := by
  unfold decRes encRes
  simp only [EK.encs, EK.enc, oneOr, unOr, ro_z1a, ro_z1a_1, decs_hs h, List.length]

theorem Q_bWin (b : List Int) (off w : Int) (hl : b.length ≤ 1000000) (ho : -9223372036854775808 ≤ off ∧ off ≤ 9223372036854775807) :
    (getB b off w = none → Q_z1a off w b.length b = some ((b.length, (0, ())), ((b.length, ()), (b, ())))) ∧
    (∀ v, getB b off w = some v → (off.toNat / 8 = 0 ∧ Q_z1a off w b.length b = some (((off.toNat + w.toNat + 7) / 8 - off.toNat / 8, (((off.toNat / 8 : Nat) : Int), ())), ((b.length, ()), (b, ())))) ∨ Q_z1a off w b.length b = none ∧ Q_z1a_1 off w b.length b = some (((off.toNat / 8, (off.toNat + w.toNat + 7) / 8 - off.toNat / 8), (((off.toNat / 8 : Nat) : Int), ())), ((b.length, ()), (b, ())))) := by
  have hw : 1 ≤ w → w ≤ 128 → IntKind.wrap .i64 (IntKind.wrap .i64 (8 * (b.length : Int)) - w) = 8 * (b.length : Int) - w := fun h1 h2 => by
    rw [IntWalk.i64_in (8 * (b.length : Int)) (by omega), IntWalk.i64_in _ (by omega)]
  refine ⟨fun hn => ?_, fun v hv => ?_⟩
  · have hn' : ¬ (0 ≤ off ∧ 1 ≤ w ∧ w ≤ 128 ∧ off + w ≤ 8 * (b.length : Int)) := fun k => by unfold getB at hn; rw [if_pos k] at hn; cases hn
    refine fin ?_
    unfold M_z1a
    simp only [cond_dec]
    refine ite_eq (fun _ => rfl) fun h1 => ite_eq (fun _ => rfl) fun h2 => ite_eq (fun _ => rfl) fun h3 => ?_
    rw [hw (by omega) (by omega), if_pos (by omega)]
  · have hv' : 0 ≤ off ∧ 1 ≤ w ∧ w ≤ 128 ∧ off + w ≤ 8 * (b.length : Int) := Classical.byContradiction fun k => by unfold getB at hv; rw [if_neg k] at hv; cases hv
    have hM : M_z1a FUEL off w b.length b = some (encRes ro_z1a_1 rh_z1a_1 (((off.toNat / 8, (off.toNat + w.toNat + 7) / 8 - off.toNat / 8), (((off.toNat / 8 : Nat) : Int), ())), ((b.length, ()), (b, ())))) := by
      unfold M_z1a
      simp only [cond_dec]
      have e2 : IntKind.wrap .i64 (Int.tdiv off 8) = ((off.toNat / 8 : Nat) : Int) := by
        rw [Int.tdiv_eq_ediv_of_nonneg (by omega), IntWalk.i64_in _ (by omega)]; omega
      have e1 : IntKind.wrap .i64 (Int.tdiv (IntKind.wrap .i64 (IntKind.wrap .i64 (off + w) + 7)) 8) = (((off.toNat + w.toNat + 7) / 8 : Nat) : Int) := by
        rw [IntWalk.i64_in (off + w) (by omega), IntWalk.i64_in (off + w + 7) (by omega), Int.tdiv_eq_ediv_of_nonneg (by omega), IntWalk.i64_in _ (by omega)]; omega
      have h8 : ((8 : Int) != 0) = true := by decide
      rw [if_neg (by omega), if_neg (by omega), if_neg (by omega), hw (by omega) (by omega), if_neg (by omega)]
      simp only [h8, cond_true, e1, e2, toNat_cast, Nat.zero_add]
      rw [if_pos ⟨by omega, by omega, by omega, by omega⟩]
    by_cases hz : off.toNat / 8 = 0
    · refine .inl ⟨hz, ?_⟩
      rw [hz] at hM ⊢
      exact fin hM
    · refine .inr ⟨?_, fin hM⟩
      show decRes _ _ _ = _
      rw [hM]
      generalize off.toNat / 8 = fr at hz ⊢
      exact dec_off hz

theorem Q_bGet {b : List Int} (hb : isB b) (off w : Int) (hl : b.length ≤ 1000000) (ho : -9223372036854775808 ≤ off ∧ off ≤ 9223372036854775807) :
    Q_z1b off w b.length b = some ((match getB b off w with | some v => (wN v, (0, ())) | none => (wN 0, (getE off w, ()))), ((b.length, ()), (b, ()))) := by
  obtain ⟨h0, h1⟩ := Q_bWin b off w hl ho
  refine fin ?_
  unfold M_z1b
  cases hg : getB b off w with
  | none =>
    have hn' : ¬ (0 ≤ off ∧ 1 ≤ w ∧ w ≤ 128 ∧ off + w ≤ 8 * (b.length : Int)) := fun k => by unfold getB at hg; rw [if_pos k] at hg; cases hg
    simp only [ok_z1a, q_z1a, h0 hg, RS.get, Option.getD_some, Option.isSome_some, cond_true, cutL_all]
    have e : IntKind.wrap .i64 (off - IntKind.wrap .i64 (8 * (0 : Int))) = off := by
      rw [show IntKind.wrap .i64 (8 * (0 : Int)) = 0 by rfl, IntWalk.i64_in _ (by omega)]; omega
    rw [e]
    have := Q_GetBad (bytesOf b) off w (by rw [bytesOf_size]; omega) ho.2 (by rw [bytesOf_size]; exact hn')
    simp only [ok_z0r, q_z0r, this, RS.get, Option.getD_some, Option.isSome_some, cond_true]
  | some v =>
    have hv' : 0 ≤ off ∧ 1 ≤ w ∧ w ≤ 128 ∧ off + w ≤ 8 * (b.length : Int) := Classical.byContradiction fun k => by unfold getB at hg; rw [if_neg k] at hg; cases hg
    have hvv : bv (bl b) off.toNat w.toNat = v := by unfold getB at hg; rw [if_pos hv'] at hg; exact Option.some.inj hg
    have h1 := h1 v hg
    generalize hf : off.toNat / 8 = fr at h1
    generalize hn : (off.toNat + w.toNat + 7) / 8 - fr = n at h1
    have e : IntKind.wrap .i64 (off - IntKind.wrap .i64 (8 * ((fr : Nat) : Int))) = ((off.toNat - 8 * fr : Nat) : Int) := by
      rw [IntWalk.i64_in (8 * ((fr : Nat) : Int)) (by omega), IntWalk.i64_in _ (by omega)]; omega
    have hwn : w = ((w.toNat : Nat) : Int) := by omega
    have hcut : cutL (0 : Int) b fr n = (b.drop fr).take n := cutL_eq (by omega)
    have hlen : (cutL (0 : Int) b fr n).length = n := cutL_length' _ _ _ _
    have hcB : isB (cutL (0 : Int) b fr n) := fun x hx => by
      rw [hcut] at hx
      exact hb _ (List.mem_of_mem_drop (List.mem_of_mem_take hx))
    have hG := Q_Get (bytesOf (cutL (0 : Int) b fr n)) (off.toNat - 8 * fr) w.toNat (by rw [bytesOf_size, hlen]; omega) (by omega) (by omega) (by omega)
    rw [if_pos (by rw [bytesOf_size, hlen]; omega), ← hwn] at hG
    have hval : getP (byteAt (bytesOf (cutL (0 : Int) b fr n))) (off.toNat - 8 * fr) w.toNat = wN v := by
      have c1 : getP (byteAt (bytesOf (cutL (0 : Int) b fr n))) (off.toNat - 8 * fr) w.toNat = getP (fun i => ((bl (cutL (0 : Int) b fr n) i : Nat) : Int)) (off.toNat - 8 * fr) w.toNat :=
        getP_congr (by omega) fun i hi => by rw [byteAt_bytesOf hcB (by rw [hlen]; omega), bl_cast hcB]
      rw [c1, getP_wN _ (bl_lt hcB) _ _ (by omega) (by omega)]
      congr 1
      rw [← hvv]
      have c2 : bv (bl (cutL (0 : Int) b fr n)) (off.toNat - 8 * fr) w.toNat = bv (fun j => bl b (fr + j)) (off.toNat - 8 * fr) w.toNat :=
        bv_congr _ fun i h1 h2 => bitOf_congr (by
          unfold bl
          rw [hcut, rdd_lt (by rw [List.length_take, List.length_drop]; omega), rdd_lt (by omega)]
          simp)
      rw [c2, bv_shift, show 8 * fr + (off.toNat - 8 * fr) = off.toNat by omega]
    rcases h1 with ⟨z, a1⟩ | ⟨a1, a2⟩
    · subst z
      simp only [ok_z1a, q_z1a, a1, e, ok_z0r, q_z0r, hG, RS.get, Option.getD_some, Option.isSome_some, cond_true, hval]
    · simp only [ok_z1a, ok_z1a_1, q_z1a_1, a1, a2, e, ok_z0r, q_z0r, hG, RS.get, Option.getD_some, Option.isSome_some, Option.isSome_none, cond_true, cond_false, hval]

/-! ### Fields of a packet -/
theorem Q_bit (fr off : Int) (h : 0 ≤ fr ∧ fr ≤ 1000000) (ho : off ≤ 9223372036854775807) : Q_z18 fr off = some ((((if off < 0 then -1 else 8 * fr + min off 147456 : Int)), ()), ()) := by
  refine fin ?_
  unfold M_z18
  simp only [cond_dec]
  by_cases h0 : off < 0
  · rw [if_pos h0, if_pos h0]
  · rw [if_neg h0, if_neg h0]
    have e : (if (147456 : Int) < off then (147456 : Int) else off) = min off 147456 := by
      by_cases h1 : (147456 : Int) < off
      · rw [if_pos h1]; omega
      · rw [if_neg h1]; omega
    rw [e, IntWalk.i64_in (8 * fr) (by omega), IntWalk.i64_in _ (by omega)]

/-- Where a node's header begins. -/
def atOf (hs : List HeadS) (id : Int) : Option Int := (hs.find? fun h => decide (h.1 = id)).map fun h => h.2.1
/-- Where a field is. -/
def whereF (hs : List HeadS) (b mt : List Int) (f : FieldS) : Option (List Int × Int) :=
  if f.2.1 = 1 then some (b, 0) else if f.2.1 = 3 then some (mt, 0) else if f.2.1 = 2 then (atOf hs f.2.2.1).map fun a => (b, a) else none
def bitV (fr off : Int) : Int := if off < 0 then -1 else 8 * fr + min off 147456
/-- A field's number; or why not. -/
def getF (hs : List HeadS) (b mt : List Int) (f : FieldS) : Except Int Nat := match whereF hs b mt f with
  | none => .error 3
  | some (c, a) => match getB c (bitV a f.2.2.2.1) f.2.2.2.2.1 with
    | none => .error 1
    | some v => .ok v

structure PkOk (hs : List HeadS) (b mt : List Int) : Prop where
  bB : isB b
  mB : isB mt
  bl : b.length ≤ 100000
  ml : mt.length ≤ 100000
  hl : hs.length ≤ 1000000
  at_ : ∀ h ∈ hs, 0 ≤ h.2.1 ∧ h.2.1 ≤ 1000000
theorem atOf_ok {hs : List HeadS} {b mt : List Int} (P : PkOk hs b mt) {id a : Int} (h : atOf hs id = some a) : 0 ≤ a ∧ a ≤ 1000000 := by
  unfold atOf at h
  cases hf : hs.find? (fun h => decide (h.1 = id)) with
  | none => rw [hf] at h; cases h
  | some x =>
    rw [hf] at h
    cases h
    exact P.at_ x (List.mem_of_find?_eq_some hf)
/-- The blocks of a packet. -/
abbrev pkS (hs : List HeadS) (pt : Int) (b mt : List Int) : HK.sems rh_z17 := (((), (hs.length, ((), (pt, ())))), ((b.length, ()), (b, (hs, ((mt.length, ()), (mt, ()))))))

theorem L_place (kr : Int → Int → Option Res) (kt : Unit → Option Res) (hs : List HeadS) (hl : hs.length ≤ 1000000) (f : FieldS) : ∀ (m i : Nat), i ≤ hs.length → hs.length - i < m →
    L_z17_1 FUEL kr kt hs.length (hs.length : Int) hs f m (i : Int) = (match atOf (hs.drop i) f.2.2.1 with | some a => kr a 0 | none => kt ())
  | 0, _, _, h => by omega
  | m + 1, i, hi, hm => by
    show F_z17_1 FUEL kr kt hs.length (hs.length : Int) hs f (L_z17_1 FUEL kr kt hs.length (hs.length : Int) hs f m) (i : Int) = _
    unfold F_z17_1
    simp only [cond_dec]
    by_cases h : i < hs.length
    · rw [if_pos (by omega), if_pos ⟨by omega, by omega⟩]
      simp only [toNat_cast, int_beq, cond_dec]
      rw [drop_rdd zHeadS h]
      unfold atOf
      rw [List.find?_cons]
      by_cases e : (rdd zHeadS hs i).1 = f.2.2.1
      · rw [if_pos e, decide_eq_true e]; rfl
      · rw [if_neg e, decide_eq_false e, i64_succ (by omega), L_place kr kt hs hl f m (i + 1) (by omega) (by omega)]
        rfl
    · rw [if_neg (by omega), List.drop_of_length_le (by omega)]
      rfl

theorem dec_p0 {y z : Int} {x : HK.sems rh_z17} : decRes ro_z17 rh_z17 (some (encRes ro_z17_1 rh_z17_1 (((), (y, (z, ()))), x))) = none := rfl
theorem dec_p1 {y z : Int} {x : HK.sems rh_z17} : decRes ro_z17 rh_z17 (some (encRes ro_z17_2 rh_z17_2 (((), (y, (z, ()))), x))) = none := rfl
theorem dec_p2 {y z : Int} {x : HK.sems rh_z17} : decRes ro_z17_1 rh_z17_1 (some (encRes ro_z17_2 rh_z17_2 (((), (y, (z, ()))), x))) = none := rfl

theorem Q_pGet {hs : List HeadS} {b mt : List Int} (P : PkOk hs b mt) (pt : Int) (f : FieldS) (hf : FieldT.good f) :
    Q_z1c f hs.length pt b.length b hs mt.length mt = some ((match getF hs b mt f with | .ok v => (wN v, (0, ())) | .error r => (wN 0, (r, ()))), pkS hs pt b mt) := by
  obtain ⟨h1, h2, h3, h4, h5, _⟩ := hf
  have r4 := wf_i64 h4
  have hM : M_z17 FUEL f hs.length pt b.length b hs mt.length mt = if f.2.1 = 3 then some (encRes ro_z17_1 rh_z17_1 (((), (0, (0, ()))), pkS hs pt b mt))
      else (match whereF hs b mt f with | some (c, a) => some (encRes ro_z17 rh_z17 (((), (a, (0, ()))), pkS hs pt b mt)) | none => some (encRes ro_z17_2 rh_z17_2 (((), (0, (3, ()))), pkS hs pt b mt))) := by
    unfold M_z17 whereF
    simp only [int_beq, cond_dec]
    by_cases c1 : f.2.1 = 1
    · rw [if_pos c1, if_pos c1, if_neg (by omega)]
    rw [if_neg c1, if_neg c1]
    by_cases c3 : f.2.1 = 3
    · rw [if_pos c3, if_pos c3]
    rw [if_neg c3, if_neg c3, if_neg c3]
    by_cases c2 : f.2.1 = 2
    · rw [if_pos c2, if_pos c2]
      refine Eq.trans (L_place _ _ hs P.hl f FUEL 0 (by omega) (by have := P.hl; unfold FUEL; omega)) ?_
      rw [List.drop_zero]
      cases atOf hs f.2.2.1 <;> rfl
    · rw [if_neg c2, if_neg c2]
  have hbit : ∀ a, 0 ≤ a ∧ a ≤ 1000000 → Q_z18 a f.2.2.2.1 = some ((bitV a f.2.2.2.1, ()), ()) := fun a ha => Q_bit a _ ha r4.2
  have rbit : ∀ a, 0 ≤ a ∧ a ≤ 1000000 → -9223372036854775808 ≤ bitV a f.2.2.2.1 ∧ bitV a f.2.2.2.1 ≤ 9223372036854775807 := fun a ha => by unfold bitV; split <;> omega
  have ne := getE_ne
  refine fin ?_
  unfold M_z1c getF
  by_cases c3 : f.2.1 = 3
  · rw [if_pos c3] at hM
    have w3 : whereF hs b mt f = some (mt, 0) := by unfold whereF; rw [if_neg (by omega), if_pos c3]
    have q0 : Q_z17 f hs.length pt b.length b hs mt.length mt = none := by unfold Q_z17; rw [hM]; exact dec_p0
    have q1 : Q_z17_1 f hs.length pt b.length b hs mt.length mt = some (((), (0, (0, ()))), pkS hs pt b mt) := fin hM
    simp only [ok_z17, ok_z17_1, q_z17_1, q0, q1, RS.get, Option.getD_some, Option.isSome_some, Option.isSome_none, cond_true, cond_false, w3]
    simp only [int_bne, decide_true, Bool.not_true, cond_false, ok_z18, q_z18, hbit 0 (by omega), ok_z1b, q_z1b, Q_bGet P.mB (bitV 0 f.2.2.2.1) f.2.2.2.2.1 (by have := P.ml; omega) (rbit 0 (by omega)), RS.get, Option.getD_some, Option.isSome_some, cond_true]
    cases getB mt (bitV 0 f.2.2.2.1) f.2.2.2.2.1 with
    | none => simp only [decide_eq_false (ne _ _), Bool.not_false, cond_true]; rfl
    | some v => simp only [decide_true, Bool.not_true, cond_false]
  rw [if_neg c3] at hM
  cases hw : whereF hs b mt f with
  | none =>
    rw [hw] at hM
    have q0 : Q_z17 f hs.length pt b.length b hs mt.length mt = none := by unfold Q_z17; rw [hM]; exact dec_p1
    have q1 : Q_z17_1 f hs.length pt b.length b hs mt.length mt = none := by unfold Q_z17_1; rw [hM]; exact dec_p2
    have q2 : Q_z17_2 f hs.length pt b.length b hs mt.length mt = some (((), (0, (3, ()))), pkS hs pt b mt) := fin hM
    simp only [ok_z17, ok_z17_1, ok_z17_2, q_z17_2, q0, q1, q2, RS.get, Option.getD_some, Option.isSome_some, Option.isSome_none, cond_true, cond_false]
    rfl
  | some ca =>
    obtain ⟨c, a⟩ := ca
    rw [hw] at hM
    have hca : c = b ∧ 0 ≤ a ∧ a ≤ 1000000 := by
      unfold whereF at hw
      by_cases c1 : f.2.1 = 1
      · rw [if_pos c1] at hw; cases hw; exact ⟨rfl, by omega, by omega⟩
      rw [if_neg c1, if_neg c3] at hw
      by_cases c2 : f.2.1 = 2
      · rw [if_pos c2] at hw
        cases ha : atOf hs f.2.2.1 with
        | none => rw [ha] at hw; cases hw
        | some x => rw [ha] at hw; cases hw; exact ⟨rfl, atOf_ok P ha⟩
      · rw [if_neg c2] at hw; cases hw
    obtain ⟨rfl, ha⟩ := hca
    have q0 : Q_z17 f hs.length pt c.length c hs mt.length mt = some (((), (a, (0, ()))), pkS hs pt c mt) := fin hM
    simp only [ok_z17, q_z17, q0, RS.get, Option.getD_some, Option.isSome_some, cond_true]
    simp only [int_bne, decide_true, Bool.not_true, cond_false, ok_z18, q_z18, hbit a ha, ok_z1b, q_z1b, Q_bGet P.bB (bitV a f.2.2.2.1) f.2.2.2.2.1 (by have := P.bl; omega) (rbit a ha), RS.get, Option.getD_some, Option.isSome_some, cond_true]
    cases getB c (bitV a f.2.2.2.1) f.2.2.2.2.1 with
    | none => simp only [decide_eq_false (ne _ _), Bool.not_false, cond_true]; rfl
    | some v => simp only [decide_true, Bool.not_true, cond_false]
end Go.AMach
