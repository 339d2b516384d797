/- Parts of the proof. -/
import Derived.Test.YtcngpijmkdpbgaaGreatBn
/- Layer 17: a packet whose rows are longer than what is told of them. -/
namespace Go.AMach
set_option linter.unusedVariables false
set_option linter.unusedSimpArgs false
set_option linter.unnecessarySimpa false
open Go
set_option linter.unusedVariables false

structure Vw {α : Type} (n : Nat) (row b : List α) : Prop where
  le : n ≤ row.length
  eq : row.take n = b
theorem Vw.len {α : Type} {n : Nat} {row b : List α} (V : Vw n row b) : b.length = n := by rw [← V.eq, List.length_take]; have := V.le; omega
theorem Vw.self {α : Type} (b : List α) : Vw b.length b b := ⟨Nat.le_refl _, List.take_of_length_le (Nat.le_refl _)⟩
theorem Vw.rdd {α : Type} {d : α} {n : Nat} {row b : List α} (V : Vw n row b) {i : Nat} (h : i < n) : Go.AMach.rdd d row i = Go.AMach.rdd d b i := by
  have hl := V.len
  have hle := V.le
  rw [jbd (by omega), jbd (by omega)]
  have : b[i]'(by omega) = (row.take n)[i]'(by rw [V.eq]; omega) := by simp only [V.eq]
  rw [this, List.getElem_take]
theorem Vw.cut {α : Type} {d : α} {n : Nat} {row b : List α} (V : Vw n row b) {a m : Nat} (h : a + m ≤ n) : cutL d row a m = cutL d b a m := by
  have hl := V.len
  have hle := V.le
  apply List.ext_getElem?
  intro i
  by_cases hi : i < m
  · unfold cutL
    rw [jex hi, jex hi, V.rdd (by omega)]
  · rw [List.getElem?_eq_none (by rw [jbV]; omega), List.getElem?_eq_none (by rw [jbV]; omega)]
theorem Vw.all {α : Type} {d : α} {n : Nat} {row b : List α} (V : Vw n row b) : cutL d row 0 n = b := by
  have hl := V.len
  rw [V.cut (by omega), ← hl, jbI]

theorem jKb {n : Nat} {row b : List Int} (V : Vw n row b) (off w : Int) (hl : n ≤ 1000000) (ho : -9223372036854775808 ≤ off ∧ off ≤ 9223372036854775807) :
    (getB b off w = none → jCa off w n row = some ((n, (0, ())), ((n, ()), (row, ())))) ∧
    (∀ v, getB b off w = some v → (off.toNat / 8 = 0 ∧ jCa off w n row = some (((off.toNat + w.toNat + 7) / 8 - off.toNat / 8, (((off.toNat / 8 : Nat) : Int), ())), ((n, ()), (row, ())))) ∨ jCa off w n row = none ∧ jri off w n row = some (((off.toNat / 8, (off.toNat + w.toNat + 7) / 8 - off.toNat / 8), (((off.toNat / 8 : Nat) : Int), ())), ((n, ()), (row, ())))) := by
  have hbl := V.len
  have hw : 1 ≤ w → w ≤ 128 → IntKind.wrap .i64 (IntKind.wrap .i64 (8 * (n : Int)) - w) = 8 * (n : Int) - w := fun h1 h2 => by
    rw [IntWalk.i64_in (8 * (n : Int)) (by omega), IntWalk.i64_in _ (by omega)]
  refine ⟨fun hn => ?_, fun v hv => ?_⟩
  · have hn' : ¬ (0 ≤ off ∧ 1 ≤ w ∧ w ≤ 128 ∧ off + w ≤ 8 * (b.length : Int)) := fun k => by unfold getB at hn; rw [if_pos k] at hn; cases hn
    refine fin ?_
    unfold jwN
    simp only [jao]
    refine jbU (fun _ => rfl) fun h1 => jbU (fun _ => rfl) fun h2 => jbU (fun _ => rfl) fun h3 => ?_
    rw [hw (by omega) (by omega), if_pos (by omega)]
  · have hv' : 0 ≤ off ∧ 1 ≤ w ∧ w ≤ 128 ∧ off + w ≤ 8 * (b.length : Int) := Classical.byContradiction fun k => by unfold getB at hv; rw [if_neg k] at hv; cases hv
    have hM : jwN FUEL off w n row = some (jaa jgi jgm (((off.toNat / 8, (off.toNat + w.toNat + 7) / 8 - off.toNat / 8), (((off.toNat / 8 : Nat) : Int), ())), ((n, ()), (row, ())))) := by
      unfold jwN
      simp only [jao]
      have e2 : IntKind.wrap .i64 (Int.tdiv off 8) = ((off.toNat / 8 : Nat) : Int) := by
        rw [Int.tdiv_eq_ediv_of_nonneg (by omega), IntWalk.i64_in _ (by omega)]; omega
      have e1 : IntKind.wrap .i64 (Int.tdiv (IntKind.wrap .i64 (IntKind.wrap .i64 (off + w) + 7)) 8) = (((off.toNat + w.toNat + 7) / 8 : Nat) : Int) := by
        rw [IntWalk.i64_in (off + w) (by omega), IntWalk.i64_in (off + w + 7) (by omega), Int.tdiv_eq_ediv_of_nonneg (by omega), IntWalk.i64_in _ (by omega)]; omega
      have h8 : ((8 : Int) != 0) = true := by decide
      rw [if_neg (by omega), if_neg (by omega), if_neg (by omega), hw (by omega) (by omega), if_neg (by omega)]
      simp only [h8, cond_true, e1, e2, jal, Nat.zero_add]
      rw [if_pos ⟨by omega, by omega, by omega, by omega⟩]
    by_cases hz : off.toNat / 8 = 0
    · refine .inl ⟨hz, ?_⟩
      rw [hz] at hM ⊢
      exact fin hM
    · refine .inr ⟨?_, fin hM⟩
      show jap _ _ _ = _
      rw [hM]
      generalize off.toNat / 8 = fr at hz ⊢
      exact dec_off hz

theorem jKf {n : Nat} {row b : List Int} (V : Vw n row b) (hb : isB b) (off w : Int) (hl : n ≤ 1000000) (ho : -9223372036854775808 ≤ off ∧ off ≤ 9223372036854775807) :
    jMT off w n row = some ((match getB b off w with | some v => (wN v, (0, ())) | none => (wN 0, (getE off w, ()))), ((n, ()), (row, ()))) := by
  have hbl := V.len
  obtain ⟨h0, h1⟩ := jKb V off w hl ho
  refine fin ?_
  unfold jOf
  cases hg : getB b off w with
  | none =>
    have hn' : ¬ (0 ≤ off ∧ 1 ≤ w ∧ w ≤ 128 ∧ off + w ≤ 8 * (b.length : Int)) := fun k => by unfold getB at hg; rw [if_pos k] at hg; cases hg
    simp only [jkv, jBs, h0 hg, RS.get, Option.getD_some, Option.isSome_some, cond_true, V.all]
    have e : IntKind.wrap .i64 (off - IntKind.wrap .i64 (8 * (0 : Int))) = off := by
      rw [show IntKind.wrap .i64 (8 * (0 : Int)) = 0 by rfl, IntWalk.i64_in _ (by omega)]; omega
    rw [e]
    have := jNs (bytesOf b) off w (by rw [jaw]; omega) ho.2 (by rw [jaw]; exact hn')
    simp only [jmd, jvm, this, RS.get, Option.getD_some, Option.isSome_some, cond_true]
  | some v =>
    have hv' : 0 ≤ off ∧ 1 ≤ w ∧ w ≤ 128 ∧ off + w ≤ 8 * (b.length : Int) := Classical.byContradiction fun k => by unfold getB at hg; rw [if_neg k] at hg; cases hg
    have hvv : bv (bl b) off.toNat w.toNat = v := by unfold getB at hg; rw [if_pos hv'] at hg; exact Option.some.inj hg
    have h1 := h1 v hg
    generalize hf : off.toNat / 8 = fr at h1
    generalize hn : (off.toNat + w.toNat + 7) / 8 - fr = n' at h1
    have e : IntKind.wrap .i64 (off - IntKind.wrap .i64 (8 * ((fr : Nat) : Int))) = ((off.toNat - 8 * fr : Nat) : Int) := by
      rw [IntWalk.i64_in (8 * ((fr : Nat) : Int)) (by omega), IntWalk.i64_in _ (by omega)]; omega
    have hwn : w = ((w.toNat : Nat) : Int) := by omega
    have hrow : cutL (0 : Int) row fr n' = cutL (0 : Int) b fr n' := V.cut (by omega)
    have hcut : cutL (0 : Int) b fr n' = (b.drop fr).take n' := jek (by omega)
    have hlen : (cutL (0 : Int) b fr n').length = n' := jbV _ _ _ _
    have hcB : isB (cutL (0 : Int) b fr n') := fun x hx => by
      rw [hcut] at hx
      exact hb _ (List.mem_of_mem_drop (List.mem_of_mem_take hx))
    have hG := Q_Get (bytesOf (cutL (0 : Int) b fr n')) (off.toNat - 8 * fr) w.toNat (by rw [jaw, hlen]; omega) (by omega) (by omega) (by omega)
    rw [if_pos (by rw [jaw, hlen]; omega), ← hwn] at hG
    have hval : getP (jbs (bytesOf (cutL (0 : Int) b fr n'))) (off.toNat - 8 * fr) w.toNat = wN v := by
      have c1 : getP (jbs (bytesOf (cutL (0 : Int) b fr n'))) (off.toNat - 8 * fr) w.toNat = getP (fun i => ((bl (cutL (0 : Int) b fr n') i : Nat) : Int)) (off.toNat - 8 * fr) w.toNat :=
        joC (by omega) fun i hi => by rw [jnJ hcB (by rw [hlen]; omega), jvE hcB]
      rw [c1, getP_wN _ (bl_lt hcB) _ _ (by omega) (by omega)]
      congr 1
      rw [← hvv]
      have c2 : bv (bl (cutL (0 : Int) b fr n')) (off.toNat - 8 * fr) w.toNat = bv (fun j => bl b (fr + j)) (off.toNat - 8 * fr) w.toNat :=
        jAE _ fun i h1 h2 => jhg (by
          unfold bl
          rw [hcut, jbd (by rw [List.length_take, List.length_drop]; omega), jbd (by omega)]
          simp)
      rw [c2, jkU, show 8 * fr + (off.toNat - 8 * fr) = off.toNat by omega]
    rcases h1 with ⟨z, a1⟩ | ⟨a1, a2⟩
    · subst z
      simp only [jkv, jBs, a1, e, hrow, jmd, jvm, hG, RS.get, Option.getD_some, Option.isSome_some, cond_true, hval]
    · simp only [jkv, jkQ, jpO, a1, a2, e, hrow, jmd, jvm, hG, RS.get, Option.getD_some, Option.isSome_some, Option.isSome_none, cond_true, cond_false, hval]

structure PkV (hn bn mn : Nat) (hrow : List jan) (brow mrow : List Int) (hs : List jan) (b mt : List Int) : Prop where
  vh : Vw hn hrow hs
  vb : Vw bn brow b
  vm : Vw mn mrow mt
  ok : PkOk hs b mt
abbrev pkV (hn bn mn : Nat) (hrow : List jan) (brow mrow : List Int) (pt : Int) : HK.sems jeF := (((), (hn, ((), (pt, ())))), ((bn, ()), (brow, (hrow, ((mn, ()), (mrow, ()))))))
theorem jAR (kr : Int → Int → Option Res) (kt : Unit → Option Res) {hn : Nat} {hrow hs : List jan} (V : Vw hn hrow hs) (hl : hn ≤ 1000000) (f : jaB) : ∀ (m i : Nat), i ≤ hn → hn - i < m →
    jjW FUEL kr kt hn (hn : Int) hrow f m (i : Int) = (match atOf (hs.drop i) f.2.2.1 with | some a => kr a 0 | none => kt ())
  | 0, _, _, h => by omega
  | m + 1, i, hi, hm => by
    have hlen := V.len
    show jrX FUEL kr kt hn (hn : Int) hrow f (jjW FUEL kr kt hn (hn : Int) hrow f m) (i : Int) = _
    unfold jrX
    simp only [jao]
    by_cases h : i < hn
    · rw [if_pos (by omega), if_pos ⟨by omega, by omega⟩]
      simp only [jal, jaQ, jao, V.rdd h]
      rw [jaP jak (show i < hs.length by omega)]
      unfold atOf
      rw [List.find?_cons]
      by_cases e : (rdd jak hs i).1 = f.2.2.1
      · rw [if_pos e, decide_eq_true e]; rfl
      · rw [if_neg e, decide_eq_false e, jaD (by omega), jAR kr kt V hl f m (i + 1) (by omega) (by omega)]
        rfl
    · rw [if_neg (by omega), List.drop_of_length_le (by omega)]
      rfl
theorem jrn {hn bn mn : Nat} {hrow : List jan} {brow mrow : List Int} {hs : List jan} {b mt : List Int} (K : PkV hn bn mn hrow brow mrow hs b mt) (pt : Int) (f : jaB) :
    (jch hs b mt f = none → jus f hn pt bn brow hrow mn mrow = none ∧ jju f hn pt bn brow hrow mn mrow = none ∧ jrj f hn pt bn brow hrow mn mrow = some (((), (0, (3, ()))), pkV hn bn mn hrow brow mrow pt)) ∧
    (∀ c a, jch hs b mt f = some (c, a) → f.2.1 = 3 → jus f hn pt bn brow hrow mn mrow = none ∧ jju f hn pt bn brow hrow mn mrow = some (((), (a, (0, ()))), pkV hn bn mn hrow brow mrow pt)) ∧
    (∀ c a, jch hs b mt f = some (c, a) → f.2.1 ≠ 3 → jus f hn pt bn brow hrow mn mrow = some (((), (a, (0, ()))), pkV hn bn mn hrow brow mrow pt)) := by
  have hhl := K.vh.len
  have hM : jwO FUEL f hn pt bn brow hrow mn mrow = if f.2.1 = 3 then some (jaa jgj jgn (((), (0, (0, ()))), pkV hn bn mn hrow brow mrow pt))
      else (match jch hs b mt f with | some (c, a) => some (jaa jlu jeF (((), (a, (0, ()))), pkV hn bn mn hrow brow mrow pt)) | none => some (jaa jeS jeV (((), (0, (3, ()))), pkV hn bn mn hrow brow mrow pt))) := by
    unfold jwO jch
    simp only [jaQ, jao]
    by_cases c1 : f.2.1 = 1
    · rw [if_pos c1, if_pos c1, if_neg (by omega)]
    rw [if_neg c1, if_neg c1]
    by_cases c3 : f.2.1 = 3
    · rw [if_pos c3, if_pos c3]
    rw [if_neg c3, if_neg c3, if_neg c3]
    by_cases c2 : f.2.1 = 2
    · rw [if_pos c2, if_pos c2]
      refine Eq.trans (jAR _ _ K.vh (by have := K.ok.hl; omega) f FUEL 0 (by omega) (by have := K.ok.hl; unfold FUEL; omega)) ?_
      rw [List.drop_zero]
      cases atOf hs f.2.2.1 <;> rfl
    · rw [if_neg c2, if_neg c2]
  refine ⟨fun hw => ?_, fun c a hw c3 => ?_, fun c a hw c3 => ?_⟩
  · have c3 : ¬ f.2.1 = 3 := fun k => by unfold jch at hw; rw [if_neg (by omega), if_pos k] at hw; cases hw
    rw [if_neg c3, hw] at hM
    exact ⟨by unfold jus; rw [hM]; exact dec_p1, by unfold jju; rw [hM]; exact dec_p2, fin hM⟩
  · rw [if_pos c3] at hM
    have ha : a = 0 := by rcases jij hw with ⟨_, _, h⟩ | ⟨h, _⟩; exact h; exact absurd c3 h
    subst ha
    exact ⟨by unfold jus; rw [hM]; exact dec_p0, fin hM⟩
  · rw [if_neg c3, hw] at hM
    exact fin hM
theorem jJX {hn bn mn : Nat} {hrow : List jan} {brow mrow : List Int} {hs : List jan} {b mt : List Int} (K : PkV hn bn mn hrow brow mrow hs b mt) (pt : Int) (f : jaB) (hf : jaT.good f) :
    jMS f hn pt bn brow hrow mn mrow = some (exW (getF hs b mt f), pkV hn bn mn hrow brow mrow pt) := by
  obtain ⟨h1, h2, h3, h4, h5, _⟩ := hf
  have r4 := jsk h4
  have lb := K.vb.len
  have lm := K.vm.len
  obtain ⟨p1, p2, p3⟩ := jrn K pt f
  have hbit : ∀ a, 0 ≤ a ∧ a ≤ 1000000 → jCb a f.2.2.2.1 = some ((bitV a f.2.2.2.1, ()), ()) := fun a ha => Q_bit a _ ha r4.2
  have rbit : ∀ a, 0 ≤ a ∧ a ≤ 1000000 → -9223372036854775808 ≤ bitV a f.2.2.2.1 ∧ bitV a f.2.2.2.1 ≤ 9223372036854775807 := fun a ha => by unfold bitV; split <;> omega
  have ne := jfP
  refine fin ?_
  unfold jOe getF
  cases hw : jch hs b mt f with
  | none =>
    obtain ⟨q0, q1, q2⟩ := p1 hw
    simp only [jes, jcC, jgr, jjg, q0, q1, q2, RS.get, Option.getD_some, Option.isSome_some, Option.isSome_none, cond_true, cond_false]
    rfl
  | some ca =>
    obtain ⟨c, a⟩ := ca
    rcases jij hw with ⟨c3, rfl, rfl⟩ | ⟨c3, rfl, ha⟩
    · obtain ⟨q0, q1⟩ := p2 _ _ hw c3
      simp only [jes, jcC, jgS, q0, q1, RS.get, Option.getD_some, Option.isSome_some, Option.isSome_none, cond_true, cond_false]
      simp only [jaV, decide_true, Bool.not_true, cond_false, jfp, jkL, hbit 0 (by omega), jyC, jLc, jKf K.vm K.ok.mB (bitV 0 f.2.2.2.1) f.2.2.2.2.1 (by have := K.ok.ml; omega) (rbit 0 (by omega)), RS.get, Option.getD_some, Option.isSome_some, cond_true]
      cases getB c (bitV 0 f.2.2.2.1) f.2.2.2.2.1 with
      | none => simp only [decide_eq_false (ne _ _), Bool.not_false, cond_true]; rfl
      | some v => simp only [decide_true, Bool.not_true, cond_false]
    · have q0 := p3 _ _ hw c3
      have ha' : 0 ≤ a ∧ a ≤ 1000000 := by
        rcases ha with h | h
        · omega
        · exact jhh K.ok h
      simp only [jes, jvl, q0, RS.get, Option.getD_some, Option.isSome_some, cond_true]
      simp only [jaV, decide_true, Bool.not_true, cond_false, jfp, jkL, hbit a ha', jyC, jLc, jKf K.vb K.ok.bB (bitV a f.2.2.2.1) f.2.2.2.2.1 (by have := K.ok.bl; omega) (rbit a ha'), RS.get, Option.getD_some, Option.isSome_some, cond_true]
      cases getB c (bitV a f.2.2.2.1) f.2.2.2.2.1 with
      | none => simp only [decide_eq_false (ne _ _), Bool.not_false, cond_true]; rfl
      | some v => simp only [decide_true, Bool.not_true, cond_false]
theorem jJY {hn bn mn : Nat} {hrow : List jan} {brow mrow : List Int} {hs : List jan} {b mt : List Int} (K : PkV hn bn mn hrow brow mrow hs b mt) (pt : Int) (f : jaB) (hf : jaT.good f) :
    jMP f hn pt bn brow hrow mn mrow = some (((atF hs b mt f).1, ((atF hs b mt f).2, ())), pkV hn bn mn hrow brow mrow pt) := by
  obtain ⟨h1, h2, h3, h4, h5, _⟩ := hf
  have r4 := jsk h4
  have lb := K.vb.len
  have lm := K.vm.len
  obtain ⟨p1, p2, p3⟩ := jrn K pt f
  refine fin ?_
  unfold jOc atF
  cases hw : jch hs b mt f with
  | none =>
    obtain ⟨q0, q1, q2⟩ := p1 hw
    simp only [jes, jcC, jgr, jjg, q0, q1, q2, RS.get, Option.getD_some, Option.isSome_some, Option.isSome_none, cond_true, cond_false]
    rfl
  | some ca =>
    obtain ⟨c, a⟩ := ca
    rcases jij hw with ⟨c3, rfl, rfl⟩ | ⟨c3, rfl, ha⟩
    · obtain ⟨q0, q1⟩ := p2 _ _ hw c3
      simp only [jes, jcC, jgS, q0, q1, RS.get, Option.getD_some, Option.isSome_some, Option.isSome_none, cond_true, cond_false, jaV, decide_true, Bool.not_true, jyA, jLa, Q_atB 0 f mn mrow (by omega) r4.2 (by have := K.ok.ml; omega), lm]
    · have q0 := p3 _ _ hw c3
      have ha' : 0 ≤ a ∧ a ≤ 1000000 := by
        rcases ha with h | h
        · omega
        · exact jhh K.ok h
      simp only [jes, jvl, q0, RS.get, Option.getD_some, Option.isSome_some, cond_true, cond_false, jaV, decide_true, Bool.not_true, jyA, jLa, Q_atB a f bn brow ha' r4.2 (by have := K.ok.bl; omega), lb]
theorem jro {hn bn mn : Nat} {hrow : List jan} {brow mrow : List Int} {hs : List jan} {b mt : List Int} (K : PkV hn bn mn hrow brow mrow hs b mt) (pt : Int) (f : jaB) (hf : jaT.good f) :
    jMO f hn pt bn brow hrow mn mrow = some (((jaN hs b mt f).1, ((jaN hs b mt f).2, ())), pkV hn bn mn hrow brow mrow pt) := by
  refine fin ?_
  unfold jOb jaN
  simp only [jaQ, jao]
  by_cases c3 : f.2.1 = 3
  · rw [if_pos c3, if_pos c3]
  · rw [if_neg c3, if_neg c3]
    simp only [jEq, q_z1f, jJY K pt f hf, RS.get, Option.getD_some, Option.isSome_some, cond_true]
theorem jAM {n : Nat} {row b : List Int} (V : Vw n row b) : jJO n row = some ((bytesOf b, ()), ((n, ()), (row, ()))) := by
  refine fin ?_
  unfold jKx
  rw [V.all]
theorem jkW {hn bn mn : Nat} {hrow : List jan} {brow mrow : List Int} {hs : List jan} {b mt : List Int} (K : PkV hn bn mn hrow brow mrow hs b mt) (pt : Int) :
    jMM hn pt bn brow hrow mn mrow = some ((bytesOf b, ()), pkV hn bn mn hrow brow mrow pt) := by
  refine fin ?_
  unfold jNZ
  simp only [joy, jBA, jAM K.vb, RS.get, Option.getD_some, Option.isSome_some, cond_true]
theorem jAJ {hn bn mn : Nat} {hrow : List jan} {brow mrow : List Int} {hs : List jan} {b mt : List Int} (K : PkV hn bn mn hrow brow mrow hs b mt) (pt : Int) :
    jMt hn pt bn brow hrow mn mrow = some ((bytesOf mt, ()), pkV hn bn mn hrow brow mrow pt) := by
  refine fin ?_
  unfold jNN
  simp only [joy, jBA, jAM K.vm, RS.get, Option.getD_some, Option.isSome_some, cond_true]
theorem jfU (hn bn mn : Nat) (hrow : List jan) (brow mrow : List Int) (pt : Int) :
    jMu hn pt bn brow hrow mn mrow = some ((((bn : Nat) : Int), ()), pkV hn bn mn hrow brow mrow pt) := by
  refine fin ?_
  unfold jNO
  simp only [jyB, jLb, jRc, RS.get, Option.getD_some, Option.isSome_some, cond_true]
theorem juv {hn bn mn : Nat} {hrow : List jan} {brow mrow : List Int} {hs : List jan} {b mt : List Int} (K : PkV hn bn mn hrow brow mrow hs b mt) (pt : Int) :
    jMV hn pt bn brow hrow mn mrow = some ((hs.length, ()), (((), (hn, ((), (pt, ())))), ((bn, ()), (brow, (hrow, ((mn, ()), (mrow, (hs, ())))))))) := by
  refine fin ?_
  unfold jOi
  simp only [K.vh.all, jEr, q_z10, jwJ hs K.ok.hl, RS.get, Option.getD_some, Option.isSome_some, cond_true]
end Go.AMach

/- Layer 17: bytes put in. -/
namespace Go.AMach
set_option linter.unusedVariables false
set_option linter.unusedSimpArgs false
set_option linter.unnecessarySimpa false
open Go
set_option linter.unusedVariables false

abbrev jfk (m : Nat) : List Int := mkL m fun _ => (0 : Int)
def insB (b : List Int) (k m : Nat) : List Int := b.take k ++ jfk m ++ b.drop k
theorem jvu (b : List Int) (k m : Nat) (h : k ≤ b.length) : (insB b k m).length = b.length + m := by
  unfold insB; simp only [List.length_append, List.length_take, List.length_drop, jaZ]; omega
theorem jAT (m : Nat) : isB (jfk m) := fun x hx => by
  unfold jfk mkL at hx
  simp only [List.mem_map] at hx
  obtain ⟨_, _, rfl⟩ := hx
  omega
theorem jLx {b : List Int} (h : isB b) (k m : Nat) : isB (insB b k m) := fun x hx => by
  rcases List.mem_append.1 hx with hx | hx
  · rcases List.mem_append.1 hx with hx | hx
    · exact h x (List.mem_of_mem_take hx)
    · exact jAT m x hx
  · exact h x (List.mem_of_mem_drop hx)

theorem juw (k m : Int) (n : Nat) (row : List Int) (hk : 0 ≤ k ∧ k ≤ n) (hm : 0 ≤ m) (hn : n ≤ 1000000) (hm2 : m ≤ 9223372036854775807) :
    jBZ k m n row = some ((if m > (n : Int) - k then 4 else 0, ()), ((n, ()), (row, ()))) := by
  refine fin ?_
  unfold jCo
  simp only [jao]
  rw [if_neg (by omega), if_neg (by omega), if_neg (by omega), IntWalk.i64_in _ (by omega)]
  by_cases h : m > (n : Int) - k
  · rw [if_pos h, if_pos h]
  · rw [if_neg h, if_neg h]

theorem jvA {y : Int} {x : HK.sems jcn} : jap jls jlG (some (jaa jcB jcn ((y, ()), x))) = none := rfl

theorem Q_bIns {n : Nat} {row b : List Int} (V : Vw n row b) (k : Nat) (m : Int) (hk : k ≤ n) (hm : 0 ≤ m ∧ m ≤ 9223372036854775807) (hn : n ≤ 9216) :
    (m > 9216 - (n : Int) → jrh (k : Int) m n row = some ((5, ()), ((n, ()), (row, ())))) ∧
    (m ≤ 9216 - (n : Int) → (∃ (n' : Nat) (row' : List Int), Vw n' row' (insB b k m.toNat) ∧
      (jrh (k : Int) m n row = some ((0, ()), ((n', ()), (row', ()))) ∨
       jrh (k : Int) m n row = none ∧ jrg (k : Int) m n row = some ((0, ()), ((n', ()), (row, (row', ()))))))) := by
  have hbl := V.len
  have hle := V.le
  have hmin : (if (0 : Int) < m then (0 : Int) else m) = 0 := by split <;> omega
  have ho := juw (k : Int) 0 n row (by omega) (by omega) (by omega) (by omega)
  rw [if_neg (by omega)] at ho
  have h9 : IntKind.wrap .i64 ((9216 : Int) - ((n : Nat) : Int)) = 9216 - (n : Int) := IntWalk.i64_in _ (by omega)
  refine ⟨fun hlong => ?_, fun hfit => ?_⟩
  · refine fin ?_
    unfold jjw
    simp only [hmin, jfJ, jtd, ho, RS.get, Option.getD_some, Option.isSome_some, cond_true, jaV, decide_true, Bool.not_true, cond_false, h9, decide_eq_true hlong]
  · have hct : cutL (0 : Int) row 0 k = b.take k := by rw [V.cut (by omega), jek (by omega), List.drop_zero]
    have hcd : cutL (0 : Int) row (0 + k) (n - k) = b.drop k := by rw [V.cut (by omega), Nat.zero_add, jek (by omega), List.take_of_length_le (by rw [List.length_drop]; omega)]
    have hlt : (b.take k).length = k := by rw [List.length_take]; omega
    have hld : (b.drop k).length = n - k := by rw [List.length_drop]; omega
    have d1 : decide ((0 : Int) ≤ (0 : Int) ∧ (0 : Int) ≤ (k : Int) ∧ (k : Int) ≤ (k : Int) ∧ (k : Int) ≤ ((n : Nat) : Int)) = true := by rw [decide_eq_true_eq]; omega
    have d2 : decide ((0 : Int) ≤ (k : Int) ∧ (k : Int) ≤ ((n : Nat) : Int) ∧ ((n : Nat) : Int) ≤ ((n : Nat) : Int) ∧ ((n : Nat) : Int) ≤ ((n : Nat) : Int)) = true := by rw [decide_eq_true_eq]; omega
    have d3 : decide ((0 : Int) ≤ m) = true := decide_eq_true hm.1
    have dk : decide ((k : Int) = (k : Int)) = true := decide_eq_true rfl
    have t0 : Int.toNat (0 : Int) = 0 := rfl
    have hfl : decide (m > 9216 - (n : Int)) = false := decide_eq_false (by omega)
    by_cases c0 : k = 0
    · subst c0
      have hM : jjw FUEL ((0 : Nat) : Int) m n row = some (jaa jcB jcn ((0, ()), ((m.toNat + n, ()), (row, (jfk m.toNat ++ b, ()))))) := by
        have hz : cutL (0 : Int) (jfk m.toNat) 0 m.toNat = jfk m.toNat := by
          have := jbI (0 : Int) (jfk m.toNat)
          rw [jaZ] at this; exact this
        have e1 : (mkL m.toNat fun _ => (0 : Int)).length = m.toNat := jaZ _ _
        have hrow : cutL (0 : Int) row 0 n = b := V.all
        have d4 : decide (m.toNat * 1 ≤ 2 ^ 46 ∧ m.toNat ≤ 2 ^ 46) = true := by rw [decide_eq_true_eq]; omega
        have d5 : decide ((m.toNat + n) * 1 ≤ 2 ^ 46 ∧ m.toNat + n ≤ 2 ^ 46) = true := by rw [decide_eq_true_eq]; omega
        unfold jjw
        simp only [hmin, jfJ, jtd, ho, RS.get, Option.getD_some, Option.isSome_some, cond_true, jaV, jaQ, decide_true, Bool.not_true, cond_false, h9, hfl, d1, d2, d3, dk, jal, t0, Nat.sub_self, Nat.sub_zero, show ((0 : Nat) == 0) = true from rfl, e1, Nat.zero_add, Nat.add_zero, d4, hz, hrow, hbl, d5]
      refine ⟨m.toNat + n, jfk m.toNat ++ b, ⟨by simp [jaZ, hbl], ?_⟩, .inr ⟨?_, fin hM⟩⟩
      · rw [List.take_of_length_le (by simp [jaZ, hbl])]
        simp [insB]
      · unfold jrh; rw [hM]; exact jvA
    · have hkb : (k == 0) = false := by simp [c0]
      have e1 : (mkL m.toNat fun _ => (0 : Int)).length = m.toNat := jaZ _ _
      have e0 : (mkL 0 fun _ => (0 : Int)).length = 0 := jaZ _ _
      by_cases m0 : m = 0
      · subst m0
        by_cases ckn : k = n
        · have hM : jjw FUEL (k : Int) 0 n row = some (jaa jls jlG ((0, ()), ((k, ()), (row, ())))) := by
            have hnb : (b.drop k).length = 0 := by rw [hld]; omega
            unfold jjw
            simp only [hmin, jfJ, jtd, ho, RS.get, Option.getD_some, Option.isSome_some, cond_true, jaV, jaQ, decide_true, Bool.not_true, cond_false, h9, hfl, d1, d2, d3, dk, jal, t0, Nat.sub_zero, hkb, e0, show ((0 : Nat) == 0) = true from rfl, hcd, hnb]
          refine ⟨k, row, ⟨by omega, ?_⟩, .inl (fin hM)⟩
          rw [ckn, V.eq]
          unfold insB
          rw [← hbl, List.take_of_length_le (Nat.le_refl _), List.drop_of_length_le (Nat.le_refl _)]
          simp [jfk, mkL]
        · have hM : jjw FUEL (k : Int) 0 n row = some (jaa jcB jcn ((0, ()), ((k + (n - k), ()), (row, (b.take k ++ b.drop k, ()))))) := by
            have hnb : (n - k == 0) = false := by simp; omega
            have d5 : decide ((k + (n - k)) * 1 ≤ 2 ^ 46 ∧ k + (n - k) ≤ 2 ^ 46) = true := by rw [decide_eq_true_eq]; omega
            unfold jjw
            simp only [hmin, jfJ, jtd, ho, RS.get, Option.getD_some, Option.isSome_some, cond_true, jaV, jaQ, decide_true, Bool.not_true, cond_false, h9, hfl, d1, d2, d3, dk, jal, t0, Nat.sub_zero, hkb, e0, show ((0 : Nat) == 0) = true from rfl, hcd, hld, hnb, hct, hlt, d5]
          refine ⟨k + (n - k), b.take k ++ b.drop k, ⟨by rw [List.length_append, hlt, hld]; omega, ?_⟩, .inr ⟨?_, fin hM⟩⟩
          · rw [List.take_of_length_le (by rw [List.length_append, hlt, hld]; omega)]
            simp [insB, jfk, mkL]
          · unfold jrh; rw [hM]; exact jvA
      · have hM : jjw FUEL (k : Int) m n row = some (jaa jcB jcn ((0, ()), ((k + m.toNat + (n - k), ()), (row, (b.take k ++ jfk m.toNat ++ b.drop k, ()))))) := by
          have hmb : (m.toNat == 0) = false := by simp; omega
          have d4 : decide ((k + m.toNat) * 1 ≤ 2 ^ 46 ∧ k + m.toNat ≤ 2 ^ 46) = true := by rw [decide_eq_true_eq]; omega
          have d5 : decide ((k + m.toNat + (n - k)) * 1 ≤ 2 ^ 46 ∧ k + m.toNat + (n - k) ≤ 2 ^ 46) = true := by rw [decide_eq_true_eq]; omega
          have hall : cutL (0 : Int) (b.take k ++ mkL m.toNat fun _ => (0 : Int)) 0 (k + m.toNat) = b.take k ++ mkL m.toNat fun _ => (0 : Int) := by
            have := jbI (0 : Int) (b.take k ++ mkL m.toNat fun _ => (0 : Int))
            rw [List.length_append, hlt, e1] at this; exact this
          unfold jjw
          simp only [hmin, jfJ, jtd, ho, RS.get, Option.getD_some, Option.isSome_some, cond_true, jaV, jaQ, decide_true, Bool.not_true, cond_false, h9, hfl, d1, d2, d3, dk, jal, t0, Nat.sub_zero, hkb, e1, hmb, hcd, hld, hct, hlt, d4, hall, List.length_append, d5]
        refine ⟨k + m.toNat + (n - k), b.take k ++ jfk m.toNat ++ b.drop k, ⟨by rw [List.length_append, List.length_append, hlt, hld, jaZ]; omega, ?_⟩, .inr ⟨?_, fin hM⟩⟩
        · rw [List.take_of_length_le (by rw [List.length_append, List.length_append, hlt, hld, jaZ]; omega)]
          rfl
        · unfold jrh; rw [hM]; exact jvA
end Go.AMach

/- Layer 17: headers jfM; Insert. -/
namespace Go.AMach
set_option linter.unusedVariables false
set_option linter.unusedSimpArgs false
set_option linter.unnecessarySimpa false
open Go
set_option linter.unusedVariables false

def mvH (at_ d : Int) (h : jan) : jan := if h.2.1 ≥ at_ then (h.1, (h.2.1 + d, ())) else h
theorem L_mv (k : List jan → Option Res) (at_ d : Int) {hn : Nat} {hs : List jan} (hl : hs.length = hn) (hn6 : hn ≤ 1000000) (hat : ∀ h ∈ hs, 0 ≤ h.2.1 ∧ h.2.1 ≤ 1000000) (hd : -1000000 ≤ d ∧ d ≤ 1000000) : ∀ (m i : Nat) (row : List jan), i ≤ hn → hn - i < m → hn ≤ row.length → row.take hn = (hs.take i).map (mvH at_ d) ++ hs.drop i →
    ∃ row', Vw hn row' (hs.map (mvH at_ d)) ∧ jjV FUEL k at_ d hn (hn : Int) hn m (i : Int) row = k row'
  | 0, _, _, _, h, _, _ => by omega
  | m + 1, i, row, hi, hm, hle, ht => by
    show ∃ row', Vw hn row' (hs.map (mvH at_ d)) ∧ jrW FUEL k at_ d hn (hn : Int) hn (jjV FUEL k at_ d hn (hn : Int) hn m) (i : Int) row = k row'
    unfold jrW
    simp only [jao]
    by_cases h : i < hn
    · have hrd : rdd jak row i = rdd jak hs i := by
        have h1 : rdd jak row i = rdd jak (row.take hn) i := by
          rw [jbd (by omega), jbd (by rw [List.length_take]; omega), List.getElem_take]
        rw [h1, ht, jbd (by simp; omega), List.getElem_append_right (by simp; omega), jbd (by omega), List.getElem_drop]
        congr 1
        simp; omega
      have hx := hat _ (jbO (d := jak) (show i < hs.length by omega))
      rw [if_pos (by omega), if_pos ⟨by omega, by omega⟩]
      simp only [jal, hrd]
      rw [jaD (by omega)]
      have hstep : ∀ x : jan, x = mvH at_ d (rdd jak hs i) → (row.set i x).take hn = (hs.take (i + 1)).map (mvH at_ d) ++ hs.drop (i + 1) := fun x hx' => by
        rw [List.take_set, ht, jgc jak (show i < hs.length by omega), List.map_append, List.append_assoc, jaP jak (show i < hs.length by omega), hx']
        exact jlk _ _ _ (by simp; omega)
      by_cases hge : (rdd jak hs i).2.1 ≥ at_
      · rw [if_pos hge, if_pos ⟨by omega, by omega⟩, if_pos ⟨by omega, by omega⟩, IntWalk.i64_in _ (by omega)]
        exact L_mv k at_ d hl hn6 hat hd m (i + 1) _ (by omega) (by omega) (by simpa using hle) (hstep _ (by unfold mvH; rw [if_pos hge]))
      · rw [if_neg hge]
        refine L_mv k at_ d hl hn6 hat hd m (i + 1) _ (by omega) (by omega) hle ?_
        have := hstep (rdd jak hs i) (by unfold mvH; rw [if_neg hge])
        rw [← this]
        congr 1
        apply List.ext_getElem?
        intro j
        by_cases e : j = i
        · subst e
          rw [List.getElem?_set_self (by omega), List.getElem?_eq_getElem (by omega), ← hrd, jbd (by omega)]
        · rw [List.getElem?_set_ne (fun k => e k.symm)]
    · rw [if_neg (by omega)]
      refine ⟨row, ⟨hle, ?_⟩, rfl⟩
      rw [ht, List.take_of_length_le (by omega), List.drop_of_length_le (by omega), List.append_nil]
theorem jJW {hn : Nat} {hrow hs : List jan} (V : Vw hn hrow hs) (at_ d : Int) (hn6 : hn ≤ 1000000) (hat : ∀ h ∈ hs, 0 ≤ h.2.1 ∧ h.2.1 ≤ 1000000) (hd : -1000000 ≤ d ∧ d ≤ 1000000) (bn mn : Nat) (brow mrow : List Int) (pt : Int) :
    ∃ hrow', Vw hn hrow' (hs.map (mvH at_ d)) ∧ jMN at_ d hn pt bn brow hrow mn mrow = some ((), pkV hn bn mn hrow' brow mrow pt) := by
  obtain ⟨row', h1, h2⟩ := L_mv (fun y1 => some (jaa jxv jxZ ((), (((), (hn, ((), (pt, ())))), ((bn, ()), (brow, (y1, ((mn, ()), (mrow, ())))))))))  at_ d V.len hn6 hat hd FUEL 0 hrow (by omega) (by unfold FUEL; omega) V.le (by rw [V.eq]; simp)
  refine ⟨row', h1, fin ?_⟩
  unfold jOa
  exact h2
end Go.AMach

/- Layer 17: pack.Insert. -/
namespace Go.AMach
set_option linter.unusedVariables false
set_option linter.unusedSimpArgs false
set_option linter.unnecessarySimpa false
open Go
set_option linter.unusedVariables false

structure PkN (hs : List jan) (b mt : List Int) : Prop where
  ok : PkOk hs b mt
  long : b.length ≤ 9216
  at_ : ∀ h ∈ hs, h.2.1 ≤ (b.length : Int)
def jcu (hs : List jan) (b mt : List Int) (f : jaB) (m : Int) : Int :=
  if (jaN hs b mt f).2 ≠ 0 then (jaN hs b mt f).2 else if m < 0 then 1 else if m > 9216 - (b.length : Int) then 2 else 0
theorem jen {hs : List jan} {b mt : List Int} (N : PkN hs b mt) {f : jaB} (h : (jaN hs b mt f).2 = 0) : 0 ≤ (jaN hs b mt f).1 ∧ (jaN hs b mt f).1 ≤ (b.length : Int) := by
  unfold jaN at h ⊢
  by_cases c3 : f.2.1 = 3
  · rw [if_pos c3] at h; simp at h
  rw [if_neg c3] at h ⊢
  unfold atF at h ⊢
  cases hw : jch hs b mt f with
  | none => rw [hw] at h; simp at h
  | some ca =>
    obtain ⟨c, a⟩ := ca
    rw [hw] at h
    simp only at h ⊢
    rcases jij hw with ⟨k, _⟩ | ⟨_, rfl, ha⟩
    · exact absurd k c3
    have ha' : 0 ≤ a := by
      rcases ha with h' | h'
      · omega
      · exact (jhh N.ok h').1
    unfold atV at h ⊢
    by_cases c1 : f.2.2.2.1 < 0
    · rw [if_pos c1] at h; simp at h
    rw [if_neg c1] at h ⊢
    by_cases c2 : f.2.2.2.1 / 8 > (c.length : Int) - a
    · rw [if_pos c2] at h; simp at h
    rw [if_neg c2]
    simp only
    omega
theorem insN {hs : List jan} {b mt : List Int} (N : PkN hs b mt) (k : Nat) (m : Int) (hk : k ≤ b.length) (hm : 0 ≤ m) (hfit : m ≤ 9216 - (b.length : Int)) : PkN (hs.map (mvH (k : Int) m)) (insB b k m.toNat) mt := by
  have hl := jvu b k m.toNat hk
  refine ⟨⟨jLx N.ok.bB _ _, N.ok.mB, by rw [hl]; omega, N.ok.ml, by rw [List.length_map]; exact N.ok.hl, fun h hh => ?_⟩, by rw [hl]; omega, fun h hh => ?_⟩
  · obtain ⟨x, hx, rfl⟩ := List.mem_map.1 hh
    have h1 := N.ok.at_ x hx
    have h2 := N.at_ x hx
    have := N.long
    unfold mvH
    split
    · simp only; omega
    · exact h1
  · obtain ⟨x, hx, rfl⟩ := List.mem_map.1 hh
    have h2 := N.at_ x hx
    rw [hl]
    unfold mvH
    split
    · simp only; omega
    · omega
theorem jLF {y : Int} {x : HK.sems jeU} : jap jlr jlF (some (jaa jgh jeU ((y, ()), x))) = none := rfl

theorem jQW {hn bn mn : Nat} {hrow : List jan} {brow mrow : List Int} {hs : List jan} {b mt : List Int} (K : PkV hn bn mn hrow brow mrow hs b mt) (N : PkN hs b mt) (pt : Int) (f : jaB) (hf : jaT.good f) (m : Int) (hm : -9223372036854775808 ≤ m ∧ m ≤ 9223372036854775807) :
    (jcu hs b mt f m ≠ 0 → jwD f m hn pt bn brow hrow mn mrow = some ((jcu hs b mt f m, ()), pkV hn bn mn hrow brow mrow pt)) ∧
    (jcu hs b mt f m = 0 → ∃ (n' : Nat) (hrow' : List jan) (brow' : List Int), PkV hn n' mn hrow' brow' mrow (hs.map (mvH (jaN hs b mt f).1 m)) (insB b (jaN hs b mt f).1.toNat m.toNat) mt ∧
      (jwD f m hn pt bn brow hrow mn mrow = some ((0, ()), pkV hn n' mn hrow' brow' mrow pt) ∨
       jwD f m hn pt bn brow hrow mn mrow = none ∧ jrf f m hn pt bn brow hrow mn mrow = some ((0, ()), (((), (hn, ((), (pt, ())))), ((n', ()), (brow, (hrow', ((mn, ()), (mrow, (brow', ()))))))))))  := by
  have qs := jro K pt f hf
  have lb := K.vb.len
  have hbl := N.long
  unfold jcu
  by_cases c1 : (jaN hs b mt f).2 ≠ 0
  · rw [if_pos c1]
    refine ⟨fun _ => fin ?_, fun h => absurd h c1⟩
    unfold jnK
    simp only [jku, jte, qs, RS.get, Option.getD_some, Option.isSome_some, cond_true, jaV, decide_eq_false c1, Bool.not_false]
  rw [if_neg c1]
  have c1 : (jaN hs b mt f).2 = 0 := Classical.byContradiction c1
  have hsp := jen N c1
  rw [c1] at qs
  generalize hk : (jaN hs b mt f).1 = k0 at qs hsp
  obtain ⟨k, rfl⟩ : ∃ k : Nat, k0 = (k : Int) := ⟨k0.toNat, by omega⟩
  rw [jal]
  by_cases c2 : m < 0
  · rw [if_pos c2]
    refine ⟨fun _ => fin ?_, fun h => by cases h⟩
    unfold jnK
    simp only [jku, jte, qs, RS.get, Option.getD_some, Option.isSome_some, cond_true, jaV, decide_true, Bool.not_true, cond_false, decide_eq_true c2]
  rw [if_neg c2]
  obtain ⟨i1, i2⟩ := Q_bIns K.vb k m (by omega) (by omega) (by omega)
  by_cases c3 : m > 9216 - (b.length : Int)
  · rw [if_pos c3]
    refine ⟨fun _ => fin ?_, fun h => by cases h⟩
    have q := i1 (by omega)
    unfold jnK
    simp only [jku, jte, qs, jyz, q_z1i, q, RS.get, Option.getD_some, Option.isSome_some, cond_true, jaV, decide_true, Bool.not_true, cond_false, decide_eq_false c2, show decide ((5 : Int) = 0) = false from rfl, Bool.not_false]
  rw [if_neg c3]
  refine ⟨fun h => absurd rfl h, fun _ => ?_⟩
  obtain ⟨n', row', V', q⟩ := i2 (by omega)
  have N' := insN N k m (by omega) (by omega) (by omega)
  obtain ⟨hrow', VH, qm⟩ := jJW K.vh (k : Int) m (by have := K.ok.hl; have := K.vh.len; omega) K.ok.at_ (by omega) n' mn row' mrow pt
  refine ⟨n', hrow', row', ⟨VH, V', K.vm, N'.ok⟩, ?_⟩
  rcases q with q | ⟨q0, q⟩
  · refine .inl (fin ?_)
    unfold jnK
    simp only [jku, jte, qs, jyz, q_z1i, q, jto, jEc, qm, RS.get, Option.getD_some, Option.isSome_some, cond_true, jaV, decide_true, Bool.not_true, cond_false, decide_eq_false c2]
  · have hM : jnK FUEL f m hn pt bn brow hrow mn mrow = some (jaa jgh jeU ((0, ()), (((), (hn, ((), (pt, ())))), ((n', ()), (brow, (hrow', ((mn, ()), (mrow, (row', ()))))))))) := by
      unfold jnK
      simp only [jku, jte, qs, jyz, jyy, jEd, q0, q, jto, jEc, qm, RS.get, Option.getD_some, Option.isSome_some, Option.isSome_none, cond_true, jaV, decide_true, Bool.not_true, cond_false, decide_eq_false c2]
    exact .inr ⟨by unfold jwD; rw [hM]; exact jLF, fin hM⟩
end Go.AMach

/- Layer 17: a walked packet's headers are of unlike nodes. -/
namespace Go.AMach
set_option linter.unusedVariables false
set_option linter.unusedSimpArgs false
set_option linter.unnecessarySimpa false
open Go
set_option linter.unusedVariables false

end Go.AMach

/- Layer 17: what is got behind an Insert. -/
namespace Go.AMach
set_option linter.unusedVariables false
set_option linter.unusedSimpArgs false
set_option linter.unnecessarySimpa false
open Go
set_option linter.unusedVariables false

theorem mvH_at (k d : Int) (h : jan) : (mvH k d h).2.1 = if h.2.1 ≥ k then h.2.1 + d else h.2.1 := by unfold mvH; split <;> rfl
end Go.AMach
