/- Parts of the proof. -/
import Derived.Test.YtcngpijmkdpbgaaGreatKa
/- Layer 17: the reference's Delete, Sum, New, Walk, Copy. -/
namespace Go.AMach
set_option linter.unusedVariables false
set_option linter.unusedSimpArgs false
set_option linter.unnecessarySimpa false
open Go
set_option linter.unusedVariables false

theorem jBM (k m : Int) (hs : List jan) {i : Nat} (h : i < hs.length) : jeJ (hs.take (i + 1)) k m = jeJ (hs.take i) k m ++ (if jcK k m (rdd jak hs i) then [] else [mvH k (-m) (rdd jak hs i)]) := by
  rw [jgc jak h]
  unfold jeJ jiM
  rw [List.filter_append, List.map_append]
  congr 1
  cases hb : jcK k m (rdd jak hs i) <;> simp [hb]
theorem jAQ (kt : Nat → List jan → Option Res) (k m : Nat) {hs : List jan} (hn6 : hs.length ≤ 1000000) (hat : ∀ h ∈ hs, 0 ≤ h.2.1 ∧ h.2.1 ≤ 1000000) (hd : k + m ≤ 1000000) : ∀ (q i n : Nat) (acc : List jan), i ≤ hs.length → hs.length - i < q → acc = jeJ (hs.take i) (k : Int) (m : Int) → n = acc.length →
    jjB FUEL kt (m : Int) (k : Int) hs.length hs q n (i : Int) acc = kt (jeJ hs (k : Int) (m : Int)).length (jeJ hs (k : Int) (m : Int))
  | 0, _, _, _, _, h, _, _ => by omega
  | q + 1, i, n, acc, hi, hq, ha, hn => by
    show jrw FUEL kt (m : Int) (k : Int) hs.length hs (jjB FUEL kt (m : Int) (k : Int) hs.length hs q) n (i : Int) acc = _
    unfold jrw
    by_cases h : i < hs.length
    · have hlen : acc.length ≤ 1000000 := by
        rw [ha]; unfold jeJ jiM
        have := List.length_filter_le (fun h => !jcK (k : Int) (m : Int) h) (hs.take i)
        rw [List.length_map]
        rw [List.length_take] at this
        omega
      have hx := hat _ (jbO (d := jak) h)
      have hcut : cutL jak acc 0 n = acc := by rw [hn]; exact jbI _ _
      have ht := jBM (k : Int) (m : Int) hs h
      have ekm : IntKind.wrap .i64 ((k : Int) + (m : Int)) = ((k + m : Nat) : Int) := by rw [IntWalk.i64_in _ (by omega)]; omega
      refine jaJ (decide_eq_true (show (i : Int) < ((hs.length : Nat) : Int) by omega)) ?_
      refine jaJ (decide_eq_true (show (0 : Int) ≤ (i : Int) ∧ (i : Int) < ((hs.length : Nat) : Int) by omega)) ?_
      rw [jal, jaD (i := i) (by omega), ekm, hcut]
      generalize rdd jak hs i = x at hx ht
      by_cases c1 : x.2.1 ≥ ((k + m : Nat) : Int)
      · refine jaJ (decide_eq_true c1) ?_
        refine jaJ (decide_eq_true (show (acc.length + 1) * 16 ≤ 2 ^ 46 ∧ acc.length + 1 ≤ 2 ^ 46 by omega)) ?_
        rw [IntWalk.i64_in _ (by omega)]
        refine jAQ kt k m hn6 hat hd q (i + 1) _ _ (by omega) (by omega) ?_ (by simp)
        have hno : jcK (k : Int) (m : Int) x = false := by unfold jcK; rw [decide_eq_false (show ¬ x.2.1 < (k : Int) + (m : Int) by omega), Bool.and_false]
        rw [ht, hno, ← ha]
        unfold mvH
        rw [if_pos (show x.2.1 ≥ (k : Int) by omega)]
        rw [show x.2.1 - (m : Int) = x.2.1 + -(m : Int) by omega]
        rfl
      · refine jaI (decide_eq_false c1) ?_
        by_cases c2 : x.2.1 < (k : Int)
        · refine jaJ (decide_eq_true c2) ?_
          refine jaJ (decide_eq_true (show (acc.length + 1) * 16 ≤ 2 ^ 46 ∧ acc.length + 1 ≤ 2 ^ 46 by omega)) ?_
          refine jAQ kt k m hn6 hat hd q (i + 1) _ _ (by omega) (by omega) ?_ (by simp)
          have hno : jcK (k : Int) (m : Int) x = false := by unfold jcK; rw [decide_eq_false (show ¬ x.2.1 ≥ (k : Int) by omega), Bool.false_and]
          rw [ht, hno, ← ha]
          unfold mvH
          rw [if_neg (show ¬ x.2.1 ≥ (k : Int) by omega)]
          rfl
        · refine jaI (decide_eq_false c2) ?_
          refine jAQ kt k m hn6 hat hd q (i + 1) _ _ (by omega) (by omega) ?_ hn
          have hyes : jcK (k : Int) (m : Int) x = true := by unfold jcK; rw [decide_eq_true (show x.2.1 ≥ (k : Int) by omega), decide_eq_true (show x.2.1 < (k : Int) + (m : Int) by omega)]; rfl
          rw [ht, hyes, ← ha]
          simp
    · refine jaI (decide_eq_false (show ¬ (i : Int) < ((hs.length : Nat) : Int) by omega)) ?_
      rw [List.take_of_length_le (by omega)] at ha
      rw [hn, ha]
theorem dec_rd {y : Int} {x : HK.sems jgk} : jap jnU job (some (jaa jir jgk ((y, ()), x))) = none := rfl
theorem Q_rDel {hs : List jan} {b mt : List Int} (R : RkN hs b mt) (pt : Int) (f : jaB) (hf : jaT.good f) (m : Int) (hm : -9223372036854775808 ≤ m ∧ m ≤ 9223372036854775807) :
    (jcL hs b mt f m ≠ 0 → jBX f m (bytesOf b) (bytesOf mt) pt hs.length hs = some ((jcL hs b mt f m, ()), rS hs pt b mt)) ∧
    (jcL hs b mt f m = 0 → jBX f m (bytesOf b) (bytesOf mt) pt hs.length hs = none ∧
      jrd f m (bytesOf b) (bytesOf mt) pt hs.length hs = some ((0, ()), ((bytesOf (delB b (jaN hs b mt f).1.toNat m.toNat), (bytesOf mt, (pt, ((jeJ hs (jaN hs b mt f).1 m).length, ())))), (hs, (jeJ hs (jaN hs b mt f).1 m, ()))))) := by
  have qs := jwH R pt f hf
  have hbl := R.n.long
  have hsz : (bytesOf b).size = b.length := jaw b
  unfold jcL
  by_cases c1 : (jaN hs b mt f).2 ≠ 0
  · rw [if_pos c1]
    refine ⟨fun _ => fin ?_, fun h => absurd h c1⟩
    unfold jrq
    extract_lets -merge +onlyGivenNames y1
    have e_y1 : y1 = _ := (congrArg RS.get (qs)).trans (jag _)
    clear_value y1; subst e_y1
    refine jaA (qs) ?_
    refine jaJ (bne0 c1) ?_
    rfl
  rw [if_neg c1]
  have c1 : (jaN hs b mt f).2 = 0 := Classical.byContradiction c1
  have hsp := jen R.n c1
  rw [c1] at qs
  generalize hk : (jaN hs b mt f).1 = k0 at qs hsp
  obtain ⟨k, rfl⟩ : ∃ k : Nat, k0 = (k : Int) := ⟨k0.toNat, by omega⟩
  rw [jal]
  have h9 : IntKind.wrap .i64 ((((bytesOf b).size : Nat) : Int) - (k : Int)) = (b.length : Int) - (k : Int) := by rw [hsz]; exact IntWalk.i64_in _ (by omega)
  by_cases c2 : m < 0
  · rw [if_neg (by omega)]
    refine ⟨fun _ => fin ?_, fun h => by cases h⟩
    unfold jrq
    extract_lets -merge +onlyGivenNames y1
    have e_y1 : y1 = _ := (congrArg RS.get (qs)).trans (jag _)
    clear_value y1; subst e_y1
    refine jaA (qs) ?_
    refine jaI (rfl) ?_
    refine jaJ (decide_eq_true c2) ?_
    rfl
  by_cases c3 : m > (b.length : Int) - (k : Int)
  · rw [if_neg (by omega)]
    refine ⟨fun _ => fin ?_, fun h => by cases h⟩
    unfold jrq
    extract_lets -merge +onlyGivenNames y1
    have e_y1 : y1 = _ := (congrArg RS.get (qs)).trans (jag _)
    clear_value y1; subst e_y1
    refine jaA (qs) ?_
    refine jaI (rfl) ?_
    refine jaI (decide_eq_false c2) ?_
    refine jaJ (by rw [h9]; exact decide_eq_true c3) ?_
    rfl
  rw [if_pos (by omega)]
  refine ⟨fun h => absurd rfl h, fun _ => ?_⟩
  obtain ⟨d, rfl⟩ : ∃ d : Nat, m = (d : Int) := ⟨m.toNat, by omega⟩
  rw [jal]
  have ekd : IntKind.wrap .i64 ((k : Int) + (d : Int)) = ((k + d : Nat) : Int) := by rw [IntWalk.i64_in _ (by omega)]; omega
  have hM : jrq FUEL f (d : Int) (bytesOf b) (bytesOf mt) pt hs.length hs = some (jaa jir jgk ((0, ()), ((bytesOf (delB b k d), (bytesOf mt, (pt, ((jeJ hs (k : Int) (d : Int)).length, ())))), (hs, (jeJ hs (k : Int) (d : Int), ()))))) := by
    have e2 : (bytesOf b).extract 0 k = bytesOf (b.take k) := by rw [jbl, List.drop_zero]
    have e3 : (bytesOf b).extract (k + d) (bytesOf b).size = bytesOf (b.drop (k + d)) := by rw [jbl, List.take_of_length_le (by omega)]
    have z2 : (bytesOf (b.take k)).size = k := by rw [jaw, List.length_take]; omega
    have z3 : (bytesOf (b.drop (k + d))).size = b.length - (k + d) := by rw [jaw, List.length_drop]
    unfold jrq
    extract_lets -merge +onlyGivenNames y1
    have e_y1 : y1 = _ := (congrArg RS.get (qs)).trans (jag _)
    clear_value y1; subst e_y1
    refine jaA (qs) ?_
    refine jaI (rfl) ?_
    refine jaI (decide_eq_false c2) ?_
    refine jaI (by rw [h9]; exact decide_eq_false c3) ?_
    refine jaJ (decide_eq_true (show (0 : Int) ≤ 0 ∧ (0 : Int) ≤ (k : Int) ∧ (k : Int) ≤ (((bytesOf b).size : Nat) : Int) by omega)) ?_
    extract_lets -merge +onlyGivenNames y2
    have e_y2 : y2 = (bytesOf (b.take k)) := e2
    clear_value y2; subst e_y2
    rw [ekd]
    refine jaJ (decide_eq_true (show (0 : Int) ≤ ((k + d : Nat) : Int) ∧ ((k + d : Nat) : Int) ≤ (((bytesOf b).size : Nat) : Int) ∧ (((bytesOf b).size : Nat) : Int) ≤ (((bytesOf b).size : Nat) : Int) by omega)) ?_
    extract_lets -merge +onlyGivenNames y3
    have e_y3 : y3 = (bytesOf (b.drop (k + d))) := e3
    clear_value y3; subst e_y3
    refine jaJ (decide_eq_true (show (bytesOf (b.take k)).size + (bytesOf (b.drop (k + d))).size ≤ 9223372036854775807 by omega)) ?_
    refine (jAQ _ k d R.n.ok.hl R.n.ok.at_ (by omega) FUEL 0 0 [] (by omega) (by have := R.n.ok.hl; unfold FUEL; omega) rfl rfl).trans ?_
    rw [show bytesOf (delB b k d) = bytesOf (b.take k) ++ bytesOf (b.drop (k + d)) from jcA _ _]
  exact ⟨by unfold jBX; rw [hM]; exact dec_rd, fin hM⟩

theorem putF_rk {hs : List jan} {b mt : List Int} (R : RkN hs b mt) (f : jaB) (v : Nat) : RkN hs (putF hs b mt f v).2.1 (putF hs b mt f v).2.2 := by
  obtain ⟨l1, l2⟩ := jeX hs b mt f v
  exact ⟨⟨jvp R.n.ok f v, by rw [l1]; exact R.n.long, fun h hh => by rw [l1]; exact R.n.at_ h hh⟩, by rw [l2]; exact R.m⟩
theorem Q_rSum {hs : List jan} {b mt : List Int} (R : RkN hs b mt) (pt : Int) (to fr : jaB) (ht : jaT.good to) (hf : jaT.good fr) (m : Int) (hm : -9223372036854775808 ≤ m ∧ m ≤ 9223372036854775807) :
    jLX to fr m (bytesOf b) (bytesOf mt) pt hs.length hs = some (((sumF hs b mt to fr m).1, ()), rS hs pt (sumF hs b mt to fr m).2.1 (sumF hs b mt to fr m).2.2) := by
  have qs := jwH R pt fr hf
  have hbl := R.n.long
  have hsz : (bytesOf b).size = b.length := jaw b
  by_cases c1 : (jaN hs b mt fr).2 ≠ 0
  · have e : sumF hs b mt to fr m = ((jaN hs b mt fr).2, (b, mt)) := by unfold sumF; rw [if_pos c1]
    rw [e]
    refine fin ?_
    unfold juy
    extract_lets -merge +onlyGivenNames y1
    have e_y1 : y1 = _ := (congrArg RS.get (qs)).trans (jag _)
    clear_value y1; subst e_y1
    refine jaA (qs) ?_
    refine jaJ (bne0 c1) ?_
    rfl
  have c1' : (jaN hs b mt fr).2 = 0 := Classical.byContradiction c1
  have hsp := jen R.n c1'
  have hS : sumF hs b mt to fr m = (if ¬ (0 ≤ (if m = 0 then (b.length : Int) - (jaN hs b mt fr).1 else m) ∧ (if m = 0 then (b.length : Int) - (jaN hs b mt fr).1 else m) ≤ (b.length : Int) - (jaN hs b mt fr).1) then (1, (b, mt)) else
  if (putF hs b mt to 0).1 ≠ 0 then ((putF hs b mt to 0).1, (b, mt)) else
  putF hs (putF hs b mt to 0).2.1 (putF hs b mt to 0).2.2 to (65535 - jbB (ws true (natL (((putF hs b mt to 0).2.1.drop (jaN hs b mt fr).1.toNat).take (if m = 0 then (b.length : Int) - (jaN hs b mt fr).1 else m).toNat))))) := by
    unfold sumF; rw [if_neg c1]
  rw [hS]
  rw [c1'] at qs
  generalize hk : (jaN hs b mt fr).1 = k0 at qs hsp
  obtain ⟨k, rfl⟩ : ∃ k : Nat, k0 = (k : Int) := ⟨k0.toNat, by omega⟩
  rw [jal]
  generalize hm' : (if m = 0 then (b.length : Int) - (k : Int) else m) = m'
  have h9 : IntKind.wrap .i64 ((((bytesOf b).size : Nat) : Int) - (k : Int)) = (b.length : Int) - (k : Int) := by rw [hsz]; exact IntWalk.i64_in _ (by omega)
  have hw0 : (((0 : Int), ((0 : Int), ())) : jaW) = wN 0 := rfl
  by_cases c2 : m < 0
  · rw [if_neg (by omega)] at hm'
    subst hm'
    rw [if_pos (by omega)]
    refine fin ?_
    unfold juy
    extract_lets -merge +onlyGivenNames y1
    have e_y1 : y1 = _ := (congrArg RS.get (qs)).trans (jag _)
    clear_value y1; subst e_y1
    refine jaA (qs) ?_
    refine jaI (rfl) ?_
    refine jaJ (decide_eq_true c2) ?_
    rfl
  by_cases c3 : m > (b.length : Int) - (k : Int)
  · rw [if_neg (by omega)] at hm'
    subst hm'
    rw [if_pos (by omega)]
    refine fin ?_
    unfold juy
    extract_lets -merge +onlyGivenNames y1
    have e_y1 : y1 = _ := (congrArg RS.get (qs)).trans (jag _)
    clear_value y1; subst e_y1
    refine jaA (qs) ?_
    refine jaI (rfl) ?_
    refine jaI (decide_eq_false c2) ?_
    refine jaJ (by rw [h9]; exact decide_eq_true c3) ?_
    rfl
  have hmm : 0 ≤ m' ∧ m' ≤ (b.length : Int) - (k : Int) := by rw [← hm']; split <;> omega
  rw [if_neg (not_not_intro hmm)]
  obtain ⟨d, rfl⟩ : ∃ d : Nat, m' = (d : Int) := ⟨m'.toNat, by omega⟩
  rw [jal]
  have q2 := jwI R pt to ht 0 (by decide)
  have R1 := putF_rk R to 0
  obtain ⟨l1, l2⟩ := jeX hs b mt to 0
  by_cases c4 : (putF hs b mt to 0).1 ≠ 0
  · rw [if_pos c4]
    have hno := jvq c4
    rw [hno] at q2
    refine fin ?_
    unfold juy
    extract_lets -merge +onlyGivenNames y1
    have e_y1 : y1 = _ := (congrArg RS.get (qs)).trans (jag _)
    clear_value y1; subst e_y1
    refine jaA (qs) ?_
    refine jaI (rfl) ?_
    refine jaI (decide_eq_false c2) ?_
    refine jaI (by rw [h9]; exact decide_eq_false c3) ?_
    by_cases h0 : m = 0
    · refine jaJ (beqT h0) ?_
      extract_lets -merge +onlyGivenNames y2
      have e_y2 : y2 = _ := (congrArg RS.get (q2)).trans (jag _)
      clear_value y2; subst e_y2
      refine jaA (q2) ?_
      refine jaJ (bne0 c4) ?_
      rfl
    · refine jaI (beqF h0) ?_
      extract_lets -merge +onlyGivenNames y7
      have e_y7 : y7 = _ := (congrArg RS.get (q2)).trans (jag _)
      clear_value y7; subst e_y7
      refine jaA (q2) ?_
      refine jaJ (bne0 c4) ?_
      rfl
  rw [if_neg c4]
  have c4 : (putF hs b mt to 0).1 = 0 := Classical.byContradiction c4
  rw [c4] at q2
  generalize (putF hs b mt to 0).2.1 = b1 at q2 R1 l1
  generalize (putF hs b mt to 0).2.2 = mt1 at q2 R1 l2
  have hsz1 : (bytesOf b1).size = b.length := by rw [jaw, l1]
  have hB1 : isB ((b1.drop k).take d) := fun x hx => R1.n.ok.bB x (List.mem_of_mem_drop (List.mem_of_mem_take hx))
  have hwl : ((b1.drop k).take d).length = d := by rw [List.length_take, List.length_drop]; omega
  have q3 := Q_rOf3 (bytesOf ((b1.drop k).take d)) (by rw [jaw, hwl]; omega)
  rw [jky hB1] at q3
  generalize hc : 65535 - jbB (ws true (natL ((b1.drop k).take d))) = c at q3
  have hcl : c ≤ 65535 := by omega
  have q4 := jwI R1 pt to ht c (by omega)
  have hw : (((0 : Int), (((c : Nat) : Int), ())) : jaW) = wN c := by
    unfold wN W2
    rw [Nat.div_eq_of_lt (by omega), Nat.mod_eq_of_lt (by omega)]; rfl
  have hu : IntKind.wrap .u64 ((c : Nat) : Int) = ((c : Nat) : Int) := jeb _ (by omega)
  rw [← hw] at q4
  have ex : (bytesOf b1).extract k (k + d) = bytesOf ((b1.drop k).take d) := by rw [jbl, List.drop_take, Nat.add_sub_cancel_left]
  refine fin ?_
  unfold juy
  extract_lets -merge +onlyGivenNames y1
  have e_y1 : y1 = _ := (congrArg RS.get (qs)).trans (jag _)
  clear_value y1; subst e_y1
  refine jaA (qs) ?_
  refine jaI (rfl) ?_
  refine jaI (decide_eq_false c2) ?_
  refine jaI (by rw [h9]; exact decide_eq_false c3) ?_
  by_cases h0 : m = 0
  · refine jaJ (beqT h0) ?_
    rw [if_pos h0] at hm'
    extract_lets -merge +onlyGivenNames y2
    have e_y2 : y2 = _ := (congrArg RS.get (q2)).trans (jag _)
    clear_value y2; subst e_y2
    refine jaA (q2) ?_
    refine jaI (rfl) ?_
    extract_lets -merge +onlyGivenNames y3
    have e_y3 : y3 = ((k + d : Nat) : Int) := (by show IntKind.wrap .i64 ((k : Int) + IntKind.wrap .i64 ((((bytesOf b).size : Nat) : Int) - (k : Int))) = _; rw [h9, IntWalk.i64_in _ (by omega)]; omega)
    clear_value y3; subst e_y3
    refine jaJ (decide_eq_true (show (0 : Int) ≤ (k : Int) ∧ (k : Int) ≤ ((k + d : Nat) : Int) ∧ ((k + d : Nat) : Int) ≤ (((bytesOf b1).size : Nat) : Int) by omega)) ?_
    extract_lets -merge +onlyGivenNames y4
    have e_y4 : y4 = (bytesOf ((b1.drop k).take d)) := ex
    clear_value y4; subst e_y4
    extract_lets -merge +onlyGivenNames y5
    have e_y5 : y5 = _ := (congrArg RS.get (q3)).trans (jag _)
    clear_value y5; subst e_y5
    refine jaA (q3) ?_
    rw [hu]
    extract_lets -merge +onlyGivenNames y6
    have e_y6 : y6 = _ := (congrArg RS.get (q4)).trans (jag _)
    clear_value y6; subst e_y6
    refine jaA (q4) ?_
    rfl
  · refine jaI (beqF h0) ?_
    rw [if_neg h0] at hm'
    subst hm'
    have ekd : IntKind.wrap .i64 ((k : Int) + (d : Int)) = ((k + d : Nat) : Int) := by rw [IntWalk.i64_in _ (by omega)]; omega
    extract_lets -merge +onlyGivenNames y7
    have e_y7 : y7 = _ := (congrArg RS.get (q2)).trans (jag _)
    clear_value y7; subst e_y7
    refine jaA (q2) ?_
    refine jaI (rfl) ?_
    rw [ekd]
    refine jaJ (decide_eq_true (show (0 : Int) ≤ (k : Int) ∧ (k : Int) ≤ ((k + d : Nat) : Int) ∧ ((k + d : Nat) : Int) ≤ (((bytesOf b1).size : Nat) : Int) by omega)) ?_
    extract_lets -merge +onlyGivenNames y8
    have e_y8 : y8 = (bytesOf ((b1.drop k).take d)) := ex
    clear_value y8; subst e_y8
    extract_lets -merge +onlyGivenNames y9
    have e_y9 : y9 = _ := (congrArg RS.get (q3)).trans (jag _)
    clear_value y9; subst e_y9
    refine jaA (q3) ?_
    rw [hu]
    extract_lets -merge +onlyGivenNames y10
    have e_y10 : y10 = _ := (congrArg RS.get (q4)).trans (jag _)
    clear_value y10; subst e_y10
    refine jaA (q4) ?_
    rfl
theorem dec_rn {y : Int} {x : HK.sems jgl} : jap jxr jxV (some (jaa jis jgl (((), (y, ())), x))) = none := rfl
theorem Q_rNew (n : Int) (s : ByteArray) (h : s.size ≤ 9216) : jBY n s = none ∧ jre n s = some (((), (0, ())), ((s, (bytesOf jfq, (n, ((), ())))), ())) := by
  have hM : jwM FUEL n s = some (jaa jis jgl (((), (0, ())), ((s, (bytesOf jfq, (n, ((), ())))), ()))) := by
    unfold jwM
    refine jaI (decide_eq_false (show ¬ ((s.size : Nat) : Int) > 9216 by omega)) ?_
    refine jaJ ((by decide)) ?_
    rfl
  exact ⟨by unfold jBY; rw [hM]; exact dec_rn, fin hM⟩
theorem jJT (n : Int) (s : ByteArray) (h : 9216 < s.size) : jBY n s = some (((), (10, ())), ()) := by
  refine fin ?_
  unfold jwM
  refine jaJ (decide_eq_true (show ((s.size : Nat) : Int) > 9216 by omega)) ?_
  rfl
theorem jJR (l : List jai) (hl : Nodes l) (s : ByteArray) (hs : s.size ≤ 9216) (mt : ByteArray) (pt : Int) :
    jMv l s mt pt = some (((jbg l s).2.1, ((jbg l s).2.2, ())), ((s, (mt, (pt, ((jbg l s).1.length, ())))), ((jbg l s).1, ()))) := by
  have hb := jla l s
  refine fin ?_
  unfold jNP
  extract_lets -merge +onlyGivenNames y1
  have e_y1 : y1 = _ := (congrArg RS.get (jJS l hl s (by omega))).trans (jag _)
  clear_value y1; subst e_y1
  refine jaA (jJS l hl s (by omega)) ?_
  have hc : cutL jak (jbg l s).1 0 (jbg l s).1.length = (jbg l s).1 := jbI _ _
  refine jaJ (by show decide ((0 + (cutL jak (jbg l s).1 0 (jbg l s).1.length).length) * 16 ≤ 2 ^ 46 ∧ _) = true; rw [hc, decide_eq_true_eq]; omega) ?_
  show some (jaa jxp jxT (((jbg l s).2.1, ((jbg l s).2.2, ())), ((s, (mt, (pt, (0 + (cutL jak (jbg l s).1 0 (jbg l s).1.length).length, ())))), (cutL jak (jbg l s).1 0 (jbg l s).1.length, ())))) = _
  rw [hc, Nat.zero_add]
theorem jjv {hs : List jan} (hl : hs.length ≤ 1000000) (pt : Int) (b mt : List Int) : jMn (bytesOf b) (bytesOf mt) pt hs.length hs = some (((), ()), ((bytesOf b, (bytesOf mt, (pt, (hs.length, ())))), (hs, ((bytesOf b, (bytesOf mt, (pt, (hs.length, ())))), (hs, ()))))) := by
  refine fin ?_
  unfold jNI
  have hc : cutL jak hs 0 hs.length = hs := jbI _ _
  rw [hc, Nat.zero_add]
  refine jaJ (decide_eq_true (show hs.length * 16 ≤ 2 ^ 46 ∧ hs.length ≤ 2 ^ 46 by omega)) ?_
  rfl
end Go.AMach

/- Layer 17: PackPlays. -/
namespace Go.AMach
set_option linter.unusedVariables false
set_option linter.unusedSimpArgs false
set_option linter.unnecessarySimpa false
open Go
set_option linter.unusedVariables false

abbrev PkA := List jan × (List Int × List Int)
def whyE (x : Except Int Nat) : Int := match x with
  | .ok _ => 0
  | .error e => e
def wv (w : jaW) : Nat := w.1.toNat * 18446744073709551616 + w.2.1.toNat
theorem wv_ok {w : jaW} (h : jaL.good w) : w = wN (wv w) ∧ wv w < 340282366920938463463374607431768211456 := by
  obtain ⟨h1, h2, _⟩ := h
  have r1 := jOz h1
  have r2 := jOz h2
  refine ⟨?_, by unfold wv; omega⟩
  rw [show wv w = w.1.toNat * 18446744073709551616 + w.2.1.toNat from rfl, ← jCu _ _ (by omega)]
  unfold W2
  rw [show ((w.1.toNat : Nat) : Int) = w.1 by omega, show ((w.2.1.toNat : Nat) : Int) = w.2.1 by omega]
def actV (a : ActS) (x : PkA) : Int × PkA :=
  if a.1 = 0 then (whyE (getF x.1 x.2.1 x.2.2 a.2.1), x)
  else if a.1 = 1 then ((putF x.1 x.2.1 x.2.2 a.2.1 (wv a.2.2.2.2.1)).1, (x.1, (putF x.1 x.2.1 x.2.2 a.2.1 (wv a.2.2.2.2.1)).2))
  else if a.1 = 2 then
    if jcu x.1 x.2.1 x.2.2 a.2.1 a.2.2.2.1 ≠ 0 then (jcu x.1 x.2.1 x.2.2 a.2.1 a.2.2.2.1, x)
    else (0, (x.1.map (mvH (jaN x.1 x.2.1 x.2.2 a.2.1).1 a.2.2.2.1), (insB x.2.1 (jaN x.1 x.2.1 x.2.2 a.2.1).1.toNat a.2.2.2.1.toNat, x.2.2)))
  else if a.1 = 3 then
    if jcL x.1 x.2.1 x.2.2 a.2.1 a.2.2.2.1 ≠ 0 then (jcL x.1 x.2.1 x.2.2 a.2.1 a.2.2.2.1, x)
    else (0, (jeJ x.1 (jaN x.1 x.2.1 x.2.2 a.2.1).1 a.2.2.2.1, (delB x.2.1 (jaN x.1 x.2.1 x.2.2 a.2.1).1.toNat a.2.2.2.1.toNat, x.2.2)))
  else ((sumF x.1 x.2.1 x.2.2 a.2.1 a.2.2.1 a.2.2.2.1).1, (x.1, (sumF x.1 x.2.1 x.2.2 a.2.1 a.2.2.1 a.2.2.2.1).2))

theorem jyp {hs : List jan} {b mt : List Int} (N : PkN hs b mt) (f : jaB) (v : Nat) : PkN hs (putF hs b mt f v).2.1 (putF hs b mt f v).2.2 := by
  obtain ⟨l1, l2⟩ := jeX hs b mt f v
  exact ⟨jvp N.ok f v, by rw [l1]; exact N.long, fun h hh => by rw [l1]; exact N.at_ h hh⟩
theorem sumF_N {hs : List jan} {b mt : List Int} (N : PkN hs b mt) (t f : jaB) (m : Int) : PkN hs (sumF hs b mt t f m).2.1 (sumF hs b mt t f m).2.2 := by
  unfold sumF
  by_cases c1 : (jaN hs b mt f).2 ≠ 0
  · rw [if_pos c1]; exact N
  rw [if_neg c1]
  generalize (if m = 0 then (b.length : Int) - (jaN hs b mt f).1 else m) = m'
  split
  · exact N
  split
  · exact N
  exact jyp (jyp N t 0) t _
theorem jQQ {x : PkA} (N : PkN x.1 x.2.1 x.2.2) (a : ActS) : PkN (actV a x).2.1 (actV a x).2.2.1 (actV a x).2.2.2 := by
  unfold actV
  split
  · exact N
  split
  · exact jyp N _ _
  split
  · split
    · exact N
    · rename_i h
      have h : jcu x.1 x.2.1 x.2.2 a.2.1 a.2.2.2.1 = 0 := Classical.byContradiction h
      have hs : (jaN x.1 x.2.1 x.2.2 a.2.1).2 = 0 := Classical.byContradiction fun k => by unfold jcu at h; rw [if_pos k] at h; exact k h
      have hk := jen N hs
      unfold jcu at h
      rw [if_neg (not_not_intro hs)] at h
      by_cases c2 : a.2.2.2.1 < 0
      · rw [if_pos c2] at h; cases h
      rw [if_neg c2] at h
      by_cases c3 : a.2.2.2.1 > 9216 - (x.2.1.length : Int)
      · rw [if_pos c3] at h; cases h
      have := insN N (jaN x.1 x.2.1 x.2.2 a.2.1).1.toNat a.2.2.2.1 (by omega) (by omega) (by omega)
      rw [show (((jaN x.1 x.2.1 x.2.2 a.2.1).1.toNat : Nat) : Int) = (jaN x.1 x.2.1 x.2.2 a.2.1).1 by omega] at this
      exact this
  split
  · split
    · exact N
    · rename_i h
      have h : jcL x.1 x.2.1 x.2.2 a.2.1 a.2.2.2.1 = 0 := Classical.byContradiction h
      have hs : (jaN x.1 x.2.1 x.2.2 a.2.1).2 = 0 := Classical.byContradiction fun k => by unfold jcL at h; rw [if_pos k] at h; exact k h
      have hk := jen N hs
      unfold jcL at h
      rw [if_neg (not_not_intro hs)] at h
      by_cases c2 : 0 ≤ a.2.2.2.1 ∧ a.2.2.2.1 ≤ (x.2.1.length : Int) - (jaN x.1 x.2.1 x.2.2 a.2.1).1
      · have := delN N (jaN x.1 x.2.1 x.2.2 a.2.1).1.toNat a.2.2.2.1.toNat (by omega)
        rw [show (((jaN x.1 x.2.1 x.2.2 a.2.1).1.toNat : Nat) : Int) = (jaN x.1 x.2.1 x.2.2 a.2.1).1 by omega, show ((a.2.2.2.1.toNat : Nat) : Int) = a.2.2.2.1 by omega] at this
        exact this
      · rw [if_neg c2] at h; cases h
  · exact sumF_N N _ _ _
abbrev pr2 (x : HK.sems jeF) (y : HK.sems jlC) : HK.sems jiy := (x.1, (x.2.1, (x.2.2.1, (x.2.2.2.1, (x.2.2.2.2.1, (x.2.2.2.2.2.1, y))))))
theorem jKI (k : Unit → Option Res) (n : Nat) (hn : n ≤ 1000000) : ∀ (m i : Nat) (row : List jan), i ≤ n → n - i < m → jjH FUEL k n m (i : Int) row = k ()
  | 0, _, _, _, h => by omega
  | m + 1, i, row, hi, hm => by
    show jrD FUEL k n (jjH FUEL k n m) (i : Int) row = _
    unfold jrD
    by_cases h : i < n
    · refine jaJ (decide_eq_true (show (i : Int) < ((n : Nat) : Int) by omega)) ?_
      refine jaJ (decide_eq_true (show (0 : Int) ≤ (i : Int) ∧ (i : Int) < ((n : Nat) : Int) by omega)) ?_
      rw [jaD (by omega)]
      exact jKI k n hn m (i + 1) _ (by omega) (by omega)
    · refine jaI (decide_eq_false (show ¬ (i : Int) < ((n : Nat) : Int) by omega)) ?_
      rfl
theorem jbY {hn bn mn : Nat} {hrow : List jan} {brow mrow : List Int} {hs : List jan} {b mt : List Int} (K : PkV hn bn mn hrow brow mrow hs b mt) (pt : Int) :
    jMs hn pt bn brow hrow mn mrow (bytesOf b) (bytesOf mt) pt hs.length hs = some ((true, ()), pr2 (pkV hn bn mn hrow brow mrow pt) (rS hs pt b mt)) := by
  have lb := K.vb.len
  have hl := K.ok.hl
  refine fin ?_
  unfold jNM
  extract_lets -merge +onlyGivenNames y1
  have e_y1 : y1 = _ := (congrArg RS.get (juv K pt)).trans (jag _)
  clear_value y1; subst e_y1
  refine jaA (juv K pt) ?_
  extract_lets -merge +onlyGivenNames y2
  have e_y2 : y2 = _ := (congrArg RS.get (jAI hn bn mn hrow brow mrow pt)).trans (jag _)
  clear_value y2; subst e_y2
  refine jaA (jAI hn bn mn hrow brow mrow pt) ?_
  refine jaI (bneF rfl) ?_
  extract_lets -merge +onlyGivenNames y3
  have e_y3 : y3 = _ := (congrArg RS.get (jkW K pt)).trans (jag _)
  clear_value y3; subst e_y3
  refine jaA (jkW K pt) ?_
  refine jaI (nbT rfl) ?_
  extract_lets -merge +onlyGivenNames y4
  have e_y4 : y4 = _ := (congrArg RS.get (jfU hn bn mn hrow brow mrow pt)).trans (jag _)
  clear_value y4; subst e_y4
  refine jaA (jfU hn bn mn hrow brow mrow pt) ?_
  refine jaI (bneF (show ((bn : Nat) : Int) = (((bytesOf b).size : Nat) : Int) by rw [jaw, lb])) ?_
  extract_lets -merge +onlyGivenNames y5
  have e_y5 : y5 = _ := (congrArg RS.get (jAJ K pt)).trans (jag _)
  clear_value y5; subst e_y5
  refine jaA (jAJ K pt) ?_
  refine jaI (nbT rfl) ?_
  have c1 := jbI jak hs
  have qh : jJI (cutL jak hs 0 hs.length) (cutL jak hs 0 hs.length) = some ((true, ()), ()) := by rw [c1, Q_hEq hs hs hl, decide_eq_true rfl]
  extract_lets -merge +onlyGivenNames y6
  have e_y6 : y6 = _ := (congrArg RS.get (qh)).trans (jag _)
  clear_value y6; subst e_y6
  refine jaA (qh) ?_
  refine jaI (rfl) ?_
  refine (jKI _ hs.length hl FUEL 0 hs (by omega) (by unfold FUEL; omega)).trans ?_
  rfl
theorem dec_do1 {y : Bool} {x : HK.sems jeT} : jap jcG jcI (some (jaa jgg jeT ((y, ()), x))) = none := rfl
theorem dec_do2 {y : Bool} {x : HK.sems jeq} : jap jcG jcI (some (jaa jgf jeq ((y, ()), x))) = none := rfl
theorem dec_do3 {y : Bool} {x : HK.sems jeq} : jap jgg jeT (some (jaa jgf jeq ((y, ()), x))) = none := rfl
theorem eqB (x : Int) : (x == x) = true := beqT rfl
theorem actV_R {x : PkA} (R : RkN x.1 x.2.1 x.2.2) (a : ActS) (ha : ActT.good a) : RkN (actV a x).2.1 (actV a x).2.2.1 (actV a x).2.2.2 := by
  refine ⟨jQQ R.n a, ?_⟩
  have hm := R.m
  have hp : ∀ f v, (putF x.1 x.2.1 x.2.2 f v).2.2.length = x.2.2.length := fun f v => (jeX x.1 x.2.1 x.2.2 f v).2
  unfold actV
  split
  · exact hm
  split
  · show (putF x.1 x.2.1 x.2.2 a.2.1 (wv a.2.2.2.2.1)).2.2.length ≤ 9216
    rw [hp]; exact hm
  split
  · split <;> exact hm
  split
  · split <;> exact hm
  · show (sumF x.1 x.2.1 x.2.2 a.2.1 a.2.2.1 a.2.2.2.1).2.2.length ≤ 9216
    unfold sumF
    generalize (if a.2.2.2.1 = 0 then (x.2.1.length : Int) - (jaN x.1 x.2.1 x.2.2 a.2.2.1).1 else a.2.2.2.1) = m'
    split
    · exact hm
    split
    · exact hm
    split
    · exact hm
    · rw [(jeX _ _ _ _ _).2, hp]; exact hm
theorem Q_doesV {hn bn mn : Nat} {hrow : List jan} {brow mrow : List Int} {x : PkA} (K : PkV hn bn mn hrow brow mrow x.1 x.2.1 x.2.2) (R : RkN x.1 x.2.1 x.2.2) (pt : Int) (a : ActS) (ha : ActT.good a) :
    ∃ (hn' bn' : Nat) (hrow' : List jan) (brow' mrow' : List Int), PkV hn' bn' mn hrow' brow' mrow' (actV a x).2.1 (actV a x).2.2.1 (actV a x).2.2.2 ∧
      (jur a hn pt bn brow hrow mn mrow (bytesOf x.2.1) (bytesOf x.2.2) pt x.1.length x.1 = some ((true, ()), pr2 (pkV hn' bn' mn hrow' brow' mrow' pt) (rS (actV a x).2.1 pt (actV a x).2.2.1 (actV a x).2.2.2)) ∨
       (jur a hn pt bn brow hrow mn mrow (bytesOf x.2.1) (bytesOf x.2.2) pt x.1.length x.1 = none ∧ ∃ g, jjt a hn pt bn brow hrow mn mrow (bytesOf x.2.1) (bytesOf x.2.2) pt x.1.length x.1 = some ((true, ()), (((), (hn', ((), (pt, ())))), ((bn', ()), (g, (hrow', ((mn, ()), (mrow', ((bytesOf (actV a x).2.2.1, (bytesOf (actV a x).2.2.2, (pt, ((actV a x).2.1.length, ())))), ((actV a x).2.1, (brow', ()))))))))))) ∨
       (jur a hn pt bn brow hrow mn mrow (bytesOf x.2.1) (bytesOf x.2.2) pt x.1.length x.1 = none ∧ jjt a hn pt bn brow hrow mn mrow (bytesOf x.2.1) (bytesOf x.2.2) pt x.1.length x.1 = none ∧ ∃ g, jrc a hn pt bn brow hrow mn mrow (bytesOf x.2.1) (bytesOf x.2.2) pt x.1.length x.1 = some ((true, ()), (((), (hn', ((), (pt, ())))), ((bn', ()), (brow', (hrow', ((mn, ()), (mrow', ((bytesOf (actV a x).2.2.1, (bytesOf (actV a x).2.2.2, (pt, ((actV a x).2.1.length, ())))), (g, ((actV a x).2.1, ())))))))))))) := by
  obtain ⟨_, hF, hFr, hN, hW, _⟩ := ha
  have rN := jsk hN
  obtain ⟨ew, hw⟩ := wv_ok hW
  have N := R.n
  by_cases c0 : a.1 = 0
  · have e : actV a x = (whyE (getF x.1 x.2.1 x.2.2 a.2.1), x) := by unfold actV; rw [if_pos c0]
    rw [e]
    have qg := Q_rPGet R.rk pt a.2.1 hF
    rw [R.b_, R.m_] at qg
    refine ⟨hn, bn, hrow, brow, mrow, K, .inl (fin ?_)⟩
    unfold jie
    refine jaJ (beqT c0) ?_
    extract_lets -merge +onlyGivenNames y1
    have e_y1 : y1 = _ := (congrArg RS.get (jJX K pt a.2.1 hF)).trans (jag _)
    clear_value y1; subst e_y1
    refine jaA (jJX K pt a.2.1 hF) ?_
    extract_lets -merge +onlyGivenNames y2
    have e_y2 : y2 = _ := (congrArg RS.get (qg)).trans (jag _)
    clear_value y2; subst e_y2
    refine jaA (qg) ?_
    extract_lets -merge +onlyGivenNames y3
    have e_y3 : y3 = _ := (congrArg RS.get (jJY K pt a.2.1 hF)).trans (jag _)
    clear_value y3; subst e_y3
    refine jaA (jJY K pt a.2.1 hF) ?_
    extract_lets -merge +onlyGivenNames y4
    have e_y4 : y4 = _ := (congrArg RS.get (jNr R pt a.2.1 hF)).trans (jag _)
    clear_value y4; subst e_y4
    refine jaA (jNr R pt a.2.1 hF) ?_
    refine jaJ (by rw [eqB, eqB]; rfl) ?_
    refine jaJ (eqB _) ?_
    refine jaJ (eqB _) ?_
    show some (jaa jcG jcI ((((atF x.1 x.2.1 x.2.2 a.2.1).2 == (atF x.1 x.2.1 x.2.2 a.2.1).2), ()), _)) = _
    rw [eqB]
  by_cases c1 : a.1 = 1
  · have e : actV a x = ((putF x.1 x.2.1 x.2.2 a.2.1 (wv a.2.2.2.2.1)).1, (x.1, (putF x.1 x.2.1 x.2.2 a.2.1 (wv a.2.2.2.2.1)).2)) := by unfold actV; rw [if_neg c0, if_pos c1]
    rw [e]
    obtain ⟨br, mr, K1, q⟩ := jrp K pt a.2.1 hF (wv a.2.2.2.2.1) hw
    have q2 := jwI R pt a.2.1 hF (wv a.2.2.2.2.1) hw
    rw [← ew] at q q2
    refine ⟨hn, bn, hrow, br, mr, K1, .inl (fin ?_)⟩
    unfold jie
    refine jaI (beqF c0) ?_
    refine jaJ (beqT c1) ?_
    extract_lets -merge +onlyGivenNames y5
    have e_y5 : y5 = _ := (congrArg RS.get (q)).trans (jag _)
    clear_value y5; subst e_y5
    refine jaA (q) ?_
    extract_lets -merge +onlyGivenNames y6
    have e_y6 : y6 = _ := (congrArg RS.get (q2)).trans (jag _)
    clear_value y6; subst e_y6
    refine jaA (q2) ?_
    show some (jaa jcG jcI ((((putF x.1 x.2.1 x.2.2 a.2.1 (wv a.2.2.2.2.1)).1 == (putF x.1 x.2.1 x.2.2 a.2.1 (wv a.2.2.2.2.1)).1), ()), _)) = _
    rw [eqB]
  by_cases c2 : a.1 = 2
  · obtain ⟨i1, i2⟩ := jQW K N pt a.2.1 hF a.2.2.2.1 rN
    obtain ⟨j1, j2⟩ := Q_rIns R pt a.2.1 hF a.2.2.2.1 rN
    by_cases hz : jcu x.1 x.2.1 x.2.2 a.2.1 a.2.2.2.1 ≠ 0
    · have e : actV a x = (jcu x.1 x.2.1 x.2.2 a.2.1 a.2.2.2.1, x) := by unfold actV; rw [if_neg c0, if_neg c1, if_pos c2, if_pos hz]
      rw [e]
      refine ⟨hn, bn, hrow, brow, mrow, K, .inl (fin ?_)⟩
      unfold jie
      refine jaI (beqF c0) ?_
      refine jaI (beqF c1) ?_
      refine jaJ (beqT c2) ?_
      extract_lets -merge +onlyGivenNames y9
      have e_y9 : y9 = _ := (congrArg RS.get ((i1 hz))).trans (jag _)
      clear_value y9; subst e_y9
      refine jaA ((i1 hz)) ?_
      extract_lets -merge +onlyGivenNames y10
      have e_y10 : y10 = _ := (congrArg RS.get ((j1 hz))).trans (jag _)
      clear_value y10; subst e_y10
      refine jaA ((j1 hz)) ?_
      show some (jaa jcG jcI (((jcu x.1 x.2.1 x.2.2 a.2.1 a.2.2.2.1 == jcu x.1 x.2.1 x.2.2 a.2.1 a.2.2.2.1), ()), _)) = _
      rw [eqB]
    · have e : actV a x = (0, (x.1.map (mvH (jaN x.1 x.2.1 x.2.2 a.2.1).1 a.2.2.2.1), (insB x.2.1 (jaN x.1 x.2.1 x.2.2 a.2.1).1.toNat a.2.2.2.1.toNat, x.2.2))) := by unfold actV; rw [if_neg c0, if_neg c1, if_pos c2, if_neg hz]
      rw [e]
      obtain ⟨n', hrow', brow', K', q⟩ := i2 (Classical.byContradiction hz)
      have qr := j2 (Classical.byContradiction hz)
      refine ⟨hn, n', hrow', brow', mrow, K', ?_⟩
      rcases q with q | ⟨q0, q⟩
      · refine .inl (fin ?_)
        unfold jie
        refine jaI (beqF c0) ?_
        refine jaI (beqF c1) ?_
        refine jaJ (beqT c2) ?_
        extract_lets -merge +onlyGivenNames y9
        have e_y9 : y9 = _ := (congrArg RS.get (q)).trans (jag _)
        clear_value y9; subst e_y9
        refine jaA (q) ?_
        extract_lets -merge +onlyGivenNames y10
        have e_y10 : y10 = _ := (congrArg RS.get (qr)).trans (jag _)
        clear_value y10; subst e_y10
        refine jaA (qr) ?_
        rfl
      · have hM : jie FUEL a hn pt bn brow hrow mn mrow (bytesOf x.2.1) (bytesOf x.2.2) pt x.1.length x.1 = some (jaa jgg jeT ((true, ()), (((), (hn, ((), (pt, ())))), ((n', ()), (brow, (hrow', ((mn, ()), (mrow, ((bytesOf (insB x.2.1 (jaN x.1 x.2.1 x.2.2 a.2.1).1.toNat a.2.2.2.1.toNat), (bytesOf x.2.2, (pt, ((x.1.map (mvH (jaN x.1 x.2.1 x.2.2 a.2.1).1 a.2.2.2.1)).length, ())))), ((x.1.map (mvH (jaN x.1 x.2.1 x.2.2 a.2.1).1 a.2.2.2.1)), (brow', ())))))))))))  := by
          unfold jie
          refine jaI (beqF c0) ?_
          refine jaI (beqF c1) ?_
          refine jaJ (beqT c2) ?_
          refine jsm (q0) ?_
          extract_lets -merge +onlyGivenNames y7
          have e_y7 : y7 = _ := (congrArg RS.get (q)).trans (jag _)
          clear_value y7; subst e_y7
          refine jaA (q) ?_
          extract_lets -merge +onlyGivenNames y8
          have e_y8 : y8 = _ := (congrArg RS.get (qr)).trans (jag _)
          clear_value y8; subst e_y8
          refine jaA (qr) ?_
          rfl
        exact .inr (.inl ⟨by unfold jur; rw [hM]; exact dec_do1, brow, fin hM⟩)
  by_cases c3 : a.1 = 3
  · obtain ⟨i1, i2⟩ := Q_pDel K N pt a.2.1 hF a.2.2.2.1 rN
    obtain ⟨j1, j2⟩ := Q_rDel R pt a.2.1 hF a.2.2.2.1 rN
    by_cases hz : jcL x.1 x.2.1 x.2.2 a.2.1 a.2.2.2.1 ≠ 0
    · have e : actV a x = (jcL x.1 x.2.1 x.2.2 a.2.1 a.2.2.2.1, x) := by unfold actV; rw [if_neg c0, if_neg c1, if_neg c2, if_pos c3, if_pos hz]
      rw [e]
      refine ⟨hn, bn, hrow, brow, mrow, K, .inl (fin ?_)⟩
      unfold jie
      refine jaI (beqF c0) ?_
      refine jaI (beqF c1) ?_
      refine jaI (beqF c2) ?_
      refine jaJ (beqT c3) ?_
      extract_lets -merge +onlyGivenNames y11
      have e_y11 : y11 = _ := (congrArg RS.get ((i1 hz))).trans (jag _)
      clear_value y11; subst e_y11
      refine jaA ((i1 hz)) ?_
      extract_lets -merge +onlyGivenNames y13
      have e_y13 : y13 = _ := (congrArg RS.get ((j1 hz))).trans (jag _)
      clear_value y13; subst e_y13
      refine jaA ((j1 hz)) ?_
      show some (jaa jcG jcI (((jcL x.1 x.2.1 x.2.2 a.2.1 a.2.2.2.1 == jcL x.1 x.2.1 x.2.2 a.2.1 a.2.2.2.1), ()), _)) = _
      rw [eqB]
    · have e : actV a x = (0, (jeJ x.1 (jaN x.1 x.2.1 x.2.2 a.2.1).1 a.2.2.2.1, (delB x.2.1 (jaN x.1 x.2.1 x.2.2 a.2.1).1.toNat a.2.2.2.1.toNat, x.2.2))) := by unfold actV; rw [if_neg c0, if_neg c1, if_neg c2, if_pos c3, if_neg hz]
      rw [e]
      obtain ⟨hn', n', hrow', brow', K', q⟩ := i2 (Classical.byContradiction hz)
      obtain ⟨q0, qr⟩ := j2 (Classical.byContradiction hz)
      refine ⟨hn', n', hrow', brow', mrow, K', ?_⟩
      have hM : jie FUEL a hn pt bn brow hrow mn mrow (bytesOf x.2.1) (bytesOf x.2.2) pt x.1.length x.1 = some (jaa jgf jeq ((true, ()), (((), (hn', ((), (pt, ())))), ((n', ()), (brow', (hrow', ((mn, ()), (mrow, ((bytesOf (delB x.2.1 (jaN x.1 x.2.1 x.2.2 a.2.1).1.toNat a.2.2.2.1.toNat), (bytesOf x.2.2, (pt, ((jeJ x.1 (jaN x.1 x.2.1 x.2.2 a.2.1).1 a.2.2.2.1).length, ())))), (x.1, (jeJ x.1 (jaN x.1 x.2.1 x.2.2 a.2.1).1 a.2.2.2.1, ()))))))))))) := by
        unfold jie
        refine jaI (beqF c0) ?_
        refine jaI (beqF c1) ?_
        refine jaI (beqF c2) ?_
        refine jaJ (beqT c3) ?_
        extract_lets -merge +onlyGivenNames y11
        have e_y11 : y11 = _ := (congrArg RS.get (q)).trans (jag _)
        clear_value y11; subst e_y11
        refine jaA (q) ?_
        refine jsm (q0) ?_
        extract_lets -merge +onlyGivenNames y12
        have e_y12 : y12 = _ := (congrArg RS.get (qr)).trans (jag _)
        clear_value y12; subst e_y12
        refine jaA (qr) ?_
        rfl
      exact .inr (.inr ⟨by unfold jur; rw [hM]; exact dec_do2, by unfold jjt; rw [hM]; exact dec_do3, x.1, fin hM⟩)
  · have e : actV a x = ((sumF x.1 x.2.1 x.2.2 a.2.1 a.2.2.1 a.2.2.2.1).1, (x.1, (sumF x.1 x.2.1 x.2.2 a.2.1 a.2.2.1 a.2.2.2.1).2)) := by unfold actV; rw [if_neg c0, if_neg c1, if_neg c2, if_neg c3]
    rw [e]
    obtain ⟨br, mr, K1, q⟩ := Q_pSumV K N pt a.2.1 a.2.2.1 hF hFr a.2.2.2.1 rN
    have qr := Q_rSum R pt a.2.1 a.2.2.1 hF hFr a.2.2.2.1 rN
    refine ⟨hn, bn, hrow, br, mr, K1, .inl (fin ?_)⟩
    unfold jie
    refine jaI (beqF c0) ?_
    refine jaI (beqF c1) ?_
    refine jaI (beqF c2) ?_
    refine jaI (beqF c3) ?_
    extract_lets -merge +onlyGivenNames y14
    have e_y14 : y14 = _ := (congrArg RS.get (q)).trans (jag _)
    clear_value y14; subst e_y14
    refine jaA (q) ?_
    extract_lets -merge +onlyGivenNames y15
    have e_y15 : y15 = _ := (congrArg RS.get (qr)).trans (jag _)
    clear_value y15; subst e_y15
    refine jaA (qr) ?_
    show some (jaa jcG jcI ((((sumF x.1 x.2.1 x.2.2 a.2.1 a.2.2.1 a.2.2.2.1).1 == (sumF x.1 x.2.1 x.2.2 a.2.1 a.2.2.1 a.2.2.2.1).1), ()), _)) = _
    rw [eqB]
end Go.AMach

/- Layer 17: PackPlays, the law. -/
namespace Go.AMach
set_option linter.unusedVariables false
set_option linter.unusedSimpArgs false
set_option linter.unnecessarySimpa false
open Go
set_option linter.unusedVariables false

abbrev pc2 (x y : HK.sems jeF) : HK.sems jxS := (x.1, (x.2.1, (x.2.2.1, (x.2.2.2.1, (x.2.2.2.2.1, (x.2.2.2.2.2.1, y))))))
theorem jAK {hn bn mn : Nat} {hrow : List jan} {brow mrow : List Int} {hs : List jan} {b mt : List Int} (K : PkV hn bn mn hrow brow mrow hs b mt) (pt : Int) :
    jMq hn pt bn brow hrow mn mrow = some (((), ()), pc2 (pkV hn bn mn hrow brow mrow pt) (pkV hs.length b.length mt.length hs b mt pt)) := by
  refine fin ?_
  unfold jNK
  rw [K.vh.all]
  extract_lets -merge +onlyGivenNames y1
  have e_y1 : y1 = _ := (congrArg RS.get (jkX K.vb K.ok.bB)).trans (jag _)
  clear_value y1; subst e_y1
  refine jaA (jkX K.vb K.ok.bB) ?_
  extract_lets -merge +onlyGivenNames y2
  have e_y2 : y2 = _ := (congrArg RS.get (jwJ hs K.ok.hl)).trans (jag _)
  clear_value y2; subst e_y2
  refine jaA (jwJ hs K.ok.hl) ?_
  extract_lets -merge +onlyGivenNames y3
  have e_y3 : y3 = _ := (congrArg RS.get (jkX K.vm K.ok.mB)).trans (jag _)
  clear_value y3; subst e_y3
  refine jaA (jkX K.vm K.ok.mB) ?_
  rfl
theorem Q_w29 {hn bn mn : Nat} {hrow : List jan} {brow mrow : List Int} {hs : List jan} {b mt : List Int} (K : PkV hn bn mn hrow brow mrow hs b mt) (N : PkN hs b mt) (pt : Int) :
    ∃ r, jMo [] hn pt bn brow hrow mn mrow = some r := by
  have hl : Nodes [] := ⟨by decide, fun x hx => by simp at hx, fun x hx => by simp at hx⟩
  have hb := N.long
  refine ⟨(((jbg [] (bytesOf b)).2.1, ((jbg [] (bytesOf b)).2.2, ())), (((), ((jbg [] (bytesOf b)).1.length, ((), (pt, ())))), ((bn, ()), (brow, (hrow, ((mn, ()), (mrow, ((jbg [] (bytesOf b)).1, ())))))))), fin ?_⟩
  unfold jNJ
  extract_lets -merge +onlyGivenNames y1
  have e_y1 : y1 = _ := (congrArg RS.get (jkW K pt)).trans (jag _)
  clear_value y1; subst e_y1
  refine jaA (jkW K pt) ?_
  extract_lets -merge +onlyGivenNames y2
  have e_y2 : y2 = _ := (congrArg RS.get (jKg [] hl (bytesOf b) (by rw [jaw]; omega))).trans (jag _)
  clear_value y2; subst e_y2
  refine jaA (jKg [] hl (bytesOf b) (by rw [jaw]; omega)) ?_
  rfl
theorem jwU (kr : Bool → Option Res) (kt : Unit → Option Res) (l : List ActS) (hg : ∀ a ∈ l, ActT.good a) (hl : l.length ≤ 60) (pt : Int) : ∀ (m i hn bn mn : Nat) (hrow : List jan) (brow mrow : List Int) (x : PkA), PkV hn bn mn hrow brow mrow x.1 x.2.1 x.2.2 → RkN x.1 x.2.1 x.2.2 → i ≤ l.length → l.length - i < m →
    jjx FUEL kr kt l m (i : Int) hn pt bn brow hrow mn mrow (bytesOf x.2.1) (bytesOf x.2.2) pt x.1.length x.1 = kt ()
  | 0, _, _, _, _, _, _, _, _, _, _, _, h => by omega
  | m + 1, i, hn, bn, mn, hrow, brow, mrow, x, K, R, hi, hm => by
    show jrs FUEL kr kt l (jjx FUEL kr kt l m) (i : Int) hn pt bn brow hrow mn mrow (bytesOf x.2.1) (bytesOf x.2.2) pt x.1.length x.1 = _
    unfold jrs
    by_cases h : i < l.length
    · have ha := hg _ (jbO (d := jkG) h)
      refine jaJ (decide_eq_true (show ((i : Int) < ((l.length : Nat) : Int)) by omega)) ?_
      refine jaJ (decide_eq_true (show (0 : Int) ≤ (i : Int) ∧ ((i : Int) < ((l.length : Nat) : Int)) by omega)) ?_
      rw [jal, jaD (i := i) (by omega)]
      by_cases hk : (rdd jkG l i).1 > 4
      · refine jaJ (decide_eq_true hk) ?_
        have K0 := PkV.self K.ok
        have g8 : jaT.good ((0, (3, (0, (0, (8, ()))))) : jaB) := ⟨rfl, rfl, rfl, rfl, rfl, trivial⟩
        have g0 : jaT.good (fldP 0 0) := ⟨rfl, rfl, rfl, rfl, rfl, trivial⟩
        obtain ⟨br, mr, K1, q1⟩ := jrp K pt _ g8 9 (by decide)
        have N1 : PkN x.1 (putF x.1 x.2.1 x.2.2 ((0, (3, (0, (0, (8, ()))))) : jaB) 9).2.1 (putF x.1 x.2.1 x.2.2 ((0, (3, (0, (0, (8, ()))))) : jaB) 9).2.2 := jyp R.n _ _
        obtain ⟨i1, i2⟩ := jQW K1 N1 pt (fldP 0 0) g0 1 (by omega)
        have ih := jwU kr kt l hg hl pt m (i + 1) x.1.length x.2.1.length x.2.2.length x.1 x.2.1 x.2.2 x K0 R (by omega) (by omega)
        extract_lets -merge +onlyGivenNames y14
        have e_y14 : y14 = _ := (congrArg RS.get (jAK K pt)).trans (jag _)
        clear_value y14; subst e_y14
        refine jaA (jAK K pt) ?_
        have q1 : jJC ((0, (3, (0, (0, (8, ()))))) : jaB) ((0, ((9 : Int), ())) : jaW) hn pt bn brow hrow mn mrow = _ := q1
        extract_lets -merge +onlyGivenNames y15
        have e_y15 : y15 = _ := (congrArg RS.get (q1)).trans (jag _)
        clear_value y15; subst e_y15
        refine jaA (q1) ?_
        by_cases hz : jcu x.1 (putF x.1 x.2.1 x.2.2 ((0, (3, (0, (0, (8, ()))))) : jaB) 9).2.1 (putF x.1 x.2.1 x.2.2 ((0, (3, (0, (0, (8, ()))))) : jaB) 9).2.2 (fldP 0 0) 1 ≠ 0
        · extract_lets -merge +onlyGivenNames y20
          have e_y20 : y20 = _ := (congrArg RS.get ((i1 hz))).trans (jag _)
          clear_value y20; subst e_y20
          refine jaA ((i1 hz)) ?_
          obtain ⟨w, hw⟩ := Q_w29 K1 N1 pt
          refine jaA hw ?_
          extract_lets -merge +onlyGivenNames y22
          have e_y22 : y22 = _ := (congrArg RS.get (jjv R.n.ok.hl pt x.2.1 x.2.2)).trans (jag _)
          clear_value y22; subst e_y22
          refine jaA (jjv R.n.ok.hl pt x.2.1 x.2.2) ?_
          extract_lets -merge +onlyGivenNames y23
          have e_y23 : y23 = _ := (congrArg RS.get (jbY K0 pt)).trans (jag _)
          clear_value y23; subst e_y23
          refine jaA (jbY K0 pt) ?_
          refine jaI (rfl) ?_
          exact ih
        · obtain ⟨n', hrow', brow', K', q⟩ := i2 (Classical.byContradiction hz)
          have N' : PkN _ _ _ := jQQ (x := (x.1, ((putF x.1 x.2.1 x.2.2 ((0, (3, (0, (0, (8, ()))))) : jaB) 9).2.1, (putF x.1 x.2.1 x.2.2 ((0, (3, (0, (0, (8, ()))))) : jaB) 9).2.2))) N1 ((2, (fldP 0 0, (fldP 0 0, (1, ((0, (0, ())), ()))))) : ActS)
          have eA : actV ((2, (fldP 0 0, (fldP 0 0, (1, ((0, (0, ())), ()))))) : ActS) (x.1, ((putF x.1 x.2.1 x.2.2 ((0, (3, (0, (0, (8, ()))))) : jaB) 9).2.1, (putF x.1 x.2.1 x.2.2 ((0, (3, (0, (0, (8, ()))))) : jaB) 9).2.2)) = (0, (x.1.map (mvH (jaN x.1 (putF x.1 x.2.1 x.2.2 ((0, (3, (0, (0, (8, ()))))) : jaB) 9).2.1 (putF x.1 x.2.1 x.2.2 ((0, (3, (0, (0, (8, ()))))) : jaB) 9).2.2 (fldP 0 0)).1 1), (insB (putF x.1 x.2.1 x.2.2 ((0, (3, (0, (0, (8, ()))))) : jaB) 9).2.1 (jaN x.1 (putF x.1 x.2.1 x.2.2 ((0, (3, (0, (0, (8, ()))))) : jaB) 9).2.1 (putF x.1 x.2.1 x.2.2 ((0, (3, (0, (0, (8, ()))))) : jaB) 9).2.2 (fldP 0 0)).1.toNat (1 : Int).toNat, (putF x.1 x.2.1 x.2.2 ((0, (3, (0, (0, (8, ()))))) : jaB) 9).2.2))) := by
            unfold actV
            rw [if_neg (show ¬ (2 : Int) = 0 by omega), if_neg (show ¬ (2 : Int) = 1 by omega), if_pos rfl, if_neg hz]
          rw [eA] at N'
          obtain ⟨w, hw⟩ := Q_w29 K' N' pt
          rcases q with q | ⟨q0, q⟩
          · extract_lets -merge +onlyGivenNames y20
            have e_y20 : y20 = _ := (congrArg RS.get (q)).trans (jag _)
            clear_value y20; subst e_y20
            refine jaA (q) ?_
            refine jaA hw ?_
            extract_lets -merge +onlyGivenNames y22
            have e_y22 : y22 = _ := (congrArg RS.get (jjv R.n.ok.hl pt x.2.1 x.2.2)).trans (jag _)
            clear_value y22; subst e_y22
            refine jaA (jjv R.n.ok.hl pt x.2.1 x.2.2) ?_
            extract_lets -merge +onlyGivenNames y23
            have e_y23 : y23 = _ := (congrArg RS.get (jbY K0 pt)).trans (jag _)
            clear_value y23; subst e_y23
            refine jaA (jbY K0 pt) ?_
            refine jaI (rfl) ?_
            exact ih
          · refine jsm (q0) ?_
            extract_lets -merge +onlyGivenNames y16
            have e_y16 : y16 = _ := (congrArg RS.get (q)).trans (jag _)
            clear_value y16; subst e_y16
            refine jaA (q) ?_
            refine jaA hw ?_
            extract_lets -merge +onlyGivenNames y22
            have e_y22 : y22 = _ := (congrArg RS.get (jjv R.n.ok.hl pt x.2.1 x.2.2)).trans (jag _)
            clear_value y22; subst e_y22
            refine jaA (jjv R.n.ok.hl pt x.2.1 x.2.2) ?_
            extract_lets -merge +onlyGivenNames y23
            have e_y23 : y23 = _ := (congrArg RS.get (jbY K0 pt)).trans (jag _)
            clear_value y23; subst e_y23
            refine jaA (jbY K0 pt) ?_
            refine jaI (rfl) ?_
            exact ih
      · refine jaI (decide_eq_false hk) ?_
        refine jaJ (decide_eq_true (show (0 : Int) ≤ (i : Int) ∧ ((i : Int) < ((l.length : Nat) : Int)) by omega)) ?_
        obtain ⟨hn', bn', hrow', brow', mrow', K', q⟩ := Q_doesV K R pt (rdd jkG l i) ha
        have R' := actV_R R (rdd jkG l i) ha
        have ih := jwU kr kt l hg hl pt m (i + 1) hn' bn' mn hrow' brow' mrow' (actV (rdd jkG l i) x).2 K' R' (by omega) (by omega)
        rcases q with q | ⟨q0, g, q⟩ | ⟨q0, q1, g, q⟩
        · extract_lets -merge +onlyGivenNames y28
          have e_y28 : y28 = _ := (congrArg RS.get (q)).trans (jag _)
          clear_value y28; subst e_y28
          refine jaA (q) ?_
          refine jaI (rfl) ?_
          extract_lets -merge +onlyGivenNames y29
          have e_y29 : y29 = _ := (congrArg RS.get (jbY K' pt)).trans (jag _)
          clear_value y29; subst e_y29
          refine jaA (jbY K' pt) ?_
          refine jaI (rfl) ?_
          exact ih
        · refine jsm (q0) ?_
          extract_lets -merge +onlyGivenNames y26
          have e_y26 : y26 = _ := (congrArg RS.get (q)).trans (jag _)
          clear_value y26; subst e_y26
          refine jaA (q) ?_
          refine jaI (rfl) ?_
          extract_lets -merge +onlyGivenNames y27
          have e_y27 : y27 = _ := (congrArg RS.get (jbY K' pt)).trans (jag _)
          clear_value y27; subst e_y27
          refine jaA (jbY K' pt) ?_
          refine jaI (rfl) ?_
          exact ih
        · refine jsm (q0) ?_
          refine jsm (q1) ?_
          extract_lets -merge +onlyGivenNames y24
          have e_y24 : y24 = _ := (congrArg RS.get (q)).trans (jag _)
          clear_value y24; subst e_y24
          refine jaA (q) ?_
          refine jaI (rfl) ?_
          extract_lets -merge +onlyGivenNames y25
          have e_y25 : y25 = _ := (congrArg RS.get (jbY K' pt)).trans (jag _)
          clear_value y25; subst e_y25
          refine jaA (jbY K' pt) ?_
          refine jaI (rfl) ?_
          exact ih
    · refine jaI (decide_eq_false (show ¬ ((i : Int) < ((l.length : Nat) : Int)) by omega)) ?_
      rfl
theorem jng (pt : Int) (s : ByteArray) (l : List jai) (h : (Ty.slice jay).good l) (as : List ActS) (hg : (Ty.slice ActT).good as) : jJy pt s l as = some ((true, ()), ()) := by
  refine fin ?_
  unfold jNu
  by_cases h12 : s.size > 12000
  · refine jaJ (decide_eq_true (show ((s.size : Nat) : Int) > 12000 by omega)) ?_
    extract_lets -merge +onlyGivenNames y1
    have e_y1 : y1 = _ := (congrArg RS.get (jeA)).trans (jag _)
    clear_value y1; subst e_y1
    refine jaA (jeA) ?_
    rfl
  refine jaI (decide_eq_false (show ¬ ((s.size : Nat) : Int) > 12000 by omega)) ?_
  obtain ⟨bb, hb, hb2⟩ := Q_Long l (jyX h)
  extract_lets -merge +onlyGivenNames y2
  have e_y2 : y2 = _ := (congrArg RS.get (hb)).trans (jag _)
  clear_value y2; subst e_y2
  refine jaA (hb) ?_
  cases bb with
  | true =>
    refine jaJ (rfl) ?_
    extract_lets -merge +onlyGivenNames y3
    have e_y3 : y3 = _ := (congrArg RS.get (jeA)).trans (jag _)
    clear_value y3; subst e_y3
    refine jaA (jeA) ?_
    rfl
  | false =>
    have hl := jLq h (hb2 rfl)
    refine jaI (rfl) ?_
    by_cases hlen : as.length > 60
    · refine jaJ (decide_eq_true (show ((as.length : Nat) : Int) > 60 by omega)) ?_
      extract_lets -merge +onlyGivenNames y4
      have e_y4 : y4 = _ := (congrArg RS.get (jeA)).trans (jag _)
      clear_value y4; subst e_y4
      refine jaA (jeA) ?_
      rfl
    refine jaI (decide_eq_false (show ¬ ((as.length : Nat) : Int) > 60 by omega)) ?_
    by_cases hs : s.size ≤ 9216
    · have q1 := Q_pNew pt s hs
      obtain ⟨r0, r1⟩ := Q_rNew pt s hs
      have hbl := jba s
      have hbo := jgK s
      have qw := Q_pWalk l hl pt (jax s) jfq (by omega)
      rw [hbo, hbl] at qw
      have qr := jJR l hl s hs (bytesOf jfq) pt
      have P := pk_ok l s hs
      have K := PkV.self P
      have R : RkN (hdsV l s) (jax s) jfq := ⟨⟨P, by omega, fun x hx => by have := jwX l s x hx; omega⟩, by decide⟩
      have qa := jbY K pt
      rw [hbo, hbl] at qa
      rw [hbl] at K
      have e1 : (jbg l s).1 = hdsV l s := rfl
      rw [e1] at qw qr
      generalize hdsV l s = hd at qw qr P K R qa
      generalize (jbg l s).2.1 = w1 at qw qr
      generalize (jbg l s).2.2 = w2 at qw qr
      generalize jax s = b at q1 qw P K R qa hbo hbl
      generalize jfq = mt at q1 r1 qw qr P K R qa
      extract_lets -merge +onlyGivenNames y9
      have e_y9 : y9 = _ := (congrArg RS.get (q1)).trans (jag _)
      clear_value y9; subst e_y9
      refine jaA (q1) ?_
      refine jsm (r0) ?_
      extract_lets -merge +onlyGivenNames y10
      have e_y10 : y10 = _ := (congrArg RS.get (r1)).trans (jag _)
      clear_value y10; subst e_y10
      refine jaA (r1) ?_
      refine jaI (rfl) ?_
      extract_lets -merge +onlyGivenNames y11
      have e_y11 : y11 = _ := (congrArg RS.get (qw)).trans (jag _)
      clear_value y11; subst e_y11
      refine jaA (qw) ?_
      extract_lets -merge +onlyGivenNames y12
      have e_y12 : y12 = _ := (congrArg RS.get (qr)).trans (jag _)
      clear_value y12; subst e_y12
      refine jaA (qr) ?_
      refine jaI (bneF rfl) ?_
      refine jaI (bneF rfl) ?_
      extract_lets -merge +onlyGivenNames y13
      have e_y13 : y13 = _ := (congrArg RS.get (qa)).trans (jag _)
      clear_value y13; subst e_y13
      refine jaA (qa) ?_
      refine jaI (rfl) ?_
      have hL := fun kr kt => jwU kr kt as hg.2 (by omega) pt FUEL 0 hd.length s.size mt.length hd b mt (hd, (b, mt)) K R (by omega) (by unfold FUEL; omega)
      refine (hL _ _).trans ?_
      extract_lets -merge +onlyGivenNames y31
      have e_y31 : y31 = _ := (congrArg RS.get (jeA)).trans (jag _)
      clear_value y31; subst e_y31
      refine jaA (jeA) ?_
      rfl
    · obtain ⟨n0, n1⟩ := jJV pt s (by omega)
      have r := jJT pt s (by omega)
      refine jsm (n0) ?_
      refine jaA (n1) ?_
      extract_lets -merge +onlyGivenNames y7
      have e_y7 : y7 = _ := (congrArg RS.get (r)).trans (jag _)
      clear_value y7; subst e_y7
      refine jaA (r) ?_
      refine jaI (rfl) ?_
      extract_lets -merge +onlyGivenNames y8
      have e_y8 : y8 = _ := (congrArg RS.get (jeA)).trans (jag _)
      clear_value y8; subst e_y8
      refine jaA (jeA) ?_
      rfl
theorem Pure.PackPlays (pt : Int) (_ : (Ty.int .i64).good pt) (s : ByteArray) (hs : Ty.str.good s) (l : List jai) (h : (Ty.slice jay).good l) (as : List ActS) (hg : (Ty.slice ActT).good as) : jJy pt s l as = some ((true, ()), ()) := jng pt s l h as hg
end Go.AMach
