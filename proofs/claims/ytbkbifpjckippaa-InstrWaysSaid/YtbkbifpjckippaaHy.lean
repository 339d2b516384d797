/- law19: the contract of InstrWays' end. -/
import Derived.Test.YtbkbifpjckippaaHv
import Derived.Test.YtbkbifpjckippaaAm27
namespace Go.AMach
set_option linter.unusedVariables false
set_option linter.unusedSimpArgs false
set_option linter.unnecessarySimpa false
open Go Go.Proofs Go.RowKit Go.Shelf Go.Lib Go.Sort
set_option linter.unusedVariables false
set_option linter.unusedSimpArgs false
set_option linter.unusedSectionVars false
namespace H19
set_option linter.unusedVariables false
set_option linter.unusedSimpArgs false
set_option linter.unnecessarySimpa false
theorem hs_wsl [Sites] {ι : Iota} {φ : Phi} {H : AH} {w : World} {v : Value} {id n : Nat} {l : List WayS} (hS : SRel ι φ H w) (hH : H.at id = some (.row true 3 (.ty WayT l))) (h : ARel ι φ v (.hs false id 0 n)) (hn : n = l.length) : WSl w 0 v l := by
  subst hn
  generalize hx : (AV.hs false id 0 l.length) = x at h
  cases h with
  | hs tg id' e n a cap loc hφ hc ht hm =>
    cases hx
    obtain ⟨loc', hl', hb⟩ := hS.blk _ _ hH
    rw [hφ] at hl'; cases hl'
    rcases hm with h0 | ⟨b, off, sz, lim, len, rfl, rfl, h1, h2⟩
    · have : l = [] := List.length_eq_zero_iff.1 (by omega)
      subst this
      exact WSl.nil _ _ _ _
    · obtain ⟨⟨hsz, hlen⟩, _, _, cs, T, F, hcs, hF, _, hr⟩ := hb
      subst hsz
      refine WSl.mk' hcs (Nat.zero_le _) hc fun i j hi hj => ?_
      have hrow : (Rows.ty WayT l : Rows AV).toL[i]? = some (WayT.enc (rdd zWayS l i)) := by rw [toL_at (by exact hi)]; rfl
      have hx : (WayT.enc (rdd zWayS l i))[j]? = some (.v (wcV (rdd zWayS l i) j)) := by
        match j, hj with
        | 0, _ => rfl
        | 1, _ => rfl
        | 2, _ => rfl
      obtain ⟨u, hu, hr2, _⟩ := hr.2 i j _ _ hrow hx
      generalize wcV (rdd zWayS l i) j = y at *
      rw [Nat.zero_mul, Nat.add_zero, hu]
      cases hr2; rfl
  | _ => cases hx
theorem tail2_ok [Sites] (hB : SpecOk Try.prog 31 (specQ [.ty (.slice WayT), .ty (.slice WayT)] [] [.ty (.slice WayT)] [] fun a b => Q_z0r a.1 a.2.1))
   (hE : SpecOk Try.prog 30 (specQ [.agg InstrT] [] [.ty (.int .u8), .ty (.int .i64), .ty .bool] [] fun a b => Q_z0w a.1))
   (hWs : SpecOk Try.prog 24 (specQ [.ty (.slice WayT), .ty (.slice WayT)] [] [.ty .bool] [] fun a b => Q_z0f a.1 a.2.1)) :
   TailOk Try.prog Try.f6.ntmps (partAt (bodyOf Try.f6) [1, 1, 1, 1, 1, 1, 1]) [2, 5] 4 true (specQ [.ptr 0 0 0, .hs 1 0] [.cell BlockT, .row WayT] ro_z01 rh_z01 fun a b => Q_z01 a.2.1 b.1 b.2.1) := by
  intro ι φ H w a xs x H' hS hfr hv hN hc
  unfold specQ at hc
  split at hc
  case h_2 => simp [Tr.val] at hc
  rename_i aa bb h1 h2
  have e1 := EK.decs_encs _ _ _ h1
  have e2 := HK.decs_encs _ _ _ h2
  obtain ⟨a1, n, a3⟩ := aa
  obtain ⟨b0, l, b2⟩ := bb
  clear h1 h2
  have hH0 : H.at 0 = some (.row true 2 (.ty BlockT [b0])) := by rw [e2]; rfl
  have hH1 : H.at 1 = some (.row true 3 (.ty WayT l)) := by rw [e2]; rfl
  have hHl : H.length = 2 := by rw [e2]; rfl
  cases hq : Q_z01 n b0 l with
  | none =>
    have hc : (Tr.br (Q_z01 n b0 l).isSome _ _).val = _ := hc
    rw [hq] at hc; simp [Tr.val] at hc
  | some q =>
  have hc : (Tr.br (Q_z01 n b0 l).isSome (.leaf (encRes ro_z01 rh_z01 (RS.get (Q_z01 n b0 l))).1 (encRes ro_z01 rh_z01 (RS.get (Q_z01 n b0 l))).2) .no).val = some (.ok x, H') := hc
  rw [hq] at hc
  simp only [RS.get, Option.getD_some, Option.isSome_some, Tr.val, if_true, Option.some.injEq] at hc
  unfold Q_z01 at hq
  cases hg : (decide (b0.2.1.length ≤ 32) && (fromOk b0.2.1 && (decide (n = l.length) && decide (l = W19.waysB (b0.2.1.map fromNd))))) with
  | false => rw [hg] at hq; cases hq
  | true =>
  rw [hg] at hq
  cases hq
  simp only [Bool.and_eq_true, decide_eq_true_eq] at hg
  obtain ⟨hlen, hok, hnl, hlw⟩ := hg
  have hc2 : x = .v (.bool true) ∧ H' = [none, none] := by cases hc; exact ⟨rfl, rfl⟩
  obtain ⟨rfl, rfl⟩ := hc2
  rw [e1] at hv
  obtain ⟨u, us, hu, ha, hv⟩ := hv.uncons
  obtain ⟨u', us', hu', ha', _⟩ := hv.uncons
  subst hu'
  simp only [List.map_cons, List.map_nil, List.cons.injEq] at hu
  obtain ⟨hu, hu2, _⟩ := hu
  subst hu hu2
  have ha : ARel ι φ (a.tmps.getD 2 undef) (.ptr 0 0 0) := ha
  have ha' : ARel ι φ (a.tmps.getD 5 undef) (.hs false 1 0 n) := ha'
  have hw5 := hs_wsl hS hH1 ha' hnl
  rw [hlw] at hw5
  generalize hp2 : a.tmps.getD 2 undef = p2 at ha
  cases ha with
  | ptr _ _ _ b off sz lim len hφ0 he =>
  obtain ⟨loc, hl0, hb0⟩ := hS.blk 0 _ hH0
  rw [hφ0] at hl0; cases hl0
  obtain ⟨⟨hsz, hlen0⟩, _, _, cs, T, F, hcs, hF, _, hr⟩ := hb0
  subst hsz
  obtain ⟨u, hu1, hu2, _⟩ := hr.2 0 1 _ (.sl false 7 (.ty InstrT b0.2.1)) rfl rfl
  have hu3 : ARel ι φ u (.sl false 7 (.ty InstrT b0.2.1)) := by
    generalize (Rows.ty InstrT b0.2.1 : Rows AV) = es at hu2
    cases hu2 with
    | sl a' cap tg sz es hc ht hw b' off cs T F us hm g1 g2 g3 => exact .sl a' cap _ _ _ hc ht hw b' off cs T F us hm g1 g2 g3
  obtain ⟨a0, cap0, rfl, hin⟩ := ins_inp hS hu3
  obtain ⟨tm, dfs⟩ := a
  obtain ⟨tl, rfl⟩ : ∃ tl : List Value, tm = tl.toArray := ⟨tm.toList, by simp⟩
  have hl189 : tl.length = 188 + 1 := by simpa using hN
  have hlt : ∀ b o, ι b = some o → b < w.heap.size := fun b o hb => (Array.getElem?_eq_some_iff.1 (hS.imm b o hb)).1
  have hat : ∀ id blk, ¬ AH.at [none, none] id = some blk := fun id blk h => by
    match id, h with
    | 0, h => cases h
    | 1, h => cases h
    | k + 2, h => exact absurd h (by simp [AH.at])
  refine wpIn_wide.2 (run_walk hB hE hWs dfs _ w b (off + 0 * 2 + 0) b0.2.1 a0 cap0 hlen hok hin ?_ _ hw5 ?_ tl hl189 ?_ ?_)
  · rw [cellof hcs]; exact hu1
  · intro l' wr hl' h4 hBl
    refine ⟨rfl, rfl, by simpa using hl', ι, φ, ⟨by rw [hHl]; simp, fun i hi => rfl, fun i h1 _ => hfr i h1⟩,
      ⟨fun b o hb => (hBl.block b (hlt b o hb)).trans (hS.imm b o hb), fun id blk hid => absurd hid (hat _ _), fun id blk b off sz lim len hid => absurd hid (hat _ _), fun id id' blk blk' b off sz lim len off' sz' lim' len' hid => absurd hid (hat _ _)⟩,
      ⟨hBl.os, hBl.tape, hBl.output, hBl.size, fun b hb _ => hBl.block b hb, fun b hb => ?_, fun _ _ h => h, fun _ h h' => absurd h h'⟩, ?_⟩
    · obtain ⟨id, blk, o, sz, l1, n1, q1, q2⟩ := hb
      exact absurd q1 (hat _ _)
    · have e : l'.toArray.getD 4 undef = l'.getD 4 undef := by simp [List.getD_eq_getElem?_getD]
      show ARel ι _ (l'.toArray.getD 4 undef) _
      rw [e, h4]
      exact .v _
  · simpa using hp2
  · simp
end H19
end Go.AMach
