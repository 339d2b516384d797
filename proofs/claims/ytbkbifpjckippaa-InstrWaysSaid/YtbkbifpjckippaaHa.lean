/- law19: the table of shapes: contracts by hand. -/
import Derived.Test.YtbkbifpjckippaaDx
import Derived.Test.YtbkbifpjckippaaAm27
import Derived.Test.YtbkbifpjckippaaAm22
import Derived.Test.YtbkbifpjckippaaProg
namespace Go.AMach
set_option linter.unusedVariables false
set_option linter.unusedSimpArgs false
set_option linter.unnecessarySimpa false
open Go Go.Proofs Go.RowKit
set_option linter.unusedVariables false
set_option linter.unusedSectionVars false
set_option linter.unusedSimpArgs false
namespace H19
set_option linter.unusedVariables false
set_option linter.unusedSimpArgs false
set_option linter.unnecessarySimpa false
variable [Sites]

theorem spec_of (hm : Try.prog.follows .mixedOrders = true) {cf : CallF} (hcf : CallSound Try.prog cf) {f : FuncId} {fn : Func} {c : Code} {pol : Pol} {ls : Loops} (s : Spec)
    (hfn : Try.prog.funcs[f]? = some fn) (hbody : fn.body = some c) (hL : LOk Try.prog cf fn.ntmps 0 0 pol ls c) (hs : (cf.site.map (·.1)).getD f = f) (hmv : nodupB (moved pol.free 0) = true)
    (h : ∀ args H r, (s args H).val = some r → H = [] ∧ args.length ≤ fn.ntmps ∧ runFT Try.prog cf pol ls fn c args [] = some r) : SpecOk Try.prog f s := by
  intro ι φ H w args vs r H' hS hfr hv hc
  obtain ⟨rfl, hlen, hr⟩ := h args H (r, H') hc
  exact sound hm hcf hS hfr hv (runFT_some Try.prog (n := 0) hfn hbody hlen hL hr hs hmv)

def p49 : Pol := ⟨fun i => none, fun i => none, some [(0, .keep)], [.keep], []⟩
noncomputable def shapesR : Option Res := runFT Try.prog (mkCF [] []) p49 (fun _ => none) Try.f49 (bodyOf Try.f49) [] []
noncomputable def shapes_s : Spec := fun args H => match args, H with
  | [], [] => match shapesR with
    | some (r, H') => .leaf r H'
    | none => .no
  | _, _ => .no
theorem shapes_ok (hm : Try.prog.follows .mixedOrders = true) : SpecOk Try.prog 49 shapes_s := by
  refine spec_of hm (cf := mkCF [] []) (tab_ok specs_nil) (pol := p49) (ls := fun _ => none) shapes_s Try.func49 (show Try.f49.body = some (bodyOf Try.f49) from rfl) ?_ rfl (by kernel_rfl) fun args H r h => ?_
  · show LOk Try.prog (mkCF [] []) _ 0 0 p49 _ (bodyOf Try.f49)
    exact ⟨trivial, trivial, trivial, trivial, trivial, trivial, trivial⟩
  · unfold shapes_s at h
    split at h
    case h_2 => simp [Tr.val] at h
    refine ⟨rfl, by simp, ?_⟩
    show shapesR = some r
    split at h
    case h_2 => simp [Tr.val] at h
    rename_i r' H' e
    rw [e]
    exact h

def p32 : Pol := ⟨fun i => none, fun i => none, some [(2, .keep), (3, .keep)], [.keep, .keep], []⟩
noncomputable def cf32 : CallF := mkCF [(49, shapes_s)] []
noncomputable def of_r (op : Int) : Option Res := runFT Try.prog cf32 p32 (fun _ => none) Try.f32 (bodyOf Try.f32) [.v (.int .u8 op)] []
noncomputable def of_x (op : Int) : Option Res := (instr_of_s [.v (.int .u8 op)] []).val
noncomputable def of_rest (op : Int) : Option Res := runT Try.prog cf32 14 0 p32 (fun _ => none) (partAt (bodyOf Try.f32) [1, 1])
  ⟨[(9, .v (.bool false)), (8, .v (.bool (decide (op > 23)))), (7, .v (.int .u8 op)), (6, .v (.bool false)), (5, .v (.bool (decide (op < 1)))), (4, .v (.int .u8 op)), (3, .v (.bool false)), (2, .ptr 0 0 0), (0, .v (.int .u8 op))],
    [some (.row true 7 (.lit [[.v (.bool false), .v (.bool false), .v .nilFunc, .v .nilFunc, .v (.int .u8 0), .v (.int .i64 0), .v (.int .i64 0)]]))], 1⟩ (endK Try.prog Try.f32 0 p32)
theorem of_cut (op : Int) : of_r op = cond (decide (op < 1)) (of_x 0) (cond (decide (op > 23)) (of_x 0) (of_rest op)) := by kernel_rfl
theorem of_0 : of_r 0 = of_x 0 := by kernel_rfl
theorem of_1 : of_r 1 = of_x 1 := by kernel_rfl
theorem of_2 : of_r 2 = of_x 2 := by kernel_rfl
theorem of_3 : of_r 3 = of_x 3 := by kernel_rfl
theorem of_4 : of_r 4 = of_x 4 := by kernel_rfl
theorem of_5 : of_r 5 = of_x 5 := by kernel_rfl
theorem of_6 : of_r 6 = of_x 6 := by kernel_rfl
theorem of_7 : of_r 7 = of_x 7 := by kernel_rfl
theorem of_8 : of_r 8 = of_x 8 := by kernel_rfl
theorem of_9 : of_r 9 = of_x 9 := by kernel_rfl
theorem of_10 : of_r 10 = of_x 10 := by kernel_rfl
theorem of_11 : of_r 11 = of_x 11 := by kernel_rfl
theorem of_12 : of_r 12 = of_x 12 := by kernel_rfl
theorem of_13 : of_r 13 = of_x 13 := by kernel_rfl
theorem of_14 : of_r 14 = of_x 14 := by kernel_rfl
theorem of_15 : of_r 15 = of_x 15 := by kernel_rfl
theorem of_16 : of_r 16 = of_x 16 := by kernel_rfl
theorem of_17 : of_r 17 = of_x 17 := by kernel_rfl
theorem of_18 : of_r 18 = of_x 18 := by kernel_rfl
theorem of_19 : of_r 19 = of_x 19 := by kernel_rfl
theorem of_20 : of_r 20 = of_x 20 := by kernel_rfl
theorem of_21 : of_r 21 = of_x 21 := by kernel_rfl
theorem of_22 : of_r 22 = of_x 22 := by kernel_rfl
theorem of_23 : of_r 23 = of_x 23 := by kernel_rfl
theorem of_out {op : Int} (h : op < 1 ∨ 23 < op) : of_x op = of_x 0 := by
  have e : ∀ x : Int, x < 1 ∨ 23 < x → of_x x = (some (.ok (.tup [.agg [.v (.bool false), .v (.bool false), .v .nilFunc, .v .nilFunc, .v (.int .u8 0), .v (.int .i64 0), .v (.int .i64 0)], .v (.bool false)]), []) : Option Res) := fun x hx => by
    unfold of_x instr_of_s
    simp only [Tr.val]
    rw [if_pos (decide_eq_true hx)]
  rw [e op h, e 0 (by omega)]
theorem of_all (op : Int) : of_r op = of_x op := by
  by_cases h : op < 1 ∨ 23 < op
  · rw [of_out h, of_cut]
    by_cases h1 : op < 1
    · rw [decide_eq_true h1]; rfl
    · rw [decide_eq_false h1, decide_eq_true (show op > 23 by omega)]; rfl
  · have h : op = 1 ∨ op = 2 ∨ op = 3 ∨ op = 4 ∨ op = 5 ∨ op = 6 ∨ op = 7 ∨ op = 8 ∨ op = 9 ∨ op = 10 ∨ op = 11 ∨ op = 12 ∨ op = 13 ∨ op = 14 ∨ op = 15 ∨ op = 16 ∨ op = 17 ∨ op = 18 ∨ op = 19 ∨ op = 20 ∨ op = 21 ∨ op = 22 ∨ op = 23 := by omega
    rcases h with rfl | rfl | rfl | rfl | rfl | rfl | rfl | rfl | rfl | rfl | rfl | rfl | rfl | rfl | rfl | rfl | rfl | rfl | rfl | rfl | rfl | rfl | rfl
    · exact of_1
    · exact of_2
    · exact of_3
    · exact of_4
    · exact of_5
    · exact of_6
    · exact of_7
    · exact of_8
    · exact of_9
    · exact of_10
    · exact of_11
    · exact of_12
    · exact of_13
    · exact of_14
    · exact of_15
    · exact of_16
    · exact of_17
    · exact of_18
    · exact of_19
    · exact of_20
    · exact of_21
    · exact of_22
    · exact of_23
theorem of_ok (hm : Try.prog.follows .mixedOrders = true) : SpecOk Try.prog 32 instr_of_s := by
  refine spec_of hm (cf := cf32) (tab_ok (specs_cons (shapes_ok hm) specs_nil)) (pol := p32) (ls := fun _ => none) instr_of_s Try.func32 (show Try.f32.body = some (bodyOf Try.f32) from rfl) ?_ rfl (by kernel_rfl) fun args H r h => ?_
  · show LOk Try.prog cf32 _ 0 0 p32 _ (bodyOf Try.f32)
    exact ⟨trivial, ⟨trivial, ⟨trivial, trivial⟩, trivial⟩, trivial, trivial⟩
  · have hsh : ∃ op, args = [.v (.int .u8 op)] ∧ H = [] := by
      unfold instr_of_s at h
      split at h
      · exact ⟨_, rfl, rfl⟩
      · simp [Tr.val] at h
    obtain ⟨op, rfl, rfl⟩ := hsh
    exact ⟨rfl, by show 1 ≤ 14; omega, (of_all op).trans h⟩

def p36 : Pol := ⟨fun i => none, fun i => none, some [(2, .keep)], [.keep], []⟩
noncomputable def id_s : Spec := fun args H => match args, H with
  | [.v (.int .i64 n)], [] => .leaf (.ok (.v (.bool (idV n)))) []
  | _, _ => .no
theorem id_r (n : Int) : runFT Try.prog (mkCF [] []) p36 (fun _ => none) Try.f36 (bodyOf Try.f36) [.v (.int .i64 n)] [] = cond (decide (n ≥ 1)) (some (.ok (.v (.bool (decide (n ≤ 65534)))), [])) (some (.ok (.v (.bool false)), [])) := by kernel_rfl
theorem id_ok (hm : Try.prog.follows .mixedOrders = true) : SpecOk Try.prog 36 id_s := by
  refine spec_of hm (cf := mkCF [] []) (tab_ok specs_nil) (pol := p36) (ls := fun _ => none) id_s Try.func36 (show Try.f36.body = some (bodyOf Try.f36) from rfl) ?_ rfl (by kernel_rfl) fun args H r h => ?_
  · show LOk Try.prog (mkCF [] []) _ 0 0 p36 _ (bodyOf Try.f36)
    exact ⟨trivial, trivial, trivial⟩
  · unfold id_s at h
    split at h
    case h_2 => simp [Tr.val] at h
    rename_i n
    refine ⟨rfl, by show 1 ≤ 9; omega, ?_⟩
    rw [id_r, ← h]
    unfold idV
    by_cases h1 : 1 ≤ n
    · rw [decide_eq_true (show n ≥ 1 from h1)]; rfl
    · rw [decide_eq_false (show ¬ n ≥ 1 from h1)]; rfl

def p33 : Pol := ⟨fun i => none, fun i => none, some [(4, .keep)], [.keep], []⟩
noncomputable def cf33 : CallF := mkCF [(36, id_s)] []
theorem target_r (t te : Bool) (a b : FuncId) (nm le mo to : Int) : runFT Try.prog cf33 p33 (fun _ => none) Try.f33 (bodyOf Try.f33) [.agg [.v (.bool t), .v (.bool te), .fn (.func a) [] [], .fn (.func b) [] [], .v (.int .u8 nm), .v (.int .i64 le), .v (.int .i64 mo)], .v (.int .i64 to)] [] =
    cond t (some (.ok (.v (.bool (idV to))), [])) (cond te (cond (decide (to ≥ 1)) (some (.ok (.v (.bool (decide (to ≤ 4)))), [])) (some (.ok (.v (.bool false)), []))) (some (.ok (.v (.bool (to == 0))), []))) := by kernel_rfl
theorem target_ok (hm : Try.prog.follows .mixedOrders = true) : SpecOk Try.prog 33 shape_target_s := by
  refine spec_of hm (cf := cf33) (tab_ok (specs_cons (id_ok hm) specs_nil)) (pol := p33) (ls := fun _ => none) shape_target_s Try.func33 (show Try.f33.body = some (bodyOf Try.f33) from rfl) ?_ rfl (by kernel_rfl) fun args H r h => ?_
  · show LOk Try.prog cf33 _ 0 0 p33 _ (bodyOf Try.f33)
    exact ⟨trivial, ⟨trivial, ⟨trivial, trivial⟩, trivial, ⟨trivial, trivial⟩, trivial⟩, trivial, trivial⟩
  · unfold shape_target_s at h
    split at h
    case h_2 => simp [Tr.val] at h
    rename_i t te a b nm le mo to
    refine ⟨rfl, by show 2 ≤ 21; omega, ?_⟩
    rw [target_r, ← h]
    unfold tgtV
    cases t
    · cases te
      · simp only [cond_false, Tr.val]
        rfl
      · simp only [cond_false, cond_true, Tr.val]
        by_cases h1 : 1 ≤ to
        · rw [decide_eq_true (show to ≥ 1 from h1)]; rfl
        · rw [decide_eq_false (show ¬ to ≥ 1 from h1)]; rfl
    · rfl

def p34 : Pol := ⟨fun i => none, fun i => none, some [(4, .keep)], [.keep], []⟩
theorem number_r (t te : Bool) (a b : FuncId) (nm le mo n : Int) : runFT Try.prog cf33 p34 (fun _ => none) Try.f34 (bodyOf Try.f34) [.agg [.v (.bool t), .v (.bool te), .fn (.func a) [] [], .fn (.func b) [] [], .v (.int .u8 nm), .v (.int .i64 le), .v (.int .i64 mo)], .v (.int .i64 n)] [] =
    cond (decide (nm > 0)) (some (.ok (.v (.bool (idV n))), [])) (cond (decide (n ≥ le)) (some (.ok (.v (.bool (decide (n ≤ mo)))), [])) (some (.ok (.v (.bool false)), []))) := by kernel_rfl
theorem number_ok (hm : Try.prog.follows .mixedOrders = true) : SpecOk Try.prog 34 shape_number_s := by
  refine spec_of hm (cf := cf33) (tab_ok (specs_cons (id_ok hm) specs_nil)) (pol := p34) (ls := fun _ => none) shape_number_s Try.func34 (show Try.f34.body = some (bodyOf Try.f34) from rfl) ?_ rfl (by kernel_rfl) fun args H r h => ?_
  · show LOk Try.prog cf33 _ 0 0 p34 _ (bodyOf Try.f34)
    exact ⟨trivial, ⟨trivial, ⟨trivial, trivial⟩, trivial⟩, trivial, trivial⟩
  · unfold shape_number_s at h
    split at h
    case h_2 => simp [Tr.val] at h
    rename_i t te a b nm le mo n
    refine ⟨rfl, by show 2 ≤ 20; omega, ?_⟩
    rw [number_r, ← h]
    unfold numV
    by_cases h1 : 0 < nm
    · rw [decide_eq_true (show nm > 0 from h1)]; rfl
    · rw [decide_eq_false (show ¬ nm > 0 from h1)]
      by_cases h2 : le ≤ n
      · rw [decide_eq_true (show n ≥ le from h2)]; rfl
      · rw [decide_eq_false (show ¬ n ≥ le from h2)]; rfl
end H19
end Go.AMach
