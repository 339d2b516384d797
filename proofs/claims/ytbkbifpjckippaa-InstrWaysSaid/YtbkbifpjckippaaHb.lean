/- Parts of the proof. -/
import Derived.Test.YtbkbifpjckippaaDx
import Derived.Test.YtbkbifpjckippaaAm27
import Derived.Shelf.SlSortCmp.WholeK
import Derived.Test.YtbkbifpjckippaaProg
import Derived.WalkKit
import Derived.Deep.RegionHeld3
import Derived.Deep.DrawnRows
/- law19: what a range over the map of ends and a sort come to: the plain part. -/
namespace Go.AMach
set_option linter.unusedVariables false
set_option linter.unusedSimpArgs false
set_option linter.unnecessarySimpa false
open Go
set_option linter.unusedVariables false
set_option linter.unusedSectionVars false
set_option linter.unusedSimpArgs false
namespace H19
set_option linter.unusedVariables false
set_option linter.unusedSimpArgs false
set_option linter.unnecessarySimpa false
open W19

theorem mrel_find {ι : Iota} {K V : Ty} {g : K.sem → Option V.sem} {ms : List MapEntry} (hK : K.isKey = true) : ∀ (l : List MapEntry) (i : Nat) (y : K.sem) (m : Nat) (u : Value), (∀ e ∈ l, ∃ x, e.key = K.keyVal x) → mfind K y l i = some (m, u) → ∃ e ∈ l, e.key = K.keyVal y ∧ e.val = u
  | [], i, y, m, u, _, h => by cases h
  | e :: l, i, y, m, u, hk, h => by
    simp only [mfind] at h
    split at h
    · rename_i hq
      obtain ⟨z, hz⟩ := hk e (by simp)
      rw [hz, keyIs_eq hK] at hq
      have := (keq_iff hK).1 hq
      subst this
      cases h
      exact ⟨e, by simp, hz, rfl⟩
    · obtain ⟨e', h1, h2⟩ := mrel_find (ι := ι) (V := V) (g := g) (ms := ms) hK l (i + 1) y m u (fun e he => hk e (by simp [he])) h
      exact ⟨e', by simp [h1], h2⟩

theorem mrel_of {ι : Iota} {K V : Ty} {g : K.sem → Option V.sem} {ms : List MapEntry} (hK : K.isKey = true) (h : MRel ι K V g ms) {y : K.sem} {s : V.sem} (hg : g y = some s) : ∃ e ∈ ms, e.key = K.keyVal y ∧ ARel ι Phi.none e.val (V.av s) := by
  rcases h.2 y with ⟨_, e2⟩ | ⟨i, u, s', e1, e2, hr⟩
  · rw [hg] at e2; cases e2
  · rw [hg] at e2; cases e2
    obtain ⟨e, he, hk, hv⟩ := mrel_find (ι := ι) (V := V) (g := g) (ms := ms) hK ms 0 y i u h.1 e1
    exact ⟨e, he, hk, by rw [hv]; exact hr⟩

theorem key_uniq {ms : List MapEntry} (h : (ms.map (·.key)).Nodup) {a b : MapEntry} (ha : a ∈ ms) (hb : b ∈ ms) (e : a.key = b.key) : a = b := by
  induction ms with
  | nil => simp at ha
  | cons x l ih =>
    rw [List.map_cons, List.nodup_cons] at h
    rcases List.mem_cons.1 ha with ea | ha' <;> rcases List.mem_cons.1 hb with eb | hb'
    · rw [ea, eb]
    · exact absurd (List.mem_map.2 ⟨b, hb', by rw [← e, ea]⟩) h.1
    · exact absurd (List.mem_map.2 ⟨a, ha', by rw [e, eb]⟩) h.1
    · exact ih h.2 ha' hb'

theorem mrel_at {ι : Iota} {K V : Ty} {g : K.sem → Option V.sem} {ms : List MapEntry} {clk : Nat} (hK : K.isKey = true) (h : MRel ι K V g ms) (hst : Stmp ms clk) {e : MapEntry} (he : e ∈ ms) : ∃ y s, e.key = K.keyVal y ∧ g y = some s ∧ ARel ι Phi.none e.val (V.av s) := by
  obtain ⟨y, hy⟩ := h.1 e he
  rcases h.2 y with ⟨e1, _⟩ | ⟨i, u, s, e1, e2, hr⟩
  · exact absurd hy (mfind_none hK ms 0 e1 e he)
  · obtain ⟨e', he', hk, hv⟩ := mrel_find (ι := ι) (V := V) (g := g) (ms := ms) hK ms 0 y i u h.1 e1
    have := key_uniq hst.2.2 he he' (by rw [hy, hk])
    subst this
    exact ⟨y, s, hy, e2, by rw [hv]; exact hr⟩

theorem int_rel {ι : Iota} {k : IntKind} {v : Value} {s : Int} (h : ARel ι Phi.none v ((Ty.int k).av s)) : v = .int k s := by
  have h : ARel ι Phi.none v (.v (.int k s)) := h
  cases h; rfl
theorem way_key (y : WayS) : WayT.keyVal y = .agg #[.int .u8 y.1, .int .i64 y.2.1, .int .i64 y.2.2.1] := rfl

/-- The row that an entry makes. -/
def Row (e : MapEntry) (x : Wy) : Prop := ∃ y : Wy, e.key = .agg #[.int .u8 y.1, .int .i64 y.2.1, .int .i64 y.2.2.1] ∧ e.val = .int .i64 x.2.2.1 ∧ x.1 = y.1 ∧ x.2.1 = y.2.1

/-- The rows that entries make. -/
def Rowz (hs : List MapEntry) (xs : List Wy) : Prop := hs.length = xs.length ∧ ∀ (i : Nat) e x, hs[i]? = some e → xs[i]? = some x → Row e x
theorem Rowz.get {hs : List MapEntry} {xs : List Wy} (h : Rowz hs xs) {i : Nat} (h1 : i < hs.length) (h2 : i < xs.length) : Row hs[i] xs[i] := h.2 i _ _ (List.getElem?_eq_getElem h1) (List.getElem?_eq_getElem h2)
theorem Rowz.nil : Rowz [] [] := ⟨rfl, fun i e x h => by simp at h⟩
theorem Rowz.push {hs : List MapEntry} {xs : List Wy} {e : MapEntry} {x : Wy} (h : Rowz hs xs) (hr : Row e x) : Rowz (hs ++ [e]) (xs ++ [x]) := by
  refine ⟨by simp [h.1], fun i e' x' h1 h2 => ?_⟩
  have hl := h.1
  rw [List.getElem?_append] at h1 h2
  split at h1
  · rw [if_pos (by omega)] at h2; exact h.2 i e' x' h1 h2
  · rw [if_neg (by omega)] at h2
    have : i - hs.length = 0 := by
      have := (List.getElem?_eq_some_iff.1 h1).1
      simp at this; omega
    rw [this] at h1
    rw [← hl, this] at h2
    simp at h1 h2
    subst h1; subst h2; exact hr

theorem row_at {ι : Iota} {g : Wy → Option Int} {ms : List MapEntry} {clk : Nat} (h : MRel ι WayT (.int .i64) g ms) (hst : Stmp ms clk) {e : MapEntry} (he : e ∈ ms) :
    ∃ y s, e.key = .agg #[.int .u8 y.1, .int .i64 y.2.1, .int .i64 y.2.2.1] ∧ e.val = .int .i64 s ∧ g y = some s := by
  obtain ⟨y, s, h1, h2, h3⟩ := mrel_at (by decide) h hst he
  exact ⟨y, s, h1, int_rel h3, h2⟩

theorem tail_list {ι : Iota} {g : Wy → Option Int} {ms : List MapEntry} {clk : Nat} {l : List Wy} (hM : MRel ι WayT (.int .i64) g ms) (hst : Stmp ms clk) (hW : WaysOf g l)
    {hs : List MapEntry} {xs d : List Wy} (hp : hs.Perm ms) (hx : Rowz hs xs) (hd : d.Perm xs) (hsort : d.Pairwise fun a b => ¬ wlt b a) : d = l := by
  -- what a row is
  have hrow : ∀ e ∈ ms, ∀ x, Row e x → g (wy x.1 x.2.1 0) = some x.2.2.1 ∧ x ∈ l ∧ e.key = .agg #[.int .u8 x.1, .int .i64 x.2.1, .int .i64 0] := fun e he x ⟨y, h1, h2, h3, h4⟩ => by
    obtain ⟨y', s, k1, k2, k3⟩ := row_at hM hst he
    rw [h1] at k1
    simp only [Value.agg.injEq, Array.mk.injEq, List.cons.injEq, Value.int.injEq, true_and, and_true] at k1
    obtain ⟨c1, c2, c3⟩ := k1
    rw [h2] at k2
    simp only [Value.int.injEq, true_and] at k2
    subst k2
    obtain ⟨a1, a2⟩ := hW.2.2 _ _ k3
    have e1 : y' = wy x.1 x.2.1 0 := by
      obtain ⟨p, q, r, u⟩ := y'
      simp only at c1 c2 c3 a1
      rw [h3, h4, c1, c2, ← a1]
    rw [e1] at k3 a2
    refine ⟨k3, ?_, by rw [h1, h3, h4, c3, a1]⟩
    obtain ⟨x1, x2, x3, x4⟩ := x
    exact a2
  have hxs : ∀ x, x ∈ xs ↔ x ∈ l := fun x => by
    constructor
    · intro h
      obtain ⟨i, hi⟩ := List.getElem?_of_mem h
      obtain ⟨hi', e⟩ := List.getElem?_eq_some_iff.1 hi
      have hl := hx.1
      have hr : Row (hs[i]'(by omega)) x := by rw [← e]; exact hx.get (by omega) hi'
      exact (hrow _ (hp.mem_iff.1 (List.getElem_mem _)) x hr).2.1
    · intro h
      obtain ⟨e, he, hk, hv⟩ := mrel_of (by decide) hM (hW.2.1 x h)
      have hv := int_rel hv
      obtain ⟨i, hi⟩ := List.getElem?_of_mem (hp.mem_iff.2 he)
      obtain ⟨hi', ee⟩ := List.getElem?_eq_some_iff.1 hi
      have hl := hx.1
      have hr : Row e (xs[i]'(by omega)) := by rw [← ee]; exact hx.get hi' (by omega)
      obtain ⟨z1, z2, z3⟩ := hrow e he _ hr
      obtain ⟨y, q1, q2, q3, q4⟩ := hr
      rw [hk] at z3
      rw [hv] at q2
      have z3 : (Value.agg #[.int .u8 x.1, .int .i64 x.2.1, .int .i64 0] : Value) = _ := z3
      simp only [Value.agg.injEq, Array.mk.injEq, List.cons.injEq, Value.int.injEq, true_and, and_true] at z3 q2
      have : xs[i]'(by omega) = x := by
        generalize xs[i]'(by omega) = t at *
        obtain ⟨t1, t2, t3, t4⟩ := t
        obtain ⟨x1, x2, x3, x4⟩ := x
        simp only at z3 q2
        obtain ⟨rfl, rfl⟩ := z3
        subst q2; rfl
      rw [← this]; exact List.getElem_mem _
  -- no key twice
  have hne : xs.Pairwise fun a b => ¬ (a.1 = b.1 ∧ a.2.1 = b.2.1) := by
    have hk : (hs.map (·.key)).Nodup := (hp.map _).nodup_iff.2 hst.2.2
    rw [List.pairwise_iff_getElem]
    intro i j hi hj hij ⟨e1, e2⟩
    have hl := hx.1
    have r1 : Row (hs[i]'(by omega)) xs[i] := hx.get (by omega) hi
    have r2 : Row (hs[j]'(by omega)) xs[j] := hx.get (by omega) hj
    have k1 := (hrow _ (hp.mem_iff.1 (List.getElem_mem _)) _ r1).2.2
    have k2 := (hrow _ (hp.mem_iff.1 (List.getElem_mem _)) _ r2).2.2
    have : (hs.map (·.key))[i]'(by simp; omega) = (hs.map (·.key))[j]'(by simp; omega) := by
      rw [List.getElem_map, List.getElem_map, k1, k2, e1, e2]
    exact (List.pairwise_iff_getElem.1 hk) i j _ _ hij this
  have hne' : d.Pairwise fun a b => ¬ (a.1 = b.1 ∧ a.2.1 = b.2.1) := (hd.pairwise_iff (fun {a b} h e => h ⟨e.1.symm, e.2.symm⟩)).2 hne
  refine sorted_one ?_ hW.1 fun x => (hd.mem_iff).trans (hxs x)
  rw [List.pairwise_iff_getElem] at hsort hne' ⊢
  intro i j hi hj hij
  rcases wlt_total (hne' i j hi hj hij) with h | h
  · exact h
  · exact absurd h (hsort i j hi hj hij)
end H19
end Go.AMach

/- law19: the library's contracts of slices.SortFunc and cmp.Compare, at this program's numbers. -/
namespace Go.Proofs
set_option linter.unusedVariables false
set_option linter.unusedSimpArgs false
set_option linter.unnecessarySimpa false
open Go.Shelf
def Try.sortWay_ren : Go.Shelf.Ren := ⟨fun | 6 => 43 | 15 => 51 | 14 => 50 | 28 => 64 | 29 => 65 | 20 => 56 | 21 => 57 | 22 => 58 | 23 => 59 | 24 => 60 | 25 => 61 | 26 => 62 | 27 => 63 | 46 => 66 | 47 => 67 | 48 => 68 | 49 => 69 | 50 => 70 | 57 => 71 | n => n, fun | 22 => 44 | 24 => 48 | 25 => 88 | 3 => 3 | 39 => 65 | 0 => 0 | 53 => 104 | 55 => 24 | 4 => 4 | 46 => 97 | 45 => 96 | 50 => 101 | 5 => 5 | 9 => 9 | 66 => 106 | 70 => 110 | 76 => 112 | 77 => 113 | n => n, fun | n => n⟩
theorem Try.sortWay : Go.Proofs.SlLaysF0.n6 Try.prog Try.sortWay_ren where
  mixed := by kernel_rfl
  f6 := ⟨ "slices.SortFunc[[]turnout/instr.Way,turnout/instr.Way]", by decide, Try.func43.trans (congrArg some (by kernel_rfl))⟩
  f14 := ⟨ "slices.pdqsortCmpFunc[turnout/instr.Way]", by decide, Try.func50.trans (congrArg some (by kernel_rfl))⟩
  f15 := Try.func51.trans (congrArg some (by kernel_rfl))
  f20 := ⟨ "slices.insertionSortCmpFunc[turnout/instr.Way]", by decide, Try.func56.trans (congrArg some (by kernel_rfl))⟩
  f21 := ⟨ "slices.heapSortCmpFunc[turnout/instr.Way]", by decide, Try.func57.trans (congrArg some (by kernel_rfl))⟩
  f22 := ⟨ "slices.breakPatternsCmpFunc[turnout/instr.Way]", by decide, Try.func58.trans (congrArg some (by kernel_rfl))⟩
  f23 := ⟨ "slices.choosePivotCmpFunc[turnout/instr.Way]", by decide, Try.func59.trans (congrArg some (by kernel_rfl))⟩
  f24 := ⟨ "slices.reverseRangeCmpFunc[turnout/instr.Way]", by decide, Try.func60.trans (congrArg some (by kernel_rfl))⟩
  f25 := ⟨ "slices.partialInsertionSortCmpFunc[turnout/instr.Way]", by decide, Try.func61.trans (congrArg some (by kernel_rfl))⟩
  f26 := ⟨ "slices.partitionEqualCmpFunc[turnout/instr.Way]", by decide, Try.func62.trans (congrArg some (by kernel_rfl))⟩
  f27 := ⟨ "slices.partitionCmpFunc[turnout/instr.Way]", by decide, Try.func63.trans (congrArg some (by kernel_rfl))⟩
  f28 := Try.func64.trans (congrArg some (by kernel_rfl))
  f29 := Try.func65.trans (congrArg some (by kernel_rfl))
  f46 := ⟨ "slices.siftDownCmpFunc[turnout/instr.Way]", by decide, Try.func66.trans (congrArg some (by kernel_rfl))⟩
  f47 := Try.func67.trans (congrArg some (by kernel_rfl))
  f48 := Try.func68.trans (congrArg some (by kernel_rfl))
  f49 := ⟨ "slices.medianAdjacentCmpFunc[turnout/instr.Way]", by decide, Try.func69.trans (congrArg some (by kernel_rfl))⟩
  f50 := ⟨ "slices.medianCmpFunc[turnout/instr.Way]", by decide, Try.func70.trans (congrArg some (by kernel_rfl))⟩
  f57 := ⟨ "slices.order2CmpFunc[turnout/instr.Way]", by decide, Try.func71.trans (congrArg some (by kernel_rfl))⟩
  t0 := Try.underlying0
  a0 := Try.isAgg0
  z0 := Try.sizeOf0
  v0 := Try.zeroValue0
  t3 := Try.underlying3
  a3 := Try.isAgg3
  z3 := Try.sizeOf3
  v3 := Try.zeroValue3
  t4 := Try.underlying4
  a4 := Try.isAgg4
  z4 := Try.sizeOf4
  v4 := Try.zeroValue4
  t5 := Try.underlying5
  a5 := Try.isAgg5
  z5 := Try.sizeOf5
  v5 := Try.zeroValue5
  t9 := Try.underlying9
  a9 := Try.isAgg9
  z9 := Try.sizeOf9
  v9 := Try.zeroValue9
  t22 := Try.underlying44
  a22 := Try.isAgg44
  z22 := Try.sizeOf44
  v22 := Try.zeroValue44
  t25 := Try.underlying88
  a25 := Try.isAgg88
  z25 := Try.sizeOf88
  v25 := Try.zeroValue88
  t39 := Try.underlying65
  a39 := Try.isAgg65
  z39 := Try.sizeOf65
  v39 := Try.zeroValue65
  t45 := Try.underlying96
  a45 := Try.isAgg96
  z45 := Try.sizeOf96
  v45 := Try.zeroValue96
  t46 := Try.underlying97
  a46 := Try.isAgg97
  z46 := Try.sizeOf97
  v46 := Try.zeroValue97
  t50 := Try.underlying101
  a50 := Try.isAgg101
  z50 := Try.sizeOf101
  v50 := Try.zeroValue101
  t53 := Try.underlying104
  a53 := Try.isAgg104
  z53 := Try.sizeOf104
  v53 := Try.zeroValue104
  t55 := Try.underlying24
  a55 := Try.isAgg24
  z55 := Try.sizeOf24
  v55 := Try.zeroValue24
  t66 := Try.underlying106
  a66 := Try.isAgg106
  z66 := Try.sizeOf106
  v66 := Try.zeroValue106
  t70 := Try.underlying110
  a70 := Try.isAgg110
  z70 := Try.sizeOf110
  v70 := Try.zeroValue110
  t76 := Try.underlying112
  a76 := Try.isAgg112
  z76 := Try.sizeOf112
  v76 := Try.zeroValue112
  t77 := Try.underlying113
  a77 := Try.isAgg113
  z77 := Try.sizeOf113
  v77 := Try.zeroValue113
end Go.Proofs

/- law19: the closure that Ways sorts by. -/
namespace Go.AMach
set_option linter.unusedVariables false
set_option linter.unusedSimpArgs false
set_option linter.unnecessarySimpa false
open Go Go.Proofs Go.RowKit Go.Shelf Go.Lib Go.Sort
set_option linter.unusedVariables false
set_option linter.unusedSimpArgs false
namespace H19
set_option linter.unusedVariables false
set_option linter.unusedSimpArgs false
set_option linter.unnecessarySimpa false
theorem nan52 (x : Int) (W : World) : Calls Try.prog 52 #[.int .u8 x] W fun e w' => e = .returned (.bool false) ∧ w' = W := by
  go_enter Try.func52, Try.ntmps52
  go_wp2
  go_ret
  exact ⟨rfl, rfl⟩
theorem nan53 (x : Int) (W : World) : Calls Try.prog 53 #[.int .i64 x] W fun e w' => e = .returned (.bool false) ∧ w' = W := by
  go_enter Try.func53, Try.ntmps53
  go_wp2
  go_ret
  exact ⟨rfl, rfl⟩
theorem cmp46 (x y : Int) (W : World) : Calls Try.prog 46 #[.int .u8 x, .int .u8 y] W fun e w' => e = .returned (.int .i64 (Lib.compareInt x y)) ∧ w' = W := by
  have hn := nan52
  go_enter Try.func46, Try.ntmps46
  go_wp2_with (go_at_call 52; refine (hn _ _).mono ?_; rintro e w' ⟨rfl, rfl⟩)
  all_goals (go_ret; refine ⟨?_, rfl⟩; unfold Lib.compareInt)
  all_goals first
    | (rw [if_pos (by assumption)]; rfl)
    | (rw [if_neg (by omega), if_pos (by omega)]; rfl)
    | (rw [if_neg (by omega), if_neg (by omega)]; rfl)
theorem cmp47 (x y : Int) (W : World) : Calls Try.prog 47 #[.int .i64 x, .int .i64 y] W fun e w' => e = .returned (.int .i64 (Lib.compareInt x y)) ∧ w' = W := by
  have hn := nan53
  go_enter Try.func47, Try.ntmps47
  go_wp2_with (go_at_call 53; refine (hn _ _).mono ?_; rintro e w' ⟨rfl, rfl⟩)
  all_goals (go_ret; refine ⟨?_, rfl⟩; unfold Lib.compareInt)
  all_goals first
    | (rw [if_pos (by assumption)]; rfl)
    | (rw [if_neg (by omega), if_pos (by omega)]; rfl)
    | (rw [if_neg (by omega), if_neg (by omega)]; rfl)
set_option maxRecDepth 100000 in
theorem or45 (x y : Int) (b : Nat) (W : World) (h0 : W.cell? ⟨b, 0, none⟩ = some (.int .i64 x)) (h1 : W.cell? ⟨b, 1, none⟩ = some (.int .i64 y)) :
    Calls Try.prog 45 #[.slice (some ⟨b, 0, none⟩) 2 2] W fun e w' => e = .returned (.int .i64 (if x = 0 then y else x)) ∧ w' = W := by
  have i0 : (Instr.indexAt 81 (.slice (some ⟨b, 0, none⟩) 2 2) (.int .i64 0)).run Try.prog W = .ok (.pointer (some ⟨b, 0, none⟩)) W := by
    simp [Instr.indexAt, asIntOf, run_underlying Try.underlying81, Try.sizeOf3, Addr.add]
  have i1 : (Instr.indexAt 81 (.slice (some ⟨b, 0, none⟩) 2 2) (.int .i64 1)).run Try.prog W = .ok (.pointer (some ⟨b, 1, none⟩)) W := by
    simp [Instr.indexAt, asIntOf, run_underlying Try.underlying81, Try.sizeOf3, Addr.add]
  by_cases hx : x = 0
  · subst hx
    rw [if_pos rfl]
    go_enter Try.func45, Try.ntmps45
    go_wp2
    refine wp_loop_rounds 3 ?_
    rw [rounds_succ]
    go_wp2
    rw [rounds_succ]
    by_cases hy : y = 0
    · subst hy
      go_wp2
      rw [rounds_succ]
      go_wp2
      go_ret
      exact ⟨rfl, rfl⟩
    · have hy' : (y != 0) = true := by simp [hy]
      go_wp2
      go_ret
      exact ⟨rfl, rfl⟩
  · rw [if_neg hx]
    have hx' : (x != 0) = true := by simp [hx]
    go_enter Try.func45, Try.ntmps45
    go_wp2
    refine wp_loop_rounds 1 ?_
    rw [rounds_succ]
    go_wp2
    go_ret
    exact ⟨rfl, rfl⟩
end H19
end Go.AMach

/- law19: the closure that Ways sorts by. -/
namespace Go.AMach
set_option linter.unusedVariables false
set_option linter.unusedSimpArgs false
set_option linter.unnecessarySimpa false
open Go Go.Proofs Go.RowKit Go.Shelf Go.Lib Go.Sort
set_option linter.unusedVariables false
set_option linter.unusedSimpArgs false
namespace H19
set_option linter.unusedVariables false
set_option linter.unusedSimpArgs false
set_option linter.unnecessarySimpa false
def Grn (W w' : World) : Prop := ∃ q os, w' = grow (W.drewN q) os
theorem Grn.refl (W : World) : Grn W W := ⟨0, #[], by simp [grow, World.drewN]⟩
theorem Grn.drew {W w' : World} (h : Grn W w') : Grn W w'.drew := by
  obtain ⟨q, os, rfl⟩ := h
  exact ⟨q + 1, os, by rw [drew_grow]; rfl⟩
theorem Grn.alloc {W w' : World} (h : Grn W w') (o : Obj) : Grn W (w'.alloc o) := by
  obtain ⟨q, os, rfl⟩ := h
  exact ⟨q, _, by rw [alloc_eq_grow, grow_grow]⟩
theorem cellof {w : World} {b : Nat} {cs : Array Value} {T : TypeId} {F : Nat × Nat} (h : w.heap[b]? = some (.cells cs T F)) {k : Nat} : w.cell? ⟨b, k, none⟩ = cs[k]? := by
  simp only [World.cell?, h]; rfl
theorem two_new (W : World) (A B : Obj) (c1 c2 : Value) (k : Nat) : (((W.alloc A).alloc B).alloc (.cells #[c1, c2] 3)).cell? ⟨W.heap.size + 1 + 1, k, none⟩ = #[c1, c2][k]? := by
  have h := heap_alloc_new ((W.alloc A).alloc B) (.cells #[c1, c2] 3)
  have hs : ((W.alloc A).alloc B).heap.size = W.heap.size + 1 + 1 := by
    show ((W.heap.push A).push B).size = _
    simp
  rw [hs] at h
  exact cellof h
def cfV (x y : Int × Int × Int) : Int := if Lib.compareInt x.1 y.1 = 0 then Lib.compareInt x.2.1 y.2.1 else Lib.compareInt x.1 y.1
set_option maxHeartbeats 4000000 in
set_option maxRecDepth 100000 in
theorem clos44 (x y : Int × Int × Int) (W : World) : Calls Try.prog 44 #[.agg #[.int .u8 x.1, .int .i64 x.2.1, .int .i64 x.2.2], .agg #[.int .u8 y.1, .int .i64 y.2.1, .int .i64 y.2.2]] W fun e w' => e = .returned (.int .i64 (cfV x y)) ∧ Grn W w' := by
  obtain ⟨x1, x2, x3⟩ := x
  obtain ⟨y1, y2, y3⟩ := y
  have h46 := cmp46 x1 y1
  have h47 := cmp47 x2 y2
  unfold cfV
  simp only
  generalize Lib.compareInt x1 y1 = c1 at *
  generalize Lib.compareInt x2 y2 = c2 at *
  have h45 := fun b w a1 a2 => or45 c1 c2 b w a1 a2
  generalize (if c1 = 0 then c2 else c1) = c3 at *
  go_enter Try.func44, Try.ntmps44
  go_wp2
  go_region_held3 (fun w' => Grn W w' ∧ w'.cell? ⟨W.heap.size, 0, none⟩ = some (.int .u8 x1) ∧ w'.cell? ⟨W.heap.size, 1, none⟩ = some (.int .i64 x2) ∧ w'.cell? ⟨W.heap.size + 1, 0, none⟩ = some (.int .u8 y1) ∧ w'.cell? ⟨W.heap.size + 1, 1, none⟩ = some (.int .i64 y2))
    (refine ⟨by repeat (first | assumption | exact Grn.refl _ | apply Grn.drew | apply Grn.alloc), by go_keep, by go_keep, by go_keep, by go_keep⟩)
    (first
      | (go_at_call 46; refine (h46 _).mono ?_; rintro e w' ⟨rfl, rfl⟩)
      | (go_at_call 47; refine (h47 _).mono ?_; rintro e w' ⟨rfl, rfl⟩)
      | (go_at_call 45; refine (h45 _ _ (by first | exact two_new W _ _ _ _ 0 | (show World.cell? (World.drew _) _ = _; exact two_new W _ _ _ _ 0)) (by first | exact two_new W _ _ _ _ 1 | (show World.cell? (World.drew _) _ = _; exact two_new W _ _ _ _ 1))).mono ?_; rintro e w' ⟨rfl, rfl⟩))
  go_wp2
  all_goals (go_ret; refine ⟨rfl, ?_⟩; repeat (first | exact hHeld.1 | assumption | exact Grn.refl _ | apply Grn.drew | apply Grn.alloc))

def encW (x : Int × Int × Int) : List Value := [.int .u8 x.1, .int .i64 x.2.1, .int .i64 x.2.2]
theorem ltW (x y : Int × Int × Int) : ltOf cfV x y = decide (x.1 < y.1 ∨ x.1 = y.1 ∧ x.2.1 < y.2.1) := by
  unfold ltOf cfV Lib.compareInt
  rw [decide_eq_decide]
  split <;> rename_i h <;> (try split at h) <;> (try split at h) <;> (try split) <;> (try split) <;> omega
theorem swoW : SWO (ltOf cfV) where
  irrefl x := by rw [ltW]; simp
  trans x y z h1 h2 := by rw [ltW] at *; simp only [decide_eq_true_eq] at *; omega
  ntrans x y z h1 h2 := by rw [ltW] at *; simp only [decide_eq_false_iff_not] at *; omega
theorem cmpLays44 (blk off size : Nat) (w : World) : CmpLays Try.prog 44 #[] encW 3 cfV blk off size w :=
  fun _ _ _ _ x y => clos44 x y _
theorem sort43 (blk off cap : Nat) (d : Array (Int × Int × Int)) (w : World) (hH : HoldsK encW 3 w blk off d) (hblk : blk < w.heap.size) (hsz : d.size < 4611686018427387904) :
    Calls Try.prog 43 #[.slice (some ⟨blk, off, none⟩) d.size cap, .func (.func 44) #[] #[]] w fun e w' => e = .returned (.tuple #[]) ∧ ∃ d' n os, PermIn 0 d.size d d' ∧ SortedIn (ltOf cfV) 0 d.size d' ∧ w' = sortWorldK encW 3 w blk off n d' os := by
  have eg : ∀ args w, (callFunc 44 args).run Try.prog w = .ok (.enter 44 args) w := enters_of Try.func44 (by kernel_rfl) rfl
  have hcon := AnyQ.slices_SortFunc Try.sortWay 3 Try.isAgg48 Try.sizeOf48 encW (fun _ => rfl) (fun x v hv => by simp [encW] at hv; rcases hv with rfl | rfl | rfl <;> rfl) cfV swoW 44 #[] blk off cap d w eg (cmpLays44 blk off d.size w) hH hblk hsz
  exact hcon
end H19
end Go.AMach
