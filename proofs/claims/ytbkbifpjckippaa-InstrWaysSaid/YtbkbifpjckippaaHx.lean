/- Parts of the proof. -/
import Derived.Test.YtbkbifpjckippaaHf
import Derived.Test.YtbkbifpjckippaaPb
/- law19: the end of InstrWays, walked. -/
namespace Go.AMach
set_option linter.unusedVariables false
set_option linter.unusedSimpArgs false
set_option linter.unnecessarySimpa false
open Go Go.Proofs Go.RowKit Go.Shelf Go.Lib Go.Sort
set_option linter.unusedVariables false
set_option linter.unusedSimpArgs false
set_option linter.unusedSectionVars false
namespace H19
set_option linter.unusedVariables false
set_option linter.unusedSimpArgs false
set_option linter.unnecessarySimpa false
attribute [local go_sem ↓] Go.wp_at_zero Go.wp_at_succ
theorem lit189 {l : List Value} (hl : l.length = 188 + 1) : ∃ f : Nat → Value, l = [f 0, f 1, f 2, f 3, f 4, f 5, f 6, f 7, f 8, f 9, f 10, f 11, f 12, f 13, f 14, f 15, f 16, f 17, f 18, f 19, f 20, f 21, f 22, f 23, f 24, f 25, f 26, f 27, f 28, f 29, f 30, f 31, f 32, f 33, f 34, f 35, f 36, f 37, f 38, f 39, f 40, f 41, f 42, f 43, f 44, f 45, f 46, f 47, f 48, f 49, f 50, f 51, f 52, f 53, f 54, f 55, f 56, f 57, f 58, f 59, f 60, f 61, f 62, f 63, f 64, f 65, f 66, f 67, f 68, f 69, f 70, f 71, f 72, f 73, f 74, f 75, f 76, f 77, f 78, f 79, f 80, f 81, f 82, f 83, f 84, f 85, f 86, f 87, f 88, f 89, f 90, f 91, f 92, f 93, f 94, f 95, f 96, f 97, f 98, f 99, f 100, f 101, f 102, f 103, f 104, f 105, f 106, f 107, f 108, f 109, f 110, f 111, f 112, f 113, f 114, f 115, f 116, f 117, f 118, f 119, f 120, f 121, f 122, f 123, f 124, f 125, f 126, f 127, f 128, f 129, f 130, f 131, f 132, f 133, f 134, f 135, f 136, f 137, f 138, f 139, f 140, f 141, f 142, f 143, f 144, f 145, f 146, f 147, f 148, f 149, f 150, f 151, f 152, f 153, f 154, f 155, f 156, f 157, f 158, f 159, f 160, f 161, f 162, f 163, f 164, f 165, f 166, f 167, f 168, f 169, f 170, f 171, f 172, f 173, f 174, f 175, f 176, f 177, f 178, f 179, f 180, f 181, f 182, f 183, f 184, f 185, f 186, f 187, f 188] ∧ ∀ i, i < 189 → l.getD i undef = f i := by
  refine ⟨fun i => l.getD i undef, ?_, fun i _ => rfl⟩
  have h : l = (List.range l.length).map fun i => l.getD i undef := by
    apply List.ext_getElem
    · simp
    · intro i h1 h2
      simp [List.getD_eq_getElem?_getD, List.getElem?_eq_getElem h1]
  rw [hl] at h
  exact h
theorem partc7 {fn : Func} {a1 a2 a3 a4 a5 a6 a7 c : Code} (h : fn.body = some (.seq a1 (.seq a2 (.seq a3 (.seq a4 (.seq a5 (.seq a6 (.seq a7 c)))))))) {Q : Exit → Act → World → Prop} {a : Act} {w : World} (hw : c.wp Try.prog Q a w) :
    (partAt (bodyOf fn) [1, 1, 1, 1, 1, 1, 1]).wp Try.prog Q a w := by
  unfold bodyOf; rw [h]; simpa only [partAt, partAt_nil] using hw
/-- ends, called. -/
theorem ends_calls [Sites] (hE : SpecOk Try.prog 30 (specQ [.agg InstrT] [] [.ty (.int .u8), .ty (.int .i64), .ty .bool] [] fun a b => Q_z0w a.1)) (op to ak an bk bn N : Int) (w : World) :
    Calls Try.prog 30 #[.agg #[.int .u8 op, .int .i64 to, .int .u8 ak, .int .u64 an, .int .u8 bk, .int .u64 bn, .int .i64 N]] w fun e w' =>
      e = .returned (.tuple #[.int .u8 (N19.endW (op, to, (ak, an, ()), (bk, bn, ()), N, ())).1, .int .i64 (N19.endW (op, to, (ak, an, ()), (bk, bn, ()), N, ())).2.1, .bool (N19.endIs (op, to, (ak, an, ()), (bk, bn, ()), N, ()))]) ∧ w.grownBy w' none := by
  generalize hi : ((op, to, (ak, an, ()), (bk, bn, ()), N, ()) : InstrS) = i
  have hS : SRel (fun _ => none) Phi.none [] w := ⟨fun k o h => (by cases h), fun id blk h => by simp [AH.at] at h, fun id blk b off sz lim len h => by simp [AH.at] at h, fun id id' blk blk' b off sz lim len off' sz' lim' len' h => by simp [AH.at] at h⟩
  have hv : ARels (fun _ => none) Phi.none [.agg #[.int .u8 op, .int .i64 to, .int .u8 ak, .int .u64 an, .int .u8 bk, .int .u64 bn, .int .i64 N]] (EK.encs [.agg InstrT] (i, ())) := by
    refine ARels.cons ?_ ARels.nil
    subst hi
    refine .agg [.int .u8 op, .int .i64 to, .int .u8 ak, .int .u64 an, .int .u8 bk, .int .u64 bn, .int .i64 N] _ rfl fun j u c hu hc => ?_
    match j, hu, hc with
    | 0, hu, hc => cases hu; cases hc; exact .v _
    | 1, hu, hc => cases hu; cases hc; exact .v _
    | 2, hu, hc => cases hu; cases hc; exact .v _
    | 3, hu, hc => cases hu; cases hc; exact .v _
    | 4, hu, hc => cases hu; cases hc; exact .v _
    | 5, hu, hc => cases hu; cases hc; exact .v _
    | 6, hu, hc => cases hu; cases hc; exact .v _
  have hq := N19.Q_ends i
  have hrun : (specQ [.agg InstrT] [] [.ty (.int .u8), .ty (.int .i64), .ty .bool] [] (fun a b => Q_z0w a.1) (EK.encs [.agg InstrT] (i, ())) []).val = some (.ok (.tup [.v (.int .u8 (N19.endW i).1), .v (.int .i64 (N19.endW i).2.1), .v (.bool (N19.endIs i))]), []) := by
    unfold specQ
    rw [EK.decs_of_encs [.agg InstrT] (i, ()) rfl]
    simp only [HK.decs]
    have hq' : Q_z0w i = _ := hq
    rw [hq']
    rfl
  refine (hE _ Phi.none [] w _ [_] _ _ hS (fun _ _ => rfl) hv hrun).mono fun e w' ⟨ι', φ', hext, hS', hF, he⟩ => ?_
  obtain ⟨u, rfl, hu⟩ := he
  have hno : ∀ k, ¬ Owned [] Phi.none k := fun k => by rintro ⟨id, blk, off, sz, lim, len, h, _⟩; simp [AH.at] at h
  refine ⟨?_, ⟨hF.os, hF.tape, hF.output, hF.size, fun k hk _ => hF.keep k hk (hno k)⟩⟩
  cases hu with
  | tup vs cs hl h =>
    match vs, hl with
    | [x, y, z], _ =>
      have e1 := h 0 x _ rfl rfl
      have e2 := h 1 y _ rfl rfl
      have e3 := h 2 z _ rfl rfl
      cases e1; cases e2; cases e3
      rfl
/-- ways, called: the same ways. -/
theorem ways_calls [Sites] (hWs : SpecOk Try.prog 24 (specQ [.ty (.slice WayT), .ty (.slice WayT)] [] [.ty .bool] [] fun a b => Q_z0f a.1 a.2.1)) {W : World} {v1 v2 : Value} {a : List WayS} (h1 : WSl W 0 v1 a) (h2 : WSl W 0 v2 a) (hal : a.length ≤ 400) :
    Calls Try.prog 24 #[v1, v2] W fun e w' => e = .returned (.bool true) ∧ W.grownBy w' none := by
  obtain ⟨ι1, i1, r1⟩ := h1
  obtain ⟨ι2, i2, r2⟩ := h2
  have hS : SRel (fun b => W.heap[b]?) Phi.none [] W := ⟨fun _ _ h => h, fun id blk h => by simp [AH.at] at h, fun id blk b off sz lim len h => by simp [AH.at] at h, fun id id' blk blk' b off sz lim len off' sz' lim' len' h => by simp [AH.at] at h⟩
  have hv : ARels (fun b => W.heap[b]?) Phi.none [v1, v2] (EK.encs [.ty (.slice WayT), .ty (.slice WayT)] (a, (a, ()))) := ARels.cons (r1.imm fun b o h => (i1 b o h).1) (ARels.cons (r2.imm fun b o h => (i2 b o h).1) ARels.nil)
  have hq := N19.Q_ways a (by omega)
  have hrun : (specQ [.ty (.slice WayT), .ty (.slice WayT)] [] [.ty .bool] [] (fun a b => Q_z0f a.1 a.2.1) (EK.encs [.ty (.slice WayT), .ty (.slice WayT)] (a, (a, ()))) []).val = some (.ok (.v (.bool true)), []) := by
    unfold specQ
    rw [EK.decs_of_encs [.ty (.slice WayT), .ty (.slice WayT)] (a, (a, ())) rfl]
    simp only [HK.decs]
    have hq' : Q_z0f a a = _ := hq
    rw [hq']
    rfl
  refine (hWs _ Phi.none [] W _ [v1, v2] _ _ hS (fun _ _ => rfl) hv hrun).mono fun e w' ⟨ι', φ', hext, hS', hF, he⟩ => ?_
  obtain ⟨u, rfl, hu⟩ := he
  cases hu
  have hno : ∀ k, ¬ Owned [] Phi.none k := fun k => by rintro ⟨id, blk, off, sz, lim, len, h, _⟩; simp [AH.at] at h
  exact ⟨rfl, hF.os, hF.tape, hF.output, hF.size, fun k hk _ => hF.keep k hk (hno k)⟩
end H19
end Go.AMach

/- law19: the end of InstrWays: what stands while it runs. -/
namespace Go.AMach
set_option linter.unusedVariables false
set_option linter.unusedSimpArgs false
set_option linter.unnecessarySimpa false
open Go Go.Proofs Go.RowKit Go.Shelf Go.Lib Go.Sort
set_option linter.unusedVariables false
set_option linter.unusedSimpArgs false
set_option linter.unusedSectionVars false
namespace H19
set_option linter.unusedVariables false
set_option linter.unusedSimpArgs false
set_option linter.unnecessarySimpa false
open N19 W19
/-! ### Which places are come to -/
def StepTo (c : List Nd) (p j : Nat) : Prop := ∃ x, c[p]? = some x ∧ ((x.isFin = false ∧ j = p + 1) ∨ ∃ k, x = .skip k ∧ j = p + 1 + k)
def RPs (c : List Nd) (p σ j : Nat) (s : Int) : Prop := RP c p j s ∨ ∃ t : Nat, t < σ ∧ RP c p p (t : Int) ∧ s = (t : Int) + 1 ∧ StepTo c p j
def PEs (c : List Nd) (p σ : Nat) : En := fun o n s => PE c p o n s ∨ ∃ t : Nat, t < σ ∧ RP c p p (t : Int) ∧ c[p]? = some (.fin o n) ∧ s = (t : Int) + 1
theorem RPs_zero {c : List Nd} {p j : Nat} {s : Int} : RPs c p 0 j s ↔ RP c p j s := ⟨fun h => by
  rcases h with h | ⟨t, ht, _⟩
  · exact h
  · omega, .inl⟩
theorem PEs_zero {c : List Nd} {p : Nat} {o n s : Int} : PEs c p 0 o n s ↔ PE c p o n s := ⟨fun h => by
  rcases h with h | ⟨t, ht, _⟩
  · exact h
  · omega, .inl⟩
theorem RPs_full {c : List Nd} {p σ j : Nat} {s : Int} {x : Nd} (hx : c[p]? = some x) (hσ : p < σ) : RPs c p σ j s ↔ RP c (p + 1) j s := by
  rw [RP_succ hx]
  constructor
  · rintro (h | ⟨t, _, h, e, x', hx', hh⟩)
    · exact .inl h
    · rw [hx] at hx'; cases hx'; exact .inr ⟨_, h, e, hh⟩
  · rintro (h | ⟨t, h, e, hh⟩)
    · exact .inl h
    · have := h.le
      refine .inr ⟨t.toNat, by omega, ?_, by omega, x, hx, hh⟩
      rw [show ((t.toNat : Nat) : Int) = t by omega]; exact h
theorem PEs_full {c : List Nd} {p σ : Nat} {o n s : Int} {x : Nd} (hx : c[p]? = some x) (hσ : p < σ) : PEs c p σ o n s ↔ PE c (p + 1) o n s := by
  rw [PE_succ hx]
  constructor
  · rintro (h | ⟨t, _, h, e, hh⟩)
    · exact .inl h
    · rw [hx] at e; cases e; exact .inr ⟨_, h, rfl, hh⟩
  · rintro (h | ⟨t, h, e, hh⟩)
    · exact .inl h
    · have := h.le
      refine .inr ⟨t.toNat, by omega, ?_, by rw [hx, e], by omega⟩
      rw [show ((t.toNat : Nat) : Int) = t by omega]; exact h
/-- At the row itself nothing is new. -/
theorem RPs_own {c : List Nd} {p σ : Nat} {s : Int} : RPs c p σ p s ↔ RP c p p s := ⟨fun h => by
  rcases h with h | ⟨t, _, _, _, x, _, ⟨_, hh⟩ | ⟨k, _, hh⟩⟩
  · exact h
  · omega
  · omega, .inl⟩
theorem RPs_no {c : List Nd} {p σ j : Nat} {s : Int} (h : ¬ RP c p p (σ : Int)) : RPs c p (σ + 1) j s ↔ RPs c p σ j s := by
  constructor
  · rintro (h1 | ⟨t, ht, h1, e, hh⟩)
    · exact .inl h1
    · by_cases ts : t = σ
      · subst ts; exact absurd h1 h
      · exact .inr ⟨t, by omega, h1, e, hh⟩
  · rintro (h1 | ⟨t, ht, h1, e, hh⟩)
    · exact .inl h1
    · exact .inr ⟨t, by omega, h1, e, hh⟩
theorem PEs_no {c : List Nd} {p σ : Nat} {o n s : Int} (h : ¬ RP c p p (σ : Int)) : PEs c p (σ + 1) o n s ↔ PEs c p σ o n s := by
  constructor
  · rintro (h1 | ⟨t, ht, h1, e, hh⟩)
    · exact .inl h1
    · by_cases ts : t = σ
      · subst ts; exact absurd h1 h
      · exact .inr ⟨t, by omega, h1, e, hh⟩
  · rintro (h1 | ⟨t, ht, h1, e, hh⟩)
    · exact .inl h1
    · exact .inr ⟨t, by omega, h1, e, hh⟩
theorem RPs_yes {c : List Nd} {p σ j : Nat} {s : Int} (h : RP c p p (σ : Int)) : RPs c p (σ + 1) j s ↔ RPs c p σ j s ∨ (s = (σ : Int) + 1 ∧ StepTo c p j) := by
  constructor
  · rintro (h1 | ⟨t, ht, h1, e, hh⟩)
    · exact .inl (.inl h1)
    · by_cases ts : t = σ
      · subst ts; exact .inr ⟨e, hh⟩
      · exact .inl (.inr ⟨t, by omega, h1, e, hh⟩)
  · rintro ((h1 | ⟨t, ht, h1, e, hh⟩) | ⟨e, hh⟩)
    · exact .inl h1
    · exact .inr ⟨t, by omega, h1, e, hh⟩
    · exact .inr ⟨σ, by omega, h, e, hh⟩
theorem PEs_yes {c : List Nd} {p σ : Nat} {o n s : Int} (h : RP c p p (σ : Int)) : PEs c p (σ + 1) o n s ↔ PEs c p σ o n s ∨ (c[p]? = some (.fin o n) ∧ s = (σ : Int) + 1) := by
  constructor
  · rintro (h1 | ⟨t, ht, h1, e, hh⟩)
    · exact .inl (.inl h1)
    · by_cases ts : t = σ
      · subst ts; exact .inr ⟨e, hh⟩
      · exact .inl (.inr ⟨t, by omega, h1, e, hh⟩)
  · rintro ((h1 | ⟨t, ht, h1, e, hh⟩) | ⟨e, hh⟩)
    · exact .inl h1
    · exact .inr ⟨t, by omega, h1, e, hh⟩
    · exact .inr ⟨σ, by omega, h, e, hh⟩
/-- The ends behind the code. -/
def FEs (c : List Nd) (σ : Nat) : En := fun o n s => PE c c.length o n s ∨ ∃ t : Nat, t < σ ∧ RP c c.length c.length (t : Int) ∧ o = 23 ∧ n = 0 ∧ s = (t : Int)
theorem RP_lenF {c : List InstrS} (hok : fromOk c = true) {p j : Nat} {s : Int} (h : RP (c.map fromNd) p j s) : j ≤ c.length := by
  cases h with
  | zero => omega
  | next h hi hx hf => have := (List.getElem?_eq_some_iff.1 hx).1; simp at this; omega
  | @skip i t k h hi hx =>
    have hl := (List.getElem?_eq_some_iff.1 hx).1
    simp at hl
    have hx' : (nds c)[i]? = some (.skip k) := hx
    rw [nds_at hl] at hx'
    rcases end_cases (rdd zInstrS c i) with ⟨e1, o, n, e2, e3⟩ | ⟨e1, e2, e3⟩ | ⟨e1, e2, e3⟩
    · rw [e2] at hx'; cases hx'
    · rw [e3] at hx'; cases hx'
      have := fromOk_at hok hl e2
      omega
    · rw [e3] at hx'; cases hx'
theorem FEs_full {c : List InstrS} (hok : fromOk c = true) {o n s : Int} : FEs (c.map fromNd) (c.length + 1) o n s ↔ W19.Ends (c.map fromNd) o n s := by
  have hl : (c.map fromNd).length = c.length := by simp
  rw [ends_PE]
  unfold FEs
  rw [hl]
  constructor
  · rintro (h | ⟨t, _, h, a, b, e⟩)
    · exact .inl h
    · exact .inr ⟨c.length, Nat.le_refl _, a, b, by rw [e]; exact h⟩
  · rintro (h | ⟨j, hj, a, b, h⟩)
    · exact .inl h
    · have := RP_lenF hok h
      have e : j = c.length := by omega
      subst e
      have := h.le
      refine .inr ⟨s.toNat, by omega, ?_, a, b, by omega⟩
      rw [show ((s.toNat : Nat) : Int) = s by omega]; exact h
/-- Lists of ends are short. -/
theorem waysP_len {c : List Nd} {P : En} {l : List WayS} (h : WaysP P l) (hP : ∀ o n s, P o n s → W19.Ends c o n s) : l.length ≤ c.length + 1 := by
  have hn : (l.map fun x => (x.1, x.2.1)).Nodup := by
    rw [List.Nodup, List.pairwise_map]
    refine h.srt.imp fun {a b} h e => ?_
    simp only [Prod.mk.injEq] at e
    unfold wlt at h; omega
  have := W19.nodup_leW (m := (23, 0) :: c.map W19.keyN) hn fun x hx => by
    obtain ⟨y, hy, rfl⟩ := List.mem_map.1 hx
    rcases hP _ _ _ (h.mem y hy) with ⟨i, t, _, hi, _⟩ | ⟨i, _, e1, e2, _⟩
    · exact List.mem_cons_of_mem _ (List.mem_map.2 ⟨_, List.mem_of_getElem? hi, rfl⟩)
    · show (y.1, y.2.1) ∈ _
      rw [e1, e2]; simp
  simpa using this
theorem PE_ends {c : List Nd} {p : Nat} {o n s : Int} (h : PE c p o n s) : W19.Ends c o n s := by
  obtain ⟨i, t, hi, h, hx, rfl⟩ := h
  have := (List.getElem?_eq_some_iff.1 hx).1
  exact .inl ⟨i, t, reach_RP.2 ((h.low (Nat.le_refl _)).up (by omega)), hx, rfl⟩
end H19
end Go.AMach
