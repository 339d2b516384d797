/- law19: the end of InstrWays, walked. -/
import Derived.Test.YtbkbifpjckippaaHx
namespace Go.AMach
set_option linter.unusedVariables false
set_option linter.unusedSimpArgs false
set_option linter.unnecessarySimpa false
open Go Go.Proofs Go.RowKit Go.Shelf Go.Lib Go.Sort
set_option linter.unusedVariables false
set_option linter.unusedSimpArgs false
set_option linter.unusedSectionVars false
namespace H19
set_option linter.unusedVariables false
set_option linter.unusedSimpArgs false
set_option linter.unnecessarySimpa false
attribute [local go_sem ↓] Go.wp_at_zero Go.wp_at_succ
theorem made_one {z : Value} {n : Nat} (hz : z.cells = #[z]) : madeCells z.cells n = Array.replicate n z := by
  rw [hz]
  unfold madeCells
  apply Array.ext
  · simp
  · intro i h1 h2
    have : i % 1 = 0 := Nat.mod_one i
    simp [this]
/-- The rows' slices. -/
def rowSl (O n i : Nat) : Array Value := ((List.range (n + 1)).map fun j => if j < i then Value.slice (some ⟨O + 1 + j, 0, none⟩) (n + 2) (n + 2) else .slice none 0 0).toArray
def mrow (M : Nat → Nat → Bool) (n j : Nat) : Array Value := ((List.range (n + 2)).map fun s => Value.bool (M j s)).toArray
theorem rowSl_at {O n i j : Nat} (h : j ≤ n) : (rowSl O n i)[j]? = some (if j < i then Value.slice (some ⟨O + 1 + j, 0, none⟩) (n + 2) (n + 2) else .slice none 0 0) := by
  unfold rowSl
  rw [List.getElem?_toArray, List.getElem?_map, List.getElem?_range (by omega)]; rfl
theorem rowSl_size (O n i : Nat) : (rowSl O n i).size = n + 1 := by simp [rowSl]
theorem mrow_at {M : Nat → Nat → Bool} {n j s : Nat} (h : s < n + 2) : (mrow M n j)[s]? = some (.bool (M j s)) := by
  unfold mrow
  rw [List.getElem?_toArray, List.getElem?_map, List.getElem?_range h]; rfl
theorem mrow_size (M : Nat → Nat → Bool) (n j : Nat) : (mrow M n j).size = n + 2 := by simp [mrow]
/-- The rows under way. -/
structure M0 (w wr : World) (n i : Nat) : Prop where
  below : Below w.heap.size w wr
  outer : wr.heap[w.heap.size]? = some (.cells (rowSl w.heap.size n i) 50 (0, 0))
  inner : ∀ j, j < i → wr.heap[w.heap.size + 1 + j]? = some (.cells (mrow (fun _ _ => false) n j) 4 (0, 0))
  size : wr.heap.size = w.heap.size + 1 + i
structure MX (w wr : World) (n : Nat) (M : Nat → Nat → Bool) : Prop where
  below : Below w.heap.size w wr
  outer : wr.heap[w.heap.size]? = some (.cells (rowSl w.heap.size n (n + 1)) 50 (0, 0))
  inner : ∀ j, j ≤ n → wr.heap[w.heap.size + 1 + j]? = some (.cells (mrow M n j) 4 (0, 0))
def setM (M : Nat → Nat → Bool) (a b : Nat) : Nat → Nat → Bool := fun j s => if j = a ∧ s = b then true else M j s
theorem mrow_set (M : Nat → Nat → Bool) (n a b : Nat) : (mrow M n a).setIfInBounds b (.bool true) = mrow (setM M a b) n a := by
  apply Array.ext
  · simp [mrow]
  · intro i h1 h2
    have hi : i < n + 2 := by simpa [mrow] using h2
    have e1 := mrow_at (M := M) (n := n) (j := a) hi
    have e2 := mrow_at (M := setM M a b) (n := n) (j := a) hi
    rw [Array.getElem?_eq_getElem h2] at e2
    have h3 : i < (mrow M n a).size := by rw [mrow_size]; exact hi
    rw [Array.getElem?_eq_getElem h3] at e1
    rw [Array.getElem_setIfInBounds, Option.some.inj e2, Option.some.inj e1]
    · unfold setM
      by_cases h : b = i
      · rw [if_pos h, if_pos ⟨rfl, h.symm⟩]
      · rw [if_neg h, if_neg (fun e => h e.2.symm)]
    · exact h3
theorem mrow_ne {M : Nat → Nat → Bool} {n a b j : Nat} (h : j ≠ a) : mrow (setM M a b) n j = mrow M n j := by
  unfold mrow setM
  congr 2
  funext s
  rw [if_neg (fun e => h e.1)]
theorem MX.set {w wr : World} {n : Nat} {M : Nat → Nat → Bool} (h : MX w wr n M) {a b : Nat} (ha : a ≤ n) : MX w (wr.setCell ⟨w.heap.size + 1 + a, b, none⟩ (.bool true)) n (setM M a b) := by
  have hs := setCell_grown wr (w.heap.size + 1 + a) b (.bool true)
  have hO := (Array.getElem?_eq_some_iff.1 h.outer).1
  refine ⟨h.below.grown hs h.below.size (fun j e => by cases e; omega), (hs.block _ hO (by simp; omega)).trans h.outer, fun j hj => ?_⟩
  have hj' := (Array.getElem?_eq_some_iff.1 (h.inner j hj)).1
  by_cases e : j = a
  · subst e
    rw [setCell_heap (h.inner j hj), mrow_set]
  · rw [hs.block _ hj' (by simp; omega), h.inner j hj, mrow_ne e]
theorem MX.ext {w wr W1 : World} {n : Nat} {M : Nat → Nat → Bool} (h : MX w wr n M) (hg : wr.grownBy W1 none) : MX w W1 n M where
  below := h.below.grown hg h.below.size (by simp)
  outer := (hg.block _ (Array.getElem?_eq_some_iff.1 h.outer).1 (by simp)).trans h.outer
  inner := fun j hj => (hg.block _ (Array.getElem?_eq_some_iff.1 (h.inner j hj)).1 (by simp)).trans (h.inner j hj)
theorem MX.big {w wr : World} {n : Nat} {M : Nat → Nat → Bool} (h : MX w wr n M) : w.heap.size + n + 2 ≤ wr.heap.size := by
  have := (Array.getElem?_eq_some_iff.1 (h.inner n (Nat.le_refl _))).1; omega
/-- The facts of a row's cell. -/
theorem MX.row {w wr : World} {n : Nat} {M : Nat → Nat → Bool} (h : MX w wr n M) {j : Nat} (hj : j ≤ n) : wr.cell? ⟨w.heap.size, j, none⟩ = some (.slice (some ⟨w.heap.size + 1 + j, 0, none⟩) (n + 2) (n + 2)) := by
  rw [cellof h.outer, rowSl_at hj, if_pos (by omega)]
theorem MX.cel {w wr : World} {n : Nat} {M : Nat → Nat → Bool} (h : MX w wr n M) {j s : Nat} (hj : j ≤ n) (hs : s < n + 2) : wr.cell? ⟨w.heap.size + 1 + j, s, none⟩ = some (.bool (M j s)) := by
  rw [cellof (h.inner j hj), mrow_at hs]
theorem MX.frz {w wr : World} {n : Nat} {M : Nat → Nat → Bool} (h : MX w wr n M) {j s : Nat} (hj : j ≤ n) (hs : s < n + 2) : wr.frozen? ⟨w.heap.size + 1 + j, s, none⟩ = false :=
  frozen_of (h.inner j hj) (noF _) s (by rw [mrow_size]; exact hs)
theorem WSl.set {W : World} {lo b o : Nat} {x : Value} {v : Value} {l : List WayS} (h : WSl W lo v l) (hb : b < lo) : WSl (W.setCell ⟨b, o, none⟩ x) lo v l :=
  h.frame fun k hk hk2 => (setCell_grown W b o x).block k hk2 (by simp; omega)
theorem WSl.ext {W W1 : World} {lo : Nat} {v : Value} {l : List WayS} (h : WSl W lo v l) (hg : W.grownBy W1 none) : WSl W1 lo v l := h.frame fun k _ hk2 => hg.block k hk2 (by simp)
/-- What the rows tell. -/
def IR (n : Nat) (M : Nat → Nat → Bool) (T : Nat → Int → Prop) : Prop := ∀ j s, j ≤ n → s ≤ n + 1 → (M j s = true ↔ T j (s : Int))
theorem IR.congr {n : Nat} {M : Nat → Nat → Bool} {T T' : Nat → Int → Prop} (h : IR n M T) (e : ∀ j s, T' j s ↔ T j s) : IR n M T' := fun j s hj hs => (h j s hj hs).trans (e j s).symm
theorem IR.set {n : Nat} {M : Nat → Nat → Bool} {T : Nat → Int → Prop} (h : IR n M T) (a b : Nat) : IR n (setM M a b) (fun j s => T j s ∨ (s = (b : Int) ∧ j = a)) := fun j s hj hs => by
  unfold setM
  by_cases e : j = a ∧ s = b
  · rw [if_pos e]
    exact ⟨fun _ => .inr ⟨by rw [e.2], e.1⟩, fun _ => rfl⟩
  · rw [if_neg e, h j s hj hs]
    constructor
    · exact .inl
    · rintro (h | ⟨h1, h2⟩)
      · exact h
      · exact absurd ⟨h2, by omega⟩ e
theorem M0.step {w wr : World} {n i : Nat} (h : M0 w wr n i) (hi : i ≤ n) : M0 w ((wr.setCell ⟨w.heap.size, i, none⟩ (.slice (some ⟨wr.heap.size, 0, none⟩) (n + 2) (n + 2))).alloc (.cells (mrow (fun _ _ => false) n 0) 4)) n (i + 1) := by
  have hs := setCell_grown wr w.heap.size i (.slice (some ⟨wr.heap.size, 0, none⟩) (n + 2) (n + 2))
  have hss : (wr.setCell ⟨w.heap.size, i, none⟩ (.slice (some ⟨wr.heap.size, 0, none⟩) (n + 2) (n + 2))).heap.size = wr.heap.size := by simp [World.setCell]
  have hg := World.grownBy_alloc (wr.setCell ⟨w.heap.size, i, none⟩ (.slice (some ⟨wr.heap.size, 0, none⟩) (n + 2) (n + 2))) (.cells (mrow (fun _ _ => false) n 0) 4) none
  have hO := (Array.getElem?_eq_some_iff.1 h.outer).1
  have hsz := h.size
  have ho2 := setCell_heap (o := i) (v := .slice (some ⟨wr.heap.size, 0, none⟩) (n + 2) (n + 2)) h.outer
  refine ⟨(h.below.grown hs (by omega) (fun j e => by cases e; exact Nat.le_refl _)).grown hg (by omega) (by simp), ?_, fun j hj => ?_, ?_⟩
  · rw [heap_alloc_old _ _ (by omega), ho2]
    congr 2
    apply Array.ext
    · simp [rowSl]
    · intro k h1 h2
      have hk : k ≤ n := by have := rowSl_size w.heap.size n (i + 1); omega
      have e1 := rowSl_at (O := w.heap.size) (i := i) hk
      have e2 := rowSl_at (O := w.heap.size) (i := i + 1) hk
      rw [Array.getElem?_eq_getElem h2] at e2
      have h3 : k < (rowSl w.heap.size n i).size := by rw [rowSl_size]; omega
      rw [Array.getElem?_eq_getElem h3] at e1
      rw [Array.getElem_setIfInBounds, Option.some.inj e2, Option.some.inj e1]
      · by_cases hik : i = k
        · subst hik; rw [if_pos rfl, if_pos (by omega), hsz]
        · rw [if_neg hik]
          by_cases hki : k < i
          · rw [if_pos hki, if_pos (by omega)]
          · rw [if_neg hki, if_neg (by omega)]
      · exact h3
  · by_cases hji : j < i
    · rw [heap_alloc_old _ _ (by omega), hs.block _ (by omega) (by simp; omega)]
      exact h.inner j hji
    · have : j = i := by omega
      subst this
      have := heap_alloc_new (wr.setCell ⟨w.heap.size, j, none⟩ (.slice (some ⟨wr.heap.size, 0, none⟩) (n + 2) (n + 2))) (.cells (mrow (fun _ _ => false) n 0) 4)
      rw [hss, hsz] at this
      rw [hsz]
      exact this
  · show (Array.push _ _).size = _
    rw [Array.size_push]; omega
theorem M0.full {w wr : World} {n : Nat} (h : M0 w wr n (n + 1)) : MX w wr n (fun _ _ => false) := ⟨h.below, h.outer, fun j hj => h.inner j (by omega)⟩
theorem RPs_fin {c : List W19.Nd} {p σ j : Nat} {s o n : Int} (hx : c[p]? = some (.fin o n)) : RPs c p (σ + 1) j s ↔ RPs c p σ j s := by
  have no : ¬ StepTo c p j := by
    rintro ⟨x, h1, h2⟩
    rw [hx] at h1; cases h1
    rcases h2 with ⟨h, _⟩ | ⟨k, h, _⟩ <;> cases h
  constructor
  · rintro (h1 | ⟨t, ht, h1, e, hh⟩)
    · exact .inl h1
    · exact absurd hh no
  · rintro (h1 | ⟨t, ht, h1, e, hh⟩)
    · exact .inl h1
    · exact absurd hh no
theorem StepTo_step {c : List W19.Nd} {p j : Nat} (hx : c[p]? = some .step) : StepTo c p j ↔ j = p + 1 := by
  unfold StepTo
  rw [hx]
  constructor
  · rintro ⟨x, h1, h2⟩
    cases h1
    rcases h2 with ⟨_, h⟩ | ⟨k, h, _⟩
    · exact h
    · cases h
  · exact fun h => ⟨_, rfl, .inl ⟨rfl, h⟩⟩
theorem StepTo_skip {c : List W19.Nd} {p j k : Nat} (hx : c[p]? = some (.skip k)) : StepTo c p j ↔ j = p + 1 ∨ j = p + 1 + k := by
  unfold StepTo
  rw [hx]
  constructor
  · rintro ⟨x, h1, h2⟩
    cases h1
    rcases h2 with ⟨_, h⟩ | ⟨k, h, h'⟩
    · exact .inl h
    · cases h; exact .inr h'
  · rintro (h | h)
    · exact ⟨_, rfl, .inl ⟨rfl, h⟩⟩
    · exact ⟨_, rfl, .inr ⟨_, rfl, h⟩⟩
theorem PEs_nofin {c : List W19.Nd} {p σ : Nat} {o n s : Int} {x : W19.Nd} (hx : c[p]? = some x) (hf : x.isFin = false) : PEs c p (σ + 1) o n s ↔ PEs c p σ o n s := by
  have no : c[p]? ≠ some (.fin o n) := by
    rw [hx]; rintro h; cases h; cases hf
  constructor
  · rintro (h1 | ⟨t, ht, h1, e, hh⟩)
    · exact .inl h1
    · exact absurd e no
  · rintro (h1 | ⟨t, ht, h1, e, hh⟩)
    · exact .inl h1
    · exact absurd e no
theorem FEs_no {c : List W19.Nd} {σ : Nat} {o n s : Int} (h : ¬ N19.RP c c.length c.length (σ : Int)) : FEs c (σ + 1) o n s ↔ FEs c σ o n s := by
  constructor
  · rintro (h1 | ⟨t, ht, h1, e, hh⟩)
    · exact .inl h1
    · by_cases ts : t = σ
      · subst ts; exact absurd h1 h
      · exact .inr ⟨t, by omega, h1, e, hh⟩
  · rintro (h1 | ⟨t, ht, h1, e, hh⟩)
    · exact .inl h1
    · exact .inr ⟨t, by omega, h1, e, hh⟩
theorem FEs_yes {c : List W19.Nd} {σ : Nat} {o n s : Int} (h : N19.RP c c.length c.length (σ : Int)) : FEs c (σ + 1) o n s ↔ FEs c σ o n s ∨ (o = 23 ∧ n = 0 ∧ s = (σ : Int)) := by
  constructor
  · rintro (h1 | ⟨t, ht, h1, e, hh⟩)
    · exact .inl (.inl h1)
    · by_cases ts : t = σ
      · subst ts; exact .inr ⟨e, hh⟩
      · exact .inl (.inr ⟨t, by omega, h1, e, hh⟩)
  · rintro ((h1 | ⟨t, ht, h1, e, hh⟩) | ⟨e, hh⟩)
    · exact .inl h1
    · exact .inr ⟨t, by omega, h1, e, hh⟩
    · exact .inr ⟨σ, by omega, h, e, hh⟩
/-- Under way: the rows, and the ends so far. -/
def L2 (w wr : World) (n : Nat) (T : Nat → Int → Prop) (P : W19.En) (v : Value) : Prop :=
  ∃ M all, MX w wr n M ∧ IR n M T ∧ WSl wr (w.heap.size + n + 2) v all ∧ W19.WaysP P all
theorem L2.congr {w wr : World} {n : Nat} {T T' : Nat → Int → Prop} {P P' : W19.En} {v : Value} (h : L2 w wr n T P v) (e : ∀ j s, T' j s ↔ T j s) (e' : ∀ o m s, P' o m s ↔ P o m s) : L2 w wr n T' P' v := by
  obtain ⟨M, all, a, b, c, d⟩ := h
  exact ⟨M, all, a, b.congr e, c, d.congr fun o m s => (e' o m s).symm⟩
theorem L2.ext {w wr W1 : World} {n : Nat} {T : Nat → Int → Prop} {P : W19.En} {v : Value} (h : L2 w wr n T P v) (hg : wr.grownBy W1 none) : L2 w W1 n T P v := by
  obtain ⟨M, all, a, b, c, d⟩ := h
  exact ⟨M, all, a.ext hg, b, c.ext hg, d⟩
theorem L2.below {w wr : World} {n : Nat} {T : Nat → Int → Prop} {P : W19.En} {v : Value} (h : L2 w wr n T P v) : Below w.heap.size w wr := by
  obtain ⟨M, all, a, b, c, d⟩ := h
  exact a.below
theorem L2.cell {w wr : World} {n : Nat} {T : Nat → Int → Prop} {P : W19.En} {v : Value} (h : L2 w wr n T P v) {a : Addr} {x : Value} (hc : w.cell? a = some x) : wr.cell? a = some x := by
  rw [World.cell?_of_block (h.below.block _ (World.block_lt_of_cell? w _ hc))]; exact hc
theorem L2.row {w wr : World} {n : Nat} {T : Nat → Int → Prop} {P : W19.En} {v : Value} (h : L2 w wr n T P v) {j : Nat} (hj : j ≤ n) : wr.cell? ⟨w.heap.size, j, none⟩ = some (.slice (some ⟨w.heap.size + 1 + j, 0, none⟩) (n + 2) (n + 2)) := by
  obtain ⟨M, all, a, b, c, d⟩ := h
  exact a.row hj
theorem L2.is {w wr : World} {n : Nat} {T : Nat → Int → Prop} {P : W19.En} {v : Value} (h : L2 w wr n T P v) {j s : Nat} (hj : j ≤ n) (hs : s ≤ n + 1) : (T j (s : Int) ∧ wr.cell? ⟨w.heap.size + 1 + j, s, none⟩ = some (.bool true)) ∨ (¬ T j (s : Int) ∧ wr.cell? ⟨w.heap.size + 1 + j, s, none⟩ = some (.bool false)) := by
  obtain ⟨M, all, a, b, c, d⟩ := h
  have e := a.cel hj (show s < n + 2 by omega)
  have f := b j s hj hs
  cases hm : M j s with
  | true => rw [hm] at e f; exact .inl ⟨f.1 rfl, e⟩
  | false => rw [hm] at e f; exact .inr ⟨fun h => absurd (f.2 h) (by simp), e⟩
theorem L2.cel {w wr : World} {n : Nat} {T : Nat → Int → Prop} {P : W19.En} {v : Value} (h : L2 w wr n T P v) {j s : Nat} (hj : j ≤ n) (hs : s ≤ n + 1) : ∃ b, wr.cell? ⟨w.heap.size + 1 + j, s, none⟩ = some (.bool b) := by
  obtain ⟨M, all, a, b, c, d⟩ := h
  exact ⟨_, a.cel hj (show s < n + 2 by omega)⟩
theorem L2.frz {w wr : World} {n : Nat} {T : Nat → Int → Prop} {P : W19.En} {v : Value} (h : L2 w wr n T P v) {j s : Nat} (hj : j ≤ n) (hs : s ≤ n + 1) : wr.frozen? ⟨w.heap.size + 1 + j, s, none⟩ = false := by
  obtain ⟨M, all, a, b, c, d⟩ := h
  exact a.frz hj (show s < n + 2 by omega)
theorem L2.set {w wr : World} {n : Nat} {T : Nat → Int → Prop} {P : W19.En} {v : Value} (h : L2 w wr n T P v) {a b : Nat} (ha : a ≤ n) : L2 w (wr.setCell ⟨w.heap.size + 1 + a, b, none⟩ (.bool true)) n (fun j s => T j s ∨ (s = (b : Int) ∧ j = a)) P v := by
  obtain ⟨M, all, x, y, c, d⟩ := h
  exact ⟨_, all, x.set ha, y.set a b, c.set (by omega), d⟩
theorem L2.big {w wr : World} {n : Nat} {T : Nat → Int → Prop} {P : W19.En} {v : Value} (h : L2 w wr n T P v) : w.heap.size + n + 2 ≤ wr.heap.size := by
  obtain ⟨M, all, a, b, c, d⟩ := h
  exact a.big
theorem L2.len {w wr : World} {c : List InstrS} {T : Nat → Int → Prop} {P : W19.En} {v : Value} (h : L2 w wr c.length T P v) (hP : ∀ o m s, P o m s → W19.Ends (c.map fromNd) o m s) : ∃ M all, MX w wr c.length M ∧ IR c.length M T ∧ WSl wr (w.heap.size + c.length + 2) v all ∧ W19.WaysP P all ∧ all.length ≤ c.length + 1 := by
  obtain ⟨M, all, a, b, d, e⟩ := h
  exact ⟨M, all, a, b, d, e, by have := waysP_len e hP; simpa using this⟩
set_option maxHeartbeats 4000000
set_option maxRecDepth 1000000
theorem run_walk [Sites] (hB : SpecOk Try.prog 31 (specQ [.ty (.slice WayT), .ty (.slice WayT)] [] [.ty (.slice WayT)] [] fun a b => Q_z0r a.1 a.2.1))
   (hE : SpecOk Try.prog 30 (specQ [.agg InstrT] [] [.ty (.int .u8), .ty (.int .i64), .ty .bool] [] fun a b => Q_z0w a.1))
   (hWs : SpecOk Try.prog 24 (specQ [.ty (.slice WayT), .ty (.slice WayT)] [] [.ty .bool] [] fun a b => Q_z0f a.1 a.2.1))
   (ds0 : List Deferred) (R : Exit → Act → World → Prop) (w : World) (bc oc : Nat) (c : List InstrS) (a0 : Option Addr) (cap0 : Nat) (hn : c.length ≤ 32) (hok : fromOk c = true) (hin : InpC w a0 c.length 7 (insCell c))
   (hcode : w.cell? ⟨bc, oc + 1, none⟩ = some (.slice a0 c.length cap0)) (v5 : Value) (hw5 : WSl w 0 v5 (W19.waysB (c.map fromNd)))
   (hR : ∀ (l' : List Value) (wr : World), l'.length = 189 → l'.getD 4 undef = .bool true → Below w.heap.size w wr → R .ret { tmps := l'.toArray, defers := ds0 } wr)
   (l : List Value) (hl : l.length = 188 + 1) (h2 : l.getD 2 undef = .pointer (some ⟨bc, oc, none⟩)) (h5 : l.getD 5 undef = v5) :
   (partAt (bodyOf Try.f6) [1, 1, 1, 1, 1, 1, 1]).wp Try.prog R { tmps := l.toArray, defers := ds0 } w := by
  obtain ⟨f, hf, hg⟩ := lit189 hl
  rw [hg 2 (by omega)] at h2
  rw [hg 5 (by omega)] at h5
  clear hg hl
  rw [h2, h5] at hf
  subst hf
  obtain ⟨i50, hi50, hz50, hs50, hb50⟩ : ∃ i, Try.prog.info? 50 = some i ∧ i.zero = some (.slice none 0 0) ∧ i.size = 1 ∧ i.bytes = 24 := ⟨(Try.prog.info? 50).getD default, by kernel_rfl, by kernel_rfl, by kernel_rfl, by kernel_rfl⟩
  obtain ⟨i4, hi4, hz4, hs4, hb4⟩ : ∃ i, Try.prog.info? 4 = some i ∧ i.zero = some (.bool false) ∧ i.size = 1 ∧ i.bytes = 1 := ⟨(Try.prog.info? 4).getD default, by kernel_rfl, by kernel_rfl, by kernel_rfl, by kernel_rfl⟩
  have hmk : (Instr.makeSlice 54 (.int .i64 ((c.length : Int) + 1)) (.int .i64 ((c.length : Int) + 1))).run Try.prog w = .ok (.slice (some ⟨w.heap.size, 0, none⟩) (c.length + 1) (c.length + 1)) (w.alloc (.cells (rowSl w.heap.size c.length 0) 50)) := by
    have := run_make (P := Try.prog) w 54 50 i50 _ Try.underlying54 hi50 hz50 .i64 .i64 ((c.length : Int) + 1) ((c.length : Int) + 1) (by omega) (by omega) (by rw [hb50]; omega) (by omega)
    rw [this]
    have e : ((c.length : Int) + 1).toNat = c.length + 1 := by omega
    rw [e, hs50, Nat.mul_one, made_one rfl]
    have e2 : Array.replicate (c.length + 1) (Value.slice none 0 0) = rowSl w.heap.size c.length 0 := by
      apply Array.ext
      · simp [rowSl]
      · intro i h1 h2
        simp [rowSl]
    rw [e2]
  have hmk2 : ∀ W : World, (Instr.makeSlice 50 (.int .i64 ((c.length : Int) + 2)) (.int .i64 ((c.length : Int) + 2))).run Try.prog W = .ok (.slice (some ⟨W.heap.size, 0, none⟩) (c.length + 2) (c.length + 2)) (W.alloc (.cells (mrow (fun _ _ => false) c.length 0) 4)) := by
    intro W
    have := run_make (P := Try.prog) W 50 4 i4 _ Try.underlying50 hi4 hz4 .i64 .i64 ((c.length : Int) + 2) ((c.length : Int) + 2) (by omega) (by omega) (by rw [hb4]; omega) (by omega)
    rw [this]
    have e : ((c.length : Int) + 2).toNat = c.length + 2 := by omega
    rw [e, hs4, Nat.mul_one, made_one rfl]
    have e2 : Array.replicate (c.length + 2) (Value.bool false) = mrow (fun _ _ => false) c.length 0 := by
      apply Array.ext
      · simp [mrow]
      · intro i h1 h2
        simp [mrow]
    rw [e2]
  refine partc7 rfl ?_
  go_wp2_with fail
  clear hmk
  go_loopw [10] (fun v10 wr => ∃ i : Nat, v10 = .int .i64 (i : Int) ∧ i ≤ c.length + 1 ∧ M0 w wr c.length i) (fun v10 wr => c.length + 1 - (intV v10).toNat)
  case atStart =>
    refine ⟨0, rfl, by omega, ⟨⟨rfl, rfl, rfl, by simp, fun k hk => heap_alloc_old w _ hk⟩, heap_alloc_new w _, fun j hj => by omega, by simp⟩⟩
  case round =>
    obtain ⟨i, rfl, hi, hM⟩ := hrel
    have hO := (Array.getElem?_eq_some_iff.1 hM.outer).1
    have hcode' : wr.cell? ⟨bc, oc + 1, none⟩ = some (.slice a0 c.length cap0) := by
      rw [World.cell?_of_block (hM.below.block _ (World.block_lt_of_cell? w _ hcode))]; exact hcode
    by_cases hin1 : i < c.length + 1
    · have hio : i ≤ c.length := by omega
      have ho2 := (heap_alloc_old wr (.cells (mrow (fun _ _ => false) c.length 0) 4) hO).trans hM.outer
      have hc1 : (wr.alloc (.cells (mrow (fun _ _ => false) c.length 0) 4)).cell? ⟨w.heap.size, i, none⟩ = some (.slice none 0 0) := by
        rw [cellof ho2, rowSl_at hio, if_neg (by omega)]
      have hf1 : (wr.alloc (.cells (mrow (fun _ _ => false) c.length 0) 4)).frozen? ⟨w.heap.size, i, none⟩ = false := frozen_of ho2 (noF _) i (by rw [rowSl_size]; exact hin1)
      have hi1 : (i : Int) < (c.length : Int) + 1 := by omega
      have hfin := hM.step hio
      go_wp2_with fail
      exact ⟨⟨i + 1, rfl, by omega, hfin⟩, by simp [intV]; omega⟩
    · have e : i = c.length + 1 := by omega
      subst e
      have hX := hM.full
      have hr0 : wr.cell? ⟨w.heap.size, 0, none⟩ = some (.slice (some ⟨w.heap.size + 1, 0, none⟩) (c.length + 2) (c.length + 2)) := hX.row (Nat.zero_le _)
      have hc0 : wr.cell? ⟨w.heap.size + 1, 0, none⟩ = some (.bool false) := hX.cel (Nat.zero_le _) (by omega)
      have hf0 : wr.frozen? ⟨w.heap.size + 1, 0, none⟩ = false := hX.frz (Nat.zero_le _) (by omega)
      have hX1 : MX w (wr.setCell ⟨w.heap.size + 1, 0, none⟩ (.bool true)) c.length _ := hX.set (a := 0) (b := 0) (Nat.zero_le _)
      have hI1 : IR c.length (setM (fun _ _ => false) 0 0) (fun j s => N19.RP (c.map fromNd) 0 j s) := by
        refine (IR.set (T := fun _ _ => False) (fun j s hj hs => by simp) 0 0).congr fun j s => ?_
        constructor
        · intro h
          cases h with
          | zero => exact .inr ⟨rfl, rfl⟩
          | next h hi _ _ => omega
          | skip h hi _ => omega
        · rintro (h | ⟨rfl, rfl⟩)
          · exact h.elim
          · exact .zero
      go_wp2_with fail
      clear hc0 hf0 hr0 hmk2 hM hX
      generalize wr.setCell ⟨w.heap.size + 1, 0, none⟩ (.bool true) = W1 at *
      generalize setM (fun _ _ => false) 0 0 = M1 at *
      have hL1 : L2 w W1 c.length (fun j s => N19.RP (c.map fromNd) 0 j s) (N19.PE (c.map fromNd) 0) (.slice none 0 0) := ⟨M1, [], hX1, hI1, WSl.nil _ _ _ _, ⟨.nil, by simp, fun o n s h => by
        obtain ⟨i, t, hi, _⟩ := h; omega⟩⟩
      clear hX1 hI1
      go_loopw [11, 12] (fun v11 v12 wr => ∃ p : Nat, v12 = .int .i64 (p : Int) ∧ p ≤ c.length ∧ L2 w wr c.length (fun j s => N19.RP (c.map fromNd) p j s) (N19.PE (c.map fromNd) p) v11) (fun v11 v12 wr => c.length - (intV v12).toNat)
      case atStart => exact ⟨0, rfl, Nat.zero_le _, hL1⟩
      case round =>
        clear hL1 hcode'
        obtain ⟨p, rfl, hp, hL⟩ := hrel
        have hcode' := hL.cell hcode
        by_cases hpn : p < c.length
        case neg =>
          have e : p = c.length := by omega
          subst e
          go_wp2_with fail
          go_loopw [11, 18] (fun v11 v18 wr => ∃ σ : Nat, v18 = .int .i64 (σ : Int) ∧ σ ≤ c.length + 1 ∧ L2 w wr c.length (fun j s => N19.RP (c.map fromNd) c.length j s) (FEs (c.map fromNd) σ) v11) (fun v11 v18 wr => c.length + 1 - (intV v18).toNat)
          case atStart => exact ⟨0, rfl, by omega, hL.congr (fun _ _ => Iff.rfl) (fun o n s => ⟨fun h => h.elim (fun h => by simpa using h) (fun ⟨t, ht, _⟩ => by omega), fun h => .inl (by simpa using h)⟩)⟩
          case round =>
            clear hL hcode'
            obtain ⟨σ, rfl, hσ, hL⟩ := hrel
            have hcode' := hL.cell hcode
            by_cases hσn : σ ≤ c.length
            case neg =>
              have e : σ = c.length + 1 := by omega
              subst e
              obtain ⟨M, all, hX, hI, hW, hP⟩ := hL
              have hall : all = W19.waysB (c.map fromNd) := hP.one ((W19.waysB_ok _ (c.map fromNd) (Nat.le_refl _)).congr fun o n s => W19.E_iff.trans (FEs_full hok).symm)
              subst hall
              have hlen2 := (W19.waysB_len (c.map fromNd)).2
              simp only [List.length_map] at hlen2
              have hw5' : WSl wr 0 v5 (W19.waysB (c.map fromNd)) := hw5.frame fun k _ hk => hX.below.block k hk
              have hW0 : WSl wr 0 u11 (W19.waysB (c.map fromNd)) := by
                obtain ⟨ι, h1, h2⟩ := hW
                exact ⟨ι, fun b o hb => ⟨(h1 b o hb).1, Nat.zero_le _⟩, h2⟩
              go_wp2_with (go_at_call 24; refine (ways_calls hWs hw5' hW0 (by omega)).mono ?_; rintro e W4 ⟨rfl, hg4⟩)
              exact hR _ _ rfl rfl (hX.below.grown hg4 hX.below.size (by simp))
            case pos =>
              have hrow := hL.row (Nat.le_refl c.length)
              rcases hL.is (Nat.le_refl c.length) (show σ ≤ c.length + 1 by omega) with ⟨hT, hcel⟩ | ⟨hT, hcel⟩
              case inr =>
                go_wp2_with fail
                exact ⟨⟨σ + 1, rfl, by omega, hL.congr (fun _ _ => Iff.rfl) fun o n s => FEs_no (by simpa using hT)⟩, by simp [intV]; omega⟩
              case inl =>
                have hpe : ∀ o n s, FEs (c.map fromNd) σ o n s → W19.Ends (c.map fromNd) o n s := fun o n s h => (FEs_full hok).1 (h.elim .inl fun ⟨t, ht, h⟩ => .inr ⟨t, by omega, h⟩)
                obtain ⟨M, all, hX, hI, hW, hP, hlen⟩ := hL.len hpe
                have hbig := hX.big
                go_wp2_with (go_at_call 31; refine (both_calls hB (hW.ext (World.grownBy_alloc wr _ none)) (WSl.lit (T := 58) (F := (0, 0)) (heap_alloc_new wr _) (by omega)) (by simp only [World.size_alloc]; omega) hP.srt (by omega) (by simp)).mono ?_; rintro e W4 ⟨v, rfl, hv, hg4⟩)
                refine ⟨?_, by simp [intV]; omega⟩
                repeat apply Exists.intro
                refine ⟨⟨σ + 1, rfl, by omega, M, _, (hX.ext (World.grownBy_alloc wr _ none)).ext hg4, hI, hv, (W19.withL_ways hP).congr fun o' n' s => ?_⟩, rfl⟩
                rw [FEs_yes (by simpa using hT)]
                constructor
                · rintro (h | h)
                  · exact .inl h
                  · cases h; exact .inr ⟨rfl, rfl, rfl⟩
                · rintro (h | ⟨rfl, rfl, rfl⟩)
                  · exact .inl h
                  · exact .inr rfl
        case pos =>
          go_wp2_with fail
          go_loopw [11, 13] (fun v11 v13 wr => ∃ σ : Nat, v13 = .int .i64 (σ : Int) ∧ σ ≤ c.length + 1 ∧ L2 w wr c.length (fun j s => RPs (c.map fromNd) p σ j s) (PEs (c.map fromNd) p σ) v11) (fun v11 v13 wr => c.length + 1 - (intV v13).toNat)
          case atStart => exact ⟨0, rfl, by omega, hL.congr (fun _ _ => RPs_zero) (fun _ _ _ => PEs_zero)⟩
          case round =>
            clear hL hcode'
            obtain ⟨σ, rfl, hσ, hL⟩ := hrel
            have hcode' := hL.cell hcode
            by_cases hσn : σ ≤ c.length
            case neg =>
              have e : σ = c.length + 1 := by omega
              subst e
              go_wp2_with fail
              have hx : (c.map fromNd)[p]? = some (fromNd (rdd zInstrS c p)) := by
                rw [List.getElem?_map, rdd_lt hpn, List.getElem?_eq_getElem hpn]; rfl
              exact ⟨⟨p + 1, rfl, by omega, hL.congr (fun _ _ => (RPs_full hx (by omega)).symm) (fun _ _ _ => (PEs_full hx (by omega)).symm)⟩, by simp [intV]; omega⟩
            case pos =>
              have hrow := hL.row hp
              rcases hL.is hp (show σ ≤ c.length + 1 by omega) with ⟨hT, hcel⟩ | ⟨hT, hcel⟩
              case inr =>
                go_wp2_with fail
                have hT' := fun h => hT (RPs_own.2 h)
                exact ⟨⟨σ + 1, rfl, by omega, hL.congr (fun _ _ => (RPs_no hT')) (fun _ _ _ => PEs_no hT')⟩, by simp [intV]; omega⟩
              case inl =>
                have hidx : (Instr.indexAt 36 (.slice a0 c.length cap0) (.int .i64 p)).run Try.prog wr = .ok (.pointer (a0.map (·.add (p * 7)))) wr := by
                  obtain ⟨b, off, ha, _⟩ := hin
                  rw [ha (by omega)]
                  simp [Instr.indexAt, asIntOf, run_underlying Try.underlying36, run_sizeOf (P := Try.prog) (t := 28) (n := 7) (by kernel_rfl), hpn, Addr.add_at]
                obtain ⟨b, off, ha, hcell⟩ := hin
                have ha := ha (by omega)
                subst ha
                simp only [Option.map, Addr.add_at] at hidx
                have f0 := hL.cell (hcell p 0 hpn (by omega))
                have f1 := hL.cell (hcell p 1 hpn (by omega))
                have f2 := hL.cell (hcell p 2 hpn (by omega))
                have f3 := hL.cell (hcell p 3 hpn (by omega))
                have f4 := hL.cell (hcell p 4 hpn (by omega))
                have f5 := hL.cell (hcell p 5 hpn (by omega))
                have f6 := hL.cell (hcell p 6 hpn (by omega))
                simp only [Nat.add_zero, insCell] at f0 f1 f2 f3 f4 f5 f6
                have hx : (c.map fromNd)[p]? = some (fromNd (rdd zInstrS c p)) := by
                  rw [List.getElem?_map, rdd_lt hpn, List.getElem?_eq_getElem hpn]; rfl
                have hT' := RPs_own.1 hT
                have h12 := fromOk_at hok hpn
                have hends := N19.end_cases (rdd zInstrS c p)
                change (_ ∧ ∃ o n, fromNd _ = _ ∧ _) ∨ (_ ∧ _ ∧ fromNd _ = _) ∨ (_ ∧ _ ∧ fromNd _ = _) at hends
                generalize hy : rdd zInstrS c p = y at *
                obtain ⟨op, to, ⟨ak, an, au⟩, ⟨bk, bn, bu⟩, N, yu⟩ := y
                simp only at f0 f1 f2 f3 f4 f5 f6 h12
                have hcall := fun W => ends_calls hE op to ak an bk bn N W
                rcases hends with ⟨e1, o, n, e2, e3⟩ | ⟨e1, h12', e2⟩ | ⟨e1, h12', e2⟩
                case inl =>
                  rw [e1, e3] at hcall
                  change ∀ W : World, Calls _ _ _ W fun e w' => e = .returned (.tuple #[.int .u8 o, .int .i64 n, .bool true]) ∧ W.grownBy w' none at hcall
                  have hpe : ∀ o n s, PEs (c.map fromNd) p σ o n s → W19.Ends (c.map fromNd) o n s := fun o n s h => PE_ends ((PEs_full hx (show p < p + σ + 1 by omega)).1 (h.elim .inl fun ⟨t, ht, h⟩ => .inr ⟨t, by omega, h⟩))
                  obtain ⟨M, all, hX, hI, hW, hP, hlen⟩ := hL.len hpe
                  go_wp2_with (first | (go_at_call 30; refine (hcall _).mono ?_; rintro e W2 ⟨rfl, hgr⟩) | (go_at_call 31; have hbig := hX.big; have hsz2 := hgr.size; simp only [World.size_alloc] at hsz2; refine (both_calls hB (((hW.ext (World.grownBy_alloc wr _ none)).ext hgr).ext (World.grownBy_alloc W2 _ none)) (WSl.lit (T := 58) (F := (0, 0)) (heap_alloc_new W2 _) (by omega)) (by simp only [World.size_alloc]; omega) hP.srt (by omega) (by simp)).mono ?_; rintro e W4 ⟨v, rfl, hv, hg4⟩))
                  refine ⟨?_, by simp [intV]; omega⟩
                  repeat apply Exists.intro
                  refine ⟨⟨σ + 1, rfl, by omega, M, _, (((hX.ext (World.grownBy_alloc wr _ none)).ext hgr).ext (World.grownBy_alloc W2 _ none)).ext hg4, hI.congr fun j s => ?_, hv, (W19.withL_ways hP).congr fun o' n' s => ?_⟩, rfl⟩
                  · rw [e2] at hx
                    exact RPs_fin hx
                  · rw [e2] at hx
                    rw [PEs_yes hT', hx]
                    constructor
                    · rintro (h | h)
                      · exact .inl h
                      · cases h; exact .inr ⟨rfl, rfl⟩
                    · rintro (h | ⟨h1, h2⟩)
                      · exact .inl h
                      · cases h1; subst h2; exact .inr rfl
                case inr.inl =>
                  subst h12'
                  rw [e1] at hcall
                  obtain ⟨hN0, hN1⟩ := h12 rfl
                  obtain ⟨q, rfl⟩ : ∃ q : Nat, N = (q : Int) := ⟨N.toNat, by omega⟩
                  have hq : p + 1 + q ≤ c.length := by omega
                  have h1 : ¬ ((p : Int) + 1 + (q : Int) > (c.length : Int)) := by omega
                  have h2 : ¬ ((p : Int) + 1 + (q : Int) < 0) := by omega
                  have h3 : ((p : Int) + 1 + (q : Int)).toNat = p + 1 + q := by omega
                  have h4 : (p : Int) + 1 + (q : Int) < (c.length : Int) + 1 := by omega
                  have ew2 : IntKind.wrap .i64 ((p : Int) + 1 + (q : Int)) = (p : Int) + 1 + (q : Int) := by simp [IntKind.wrap, IntKind.bits, IntKind.signed]; omega
                  have hi2 : ∀ W : World, (Instr.indexAt 54 (.slice (some ⟨w.heap.size, 0, none⟩) (c.length + 1) (c.length + 1)) (.int .i64 ((p : Int) + 1 + (q : Int)))).run Try.prog W = .ok (.pointer (some ⟨w.heap.size, p + 1 + q, none⟩)) W := fun W => by
                    simp [Instr.indexAt, asIntOf, run_underlying Try.underlying54, run_sizeOf (P := Try.prog) (t := 50) (n := 1) (by kernel_rfl), h4, h2, h3, Addr.add_at]
                  go_wp2_with (go_at_call 30; refine (hcall _).mono ?_; rintro e W2 ⟨rfl, hgr⟩; have hL2 := (hL.ext (World.grownBy_alloc wr _ none)).ext hgr; have hbig := hL.big; have hblk := (hgr.block wr.heap.size (by simp) (by simp)).trans (heap_alloc_new wr _); have hr2 := hL2.row (j := p + 1) (by omega); have hf2 := hL2.frz (j := p + 1) (s := σ + 1) (by omega) (by omega); obtain ⟨bb, hc2⟩ := hL2.cel (j := p + 1) (s := σ + 1) (by omega) (by omega); have hcode2 := hL2.cell hcode; have hL3 := hL2.set (a := p + 1) (b := σ + 1) (by omega); have hs3 := setCell_grown W2 (w.heap.size + 1 + (p + 1)) (σ + 1) (.bool true); have hsz2 := hgr.size; simp only [World.size_alloc] at hsz2; have hb3 := (hs3.block wr.heap.size (by omega) (by simp; omega)).trans hblk; have q0 : (W2.setCell ⟨w.heap.size + 1 + (p + 1), σ + 1, none⟩ (.bool true)).cell? ⟨wr.heap.size, 0, none⟩ = some (.int .u8 12) := (by rw [cellof hb3]; rfl); have q6 : (W2.setCell ⟨w.heap.size + 1 + (p + 1), σ + 1, none⟩ (.bool true)).cell? ⟨wr.heap.size, 6, none⟩ = some (.int .i64 (q : Int)) := (by rw [cellof hb3]; rfl); have hcode3 := hL3.cell hcode ; have hr3 := hL3.row (j := p + 1 + q) (by omega); have hf3 := hL3.frz (j := p + 1 + q) (s := σ + 1) (by omega) (by omega); obtain ⟨bb3, hc3⟩ := hL3.cel (j := p + 1 + q) (s := σ + 1) (by omega) (by omega))
                  have hL4 := hL3.set (a := p + 1 + q) (b := σ + 1) (by omega)
                  refine ⟨?_, by simp [intV]; omega⟩
                  repeat apply Exists.intro
                  refine ⟨⟨σ + 1, rfl, by omega, hL4.congr (fun j s => ?_) fun o' n' s => ?_⟩, rfl⟩
                  · rw [e2] at hx
                    rw [RPs_yes hT', StepTo_skip hx]
                    show _ ∨ (s = (σ : Int) + 1 ∧ (j = p + 1 ∨ j = p + 1 + q)) ↔ (_ ∨ (s = (σ : Int) + 1 ∧ j = p + 1)) ∨ (s = (σ : Int) + 1 ∧ j = p + 1 + q)
                    constructor
                    · rintro (h | ⟨h1, h | h⟩)
                      · exact .inl (.inl h)
                      · exact .inl (.inr ⟨h1, h⟩)
                      · exact .inr ⟨h1, h⟩
                    · rintro ((h | ⟨h1, h⟩) | ⟨h1, h⟩)
                      · exact .inl h
                      · exact .inr ⟨h1, .inl h⟩
                      · exact .inr ⟨h1, .inr h⟩
                  · rw [e2] at hx
                    exact PEs_nofin hx rfl
                case inr.inr =>
                  rw [e1] at hcall
                  go_wp2_with (go_at_call 30; refine (hcall _).mono ?_; rintro e W2 ⟨rfl, hgr⟩; have hL2 := (hL.ext (World.grownBy_alloc wr _ none)).ext hgr; have hbig := hL.big; have hblk := (hgr.block wr.heap.size (by simp) (by simp)).trans (heap_alloc_new wr _); have hr2 := hL2.row (j := p + 1) (by omega); have hf2 := hL2.frz (j := p + 1) (s := σ + 1) (by omega) (by omega); obtain ⟨bb, hc2⟩ := hL2.cel (j := p + 1) (s := σ + 1) (by omega) (by omega); have hcode2 := hL2.cell hcode; have hL3 := hL2.set (a := p + 1) (b := σ + 1) (by omega); have hs3 := setCell_grown W2 (w.heap.size + 1 + (p + 1)) (σ + 1) (.bool true); have hsz2 := hgr.size; simp only [World.size_alloc] at hsz2; have hb3 := (hs3.block wr.heap.size (by omega) (by simp; omega)).trans hblk; have q0 : (W2.setCell ⟨w.heap.size + 1 + (p + 1), σ + 1, none⟩ (.bool true)).cell? ⟨wr.heap.size, 0, none⟩ = some (.int .u8 op) := (by rw [cellof hb3]; rfl); have q6 : (W2.setCell ⟨w.heap.size + 1 + (p + 1), σ + 1, none⟩ (.bool true)).cell? ⟨wr.heap.size, 6, none⟩ = some (.int .i64 N) := (by rw [cellof hb3]; rfl); have hcode3 := hL3.cell hcode )
                  refine ⟨?_, by simp [intV]; omega⟩
                  repeat apply Exists.intro
                  refine ⟨⟨σ + 1, rfl, by omega, hL3.congr (fun j s => ?_) fun o' n' s => ?_⟩, rfl⟩
                  · rw [e2] at hx
                    rw [RPs_yes hT', StepTo_step hx]
                    rfl
                  · rw [e2] at hx
                    exact PEs_nofin hx rfl
end H19
end Go.AMach
