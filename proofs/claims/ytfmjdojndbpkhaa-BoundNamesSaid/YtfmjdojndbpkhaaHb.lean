/- What stands while solve runs: the solver's maps and rows. -/
import Derived.Test.YtfmjdojndbpkhaaDx
import Derived.Test.YtfmjdojndbpkhaaHa
import Derived.Maps.AppendAt
namespace Go.AMach
set_option linter.unusedVariables false
set_option linter.unusedSimpArgs false
set_option linter.unnecessarySimpa false
open Go Go.RowKit
set_option linter.unusedVariables false
set_option linter.unusedSectionVars false
set_option linter.unusedSimpArgs false

def objs (all : List ObjS) : List Value := all.flatMap fun o => [.int .i64 o.1, .int .i64 o.2.1]
theorem objs_snoc (all : List ObjS) (o : ObjS) : objs (all ++ [o]) = objs all ++ [.int .i64 o.1, .int .i64 o.2.1] := by simp [objs]
/-- A table's blocks lie in a row of their own. -/
def R1 (wr : World) (B : Nat) (sl : Value) : Int → Value → List Int → Prop := fun x u l => l.length ≤ 2000 ∧ wr.ownsRow (B + 5) 3 1 u l.length (l.map (.int .i64)) ∧ (u.ownBlock = none ∨ u.ownBlock ≠ sl.ownBlock)
def Dist (ms : List MapEntry) : Prop := ∀ x y i j u v, mfind KI x ms 0 = some (i, u) → mfind KI y ms 0 = some (j, v) → x ≠ y → u.ownBlock = none ∨ u.ownBlock ≠ v.ownBlock

structure SV (ι : Iota) (w wr : World) (xs : List Value) (g1 : Int → Option (List Int)) (g2 : Int → Option (List InstrS)) (g3 : Int → Option GroupS) (all : List ObjS) (sl : Value) : Prop where
  below : Below w.heap.size w wr
  size : w.heap.size + 5 ≤ wr.heap.size
  cfg : wr.heap[w.heap.size]? = some (.cells xs.toArray 32 (0, 0))
  obj : wr.heap[w.heap.size + 1 + 1 + 1 + 1]? = some (.cells #[.map (some (w.heap.size + 1)), .map (some (w.heap.size + 1 + 1)), .map (some (w.heap.size + 1 + 1 + 1)), sl] 95 (0, 0))
  row : wr.ownsRow (w.heap.size + 5) 84 2 sl all.length (objs all)
  m1 : ∃ ms k, wr.heap[w.heap.size + 1]? = some (.map ms k) ∧ MapP (R1 wr w.heap.size sl) g1 ms.toList ∧ Dist ms.toList
  m2 : ∃ ms k, wr.heap[w.heap.size + 1 + 1]? = some (.map ms k) ∧ MapP (fun _ u l => ARel ι Phi.none u ((Ty.slice InstrT).av l)) g2 ms.toList
  m3 : ∃ ms k, wr.heap[w.heap.size + 1 + 1 + 1]? = some (.map ms k) ∧ MapP (fun _ u s => ARel ι Phi.none u (GroupT.av s)) g3 ms.toList

theorem below_grown {B : Nat} {w w' : World} {row : Option Nat} (h : Below w.heap.size w w') : w.grownBy w' row := ⟨h.os, h.tape, h.output, h.size, fun k hk _ => h.block k hk⟩

section
variable {ι : Iota} {w wr w1 w2 : World} {xs : List Value} {g1 : Int → Option (List Int)} {g2 : Int → Option (List InstrS)} {g3 : Int → Option GroupS} {all : List ObjS} {sl : Value}

theorem Below.grow2 {B : Nat} {a b : World} {row : Option Nat} (h : Below B a b) (hg : b.grownBy w1 row) (hB : B ≤ b.heap.size) (hr : ∀ k, row = some k → B ≤ k) : Below B a w1 := h.grown hg hB hr

/-- Nothing that was there has changed. -/
theorem SV.ext (h : SV ι w wr xs g1 g2 g3 all sl) (hb : wr.grownBy w1 none) : SV ι w w1 xs g1 g2 g3 all sl where
  below := h.below.grown hb (Nat.le_trans (by omega) h.size) (by simp)
  size := Nat.le_trans h.size hb.size
  cfg := (hb.block _ (by have := h.size; omega) (by simp)).trans h.cfg
  obj := (hb.block _ (by have := h.size; omega) (by simp)).trans h.obj
  row := h.row.kept hb (by cases sl.ownBlock <;> simp)
  m1 := by
    obtain ⟨ms, k, h1, h2, h3⟩ := h.m1
    exact ⟨ms, k, (hb.block _ (by have := h.size; omega) (by simp)).trans h1, h2.imp fun x u s i _ _ hr => ⟨hr.1, hr.2.1.kept hb (by cases u.ownBlock <;> simp), hr.2.2⟩, h3⟩
  m2 := by
    obtain ⟨ms, k, h1, h2⟩ := h.m2
    exact ⟨ms, k, (hb.block _ (by have := h.size; omega) (by simp)).trans h1, h2⟩
  m3 := by
    obtain ⟨ms, k, h1, h2⟩ := h.m3
    exact ⟨ms, k, (hb.block _ (by have := h.size; omega) (by simp)).trans h1, h2⟩

theorem own_lt {B : Nat} {e : TypeId} {s n : Nat} {u : Value} {vs : List Value} (h : wr.ownsRow B e s u n vs) {k : Nat} (hk : u.ownBlock = some k) : B ≤ k ∧ k < wr.heap.size := h.lt k hk

/-- A thing more. -/
theorem SV.app (h : SV ι w wr xs g1 g2 g3 all sl) {o : ObjS} {sl' : Value} (hg : wr.grownBy w1 sl.ownBlock) (ho : w1.ownsRow (w.heap.size + 5) 84 2 sl' (all.length + 1) (objs (all ++ [o]))) (hl : sl'.ownBlock = sl.ownBlock ∨ ∃ g, sl'.ownBlock = some g ∧ wr.heap.size ≤ g)
    (hg2 : w1.grownBy w2 (some (w.heap.size + 1 + 1 + 1 + 1))) (h4 : w2.heap[w.heap.size + 1 + 1 + 1 + 1]? = some (.cells #[.map (some (w.heap.size + 1)), .map (some (w.heap.size + 1 + 1)), .map (some (w.heap.size + 1 + 1 + 1)), sl'] 95 (0, 0))) :
    SV ι w w2 xs g1 g2 g3 (all ++ [o]) sl' := by
  have hsz := h.size
  have hlow : ∀ k, k < w.heap.size + 5 → some k ≠ sl.ownBlock := fun k hk e => by
    have := own_lt h.row e.symm; omega
  have hb1 : ∀ k, k < w.heap.size + 5 → k ≠ w.heap.size + 1 + 1 + 1 + 1 → w2.heap[k]? = wr.heap[k]? := fun k hk hne =>
    (hg2.block k (by have := hg.size; omega) (by simp; omega)).trans (hg.block k (by omega) (hlow k hk))
  have hrow : ∀ {u : Value} {e s n : Nat} {vs : List Value}, wr.ownsRow (w.heap.size + 5) e s u n vs → (u.ownBlock = none ∨ u.ownBlock ≠ sl.ownBlock) → w2.ownsRow (w.heap.size + 5) e s u n vs := fun {u e s n vs} hr hne => by
    have k1 := hr.kept hg hne
    refine k1.kept hg2 ?_
    cases hu : u.ownBlock with
    | none => exact .inl rfl
    | some k => exact .inr fun e => by cases e; have := own_lt k1 hu; omega
  exact {
    below := (h.below.grown hg (by omega) fun k hk => by have := own_lt h.row hk; omega).grown hg2 (by have := hg.size; omega) fun k hk => by cases hk; omega
    size := by have := hg.size; have := hg2.size; omega
    cfg := (hb1 _ (by omega) (by omega)).trans h.cfg
    obj := h4
    row := by
      rw [List.length_append]
      refine ho.kept hg2 ?_
      cases hu : sl'.ownBlock with
      | none => exact .inl rfl
      | some k => exact .inr fun e => by cases e; have := own_lt ho hu; omega
    m1 := by
      obtain ⟨ms, k, h1, h2, h3⟩ := h.m1
      refine ⟨ms, k, (hb1 _ (by omega) (by omega)).trans h1, h2.imp fun x u s i _ _ hr => ⟨hr.1, hrow hr.2.1 hr.2.2, ?_⟩, h3⟩
      rcases hl with e | ⟨g, e, hge⟩
      · rw [e]; exact hr.2.2
      · cases hu : u.ownBlock with
        | none => exact .inl rfl
        | some k => exact .inr fun e' => by rw [e] at e'; cases e'; have := own_lt hr.2.1 hu; omega
    m2 := by
      obtain ⟨ms, k, h1, h2⟩ := h.m2
      exact ⟨ms, k, (hb1 _ (by omega) (by omega)).trans h1, h2⟩
    m3 := by
      obtain ⟨ms, k, h1, h2⟩ := h.m3
      exact ⟨ms, k, (hb1 _ (by omega) (by omega)).trans h1, h2⟩ }

/-- A table's blocks anew: v's row has changed, or the new slice lies in new memory. -/
theorem SV.tab (h : SV ι w wr xs g1 g2 g3 all sl) {ms : Array MapEntry} {k : Nat} (h1 : wr.heap[w.heap.size + 1]? = some (.map ms k)) (h2 : MapP (R1 wr w.heap.size sl) g1 ms.toList) (h3 : Dist ms.toList)
    {y : Int} {v u : Value} {l : List Int} (hv : v.ownBlock = none ∨ ∃ i s, mfind KI y ms.toList 0 = some (i, v) ∧ R1 wr w.heap.size sl y v s)
    (hg : wr.grownBy w1 v.ownBlock) (ho : w1.ownsRow (w.heap.size + 5) 3 1 u l.length (l.map (.int .i64))) (hll : l.length ≤ 2000) (hl : u.ownBlock = v.ownBlock ∨ ∃ g, u.ownBlock = some g ∧ wr.heap.size ≤ g)
    {ms' : Array MapEntry} {k' : Nat} (hg2 : w1.grownBy w2 (some (w.heap.size + 1))) (h4 : w2.heap[w.heap.size + 1]? = some (.map ms' k'))
    (p1 : ∀ e ∈ ms'.toList, ∃ x : Int, e.key = KI.keyVal x) (p2 : ∃ i, mfind KI y ms'.toList 0 = some (i, u)) (p3 : ∀ x, x ≠ y → mfind KI x ms'.toList 0 = mfind KI x ms.toList 0) :
    SV ι w w2 xs (putI y l g1) g2 g3 all sl := by
  have hsz := h.size
  have hvlow : ∀ k, v.ownBlock = some k → w.heap.size + 5 ≤ k ∧ k < wr.heap.size := fun k hk => by
    rcases hv with e | ⟨i, s, _, hr⟩
    · rw [e] at hk; cases hk
    · exact own_lt hr.2.1 hk
  have hvsl : v.ownBlock = none ∨ v.ownBlock ≠ sl.ownBlock := by
    rcases hv with e | ⟨i, s, _, hr⟩
    · exact .inl e
    · exact hr.2.2
  have hlow : ∀ k, k < w.heap.size + 5 → some k ≠ v.ownBlock := fun k hk e => by have := hvlow k e.symm; omega
  have hb1 : ∀ k, k < w.heap.size + 5 → k ≠ w.heap.size + 1 → w2.heap[k]? = wr.heap[k]? := fun k hk hne =>
    (hg2.block k (by have := hg.size; omega) (by simp; omega)).trans (hg.block k (by omega) (hlow k hk))
  have hrow : ∀ {u : Value} {e s n : Nat} {vs : List Value}, wr.ownsRow (w.heap.size + 5) e s u n vs → (u.ownBlock = none ∨ u.ownBlock ≠ v.ownBlock) → w2.ownsRow (w.heap.size + 5) e s u n vs := fun {u e s n vs} hr hne => by
    have k1 := hr.kept hg hne
    refine k1.kept hg2 ?_
    cases hu : u.ownBlock with
    | none => exact .inl rfl
    | some k => exact .inr fun e => by cases e; have := own_lt k1 hu; omega
  have hslv : sl.ownBlock = none ∨ sl.ownBlock ≠ v.ownBlock := by
    rcases hvsl with e | e
    · rw [e]; cases sl.ownBlock <;> simp
    · exact .inr (Ne.symm e)
  have husl : u.ownBlock = none ∨ u.ownBlock ≠ sl.ownBlock := by
    rcases hl with e | ⟨g, e, hge⟩
    · rw [e]; exact hvsl
    · rw [e]
      exact .inr fun e' => by have := own_lt h.row e'.symm; omega
  have hother : ∀ x i u' s, x ≠ y → mfind KI x ms.toList 0 = some (i, u') → R1 wr w.heap.size sl x u' s → (u'.ownBlock = none ∨ u'.ownBlock ≠ v.ownBlock) ∧ (u'.ownBlock = none ∨ u'.ownBlock ≠ u.ownBlock) := fun x i u' s hne hm hr => by
    have a1 : u'.ownBlock = none ∨ u'.ownBlock ≠ v.ownBlock := by
      rcases hv with e | ⟨j, t, hm2, _⟩
      · rw [e]; cases u'.ownBlock <;> simp
      · exact h3 x y i j u' v hm hm2 hne
    refine ⟨a1, ?_⟩
    rcases hl with e | ⟨g, e, hge⟩
    · rw [e]; exact a1
    · cases hu : u'.ownBlock with
      | none => exact .inl rfl
      | some k => exact .inr fun e' => by rw [e] at e'; cases e'; have := own_lt hr.2.1 hu; omega
  exact {
    below := (h.below.grown hg (by omega) fun k hk => by have := hvlow k hk; omega).grown hg2 (by have := hg.size; omega) fun k hk => by cases hk; omega
    size := by have := hg.size; have := hg2.size; omega
    cfg := (hb1 _ (by omega) (by omega)).trans h.cfg
    obj := (hb1 _ (by omega) (by omega)).trans h.obj
    row := hrow h.row hslv
    m1 := by
      refine ⟨ms', k', h4, ?_, ?_⟩
      · refine MapP.put h2 p1 p2 p3 ⟨hll, ?_, husl⟩ fun x u' t i hne hm hgx hr => ⟨hr.1, hrow hr.2.1 (hother x i u' t hne hm hr).1, hr.2.2⟩
        refine ho.kept hg2 ?_
        cases hu : u.ownBlock with
        | none => exact .inl rfl
        | some k => exact .inr fun e => by cases e; have := own_lt ho hu; omega
      · intro x x' i j a b hx hx' hne
        obtain ⟨iy, hy⟩ := p2
        have hR : ∀ {z i u'}, mfind KI z ms.toList 0 = some (i, u') → ∃ s, R1 wr w.heap.size sl z u' s := fun {z i u'} hz => by
          rcases h2.2 z with ⟨e1, _⟩ | ⟨i', u'', s, e1, _, hr⟩
          · rw [e1] at hz; cases hz
          · rw [e1] at hz; cases hz; exact ⟨s, hr⟩
        by_cases e1 : x = y <;> by_cases e2 : x' = y
        · exact absurd (e1.trans e2.symm) hne
        · subst e1
          rw [hy] at hx; cases hx
          rw [p3 x' e2] at hx'
          obtain ⟨s, hr⟩ := hR hx'
          rcases (hother x' j b s e2 hx' hr).2 with e | e
          · rw [e]; cases u.ownBlock <;> simp
          · exact .inr (Ne.symm e)
        · subst e2
          rw [hy] at hx'; cases hx'
          rw [p3 x e1] at hx
          obtain ⟨s, hr⟩ := hR hx
          exact (hother x i a s e1 hx hr).2
        · rw [p3 x e1] at hx
          rw [p3 x' e2] at hx'
          exact h3 x x' i j a b hx hx' hne
    m2 := by
      obtain ⟨ms, k, h1, h2⟩ := h.m2
      exact ⟨ms, k, (hb1 _ (by omega) (by omega)).trans h1, h2⟩
    m3 := by
      obtain ⟨ms, k, h1, h2⟩ := h.m3
      exact ⟨ms, k, (hb1 _ (by omega) (by omega)).trans h1, h2⟩ }

/-- A block's code. -/
theorem SV.blk (h : SV ι w wr xs g1 g2 g3 all sl) {ms : Array MapEntry} {y : Int} {u : Value} {l : List InstrS} (h2 : MapP (fun _ u l => ARel ι Phi.none u ((Ty.slice InstrT).av l)) g2 ms.toList)
    (hr : ARel ι Phi.none u ((Ty.slice InstrT).av l)) {ms' : Array MapEntry} {k' : Nat} (hg2 : wr.grownBy w2 (some (w.heap.size + 1 + 1))) (h4 : w2.heap[w.heap.size + 1 + 1]? = some (.map ms' k'))
    (p1 : ∀ e ∈ ms'.toList, ∃ x : Int, e.key = KI.keyVal x) (p2 : ∃ i, mfind KI y ms'.toList 0 = some (i, u)) (p3 : ∀ x, x ≠ y → mfind KI x ms'.toList 0 = mfind KI x ms.toList 0) :
    SV ι w w2 xs g1 (putI y l g2) g3 all sl := by
  have hsz := h.size
  have hb1 : ∀ k, k < wr.heap.size → k ≠ w.heap.size + 1 + 1 → w2.heap[k]? = wr.heap[k]? := fun k hk hne => hg2.block k hk (by simp; omega)
  have hrow : ∀ {u : Value} {e s n : Nat} {vs : List Value}, wr.ownsRow (w.heap.size + 5) e s u n vs → w2.ownsRow (w.heap.size + 5) e s u n vs := fun {u e s n vs} hr => by
    refine hr.kept hg2 ?_
    cases hu : u.ownBlock with
    | none => exact .inl rfl
    | some k => exact .inr fun e => by cases e; have := own_lt hr hu; omega
  exact {
    below := h.below.grown hg2 (by omega) fun k hk => by cases hk; omega
    size := by have := hg2.size; omega
    cfg := (hb1 _ (by omega) (by omega)).trans h.cfg
    obj := (hb1 _ (by omega) (by omega)).trans h.obj
    row := hrow h.row
    m1 := by
      obtain ⟨ms, k, h1, h2, h3⟩ := h.m1
      exact ⟨ms, k, (hb1 _ (by omega) (by omega)).trans h1, h2.imp fun x u s i _ _ hr => ⟨hr.1, hrow hr.2.1, hr.2.2⟩, h3⟩
    m2 := ⟨ms', k', h4, MapP.put h2 p1 p2 p3 hr fun _ _ _ _ _ _ _ hr => hr⟩
    m3 := by
      obtain ⟨ms, k, h1, h2⟩ := h.m3
      exact ⟨ms, k, (hb1 _ (by omega) (by omega)).trans h1, h2⟩ }

/-- A group. -/
theorem SV.grp (h : SV ι w wr xs g1 g2 g3 all sl) {ms : Array MapEntry} {y : Int} {u : Value} {l : GroupS} (h2 : MapP (fun _ u s => ARel ι Phi.none u (GroupT.av s)) g3 ms.toList)
    (hr : ARel ι Phi.none u (GroupT.av l)) {ms' : Array MapEntry} {k' : Nat} (hg2 : wr.grownBy w2 (some (w.heap.size + 1 + 1 + 1))) (h4 : w2.heap[w.heap.size + 1 + 1 + 1]? = some (.map ms' k'))
    (p1 : ∀ e ∈ ms'.toList, ∃ x : Int, e.key = KI.keyVal x) (p2 : ∃ i, mfind KI y ms'.toList 0 = some (i, u)) (p3 : ∀ x, x ≠ y → mfind KI x ms'.toList 0 = mfind KI x ms.toList 0) :
    SV ι w w2 xs g1 g2 (putI y l g3) all sl := by
  have hsz := h.size
  have hb1 : ∀ k, k < wr.heap.size → k ≠ w.heap.size + 1 + 1 + 1 → w2.heap[k]? = wr.heap[k]? := fun k hk hne => hg2.block k hk (by simp; omega)
  have hrow : ∀ {u : Value} {e s n : Nat} {vs : List Value}, wr.ownsRow (w.heap.size + 5) e s u n vs → w2.ownsRow (w.heap.size + 5) e s u n vs := fun {u e s n vs} hr => by
    refine hr.kept hg2 ?_
    cases hu : u.ownBlock with
    | none => exact .inl rfl
    | some k => exact .inr fun e => by cases e; have := own_lt hr hu; omega
  exact {
    below := h.below.grown hg2 (by omega) fun k hk => by cases hk; omega
    size := by have := hg2.size; omega
    cfg := (hb1 _ (by omega) (by omega)).trans h.cfg
    obj := (hb1 _ (by omega) (by omega)).trans h.obj
    row := hrow h.row
    m1 := by
      obtain ⟨ms, k, h1, h2, h3⟩ := h.m1
      exact ⟨ms, k, (hb1 _ (by omega) (by omega)).trans h1, h2.imp fun x u s i _ _ hr => ⟨hr.1, hrow hr.2.1, hr.2.2⟩, h3⟩
    m2 := by
      obtain ⟨ms, k, h1, h2⟩ := h.m2
      exact ⟨ms, k, (hb1 _ (by omega) (by omega)).trans h1, h2⟩
    m3 := ⟨ms', k', h4, MapP.put h2 p1 p2 p3 hr fun _ _ _ _ _ _ _ hr => hr⟩ }

theorem grown_trans {a b c : World} {row : Option Nat} (h : a.grownBy b none) (k : b.grownBy c row) : a.grownBy c row :=
  ⟨k.os.trans h.os, k.tape.trans h.tape, k.output.trans h.output, Nat.le_trans h.size k.size, fun j hj hne => (k.block j (Nat.lt_of_lt_of_le hj h.size) hne).trans (h.block j hj (by simp))⟩
theorem grown_allocd1 (w : World) (o : Obj) : w.grownBy (w.alloc o).drew none := let h := World.grownBy_alloc w o none; ⟨h.os, h.tape, h.output, h.size, h.block⟩
theorem grown_allocd (w : World) (o : Obj) : w.grownBy (w.alloc o).drew.drew none := let h := World.grownBy_alloc w o none; ⟨h.os, h.tape, h.output, h.size, h.block⟩
theorem setCell_grown (w : World) (b o : Nat) (v : Value) : w.grownBy (w.setCell ⟨b, o, none⟩ v) (some b) :=
  ⟨rfl, rfl, rfl, by simp [World.setCell], fun k hk hne => by simp only [World.setCell, Array.getElem?_modify]; rw [if_neg (fun e => hne (by rw [e]))]⟩
theorem setCell_heap {w : World} {b o : Nat} {v : Value} {cs : Array Value} {T : TypeId} {F : Nat × Nat} (h : w.heap[b]? = some (.cells cs T F)) : (w.setCell ⟨b, o, none⟩ v).heap[b]? = some (.cells (cs.setIfInBounds o v) T F) := by
  simp [World.setCell, Array.getElem?_modify, h]

/-- A thing more, by append. -/
theorem SV.app' (h : SV ι w wr xs g1 g2 g3 all sl) {o : ObjS} {ob : Obj} {gg cap n : Nat} (hgrow : (wr.alloc ob).drew.grownBy w1 sl.ownBlock)
    (hown : w1.ownsRow (w.heap.size + 5) 84 2 (.slice (some ⟨gg, 0, none⟩) (all.length + 1) cap) (all.length + 1) (objs all ++ [.int .i64 o.1, .int .i64 o.2.1])) (hat : sl.ownBlock = some gg ∨ gg = n) (hn : wr.heap.size ≤ n) :
    SV ι w (w1.setCell ⟨w.heap.size + 1 + 1 + 1 + 1, 3, none⟩ (.slice (some ⟨gg, 0, none⟩) (all.length + 1) cap)) xs g1 g2 g3 (all ++ [o]) (.slice (some ⟨gg, 0, none⟩) (all.length + 1) cap) := by
  have hg : wr.grownBy w1 sl.ownBlock := grown_trans (grown_allocd1 wr ob) hgrow
  refine h.app hg (by rw [objs_snoc]; exact hown) ?_ (setCell_grown _ _ _ _) ?_
  · rcases hat with e | e
    · exact .inl e.symm
    · exact .inr ⟨gg, rfl, by omega⟩
  · have h1 : w1.heap[w.heap.size + 1 + 1 + 1 + 1]? = _ := (hg.block _ (by have := h.size; omega) (fun e => by have := own_lt h.row e.symm; omega)).trans h.obj
    rw [setCell_heap h1]; rfl

/-- Nothing is there yet. -/
theorem SV.init (w : World) (xs : List Value) : SV ι w (((((w.alloc (.cells xs.toArray 32 (0, 0))).alloc (.map #[] 0)).alloc (.map #[] 0)).alloc (.map #[] 0)).alloc (.cells #[.map (some (w.heap.size + 1)), .map (some (w.heap.size + 1 + 1)), .map (some (w.heap.size + 1 + 1 + 1)), .slice none 0 0] 95 (0, 0)))
    xs (fun _ => none) (fun _ => none) (fun _ => none) [] (.slice none 0 0) := by
  have hp : ∀ (a : Array Obj) (o : Obj) (k : Nat), k < a.size → (a.push o)[k]? = a[k]? := fun a o k h => by rw [Array.getElem?_push, if_neg (by omega)]
  have hq : ∀ (a : Array Obj) (o : Obj) (k : Nat), k = a.size → (a.push o)[k]? = some o := fun a o k h => by rw [Array.getElem?_push, if_pos h]
  refine ⟨⟨rfl, rfl, rfl, by simp only [World.alloc, Array.size_push]; omega, fun k hk => ?_⟩, by simp only [World.alloc, Array.size_push]; omega, ?_, ?_, World.ownsRow_nil _ _ _ _, ⟨#[], 0, ?_, MapP.nil, fun x y i j u v h => by cases h⟩, ⟨#[], 0, ?_, MapP.nil⟩, ⟨#[], 0, ?_, MapP.nil⟩⟩
  · simp only [World.alloc]
    rw [hp _ _ _ (by simp only [Array.size_push]; omega), hp _ _ _ (by simp only [Array.size_push]; omega), hp _ _ _ (by simp only [Array.size_push]; omega), hp _ _ _ (by simp only [Array.size_push]; omega), hp _ _ _ hk]
  · simp only [World.alloc]
    rw [hp _ _ _ (by simp only [Array.size_push]; omega), hp _ _ _ (by simp only [Array.size_push]; omega), hp _ _ _ (by simp only [Array.size_push]; omega), hp _ _ _ (by simp only [Array.size_push]; omega), hq _ _ _ rfl]
  · simp only [World.alloc]
    rw [hq _ _ _ (by simp only [Array.size_push])]
  · simp only [World.alloc]
    rw [hp _ _ _ (by simp only [Array.size_push]; omega), hp _ _ _ (by simp only [Array.size_push]; omega), hp _ _ _ (by simp only [Array.size_push]; omega), hq _ _ _ (by simp only [Array.size_push])]
  · simp only [World.alloc]
    rw [hp _ _ _ (by simp only [Array.size_push]; omega), hp _ _ _ (by simp only [Array.size_push]; omega), hq _ _ _ (by simp only [Array.size_push])]
  · simp only [World.alloc]
    rw [hp _ _ _ (by simp only [Array.size_push]; omega), hq _ _ _ (by simp only [Array.size_push])]
end
end Go.AMach
