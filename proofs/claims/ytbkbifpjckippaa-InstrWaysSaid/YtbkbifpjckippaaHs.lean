/- Parts of the proof. -/
import Derived.Test.YtbkbifpjckippaaHb
import Derived.Test.YtbkbifpjckippaaHb
import Derived.Maps.RangeWalk
/- law19: the rows that are sorted. -/
namespace Go.AMach
set_option linter.unusedVariables false
set_option linter.unusedSimpArgs false
set_option linter.unnecessarySimpa false
open Go Go.Proofs Go.RowKit Go.Shelf Go.Lib Go.Sort
set_option linter.unusedVariables false
set_option linter.unusedSimpArgs false
namespace H19
set_option linter.unusedVariables false
set_option linter.unusedSimpArgs false
set_option linter.unnecessarySimpa false
abbrev conv (x : W19.Wy) : Int × Int × Int := (x.1, x.2.1, x.2.2.1)
def rowsA (xs : List W19.Wy) : Array (Int × Int × Int) := (xs.map conv).toArray
def rowCells (xs : List W19.Wy) : List Value := xs.flatMap fun x => [.int .u8 x.1, .int .i64 x.2.1, .int .i64 x.2.2.1]
theorem rowCells_get : ∀ (xs : List W19.Wy) (i c : Nat) (x : W19.Wy), xs[i]? = some x → c < 3 → (rowCells xs)[i * 3 + c]? = (encW (conv x))[c]?
  | [], i, c, x, h, _ => by simp at h
  | y :: xs, 0, c, x, h, hc => by
    simp at h; subst h
    have e : rowCells (y :: xs) = encW (conv y) ++ rowCells xs := rfl
    rw [e, Nat.zero_mul, Nat.zero_add, List.getElem?_append_left (by simpa [encW] using hc)]
  | y :: xs, i + 1, c, x, h, hc => by
    have e : rowCells (y :: xs) = encW (conv y) ++ rowCells xs := rfl
    have hl : (encW (conv y)).length = 3 := rfl
    rw [e, List.getElem?_append_right (by rw [hl]; omega), hl, show (i + 1) * 3 + c - 3 = i * 3 + c by omega]
    exact rowCells_get xs i c x (by simpa using h) hc
theorem rowCells_len (xs : List W19.Wy) : (rowCells xs).length = xs.length * 3 := by
  induction xs with
  | nil => rfl
  | cons y xs ih => 
    have e : rowCells (y :: xs) = encW (conv y) ++ rowCells xs := rfl
    rw [e, List.length_append, ih]; simp [encW]; omega
theorem holds_own {wr : World} {g : Nat} {cur : Array Value} {xs : List W19.Wy} (hb : wr.heap[g]? = some (.cells cur 48 (0, 0))) (ht : cur.toList.take (xs.length * 3) = rowCells xs) : HoldsK encW 3 wr g 0 (rowsA xs) := by
  intro j hj
  have hj' : j < xs.length * 3 := by simpa [rowsA] using hj
  have hi : j / 3 < xs.length := by omega
  have hx : xs[j / 3]? = some xs[j / 3] := List.getElem?_eq_getElem hi
  have hc := rowCells_get xs (j / 3) (j % 3) _ hx (by omega)
  rw [show j / 3 * 3 + j % 3 = j by omega, ← ht, List.getElem?_take_of_lt hj'] at hc
  have hd : (rowsA xs)[j / 3]! = conv xs[j / 3] := by
    rw [getElem!_pos _ _ (by simpa [rowsA] using hi)]; simp [rowsA]
  have hf : (Go.Sort.flatK encW 3 (rowsA xs))[j]! = (encW (conv xs[j / 3]))[j % 3]! := by
    rw [get_flatK encW 3 (rowsA xs) j (by simpa [rowsA] using hj'), hd]
  have hlt : j % 3 < (encW (conv xs[j / 3])).length := by show j % 3 < 3; omega
  refine ⟨?_, ?_⟩
  · rw [Nat.zero_add, cellof hb]
    rw [hf, getElem!_pos (encW (conv xs[j / 3])) (j % 3) hlt, ← Array.getElem?_toList, hc, List.getElem?_eq_getElem hlt]; rfl
  · simp [World.frozen?, hb]
end H19
end Go.AMach

/- law19: the world behind the sort. -/
namespace Go.AMach
set_option linter.unusedVariables false
set_option linter.unusedSimpArgs false
set_option linter.unnecessarySimpa false
open Go Go.Proofs Go.RowKit Go.Shelf Go.Lib Go.Sort
set_option linter.unusedVariables false
set_option linter.unusedSimpArgs false
namespace H19
set_option linter.unusedVariables false
set_option linter.unusedSimpArgs false
set_option linter.unnecessarySimpa false
theorem sortW_old {w : World} {blk n : Nat} {d : Array (Int × Int × Int)} {os : Array Obj} {k : Nat} (hk : k < w.heap.size) (hne : k ≠ blk) : (sortWorldK encW 3 w blk 0 n d os).heap[k]? = w.heap[k]? := by
  unfold sortWorldK putRowK putRow grow mapBlock
  simp only [Sort.ahead]
  rw [Array.getElem?_append_left (by simpa using hk)]
  simp [Array.getElem?_modify, Ne.symm hne]
theorem sortW_at {w : World} {blk n : Nat} {d : Array (Int × Int × Int)} {os : Array Obj} {cur : Array Value} {T : TypeId} {F : Nat × Nat} (h : w.heap[blk]? = some (.cells cur T F)) :
    ∃ cur', (sortWorldK encW 3 w blk 0 n d os).heap[blk]? = some (.cells cur' T F) ∧ cur'.size = cur.size := by
  have hk := (Array.getElem?_eq_some_iff.1 h).1
  unfold sortWorldK putRowK putRow grow mapBlock
  simp only [Sort.ahead]
  rw [Array.getElem?_append_left (by simpa using hk)]
  simp [Array.getElem?_modify, h]
  exact ⟨_, rfl, by simp [Go.Sort.putCells]⟩
end H19
end Go.AMach

/- law19: the range over the map of ends, and the sort: walked. -/
namespace Go.AMach
set_option linter.unusedVariables false
set_option linter.unusedSimpArgs false
set_option linter.unnecessarySimpa false
open Go Go.Proofs Go.RowKit Go.Shelf Go.Lib Go.Sort
set_option linter.unusedVariables false
set_option linter.unusedSimpArgs false
set_option linter.unusedSectionVars false
namespace H19
set_option linter.unusedVariables false
set_option linter.unusedSimpArgs false
set_option linter.unnecessarySimpa false
theorem cons_of {α : Type} {l : List α} {n : Nat} (h : l.length = n + 1) : ∃ x r, l = x :: r ∧ r.length = n := by
  cases l with
  | nil => simp at h
  | cons x r => exact ⟨x, r, rfl, by simpa using h⟩
theorem lit125 {l : List Value} (hl : l.length = 124 + 1) : ∃ f : Nat → Value, l = [f 0, f 1, f 2, f 3, f 4, f 5, f 6, f 7, f 8, f 9, f 10, f 11, f 12, f 13, f 14, f 15, f 16, f 17, f 18, f 19, f 20, f 21, f 22, f 23, f 24, f 25, f 26, f 27, f 28, f 29, f 30, f 31, f 32, f 33, f 34, f 35, f 36, f 37, f 38, f 39, f 40, f 41, f 42, f 43, f 44, f 45, f 46, f 47, f 48, f 49, f 50, f 51, f 52, f 53, f 54, f 55, f 56, f 57, f 58, f 59, f 60, f 61, f 62, f 63, f 64, f 65, f 66, f 67, f 68, f 69, f 70, f 71, f 72, f 73, f 74, f 75, f 76, f 77, f 78, f 79, f 80, f 81, f 82, f 83, f 84, f 85, f 86, f 87, f 88, f 89, f 90, f 91, f 92, f 93, f 94, f 95, f 96, f 97, f 98, f 99, f 100, f 101, f 102, f 103, f 104, f 105, f 106, f 107, f 108, f 109, f 110, f 111, f 112, f 113, f 114, f 115, f 116, f 117, f 118, f 119, f 120, f 121, f 122, f 123, f 124] ∧ ∀ i, i < 125 → l.getD i undef = f i := by
  refine ⟨fun i => l.getD i undef, ?_, fun i _ => rfl⟩
  have h : l = (List.range l.length).map fun i => l.getD i undef := by
    apply List.ext_getElem
    · simp
    · intro i h1 h2
      simp [List.getD_eq_getElem?_getD, List.getElem?_eq_getElem h1]
  rw [hl] at h
  exact h
theorem partAt_nil (c : Code) : partAt c [] = c := by cases c <;> rfl
theorem partc {fn : Func} {a1 a2 a3 a4 a5 a6 a7 a8 c : Code} (h : fn.body = some (.seq a1 (.seq a2 (.seq a3 (.seq a4 (.seq a5 (.seq a6 (.seq a7 (.seq a8 c))))))))) {Q : Exit → Act → World → Prop} {a : Act} {w : World} (hw : c.wp Try.prog Q a w) :
    (partAt (bodyOf fn) [1, 1, 1, 1, 1, 1, 1, 1]).wp Try.prog Q a w := by
  unfold bodyOf; rw [h]; simpa only [partAt, partAt_nil] using hw

/-- Out of a range over a map: one more entry, or none. -/
theorem next_raw {P : Program} {w : World} {r b clk c0 : Nat} {es : Array MapEntry} {hs : List MapEntry} (ty : TypeId)
    (hr : w.heap[r]? = some (.mapIter (some b) clk (hs.map (·.born)).toArray c0)) (hb : w.heap[b]? = some (.map es clk)) (hst : Stmp es.toList clk) (hc : clk ≤ c0) :
    ((∀ e ∈ es.toList, e.born ∈ hs.map (·.born)) ∧ (Instr.next (.pointer (some ⟨r, 0, none⟩)) false ty).run P w = .ok (.tuple #[.bool false]) w) ∨
    ∃ e ∈ es.toList, e.born ∉ hs.map (·.born) ∧ ∃ w' : World, (Instr.next (.pointer (some ⟨r, 0, none⟩)) false ty).run P w = .ok (.tuple #[.bool true, e.key, e.val]) w' ∧ w.grownBy w' (some r) ∧ w'.heap.size = w.heap.size ∧
      w'.heap[r]? = some (.mapIter (some b) clk ((hs ++ [e]).map (·.born)).toArray clk) ∧ (r ≠ b → w'.heap[b]? = some (.map es clk) ∧ (Instr.entry (.pointer (some ⟨r, 0, none⟩))).run P w' = .ok (.tuple #[e.key, e.val]) w') := by
  rcases run_next_at (P := P) w ty r b clk c0 _ es clk hr hb hst.1 hc with ⟨h0, hrun⟩ | ⟨e, he, w1, hal, hrun⟩
  · refine .inl ⟨fun e he => ?_, hrun⟩
    have : leftOf es (hs.map (·.born)).toArray = #[] := Array.eq_empty_of_size_eq_zero h0
    unfold leftOf at this
    rw [Array.filter_eq_empty_iff] at this
    have := this e (by simpa using he)
    simpa using this
  · unfold leftOf at he
    simp at he
    obtain ⟨hem, hes⟩ := he
    have hr1 : w1.heap[r]? = some (.mapIter (some b) clk (hs.map (·.born)).toArray c0) := by rcases hal with rfl | rfl <;> exact hr
    have hb1 : w1.heap[b]? = some (.map es clk) := by rcases hal with rfl | rfl <;> exact hb
    have hset := MapKept.heap_set (o' := .mapIter (some b) clk ((hs.map (·.born)).toArray.push e.born) clk) hr1
    have hse : ((hs.map (·.born)).toArray.push e.born) = ((hs ++ [e]).map (·.born)).toArray := by simp
    refine .inr ⟨e, by simpa using hem, by simpa using hes, _, hrun, ?_, ?_, by rw [← hse]; exact hset.1, fun hne => ?_⟩
    · rcases hal with rfl | rfl <;> exact ⟨rfl, rfl, rfl, by simp [ChangeMaps.setBlock], fun i _ hi => hset.2 i (fun e1 => hi (by rw [e1]))⟩
    · rcases hal with rfl | rfl <;> simp [ChangeMaps.setBlock]
    · have hb' := (hset.2 b (fun e1 => hne e1.symm)).trans hb1
      exact ⟨hb', run_entry_at _ r b clk _ es clk e hset.1 hb' (by simpa using hem) hst.2.1⟩

theorem info48 : ∃ i, Try.prog.info? 48 = some i ∧ i.zero = some (.agg #[.int .u8 0, .int .i64 0, .int .i64 0]) ∧ i.size = 3 ∧ i.bytes = 24 := ⟨(Try.prog.info? 48).getD default, by kernel_rfl, by kernel_rfl, by kernel_rfl, by kernel_rfl⟩
theorem new2 (W : World) (A : Obj) (cs : Array Value) : ((W.alloc A).alloc (.cells cs 48)).heap[W.heap.size + 1]? = some (.cells cs 48 (0, 0)) := by
  have h := heap_alloc_new (W.alloc A) (.cells cs 48)
  have hs : (W.alloc A).heap.size = W.heap.size + 1 := by show (W.heap.push A).size = _; simp
  rw [hs] at h; exact h
theorem cells3 {W : World} {b : Nat} {x y z : Value} (h : W.heap[b]? = some (.cells #[x, y, z] 48 (0, 0))) : ∀ j u, [x, y, z][j]? = some u → W.cell? ((⟨b, 0, none⟩ : Addr).add j) = some u := fun j u hu => by
  have e : (⟨b, 0, none⟩ : Addr).add j = ⟨b, j, none⟩ := by simp [Addr.add]; try omega
  rw [e, cellof h]
  simpa using hu
theorem nodup_len : ∀ {l m : List Nat}, l.Nodup → (∀ x ∈ l, x ∈ m) → l.length ≤ m.length
  | [], _, _, _ => by simp
  | a :: t, m, h, hs => by
    rw [List.nodup_cons] at h
    have ha := hs a (by simp)
    have := nodup_len (m := m.erase a) h.2 fun x hx => (List.mem_erase_of_ne (fun e => h.1 (by rw [← e]; exact hx))).2 (hs x (by simp [hx]))
    rw [List.length_erase_of_mem ha] at this
    have := List.length_pos_of_mem ha
    simp only [List.length_cons]; omega
/-- Under way. -/
def Rg (w wr : World) (bm : Nat) (ms : Array MapEntry) (clk : Nat) (v : Value) : Prop := ∃ (hs : List MapEntry) (xs : List W19.Wy) (c0 : Nat), Below w.heap.size w wr ∧ wr.heap[bm]? = some (.map ms clk) ∧
  wr.heap[w.heap.size]? = some (.mapIter (some bm) clk (hs.map (·.born)).toArray c0) ∧ clk ≤ c0 ∧ (∀ e ∈ hs, e ∈ ms.toList) ∧ (hs.map (·.born)).Nodup ∧ Rowz hs xs ∧ wr.ownsRow (w.heap.size + 1) 48 3 v xs.length (rowCells xs)
set_option maxHeartbeats 4000000 in
set_option maxRecDepth 1000000 in
theorem tail_walk [Sites] (ds0 : List Deferred) (R : Exit → Act → World → Prop) (w : World) (bc oc bm : Nat) (ms : Array MapEntry) (clk : Nat) (hcell : w.cell? ⟨bc, oc, none⟩ = some (.map (some bm))) (hmap : w.heap[bm]? = some (.map ms clk)) (hst : Stmp ms.toList clk) (hrow : ∀ e ∈ ms.toList, ∃ y : W19.Wy, e.key = .agg #[.int .u8 y.1, .int .i64 y.2.1, .int .i64 y.2.2.1] ∧ ∃ s : Int, e.val = .int .i64 s) (hms : ms.size ≤ 1000) (hms1 : 0 < ms.size)
    (hR : ∀ (l' : List Value) (wr : World) (hs : List MapEntry) (xs : List W19.Wy) (g cap n : Nat) (d : Array (Int × Int × Int)) (os : Array Obj) (cur : Array Value), l'.length = 125 → l'.getD 2 undef = .slice (some ⟨g, 0, none⟩) xs.length cap → Below w.heap.size w wr → w.heap.size + 1 ≤ g →
      wr.heap[g]? = some (.cells cur 48 (0, 0)) → xs.length ≤ cap → cur.size = cap * 3 → cur.toList.take (xs.length * 3) = rowCells xs → (∀ e ∈ hs, e ∈ ms.toList) → (hs.map (·.born)).Nodup → (∀ e ∈ ms.toList, e.born ∈ hs.map (·.born)) → Rowz hs xs →
      PermIn 0 xs.length (rowsA xs) d → SortedIn (ltOf cfV) 0 xs.length d → R .ret { tmps := l'.toArray, defers := ds0 } (sortWorldK encW 3 wr g 0 n d os))
    (l : List Value) (hl : l.length = 124 + 1) (h3 : l.getD 3 undef = .pointer (some ⟨bc, oc, none⟩)) :
    (partAt (bodyOf Try.f23) [1, 1, 1, 1, 1, 1, 1, 1]).wp Try.prog R { tmps := l.toArray, defers := ds0 } w := by
  obtain ⟨f, hf, hg⟩ := lit125 hl
  rw [hg 3 (by omega)] at h3
  clear hg hl
  rw [h3] at hf
  subst hf
  have hrange := run_range_map (P := Try.prog) w 79 48 3 bm ms clk Try.underlying79 hmap
  refine partc rfl ?_
  go_wp2
  go_loopw [13] (fun v13 wr => Rg w wr bm ms clk v13) (fun v13 wr => wr.rangeLeft bm w.heap.size)
  case atStart =>
    have hlt := (Array.getElem?_eq_some_iff.1 hmap).1
    refine ⟨[], [], clk, ⟨rfl, rfl, rfl, by simp, fun k hk => heap_alloc_old w _ hk⟩, (heap_alloc_old w _ hlt).trans hmap, heap_alloc_new w _, Nat.le_refl _, by simp, by simp, Rowz.nil, rfl, .inl ⟨rfl, rfl⟩⟩
  case round =>
    have hlt := (Array.getElem?_eq_some_iff.1 hmap).1
    obtain ⟨hs, xs, c0, hB, hm, hi, hc, hsub, hnd, hz, hown⟩ := hrel
    rcases next_raw (P := Try.prog) 0 hi hm hst hc with ⟨hall, hrun⟩ | ⟨e, he, hen, w', hrun, hgr, hsz, hi', hx⟩
    · clear hrange
      rcases hown.2 with ⟨rfl, h0⟩ | ⟨g, cap, cur, rfl, hge, hg, hnc, hcm, hcs, htk⟩
      · exfalso
        have hz0 := hz.1
        have h1 : hs = [] := List.length_eq_zero_iff.1 (by omega)
        subst h1
        have := hall ms[0] (by simp)
        simp at this
      · have hsz : (rowsA xs).size = xs.length := by simp [rowsA]
        have hgl := (Array.getElem?_eq_some_iff.1 hg).1
        have hlen : xs.length ≤ 1000 := by
          have h1 := nodup_len (l := hs.map (·.born)) (m := ms.toList.map (·.born)) hnd fun x hx => by
            obtain ⟨e', he', rfl⟩ := List.mem_map.1 hx
            exact List.mem_map.2 ⟨e', hsub e' he', rfl⟩
          have h2 := hz.1
          simp at h1
          omega
        have hcon := sort43 g 0 cap (rowsA xs) wr (holds_own hg htk) hgl (by rw [hsz]; omega)
        rw [hsz] at hcon
        go_wp2_with (go_at_call 43; refine hcon.mono ?_; rintro e w2 ⟨rfl, d, n, os, hp, hso, rfl⟩)
        exact hR _ wr hs xs g cap n d os cur rfl rfl hB hge hg hnc hcs htk hsub hnd hall hz hp hso
    · obtain ⟨hm', hent⟩ := hx (by omega)
      obtain ⟨y, hk, s, hv⟩ := hrow e he
      rw [hk, hv] at hrun hent
      clear hrange
      obtain ⟨i0, hi0, hz0, hz1, hz2⟩ := info48
      have hBs := hB.size
      have hown' : w'.ownsRow (w.heap.size + 1) 48 3 u13 xs.length (rowCells xs) := hown.kept hgr (by
        cases hv : u13.ownBlock with
        | none => exact .inl rfl
        | some k => right; intro e; have := (hown.lt k hv).1; simp at e; omega)
      have hlen : xs.length + 1 ≤ 1001 := by
        have h1 := nodup_len (l := hs.map (·.born)) (m := ms.toList.map (·.born)) hnd fun x hx => by
          obtain ⟨e', he', rfl⟩ := List.mem_map.1 hx
          exact List.mem_map.2 ⟨e', hsub e' he', rfl⟩
        have h2 := hz.1
        simp at h1
        omega
      have hsz0 := hsz
      have hl1 := Nat.le_of_eq hsz
      have hl2 := Nat.le_of_eq hsz.symm
      clear hsz hsz0
      go_wp2_with (refine wpList_append_own _ rfl (.tmp 113) (.tmp 120) 44 rfl (w.heap.size + 1) 48 i0 (.agg #[.int .u8 0, .int .i64 0, .int .i64 0]) 3 24 Try.underlying44 hi0 hz0 hz1 hz2 rfl (by omega) u13 xs.length (rowCells xs) rfl ((hown'.alloc _).alloc _) ⟨w'.heap.size + 1, 0, none⟩ 1 1 [.int .u8 y.1, .int .i64 y.2.1, .int .i64 s] rfl rfl (cells3 (new2 w' _ _)) (by simp [Value.oneCell']) (by simp [maxLen]; omega) (by omega) (by simp; omega) ?_; intro v2 w2 ho2 hg2 hn2)
      have hob : ∀ k, u13.ownBlock = some k → w.heap.size + 1 ≤ k ∧ k < w'.heap.size := fun k hk => hown'.lt k hk
      have hold : ∀ k, k < w'.heap.size → u13.ownBlock ≠ some k → w2.heap[k]? = w'.heap[k]? := fun k hk hne => by
        rw [hg2.block k (by show k < ((w'.heap.push _).push _).size; simp; omega) (fun e => hne e.symm)]
        rw [heap_alloc_old _ _ (by show k < (w'.heap.push _).size; simp; omega), heap_alloc_old _ _ hk]
      have hbm : w2.heap[bm]? = some (.map ms clk) := (hold bm (by omega) (fun e => by have := (hob _ e).1; omega)).trans hm'
      have hit : w2.heap[w.heap.size]? = some (.mapIter (some bm) clk ((hs ++ [e]).map (·.born)).toArray clk) := (hold _ (by have := (Array.getElem?_eq_some_iff.1 hi').1; exact this) (fun e => by have := (hob _ e).1; omega)).trans hi'
      have hle : (leftOf ms ((hs ++ [e]).map (·.born)).toArray).size < (leftOf ms (hs.map (·.born)).toArray).size := by
        have := left_shrinks ms (hs.map (·.born)).toArray e (by unfold leftOf; simp; exact ⟨by simpa using he, by simpa using hen⟩)
        simpa using this
      refine ⟨⟨hs ++ [e], xs ++ [W19.wy y.1 y.2.1 s], clk, ⟨?_, ?_, ?_, ?_, ?_⟩, hbm, hit, Nat.le_refl _, ?_, ?_, hz.push ⟨y, hk, hv, rfl, rfl⟩, ?_⟩, ?_⟩
      · exact (hg2.os.trans hgr.os).trans hB.os
      · exact (hg2.tape.trans hgr.tape).trans hB.tape
      · exact (hg2.output.trans hgr.output).trans hB.output
      · have := hg2.size
        have h3 : ((w'.alloc _).alloc _).heap.size ≤ w2.heap.size := this
        have h4 : ∀ A B : Obj, ((w'.alloc A).alloc B).heap.size = w'.heap.size + 2 := fun A B => by show ((w'.heap.push A).push B).size = _; simp
        rw [h4] at h3
        omega
      · intro k hk'
        rw [hold k (by omega) (fun e => by have := (hob _ e).1; omega), hgr.block k (by omega) (by simp; omega)]
        exact hB.block k hk'
      · intro e' he'
        rcases List.mem_append.1 he' with h | h
        · exact hsub e' h
        · simp at h; subst h; exact he
      · rw [List.map_append, List.nodup_append]
        refine ⟨hnd, by simp, fun a ha b hb => ?_⟩
        simp at hb; subst hb
        intro e1; subst e1; exact hen ha
      · have : rowCells (xs ++ [W19.wy y.1 y.2.1 s]) = rowCells xs ++ [.int .u8 y.1, .int .i64 y.2.1, .int .i64 s] := by simp [rowCells]
        rw [this, List.length_append]
        exact ho2
      · unfold World.rangeLeft
        rw [hbm, hit, hm, hi]
        exact hle
end H19
end Go.AMach

/- law19: the contract of instr.Ways' end. -/
namespace Go.AMach
set_option linter.unusedVariables false
set_option linter.unusedSimpArgs false
set_option linter.unnecessarySimpa false
open Go Go.Proofs Go.RowKit Go.Shelf Go.Lib Go.Sort
set_option linter.unusedVariables false
set_option linter.unusedSimpArgs false
set_option linter.unusedSectionVars false
namespace H19
set_option linter.unusedVariables false
set_option linter.unusedSimpArgs false
set_option linter.unnecessarySimpa false
theorem nodup_le {α : Type} [DecidableEq α] : ∀ {l m : List α}, l.Nodup → (∀ x ∈ l, x ∈ m) → l.length ≤ m.length
  | [], _, _, _ => by simp
  | a :: t, m, h, hs => by
    rw [List.nodup_cons] at h
    have ha := hs a (by simp)
    have := nodup_le (m := m.erase a) h.2 fun x hx => (List.mem_erase_of_ne (fun e => h.1 (by rw [← e]; exact hx))).2 (hs x (by simp [hx]))
    rw [List.length_erase_of_mem ha] at this
    have := List.length_pos_of_mem ha
    simp only [List.length_cons]; omega
theorem ways_len {ι : Iota} {g : W19.Wy → Option Int} {ms : List MapEntry} {clk : Nat} {l : List W19.Wy} (hM : MRel ι WayT (.int .i64) g ms) (hst : Stmp ms clk) (hW : W19.WaysOf g l) : ms.length = l.length := by
  classical
  let kf : W19.Wy → Value := fun x => .agg #[.int .u8 x.1, .int .i64 x.2.1, .int .i64 0]
  have hin : ∀ e ∈ ms, e.key ∈ l.map kf := fun e he => by
    obtain ⟨y, s, q1, q2, q3⟩ := row_at hM hst he
    obtain ⟨a1, a2⟩ := hW.2.2 _ _ q3
    refine List.mem_map.2 ⟨_, a2, ?_⟩
    rw [q1, a1]
  have hin2 : ∀ x ∈ l, kf x ∈ ms.map (·.key) := fun x hx => by
    obtain ⟨e, he, hk, _⟩ := mrel_of (by decide) hM (hW.2.1 x hx)
    exact List.mem_map.2 ⟨e, he, hk⟩
  have hnd : (l.map kf).Nodup := by
    rw [List.Nodup, List.pairwise_map]
    refine hW.1.imp fun {a b} hab e => ?_
    simp only [kf, Value.agg.injEq, Array.mk.injEq, List.cons.injEq, Value.int.injEq, true_and, and_true] at e
    unfold W19.wlt at hab
    omega
  have h1 := nodup_le (l := ms.map (·.key)) (m := l.map kf) hst.2.2 fun x hx => by
    obtain ⟨e, he, rfl⟩ := List.mem_map.1 hx
    exact hin e he
  have h2 := nodup_le (l := l.map kf) (m := ms.map (·.key)) hnd fun x hx => by
    obtain ⟨e, he, rfl⟩ := List.mem_map.1 hx
    exact hin2 e he
  simp at h1 h2
  omega
theorem row_sorted [Sites] {ι : Iota} {φ : Phi} {W : World} {gb cap : Nat} {cur : Array Value} {T : TypeId} {d : Array (Int × Int × Int)} {l : List W19.Wy} (hc1 : W.heap[gb]? = some (.cells cur T (0, 0))) (hcs : cap * 3 ≤ cur.size) (hle : l.length ≤ cap)
    (hH : HoldsK encW 3 W gb 0 d) (hdl : d.toList.map (fun z => W19.wy z.1 z.2.1 z.2.2) = l) : BRel ι φ W (.at gb 0 3 cap l.length) (.row true 3 (.ty WayT l)) := by
  refine ⟨⟨rfl, rfl⟩, by decide, hle, cur, T, (0, 0), hc1, fun o _ h => by omega, by omega, ?_, ?_⟩
  · intro c hc
    obtain ⟨e, he⟩ := List.getElem?_of_mem hc
    obtain ⟨_, rfl⟩ := toL_some.1 he
    rfl
  · intro e j c x he hx
    obtain ⟨hel, rfl⟩ := toL_some.1 he
    have hel : e < l.length := hel
    have hsz : d.size = l.length := by rw [← hdl]; simp
    have hj : j < 3 := (List.getElem?_eq_some_iff.1 hx).1
    have hlt : e * 3 + j < (Go.Sort.flatK encW 3 d).size := by simp; omega
    obtain ⟨h1, _⟩ := hH _ hlt
    rw [Nat.zero_add, cellof hc1] at h1
    rw [get_flatK encW 3 d _ (by omega), show (e * 3 + j) / 3 = e by omega, show (e * 3 + j) % 3 = j by omega] at h1
    have hde : d[e]! = d[e]'(by omega) := getElem!_pos d e (by omega)
    have hle' : l[e]? = some (W19.wy d[e]!.1 d[e]!.2.1 d[e]!.2.2) := by
      rw [← hdl, List.getElem?_map, Array.getElem?_toList, Array.getElem?_eq_getElem (by omega), hde]; rfl
    have hg : (Rows.ty WayT l).get e = WayT.enc (W19.wy d[e]!.1 d[e]!.2.1 d[e]!.2.2) := by
      show WayT.enc (WayT.rd l e) = _
      rw [rd_some hle']
    rw [hg] at hx
    rw [Nat.zero_add]
    generalize d[e]! = q at *
    obtain ⟨q1, q2, q3⟩ := q
    match j, hj, hx, h1 with
    | 0, _, hx, h1 => cases hx; exact ⟨_, h1, .v _, rfl⟩
    | 1, _, hx, h1 => cases hx; exact ⟨_, h1, .v _, rfl⟩
    | 2, _, hx, h1 => cases hx; exact ⟨_, h1, .v _, rfl⟩
theorem tail_ok [Sites] : TailOk Try.prog Try.f23.ntmps (partAt (bodyOf Try.f23) [1, 1, 1, 1, 1, 1, 1, 1]) [3] 2 true (specQ [.ptr 0 0 0] [.one false [.mp 1], .mf WayT (.int .i64)] ro_z00 rh_z00 fun a b => Q_z00 b.2.1) := by
  intro ι φ H w a xs x H' hS hfr hv hN hc
  unfold specQ at hc
  split at hc
  case h_2 => simp [Tr.val] at hc
  rename_i aa bb h1 h2
  have e1 := EK.decs_encs _ _ _ h1
  have e2 := HK.decs_encs _ _ _ h2
  obtain ⟨b0, g, b2⟩ := bb
  clear h1 h2
  have hH0 : H.at 0 = some (.row false 1 (.lit [[.mp 1]])) := by rw [e2]; rfl
  have hH1 : H.at 1 = some (.mf WayT (.int .i64) g) := by rw [e2]; rfl
  have hHl : H.length = 2 := by rw [e2]; rfl
  cases hq : Q_z00 g with
  | none =>
    have hc : (Tr.br (Q_z00 g).isSome _ _).val = _ := hc
    rw [hq] at hc; simp [Tr.val] at hc
  | some q =>
  have hc : (Tr.br (Q_z00 g).isSome (.leaf (encRes ro_z00 rh_z00 (RS.get (Q_z00 g))).1 (encRes ro_z00 rh_z00 (RS.get (Q_z00 g))).2) .no).val = some (.ok x, H') := hc
  rw [hq] at hc
  simp only [RS.get, Option.getD_some, Option.isSome_some, Tr.val, if_true, Option.some.injEq] at hc
  unfold Q_z00 at hq
  split at hq
  case h_2 => cases hq
  rename_i y0 l0 htl
  generalize hl : y0 :: l0 = l at *
  by_cases hlen : l.length ≤ 1000
  case neg => rw [decide_eq_false hlen] at hq; cases hq
  rw [decide_eq_true hlen] at hq
  cases hq
  have hW := W19.tailV_some htl
  -- the cell and the map
  rw [e1] at hv
  obtain ⟨u, us, hu, ha, _⟩ := hv.uncons
  simp only [List.map_cons, List.map_nil, List.cons.injEq] at hu
  obtain ⟨hu, _⟩ := hu
  subst hu
  have ha : ARel ι φ (a.tmps.getD 3 undef) (.ptr 0 0 0) := ha
  generalize hp3 : a.tmps.getD 3 undef = p3 at ha
  cases ha with
  | ptr _ _ _ b off sz lim len hφ0 he =>
  obtain ⟨loc, hl0, hb0⟩ := hS.blk 0 _ hH0
  rw [hφ0] at hl0; cases hl0
  obtain ⟨⟨hsz, hlen0⟩, _, _, cs, T, F, hcs, hF, _, hr⟩ := hb0
  subst hsz
  obtain ⟨u, hu1, hu2, _⟩ := hr.2 0 0 _ (.mp 1) rfl rfl
  have hu2 : ARel ι φ u (.mp 1) := hu2
  cases hu2 with
  | mp _ bm o1 s1 m1 n1 hφ1 =>
  obtain ⟨loc, hl1, hb1⟩ := hS.blk 1 _ hH1
  rw [hφ1] at hl1; cases hl1
  obtain ⟨ms, clk, hmap, _, hM, hst⟩ := hb1
  obtain ⟨tm, dfs⟩ := a
  obtain ⟨tl, rfl⟩ : ∃ tl : List Value, tm = tl.toArray := ⟨tm.toList, by simp⟩
  have hl125 : tl.length = 124 + 1 := by simpa using hN
  have hrow : ∀ e ∈ ms.toList, ∃ y : W19.Wy, e.key = .agg #[.int .u8 y.1, .int .i64 y.2.1, .int .i64 y.2.2.1] ∧ ∃ s : Int, e.val = .int .i64 s := fun e he => by
    obtain ⟨y, s, q1, q2, _⟩ := row_at hM hst he
    exact ⟨y, q1, s, q2⟩
  have hmsl : ms.size = l.length := by
    have := ways_len hM hst hW
    simpa using this
  have hpos : 0 < l.length := by rw [← hl]; simp
  refine wpIn_wide.2 (tail_walk dfs _ w b (off + 0 * 1 + 0) bm ms clk ?_ hmap hst hrow (by omega) (by omega) ?_ tl hl125 ?_)
  · rw [cellof hcs]; exact hu1
  · intro l' wr hs xs gb cap n d os cur hl' hg2 hB hge hgc hxc hcsz htk hsub hnd hall hz hp hso
    have hdl : d.toList.map (fun z => W19.wy z.1 z.2.1 z.2.2) = l := by
      have hsp : hs.Perm ms.toList := by
        have n1 : hs.Nodup := (List.pairwise_map.1 hnd).imp fun h e => h (by rw [e])
        have n2 : ms.toList.Nodup := (List.pairwise_map.1 hst.2.1).imp fun h e => h (by rw [e])
        refine (List.perm_ext_iff_of_nodup n1 n2).2 fun e => ⟨hsub e, fun he => ?_⟩
        obtain ⟨e', he', heq⟩ := List.mem_map.1 (hall e he)
        have : e' = e := born_inj hst.2.1 (hsub e' he') he heq
        rw [← this]; exact he'
      have hnx : (rowsA xs).size = xs.length := by simp [rowsA]
      obtain ⟨q1, _, q3⟩ := hp
      rw [hnx] at q1
      have hdx : d.toList.Perm (xs.map conv) := by
        have e1 : d.extract 0 xs.length = d := by rw [← q1]; simp
        have e2 : (rowsA xs).extract 0 xs.length = rowsA xs := by rw [← hnx]; simp
        rw [e1, e2] at q3
        exact q3
      have hpx : (d.toList.map (fun z => W19.wy z.1 z.2.1 z.2.2)).Perm xs := by
        have := hdx.map (fun z => W19.wy z.1 z.2.1 z.2.2)
        rw [List.map_map] at this
        have e : ((fun z : Int × Int × Int => W19.wy z.1 z.2.1 z.2.2) ∘ conv) = (id : W19.Wy → W19.Wy) := by funext x; rfl
        rw [e, List.map_id] at this
        exact this
      refine tail_list hM hst hW hsp hz hpx ?_
      rw [List.pairwise_map, List.pairwise_iff_getElem]
      intro i j hi hj hij hlt
      have := hso i j (Nat.zero_le _) hij (by rw [← q1]; simpa using hj)
      rw [ltW, getElem!_pos d j (by simpa using hj), getElem!_pos d i (by simpa using hi)] at this
      simp only [decide_eq_false_iff_not] at this
      exact this hlt
    have hc2 : x = .hs false 2 0 l.length ∧ H' = [none, none, some (.row true 3 (.ty WayT l))] := by cases hc; exact ⟨rfl, rfl⟩
    obtain ⟨rfl, rfl⟩ := hc2
    have hlt : ∀ b o, ι b = some o → b < w.heap.size := fun b o hb => (Array.getElem?_eq_some_iff.1 (hS.imm b o hb)).1
    have hBs := hB.size
    have hold : ∀ k, k < w.heap.size → (sortWorldK encW 3 wr gb 0 n d os).heap[k]? = w.heap[k]? := fun k hk => (sortW_old (by omega) (by omega)).trans (hB.block k hk)
    obtain ⟨cur', hc1, hc2⟩ := sortW_at (n := n) (d := d) (os := os) hgc
    have hxl : xs.length = l.length := by
      have h1 := congrArg List.length hdl
      have h2 := hp.1
      simp [rowsA] at h1 h2
      omega
    have hW2 : w.heap.size ≤ (sortWorldK encW 3 wr gb 0 n d os).heap.size := by
      have := size_sortWorldK_c encW 3 wr gb 0 n d os
      omega
    have hos : (sortWorldK encW 3 wr gb 0 n d os).os = wr.os ∧ (sortWorldK encW 3 wr gb 0 n d os).tape = wr.tape ∧ (sortWorldK encW 3 wr gb 0 n d os).output = wr.output := ⟨rfl, rfl, rfl⟩
    have hat : ∀ id blk, AH.at [none, none, some (.row true 3 (.ty WayT l))] id = some blk → id = 2 ∧ blk = .row true 3 (.ty WayT l) := fun id blk h => by
      match id, h with
      | 0, h => cases h
      | 1, h => cases h
      | 2, h => cases h; exact ⟨rfl, rfl⟩
      | k + 3, h => exact absurd h (by simp [AH.at])
    have hHd : HoldsK encW 3 (sortWorldK encW 3 wr gb 0 n d os) gb 0 d := holdsK_sortWorldK_c encW 3 wr gb 0 (rowsA xs) d n os (holds_own hgc htk) (Array.getElem?_eq_some_iff.1 hgc).1 (by
      have h1 := congrArg List.length hdl
      simp [rowsA] at h1 ⊢; omega)
    generalize sortWorldK encW 3 wr gb 0 n d os = W' at *
    refine ⟨rfl, rfl, by simpa using hl', ι, fun i => if i = 2 then some (.at gb 0 3 cap l.length) else φ i, ⟨by rw [hHl]; simp, fun i hi => if_neg (fun e => hi (by rw [hHl]; simp; omega)), fun i h1 _ => hfr i h1⟩,
      ⟨fun b o hb => (hold b (hlt b o hb)).trans (hS.imm b o hb), fun id blk hid => ?_, fun id blk b off sz lim len hid hl => ?_, fun id id' blk blk' b off sz lim len off' sz' lim' len' hid hid' hl hl' => ?_⟩,
      ⟨hos.1.trans hB.os, hos.2.1.trans hB.tape, hos.2.2.trans hB.output, hW2, fun b hb _ => hold b hb, fun b hb => ?_, fun _ _ h => h, fun _ h h' => absurd h h'⟩, ?_⟩
    · obtain ⟨rfl, rfl⟩ := hat _ _ hid
      exact ⟨.at gb 0 3 cap l.length, if_pos rfl, row_sorted hc1 (by omega) (by omega) hHd hdl⟩
    · obtain ⟨rfl, rfl⟩ := hat _ _ hid
      simp only [if_true, Option.some.injEq, Loc.at.injEq] at hl
      obtain ⟨rfl, _⟩ := hl
      cases hι : ι gb with
      | none => rfl
      | some o => have := hlt _ _ hι; omega
    · rw [(hat _ _ hid).1, (hat _ _ hid').1]
    · obtain ⟨id, blk, o, sz, l1, n1, q1, q2⟩ := hb
      obtain ⟨rfl, rfl⟩ := hat _ _ q1
      simp only [if_true, Option.some.injEq, Loc.at.injEq] at q2
      obtain ⟨rfl, _⟩ := q2
      left; omega
    · have e : l'.toArray.getD 2 undef = l'.getD 2 undef := by simp [List.getD_eq_getElem?_getD]
      show ARel ι _ (l'.toArray.getD 2 undef) _
      rw [e, hg2, hxl]
      exact .hs false 2 0 l.length _ cap (.at gb 0 3 cap l.length) (if_pos rfl) (by omega) (fun h => by cases h) (.inr ⟨gb, 0, 3, cap, l.length, rfl, rfl, by omega, by omega⟩)
  · simpa using hp3
end H19
end Go.AMach
