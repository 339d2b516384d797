/- The abstract machine: slices made and cut, addresses of parts. -/
import Derived.Test.YtbkbifpjckippaaAm6
import Derived.Laws.MakeOwn
namespace Go.AMach
set_option linter.unusedVariables false
set_option linter.unusedSimpArgs false
set_option linter.unnecessarySimpa false
set_option linter.unusedSectionVars false
variable [Sites]
open Go.RowKit
set_option linter.unusedVariables false
set_option linter.unusedSimpArgs false
variable {P : Program}

theorem elemO_some {t e : TypeId} (h : elemO P t = some e) : P.underlying t = some (.slice e) := by
  unfold elemO at h
  split at h
  · rename_i hu; cases h; exact hu
  · cases h
theorem arrO_some {t e : TypeId} {n : Nat} (h : arrO P t = some (n, e)) : P.underlying t = some (.array n e) := by
  unfold arrO at h
  split at h
  · rename_i hu; cases h; exact hu
  · cases h
theorem mapO_some {t k e : TypeId} (h : mapO P t = some (k, e)) : P.underlying t = some (.map k e) := by
  unfold mapO at h
  split at h
  · rename_i hu; cases h; exact hu
  · cases h
theorem strO_true {t : TypeId} (h : strO P t = true) : P.underlying t = some .string := by
  unfold strO at h
  split at h
  · assumption
  · cases h
theorem boolO_true {t : TypeId} (h : boolO P t = true) : P.underlying t = some .bool := by
  unfold boolO at h
  split at h
  · assumption
  · cases h
theorem intO_some {t : TypeId} {k : IntKind} (h : intO P t = some k) : P.underlying t = some (.int k) := by
  unfold intO at h
  split at h
  · rename_i hu; cases h; exact hu
  · cases h
theorem fieldO_some {t ft : TypeId} {f off : Nat} (h : fieldO P t f = some (ft, off)) : ∃ fs x, P.underlying t = some (.struct fs) ∧ fs[f]? = some x ∧ x.type = ft ∧ x.offset = off := by
  unfold fieldO at h
  split at h
  · rename_i fs hu
    simp only [Option.map_eq_some_iff, Prod.mk.injEq] at h
    obtain ⟨x, hx, h1, h2⟩ := h
    exact ⟨fs, x, hu, hx, h1, h2⟩
  · cases h

/-! ### Rows out of flat lists -/
theorem flatten_get {sz : Nat} : ∀ (es : List (List AV)), (∀ c ∈ es, c.length = sz) → ∀ (e j : Nat) c x, es[e]? = some c → c[j]? = some x → es.flatten[e * sz + j]? = some x
  | [], _, e, j, c, x, h, _ => by simp at h
  | y :: r, hw, e, j, c, x, h, hx => by
    have hy : y.length = sz := hw y List.mem_cons_self
    cases e with
    | zero =>
      simp at h; subst h
      simp only [List.flatten_cons, Nat.zero_mul, Nat.zero_add]
      rw [List.getElem?_append_left (List.getElem?_eq_some_iff.1 hx).1]; exact hx
    | succ e =>
      simp at h
      have := flatten_get r (fun c hc => hw c (List.mem_cons_of_mem _ hc)) e j c x h hx
      rw [List.flatten_cons, List.getElem?_append_right (by rw [hy, Nat.add_mul]; omega), hy, Nat.add_mul, Nat.one_mul]
      rw [show e * sz + sz + j - sz = e * sz + j by omega]; exact this
theorem RowRel.of_flat {ι φ} {vs : List Value} {sz : Nat} {es : List (List AV)} (hw : ∀ c ∈ es, c.length = sz) (h : ARels ι φ vs es.flatten) (hone : ∀ v ∈ vs, v.oneCell' = true) : RowRel ι φ vs.toArray 0 sz es :=
  ⟨hw, fun e j c x hc hx => by
    obtain ⟨u, hu, hr⟩ := h.get (flatten_get es hw e j c x hc hx)
    exact ⟨u, by simpa using hu, hr, hone u (List.mem_of_getElem? hu)⟩⟩
theorem flatten_length {sz : Nat} : ∀ (es : List (List AV)), (∀ c ∈ es, c.length = sz) → es.flatten.length = es.length * sz
  | [], _ => by simp
  | y :: r, hw => by
    rw [List.flatten_cons, List.length_append, flatten_length r (fun c hc => hw c (List.mem_cons_of_mem _ hc)), hw y List.mem_cons_self, List.length_cons, Nat.add_mul]
    omega
theorem chunks_flat (s : Nat) : ∀ (n : Nat) (cs : List AV), cs.length = n * s → (chunks s n cs).flatten = cs ∧ (∀ c ∈ chunks s n cs, c.length = s) ∧ (chunks s n cs).length = n
  | 0, cs, h => by
    have : cs = [] := by simpa using h
    subst this; exact ⟨rfl, by simp [chunks], rfl⟩
  | n + 1, cs, h => by
    rw [Nat.add_mul, Nat.one_mul] at h
    obtain ⟨h1, h2, h3⟩ := chunks_flat s n (cs.drop s) (by simp; omega)
    refine ⟨?_, ?_, by simp [chunks, h3]⟩
    · simp only [chunks, List.flatten_cons, h1, List.take_append_drop]
    · intro c hc
      simp only [chunks, List.mem_cons] at hc
      rcases hc with rfl | hc
      · simp; omega
      · exact h2 c hc
theorem sound_allocA {ι φ H w n} {t : TypeId} : SoundM P ι φ H w n (Instr.alloc t true (.tuple #[])) (allocA P t) := by
  intro hS
  unfold allocA
  split
  case h_2 => exact SoundM.fail hS
  rename_i cs m len s hz hs ha
  split
  case isFalse => exact SoundM.fail hS
  rename_i hm
  obtain ⟨hl, hm, h0⟩ := hm
  obtain ⟨i, z, hi, hz0, rfl, hone⟩ := zeroO_one hz
  obtain ⟨c1, c2, c3⟩ := chunks_flat s len _ hl
  have hrl : (Rows.lit (chunks s len (z.cells.toList.map .v)) : Rows AV).len = len := c3
  simp at hl
  refine SoundM.newRow (lim := len) (cs := z.cells) (T := t) (X := fun id => .ptr id 0 0) (u := .pointer (some ⟨w.heap.size, 0, none⟩)) (w' := { w with heap := w.heap.push (.cells z.cells t) }) (noF _) ?_ rfl rfl rfl rfl h0 (by rw [hrl]; exact Nat.le_refl _) (by omega) ?_ (fun φ' h => ?_) hS
  · simp [Instr.alloc, newVar, newRow, run_zeroValue hi hz0]
  · rw [toL_lit]
    have := RowRel.of_flat (ι := ι) (φ := pφ true φ) (vs := z.cells.toList) c2 (by rw [c1]; exact ARels.lits _) hone
    simpa using this
  · have := ARel.ptr (ι := ι) n 0 0 _ _ _ _ _ h (by rw [hrl]; exact hm)
    simpa using this
theorem putCells_flatten {sz : Nat} {cs : List AV} (hcs : cs.length = sz) : ∀ (es : List (List AV)) (i : Nat), (∀ c ∈ es, c.length = sz) → i < es.length → putCells es.flatten (i * sz) cs = (es.set i cs).flatten
  | [], i, _, h => by simp at h
  | y :: r, 0, hw, _ => by
    have hy : y.length = sz := hw y List.mem_cons_self
    unfold putCells
    simp [hcs, ← hy]
  | y :: r, i + 1, hw, h => by
    have hy : y.length = sz := hw y List.mem_cons_self
    have ih := putCells_flatten hcs r i (fun c hc => hw c (List.mem_cons_of_mem _ hc)) (by simpa using h)
    unfold putCells at ih ⊢
    rw [List.set_cons_succ, List.flatten_cons, List.flatten_cons, ← ih, List.take_append, List.drop_append, hy, Nat.add_mul, Nat.one_mul, hcs]
    rw [List.take_of_length_le (by omega), List.drop_of_length_le (by omega)]
    rw [show i * sz + sz - sz = i * sz by omega, show i * sz + sz + sz - sz = i * sz + sz by omega]
    simp
theorem setRows_fill {sz : Nat} : ∀ {parts : List (Nat × AV)} {es es' : List (List AV)}, (∀ c ∈ es, c.length = sz) → setRows sz es parts = some es' →
    fillC (fun i => some (i * sz, sz)) es.flatten parts = some es'.flatten ∧ (∀ c ∈ es', c.length = sz) ∧ es'.length = es.length
  | [], es, es', hw, h => by simp [setRows] at h; subst h; exact ⟨rfl, hw, rfl⟩
  | (i, x) :: rest, es, es', hw, h => by
    simp only [setRows] at h
    cases hx : x.cells with
    | none => simp [hx] at h
    | some cs =>
      simp only [hx] at h
      split at h
      case isFalse => cases h
      rename_i hc
      obtain ⟨hc, hi⟩ := hc
      have hw' : ∀ c ∈ es.set i cs, c.length = sz := fun c hm => by
        rcases List.mem_or_eq_of_mem_set hm with hm | rfl
        · exact hw c hm
        · exact hc
      obtain ⟨h1, h2, h3⟩ := setRows_fill hw' h
      refine ⟨?_, h2, by simpa using h3⟩
      simp only [fillC, hx]
      have hl := flatten_length es hw
      have : i * sz + sz ≤ es.length * sz := by
        have := Nat.mul_le_mul_right sz (show i + 1 ≤ es.length from hi)
        rw [Nat.add_mul] at this; omega
      rw [if_pos ⟨hc, by omega⟩, putCells_flatten hc es i hw hi]
      exact h1
theorem madeCells_rel {ι φ} (z : Array Value) (len sz : Nat) (hz : z.size = sz) (h0 : 0 < sz) : ARels ι φ (madeCells z (len * sz)).toList (List.replicate len (z.toList.map .v)).flatten := by
  have hw : ∀ c ∈ List.replicate len (z.toList.map AV.v), c.length = sz := fun c hc => by rw [List.eq_of_mem_replicate hc]; simp [hz]
  have hl := flatten_length _ hw
  simp at hl
  refine ⟨by simp [size_madeCells, hl], fun i u c hu hc => ?_⟩
  have hi : i < len * sz := by
    have := (List.getElem?_eq_some_iff.1 hu).1
    simpa [size_madeCells] using this
  have he : i / sz < len := Nat.div_lt_of_lt_mul (by rw [Nat.mul_comm]; exact hi)
  have hj : i % sz < z.size := by rw [hz]; exact Nat.mod_lt _ h0
  have h1 := flatten_get _ hw (i / sz) (i % sz) (z.toList.map .v) (.v z[i % sz]) (by simp [List.getElem?_replicate, he]) (by simp [hj])
  rw [show i / sz * sz + i % sz = i by rw [Nat.mul_comm]; exact Nat.div_add_mod i sz] at h1
  rw [h1] at hc
  cases hc
  have : u = z[i % sz] := by
    simp [madeCells] at hu
    obtain ⟨k, hk, rfl⟩ := hu
    have : k = i := by
      have := (List.getElem?_eq_some_iff.1 hk).2
      simpa using this.symm
    subst this
    rw [hz]
    exact (getElem!_pos z (k % sz) hj)
  rw [this]
  exact .v _

theorem madeCells_one {z : Array Value} {n sz : Nat} (hz : z.size = sz) (h0 : 0 < sz) (h : ∀ v ∈ z.toList, v.oneCell' = true) : ∀ v ∈ (madeCells z n).toList, v.oneCell' = true := fun v hv => by
  simp [madeCells] at hv
  obtain ⟨k, hk, rfl⟩ := hv
  have hj : k % z.size < z.size := by rw [hz]; exact Nat.mod_lt _ h0
  rw [getElem!_pos z (k % z.size) hj]
  exact h _ (by simp)

theorem puresRows_flatten : ∀ (es : List (List AV)), puresRows es = true → AV.pures es.flatten = true
  | [], _ => rfl
  | x :: r, h => by
    simp [puresRows] at h
    have ih := puresRows_flatten r h.2
    have : ∀ (a b : List AV), AV.pures a = true → AV.pures b = true → AV.pures (a ++ b) = true := by
      intro a b ha hb
      induction a with
      | nil => exact hb
      | cons y a ih' => simp [AV.pures] at ha ⊢; exact ⟨ha.1, ih' ha.2⟩
    rw [List.flatten_cons]
    exact this x _ h.1 ih

theorem sound_buildSlice {ι φ H w n} {t : TypeId} {len : Nat} {us : List (Nat × Value)} {parts : List (Nat × AV)} (hi : us.map (·.1) = parts.map (·.1)) (hr : ARels ι φ (us.map (·.2)) (parts.map (·.2))) :
    SoundM P ι φ H w n (Instr.buildSlice t len us.toArray) (buildSliceM P t len parts) := by
  intro hS
  unfold buildSliceM
  cases he : elemO P t with
  | none => exact SoundM.fail hS
  | some e =>
  simp only []
  cases hz : zeroO P e with
  | none => exact SoundM.fail hS
  | some z =>
  cases hs : szO P e with
  | none => exact SoundM.fail hS
  | some s =>
  simp only []
  split
  case isFalse => exact SoundM.fail hS
  rename_i hc
  obtain ⟨hzl, h0, h24⟩ := hc
  cases hes : setRows s (List.replicate len z) parts with
  | none => exact SoundM.fail hS
  | some es =>
  simp only []
  obtain ⟨i, zv, hinf, hz0, rfl, hzone⟩ := zeroO_one hz
  have hzl' : zv.cells.size = s := by simpa using hzl
  have hw : ∀ c ∈ List.replicate len (zv.cells.toList.map AV.v), c.length = s := fun c hc => by rw [List.eq_of_mem_replicate hc]; exact hzl
  obtain ⟨h1, h2, h3⟩ := setRows_fill hw hes
  have hmade := madeCells_rel (ι := ι) (φ := φ) zv.cells len s hzl' h0
  obtain ⟨cells', h4, h5, h6⟩ := fill_rel hi hr hmade h1
  simp at h3
  have hcl : cells'.length = len * s := by rw [h5.1, flatten_length es h2, h3]
  have hu := elemO_some he
  refine SoundM.newRow (lim := len) (cs := cells'.toArray) (T := e) (X := fun id => .hs true id 0 len) (u := .slice (some ⟨w.heap.size, 0, none⟩) len len) (w' := { w with heap := w.heap.push (.cells cells'.toArray e) }) (noF _) ?_ rfl rfl rfl rfl h0 (by simp only [Rows.len]; omega) (by simp [hcl]) (by rw [toL_lit]; exact RowRel.of_flat h2 (h5.pure fun h => puresRows_flatten es h) (h6 (madeCells_one hzl' h0 hzone))) (fun φ' h => ?_) hS
  · have h24' : ¬ (len * s > 16777216) := by omega
    have hfill : Instr.fill (fun i => some (i * s, s)) (madeCells zv.cells (len * s)) us = some cells'.toArray := by simpa using h4
    by_cases hn : len * s = 0
    · have hm0 : madeCells zv.cells (len * s) = Array.map (fun x => (#[] : Array Value)[x % (#[] : Array Value).size]!) (Array.range (len * s)) := by
        rw [hn]; simp [madeCells, Array.range_zero']
      rw [hm0] at hfill
      simp only [Instr.buildSlice, Sem.run_bind, run_underlying hu, run_sizeOf hs, Result.andThen_ok]
      simp [hn] at hfill ⊢
      simp [hfill, newRow]
    · unfold madeCells at hfill
      simp [Instr.buildSlice, run_underlying hu, run_sizeOf hs, h24', hn, run_zeroValue hinf hz0, hfill, newRow]
  · exact .hs true n 0 len _ len _ h (Nat.le_refl _) (fun _ => rfl) (by
      by_cases hl : len = 0
      · exact .inl hl
      · exact .inr ⟨_, _, _, _, _, rfl, by simp, by omega, by simp only [Rows.len]; omega⟩)

theorem replicate_rel {ι φ} {vs : List Value} {a b sz : Nat} {z : List AV} (hz : z.length = sz) (hab : a ≤ b) (h : ARels ι φ vs (List.replicate b z).flatten) (hone : ∀ v ∈ vs, v.oneCell' = true) : RowRel ι φ vs.toArray 0 sz (List.replicate a z) := by
  have hr := RowRel.of_flat (sz := sz) (fun c hc => by rw [List.eq_of_mem_replicate hc]; exact hz) h hone
  refine ⟨fun c hc => by rw [List.eq_of_mem_replicate hc]; exact hz, fun e j c x hc hx => hr.2 e j c x ?_ hx⟩
  rw [List.getElem?_replicate] at hc ⊢
  split at hc
  · rw [if_pos (by omega)]; exact hc
  · cases hc

theorem sound_makeSlice {ι φ H w n} {t : TypeId} {u1 u2 : Value} {l c : AV} (h1 : ARel ι φ u1 l) (h2 : ARel ι φ u2 c) : SoundM P ι φ H w n (Instr.makeSlice t u1 u2) (makeSliceM P t l c) := by
  intro hS
  unfold makeSliceM
  split
  case h_2 => exact SoundM.fail hS
  rename_i e kl l kc c he
  split
  case h_2 => exact SoundM.fail hS
  rename_i z s b hz hs hb
  split
  case isFalse => exact SoundM.fail hS
  rename_i hc
  obtain ⟨hzl, h0, hb0⟩ := hc
  refine SoundM.cond (fun hc => ?_) hS
  obtain ⟨hl0, hlc, hbc⟩ := hc
  intro hS
  cases h1; cases h2
  obtain ⟨i, zv, hinf, hz0, rfl, hzone⟩ := zeroO_one hz
  obtain ⟨i', hinf', hs'⟩ := szO_some hs
  rw [hinf] at hinf'; cases hinf'
  have hb' : i.bytes = b := by simpa [byO, hinf] using hb
  have hu := elemO_some he
  have hzl' : zv.cells.size = s := by simpa using hzl
  have hbc' : (i.bytes : Int) * c ≤ 70368744177664 := by rw [hb']; exact hbc
  have hc63 : c ≤ 70368744177664 := by
    have h1 : (1 : Int) * c ≤ (b : Int) * c := Int.mul_le_mul_of_nonneg_right (by omega) (by omega)
    rw [hb'] at hbc'; omega
  have hrun := run_make (P := P) w t e i zv hu hinf hz0 kl kc l c hl0 hlc (by omega) (by omega)
  rw [hs'] at hrun
  have hmade := madeCells_rel (ι := ι) (φ := pφ true φ) zv.cells c.toNat s hzl' h0
  refine SoundM.newRow (lim := c.toNat) (cs := madeCells zv.cells (c.toNat * s)) (T := e) (X := fun id => .hs (l == c) id 0 l.toNat) (w' := w.alloc (.cells (madeCells zv.cells (c.toNat * s)) e)) (noF _) hrun rfl rfl rfl rfl h0 (by simp only [Rows.len]; omega) (by simp [size_madeCells]) ?_ (fun φ' h => ?_) hS
  · rw [toL_rep]
    have := replicate_rel (a := l.toNat) (b := c.toNat) hzl (by omega) hmade (madeCells_one hzl' h0 hzone)
    simpa using this
  · exact .hs _ n 0 _ _ _ _ h (by omega) (fun h => by simp at h; rw [h]) (by
      by_cases hl : c.toNat = 0
      · exact .inl hl
      · exact .inr ⟨_, _, _, _, _, rfl, by simp, by omega, by simp only [Rows.len]; omega⟩)
end Go.AMach
