/- The abstract machine: rows of cells: read, written, made. -/
import Derived.Test.YtbkbifpjckippaaAm4
namespace Go.AMach
set_option linter.unusedVariables false
set_option linter.unusedSimpArgs false
set_option linter.unnecessarySimpa false
set_option linter.unusedSectionVars false
variable [Sites]
open Go.RowKit
set_option linter.unusedVariables false
set_option linter.unusedSimpArgs false
variable {P : Program}

theorem cell_of {w : World} {b : Nat} {cs : Array Value} {T : TypeId} {F : Nat × Nat} (h : w.heap[b]? = some (.cells cs T F)) (o : Nat) : w.cell? ⟨b, o, none⟩ = cs[o]? := by
  simp [World.cell?, h]
theorem frozen_of {w : World} {b : Nat} {cs : Array Value} {T : TypeId} {F : Nat × Nat} (h : w.heap[b]? = some (.cells cs T F)) (hF : ∀ o, o < cs.size → ¬ (F.1 ≤ o ∧ o < F.2)) (o : Nat) (ho : o < cs.size) : w.frozen? ⟨b, o, none⟩ = false := by
  have := hF o ho
  obtain ⟨lo, hi⟩ := F
  simp only [World.frozen?, h]
  simp at this ⊢
  exact this

theorem heap_setCells {b : Nat} {T : TypeId} {F : Nat × Nat} : ∀ (vs : List Value) (o : Nat) (w : World) (cs : Array Value), w.heap[b]? = some (.cells cs T F) →
    ∃ cs', (w.setCells b o vs).heap[b]? = some (.cells cs' T F) ∧ cs'.size = cs.size ∧
      (∀ k, (k < o ∨ o + vs.length ≤ k) → cs'[k]? = cs[k]?) ∧ (∀ k, k < vs.length → o + k < cs.size → cs'[o + k]? = vs[k]?)
  | [], o, w, cs, h => ⟨cs, h, rfl, fun _ _ => rfl, fun k hk => by simp at hk⟩
  | v :: r, o, w, cs, h => by
    have h1 : (w.setCell ⟨b, o, none⟩ v).heap[b]? = some (.cells (cs.setIfInBounds o v) T F) := by
      simp [World.setCell, Array.getElem?_modify, h]
    obtain ⟨cs', h2, h3, h4, h5⟩ := heap_setCells r (o + 1) _ _ h1
    refine ⟨cs', h2, by simpa using h3, fun k hk => ?_, fun k hk hlt => ?_⟩
    · rw [h4 k (by simp at hk; omega), Array.getElem?_setIfInBounds, if_neg (by simp at hk; omega)]
    · cases k with
      | zero =>
        rw [h4 (o + 0) (by omega), Array.getElem?_setIfInBounds]
        simp at hlt
        simp [hlt]
      | succ k =>
        have := h5 k (by simpa using hk) (by simp; omega)
        rw [show o + (k + 1) = o + 1 + k by omega, this]; simp
theorem heap_setCells_ne {b : Nat} : ∀ (vs : List Value) (o : Nat) (w : World) (k : Nat), k ≠ b → (w.setCells b o vs).heap[k]? = w.heap[k]?
  | [], o, w, k, h => rfl
  | v :: r, o, w, k, h => by
    rw [World.setCells, heap_setCells_ne r _ _ k h]
    simp only [World.setCell, Array.getElem?_modify]
    rw [if_neg (by omega)]
theorem setCells_rest {b : Nat} : ∀ (vs : List Value) (o : Nat) (w : World), (w.setCells b o vs).os = w.os ∧ (w.setCells b o vs).tape = w.tape ∧ (w.setCells b o vs).output = w.output ∧ (w.setCells b o vs).heap.size = w.heap.size
  | [], o, w => ⟨rfl, rfl, rfl, rfl⟩
  | v :: r, o, w => by
    obtain ⟨h1, h2, h3, h4⟩ := setCells_rest (b := b) r (o + 1) (w.setCell ⟨b, o, none⟩ v)
    exact ⟨h1, h2, h3, by rw [World.setCells, h4]; simp [World.setCell]⟩

/-! ### The types' table -/
theorem szO_some {t : TypeId} {n : Nat} (h : szO P t = some n) : ∃ i, P.info? t = some i ∧ i.size = n := by
  simp [szO] at h; exact h
theorem aggO_some {t : TypeId} {g : Bool} (h : aggO P t = some g) : ∃ d, P.underlying t = some d ∧ d.isRow = g := by
  simp only [aggO, Option.map_eq_some_iff] at h
  obtain ⟨d, h1, h2⟩ := h
  refine ⟨d, h1, ?_⟩
  rw [← h2]
  cases d <;> rfl

/-! ### The load -/
def rdRow (g : Bool) (n : Nat) (es : List (List AV)) (e j : Nat) : Option AV :=
  match es[e]? with
  | some c => rdCells g n c j
  | none => none
theorem rdRow_toL {g : Bool} {n : Nat} {es : Rows AV} {e j : Nat} (h : e < es.len) : rdRow g n es.toL e j = rdCells g n (es.get e) j := by
  unfold rdRow
  rw [toL_at h]

theorem ARel.rdRow {ι : Iota} {φ : Phi} {cs : Array Value} {off sz e j n : Nat} {es : List (List AV)} {g : Bool} {x : AV} (h : RowRel ι φ cs off sz es) (hx : rdRow g n es e j = some x) :
    (g = true ∧ ∃ vs : List Value, vs.length = n ∧ (∀ k v, vs[k]? = some v → cs[off + e * sz + j + k]? = some v) ∧ ARel ι φ (.agg vs.toArray) x) ∨
    (g = false ∧ ∃ u, cs[off + e * sz + j]? = some u ∧ ARel ι φ u x) := by
  unfold Go.AMach.rdRow at hx
  cases hc : es[e]? with
  | none => rw [hc] at hx; cases hx
  | some c =>
    rw [hc] at hx
    simp only [rdCells] at hx
    cases g with
    | false => obtain ⟨u, hu, hr, _⟩ := h.2 e j c x hc (by simpa using hx); exact .inr ⟨rfl, u, hu, hr⟩
    | true =>
      simp at hx
      obtain ⟨hle, rfl⟩ := hx
      have hget : ∀ k, k < n → ∃ u, cs[off + e * sz + j + k]? = some u ∧ ∀ y, c[j + k]? = some y → ARel ι φ u y := fun k hk => by
        obtain ⟨u, hu, hr, _⟩ := h.2 e (j + k) c _ hc (List.getElem?_eq_getElem (by omega))
        refine ⟨u, by rw [Nat.add_assoc]; exact hu, fun y hy => ?_⟩
        rw [List.getElem?_eq_getElem (by omega)] at hy
        cases hy; exact hr
      refine .inl ⟨rfl, (List.range n).map fun k => (cs[off + e * sz + j + k]?).getD undef, by simp, fun k v hv => ?_, ?_⟩
      · simp only [List.getElem?_map, Option.map_eq_some_iff] at hv
        obtain ⟨k', hk', rfl⟩ := hv
        have hk : k < n ∧ k' = k := by
          have := (List.getElem?_eq_some_iff.1 hk')
          simp at this; omega
        obtain ⟨hk, rfl⟩ := hk
        obtain ⟨u, hu, _⟩ := hget k' hk
        rw [hu]; rfl
      · refine .agg _ _ (by simp; omega) fun i u y hu hy => ?_
        simp only [List.getElem?_map, Option.map_eq_some_iff] at hu
        obtain ⟨k', hk', rfl⟩ := hu
        have hk : i < n ∧ k' = i := by
          have := (List.getElem?_eq_some_iff.1 hk')
          simp at this; omega
        obtain ⟨hk, rfl⟩ := hk
        obtain ⟨u, hu, hr⟩ := hget k' hk
        rw [hu]
        refine hr y ?_
        rw [List.getElem?_take, if_pos hk, List.getElem?_drop] at hy
        exact hy

theorem run_loadVar_one (w : World) (b o : Nat) (ty : TypeId) (v : Value) (d : TypeDesc) (hc : w.cell? ⟨b, o, none⟩ = some v)
    (hu : P.underlying ty = some d) (hd : d.isRow = false) : (loadVar ty ⟨b, o, none⟩).run P w = .ok v w := by
  have hagg : (isAgg ty).run P w = .ok false w := by
    unfold isAgg
    rw [Sem.run_bind, run_underlying hu w]
    cases d <;> simp_all
  simp [loadVar, Sem.run_bind, hagg, hc]

/-- A variable read out of a row. -/
theorem run_loadVar_rel {ι φ} {w : World} {b off sz e j n : Nat} {es : List (List AV)} {cs : Array Value} {T : TypeId} {F : Nat × Nat} {g : Bool} {t : TypeId} {x : AV}
    (hb : w.heap[b]? = some (.cells cs T F)) (h : RowRel ι φ cs off sz es) (hg : aggO P t = some g) (hs : szO P t = some n) (hx : rdRow g n es e j = some x) :
    ∃ u, (loadVar t ⟨b, off + e * sz + j, none⟩).run P w = .ok u w ∧ ARel ι φ u x := by
  obtain ⟨d, hd, hrow⟩ := aggO_some hg
  obtain ⟨i, hi, hsz⟩ := szO_some hs
  rcases ARel.rdRow h hx with ⟨rfl, vs, hl, hv, hr⟩ | ⟨rfl, u, hu, hr⟩
  · refine ⟨_, run_loadVar_mid w b (off + e * sz + j) t vs d (fun k v hk => ?_) hd hrow (by simp [hi, hsz, hl]), hr⟩
    rw [cell_of hb]; exact hv k v hk
  · exact ⟨u, run_loadVar_one w b _ t u d (by rw [cell_of hb]; exact hu) hd hrow, hr⟩

theorem sound_load {ι φ H w n} {t : TypeId} {u : Value} {x : AV} (hx : ARel ι φ u x) : SoundM P ι φ H w n (Instr.loadAt t u) (loadM P t x) := by
  intro hS
  unfold loadM
  cases hg : aggO P t with
  | none => exact SoundM.fail hS
  | some g =>
  cases hs : szO P t with
  | none => exact SoundM.fail hS
  | some m =>
  cases hx with
  | ptr id e j b off sz lim len hφ he =>
    refine SoundM.get ?_ hS
    cases hid : H.at id with
    | none => exact SoundM.fail
    | some blk =>
      cases blk with
      | mp p es => exact SoundM.fail
      | mf K V g => exact SoundM.fail
      | lp bz k caps => exact SoundM.fail
      | row p s es =>
        refine SoundM.ofO fun y hy => ?_
        obtain ⟨loc, hl, hb⟩ := hS.blk id _ hid
        rw [hφ] at hl; cases hl
        obtain ⟨⟨rfl, rfl⟩, _, _, cs, T, F, hb, _, _, hr⟩ := hb
        rw [← rdRow_toL he] at hy
        obtain ⟨u, h1, h2⟩ := run_loadVar_rel (P := P) hb hr hg hs hy
        refine ⟨u, by simpa [Instr.loadAt, Instr.sureAddr] using h1, ?_⟩
        cases p
        · exact h2
        · exact h2.of_none
  | rp sz es e j he hw b off cs T F us hm h1 h2 h3 =>
    refine SoundM.ofO (fun y hy => ?_) hS
    rw [← rdRow_toL he] at hy
    have hr : RowRel ι Phi.none cs off sz es.toL := ⟨hw, fun e j c x hc hx => ⟨us e j, h1 e j c x hc hx, h2 e j c x hc hx, h3 e j c x hc hx⟩⟩
    obtain ⟨u, h1, h2⟩ := run_loadVar_rel (P := P) (hS.imm _ _ hm) hr hg hs hy
    exact ⟨u, by simpa [Instr.loadAt, Instr.sureAddr] using h1, h2.of_none⟩
  | _ => exact SoundM.fail hS

/-! ### The cells of a value -/
theorem AV.one_rel {ι φ} {u : Value} {x : AV} (h : ARel ι φ u x) (ho : x.one = true) : u.oneCell' = true := by
  cases h <;> first | rfl | (simp [AV.one] at ho; done) | (simp [AV.one] at ho; exact ho)

theorem cells_one {u : Value} (h : u.oneCell' = true) : u.cells = #[u] := by
  cases u <;> first | rfl | (simp [Value.oneCell'] at h)

theorem cells_rel {ι φ} {u : Value} {x : AV} {cs : List AV} (h : ARel ι φ u x) (hc : x.cells = some cs) :
    ∃ vs : List Value, u.cells = vs.toArray ∧ ARels ι φ vs cs ∧ ∀ v ∈ vs, v.oneCell' = true := by
  have hone : ∀ {u x}, ARel ι φ u x → x.one = true → ∃ vs : List Value, u.cells = vs.toArray ∧ ARels ι φ vs [x] ∧ ∀ v ∈ vs, v.oneCell' = true := fun {u x} h ho =>
    ⟨[u], by rw [cells_one (AV.one_rel h ho)], ARels.nil.cons h, fun v hv => by simp at hv; subst hv; exact AV.one_rel h ho⟩
  cases h with
  | agg vs cs' hl h =>
    simp only [AV.cells] at hc
    split at hc
    · rename_i hall
      cases hc
      refine ⟨vs, rfl, ⟨hl, h⟩, fun v hv => ?_⟩
      obtain ⟨i, hi⟩ := List.getElem?_of_mem hv
      have hlt : i < cs.length := by rw [← hl]; exact (List.getElem?_eq_some_iff.1 hi).1
      exact AV.one_rel (h i v _ hi (List.getElem?_eq_getElem hlt)) (by rw [List.all_eq_true] at hall; exact hall _ (List.getElem_mem hlt))
    · cases hc
  | junk _ => simp [AV.cells, AV.one] at hc
  | tup _ _ _ _ => simp [AV.cells, AV.one] at hc
  | v y =>
    simp only [AV.cells] at hc
    split at hc
    · rename_i ho; cases hc; exact hone (.v _) ho
    · cases hc
  | sl a cap tg sz es hc' ht hw b off cs' T F us hm h1 h2 h3 => simp [AV.cells, AV.one] at hc; subst hc; exact hone (.sl a cap tg sz es hc' ht hw b off cs' T F us hm h1 h2 h3) rfl
  | rp sz es e j he hw b off cs' T F us hm h1 h2 h3 => simp [AV.cells, AV.one] at hc; subst hc; exact hone (.rp sz es e j he hw b off cs' T F us hm h1 h2 h3) rfl
  | ptr id e j b off sz lim len h he => simp [AV.cells, AV.one] at hc; subst hc; exact hone (.ptr id e j b off sz lim len h he) rfl
  | hs tg id e n a cap loc h hc' ht hm => simp [AV.cells, AV.one] at hc; subst hc; exact hone (.hs tg id e n a cap loc h hc' ht hm) rfl
  | mp id b off sz lim len h => simp [AV.cells, AV.one] at hc; subst hc; exact hone (.mp id b off sz lim len h) rfl
  | yl id b off sz lim len h => simp [AV.cells, AV.one] at hc; subst hc; exact hone (.yl id b off sz lim len h) rfl
  | fn f vs us cs' ds hl h hl' h' => simp [AV.cells, AV.one] at hc; subst hc; exact hone (.fn f vs us cs' ds hl h hl' h') rfl
  | ifc t u x h => simp [AV.cells, AV.one] at hc; subst hc; exact hone (.ifc t u x h) rfl

/-! ### The store -/
theorem run_storeVar_any (w : World) (b o : Nat) (ty : TypeId) (u : Value) (vs : List Value) (hv : u.cells = vs.toArray) (ht : w.there b o vs.length)
    (hi : szO P ty = some vs.length) (h1 : ∀ v ∈ vs, v.oneCell' = true) : (storeVar ty ⟨b, o, none⟩ u).run P w = .ok () (w.setCells b o vs) := by
  have := run_storeCells_cells (P := P) b o vs 0 w (fun j hj => by simpa using (ht j hj).1) (fun j hj => by simpa using (ht j hj).2) h1
  obtain ⟨i, hq, hs⟩ := szO_some hi
  simp only [Nat.add_zero] at this
  simp [storeVar, sizeOf, typeInfo, hq, hv, hs, this]

theorem pφ_and {ι} {φ : Phi} {p q : Bool} {u : Value} {x : AV} (h : ARel ι (pφ p φ) u x) : ARel ι (pφ (p && q) φ) u x := by
  cases p
  · exact h
  · cases q
    · exact h.of_none
    · exact h
theorem pφ_pure {ι} {φ : Phi} {p : Bool} {u : Value} {x : AV} (h : ARel ι φ u x) (hp : p = true → x.pure = true) : ARel ι (pφ p φ) u x := by
  cases p
  · exact h
  · exact ARel.of_pure (hp rfl) h
theorem pures_get : ∀ {cs : List AV} {i : Nat} {x : AV}, AV.pures cs = true → cs[i]? = some x → x.pure = true
  | [], i, x, _, h => by simp at h
  | c :: cs, 0, x, hp, h => by simp [AV.pures] at hp h; subst h; exact hp.1
  | c :: cs, i + 1, x, hp, h => by simp [AV.pures] at hp; exact pures_get hp.2 (by simpa using h)

theorem putCells_length {old cs : List AV} {j : Nat} (h : j + cs.length ≤ old.length) : (putCells old j cs).length = old.length := by
  unfold putCells; simp; omega
theorem putCells_get {old cs : List AV} {j k : Nat} {x : AV} (h : j + cs.length ≤ old.length) (hx : (putCells old j cs)[k]? = some x) :
    (j ≤ k ∧ k < j + cs.length ∧ cs[k - j]? = some x) ∨ ((k < j ∨ j + cs.length ≤ k) ∧ old[k]? = some x) := by
  unfold putCells at hx
  have hl : (old.take j).length = j := by simp; omega
  by_cases h1 : k < j
  · refine .inr ⟨.inl h1, ?_⟩
    rw [List.append_assoc, List.getElem?_append_left (by omega), List.getElem?_take, if_pos h1] at hx
    exact hx
  · by_cases h2 : k < j + cs.length
    · refine .inl ⟨by omega, h2, ?_⟩
      rw [List.append_assoc, List.getElem?_append_right (by omega), List.getElem?_append_left (by omega), hl] at hx
      exact hx
    · refine .inr ⟨.inr (by omega), ?_⟩
      rw [List.getElem?_append_right (by simp; omega), List.getElem?_drop] at hx
      rw [← hx]; congr 1; simp; omega

theorem RowRel.put {ι φ} {cs cs' : Array Value} {off sz e j : Nat} {es : List (List AV)} {old new : List AV} {vs : List Value} {p q : Bool}
    (h : RowRel ι (pφ p φ) cs off sz es) (hold : es[e]? = some old) (hle : j + new.length ≤ old.length) (hr : ARels ι φ vs new) (hone : ∀ v ∈ vs, v.oneCell' = true) (hq : q = AV.pures new)
    (hout : ∀ k, (k < off + e * sz + j ∨ off + e * sz + j + vs.length ≤ k) → cs'[k]? = cs[k]?) (hin : ∀ k, k < vs.length → cs'[off + e * sz + j + k]? = vs[k]?) :
    RowRel ι (pφ (p && q) φ) cs' off sz (es.set e (putCells old j new)) := by
  have hsz : old.length = sz := h.1 old (List.mem_of_getElem? hold)
  have hlt : e < es.length := (List.getElem?_eq_some_iff.1 hold).1
  refine ⟨fun c hc => ?_, fun e' j' c x hc hx => ?_⟩
  · rcases List.mem_or_eq_of_mem_set hc with hc | rfl
    · exact h.1 c hc
    · rw [putCells_length hle, hsz]
  · rw [List.getElem?_set] at hc
    split at hc
    · rename_i he
      subst he
      simp [hlt] at hc
      subst hc
      rcases putCells_get hle hx with ⟨h1, h2, h3⟩ | ⟨h1, h3⟩
      · obtain ⟨u, hu, hru⟩ := hr.get h3
        refine ⟨u, ?_, pφ_pure hru fun hp => ?_, hone u (List.mem_of_getElem? hu)⟩
        · have := hin (j' - j) (by rw [hr.1]; omega)
          rw [show off + e * sz + j + (j' - j) = off + e * sz + j' by omega] at this
          rw [this]; exact hu
        · subst hq
          simp at hp
          exact pures_get hp.2 h3
      · obtain ⟨u, hu, hru, ho⟩ := h.2 e j' old x hold h3
        exact ⟨u, by rw [hout _ (by rw [hr.1]; omega)]; exact hu, pφ_and hru, ho⟩
    · rename_i he
      obtain ⟨u, hu, hru, ho⟩ := h.2 e' j' c x hc hx
      refine ⟨u, ?_, pφ_and hru, ho⟩
      rw [hout _ ?_]
      · exact hu
      · have hj' : j' < sz := by rw [← h.1 c (List.mem_of_getElem? hc)]; exact (List.getElem?_eq_some_iff.1 hx).1
        rw [hr.1]
        rcases Nat.lt_or_gt_of_ne he with h1 | h1
        · right
          have : (e + 1) * sz ≤ e' * sz := Nat.mul_le_mul_right _ h1
          rw [Nat.add_mul, Nat.one_mul] at this
          omega
        · left
          have : (e' + 1) * sz ≤ e * sz := Nat.mul_le_mul_right _ h1
          rw [Nat.add_mul, Nat.one_mul] at this
          omega

theorem slack_rel {ι φ} {u : Value} {x : AV} (h : ARel ι φ u x) : ARel ι φ u x.slack := by
  cases x with
  | hs tg id e n =>
    cases h with
    | hs _ _ _ _ a cap loc h hc ht hm => exact .hs false id e n a cap loc h hc (fun k => by cases k) hm
  | _ => exact h
theorem sound_store {ι φ H w n} {t : TypeId} {a u : Value} {ax x : AV} (ha : ARel ι φ a ax) (hx : ARel ι φ u x) :
    SoundM P ι φ H w n (do Instr.storeAt t a u; pure undef) (storeM P t ax x) := by
  intro hS
  unfold storeM
  cases hs : szO P t with
  | none => exact SoundM.fail hS
  | some m =>
  cases hc : x.cells with
  | none => exact SoundM.fail hS
  | some cs =>
  simp only []
  split
  case isFalse => exact SoundM.fail hS
  rename_i hm
  cases ha with
  | ptr id e j b off sz lim len hφ he =>
    refine SoundM.get ?_ hS
    cases hid : H.at id with
    | none => exact SoundM.fail
    | some blk =>
      cases blk with
      | mp p es => exact SoundM.fail
      | mf K V g => exact SoundM.fail
      | lp bz k caps => exact SoundM.fail
      | row p s es =>
        simp only []
        generalize hold' : es.get e = old
        split
        case isFalse => exact SoundM.fail
        rename_i hle
        intro hS r H' n' hrun hfr
        simp only [AM.run, hid, Option.some.injEq, Prod.mk.injEq] at hrun
        obtain ⟨rfl, rfl, rfl⟩ := hrun
        obtain ⟨loc, hl, hb⟩ := hS.blk id _ hid
        have hφ' := hφ
        rw [hφ] at hl; cases hl
        obtain ⟨⟨rfl, rfl⟩, hpos, hlim, cs0, T, F, hb0, hF, hcap, hr⟩ := hb
        obtain ⟨vs, hv, hvs, hone⟩ := cells_rel hx hc
        have hvl : vs.length = m := by rw [hvs.1, hm]
        have hold : es.toL[e]? = some old := by rw [toL_at he, hold']
        have hsz : old.length = sz := hr.1 old (List.mem_of_getElem? hold)
        have hbound : off + e * sz + j + m ≤ cs0.size := by
          have h1 : (e + 1) * sz ≤ lim * sz := Nat.mul_le_mul_right _ (by omega)
          rw [Nat.add_mul, Nat.one_mul] at h1
          omega
        have hthere : w.there b (off + e * sz + j) vs.length := fun k hk => by
          rw [cell_of hb0]
          have : off + e * sz + j + k < cs0.size := by omega
          exact ⟨by simp [this], frozen_of hb0 hF _ this⟩
        have hst := run_storeVar_any (P := P) w b (off + e * sz + j) t u vs hv hthere (by rw [hs, hvl]) hone
        obtain ⟨cs', h1, h2, h3, h4⟩ := heap_setCells vs (off + e * sz + j) w cs0 hb0
        obtain ⟨r1, r2, r3, r4⟩ := setCells_rest (b := b) vs (off + e * sz + j) w
        have hne : ∀ k, k ≠ b → (w.setCells b (off + e * sz + j) vs).heap[k]? = w.heap[k]? := fun k hk => heap_setCells_ne vs _ w k hk
        refine ⟨undef, w.setCells b (off + e * sz + j) vs, φ, ?_, Ext.refl _ _, ?_, .v _, ?_⟩
        · simp only [Instr.storeAt, Instr.sureAddr, Sem.run_bind, Sem.run_pure, Result.andThen_ok, hst]
        · refine hS.write hid hφ' hne ?_
          refine ⟨⟨rfl, by rw [len_put]⟩, hpos, by rw [len_put]; exact hlim, cs', T, F, h1, by rw [h2]; exact hF, by rw [h2]; exact hcap, ?_⟩
          rw [toL_put]
          exact RowRel.put hr hold (by rw [hm]; exact hle) hvs hone rfl h3 (fun k hk => h4 k hk (by omega))
        · exact Frm.write hS hid hφ' hne r1 r2 r3 (by rw [r4]; exact Nat.le_refl _)
  | _ => exact SoundM.fail hS

/-! ### A new row -/
theorem SoundM.newRow {ι φ H} {w w' : World} {n} {sem : Sem Value} {u : Value} {p : Bool} {sz lim : Nat} {es : Rows AV} {X : Nat → AV} {cs : Array Value} {T : TypeId} {F : Nat × Nat}
    (hF : ∀ o, o < cs.size → ¬ (F.1 ≤ o ∧ o < F.2))
    (hrun : sem.run P w = .ok u w') (hheap : w'.heap = w.heap.push (.cells cs T F)) (hos : w'.os = w.os) (ht : w'.tape = w.tape) (ho : w'.output = w.output)
    (hpos : 0 < sz) (hlen : es.len ≤ lim) (hcap : lim * sz ≤ cs.size) (hr : RowRel ι (pφ p φ) cs 0 sz es.toL)
    (hX : ∀ φ' : Phi, φ' n = some (.at w.heap.size 0 sz lim es.len) → ARel ι φ' u (X n)) :
    SoundM P ι φ H w n sem (.new (.row p sz es) fun id => .ret (X id)) := by
  intro hS r H' n' h hf
  simp only [AM.run, Option.some.injEq, Prod.mk.injEq] at h
  obtain ⟨rfl, rfl, rfl⟩ := h
  have hn : φ n = .none := hf n (Nat.le_refl _) (Nat.lt_succ_self _)
  have hold : ∀ k, k < w.heap.size → w'.heap[k]? = w.heap[k]? := fun k hk => by rw [hheap, Array.getElem?_push, if_neg (by omega)]
  have hnew : w'.heap[w.heap.size]? = some (.cells cs T F) := by rw [hheap]; simp
  have hι : ∀ b, ι b ≠ none → b < w.heap.size := fun b hb => by
    cases h : ι b with
    | none => exact absurd h hb
    | some o => exact (Array.getElem?_eq_some_iff.1 (hS.imm b o h)).1
  refine ⟨u, w', updφ φ n (.at w.heap.size 0 sz lim es.len), hrun, Ext.upd _ hn, ?_, hX _ (updφ_same _ _ _), ?_⟩
  · refine hS.add hn (fun k hk _ => hold k hk) (fun b o s l n e => ?_) ?_
    · cases e
      refine ⟨fun ⟨id, blk, o', s', l', n', h1, h2⟩ => Nat.lt_irrefl _ (hS.lt h1 h2), ?_⟩
      cases h : ι w.heap.size with
      | none => rfl
      | some o => exact absurd (hι _ (by rw [h]; simp)) (Nat.lt_irrefl _)
    · exact ⟨⟨rfl, rfl⟩, hpos, hlen, cs, T, F, hnew, hF, by omega, hr.mono (pφ_mono (Ext.upd _ hn).mono)⟩
  · exact Frm.add hS hn hold (fun b o s l n e => by cases e; exact Nat.le_refl _) hos ht ho (by rw [hheap]; simp)

theorem RowRel.single {ι φ} {vs : List Value} {cs : List AV} (h : ARels ι φ vs cs) (hone : ∀ v ∈ vs, v.oneCell' = true) : RowRel ι φ vs.toArray 0 cs.length [cs] :=
  ⟨fun c hc => by simp at hc; rw [hc], fun e j c x hc hx => by
    cases e with
    | succ e => simp at hc
    | zero =>
      simp at hc; subst hc
      obtain ⟨u, hu, hr⟩ := h.get hx
      exact ⟨u, by simpa using hu, hr, hone u (List.mem_of_getElem? hu)⟩⟩

theorem ARels.pure {ι φ} {p : Bool} {vs cs} (h : ARels ι φ vs cs) (hp : p = true → AV.pures cs = true) : ARels ι (pφ p φ) vs cs := by
  cases p
  · exact h
  · exact ARels.of_pure (hp rfl) h

theorem noF (cs : Array Value) : ∀ o, o < cs.size → ¬ ((0, 0).1 ≤ o ∧ o < (0, 0).2) := fun o _ => by simp

theorem sound_box {ι φ H w n} {t : TypeId} {u : Value} {x : AV} (hx : ARel ι φ u x) : SoundM P ι φ H w n (Instr.box t u) (boxM x) := by
  intro hS
  unfold boxM
  cases hc : x.cells with
  | none => exact SoundM.fail hS
  | some cs =>
    obtain ⟨vs, hv, hvs, hone⟩ := cells_rel hx hc
    simp only []
    split
    case isFalse => exact SoundM.fail hS
    rename_i h0
    refine SoundM.newRow (lim := 1) (cs := vs.toArray) (T := t) (X := fun id => .ptr id 0 0) (u := .pointer (some ⟨w.heap.size, 0, none⟩)) (w' := { w with heap := w.heap.push (.cells vs.toArray t) }) (noF _) ?_ rfl rfl rfl rfl h0 (by simp [Rows.len]) (by simp [hvs.1]) (by rw [toL_lit]; exact RowRel.single (hvs.pure id) hone) (fun φ' h => ?_) hS
    · simp [Instr.box, newVar, newRow, hv]
    · have := ARel.ptr (ι := ι) n 0 0 _ _ _ _ _ h (by simp [Rows.len])
      simpa using this
end Go.AMach
