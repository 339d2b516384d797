/- The abstract machine: rows of cells: read, written, made. -/
import Derived.Test.YtfmjdojndbpkhaaAm4
namespace Go.AMach
set_option linter.unusedVariables false
set_option linter.unusedSimpArgs false
set_option linter.unnecessarySimpa false
set_option linter.unusedSectionVars false
variable [Sites]
open Go.RowKit
set_option linter.unusedVariables false
set_option linter.unusedSimpArgs false
variable {P : Program}

theorem jbd {w : World} {b : Nat} {cs : Array Value} {T : TypeId} {F : Nat × Nat} (h : w.heap[b]? = some (.cells cs T F)) (o : Nat) : w.cell? ⟨b, o, none⟩ = cs[o]? := by
  simp [World.cell?, h]
theorem jfI {w : World} {b : Nat} {cs : Array Value} {T : TypeId} {F : Nat × Nat} (h : w.heap[b]? = some (.cells cs T F)) (hF : ∀ o, o < cs.size → ¬ (F.1 ≤ o ∧ o < F.2)) (o : Nat) (ho : o < cs.size) : w.frozen? ⟨b, o, none⟩ = false := by
  have := hF o ho
  obtain ⟨lo, hi⟩ := F
  simp only [World.frozen?, h]
  simp at this ⊢
  exact this

theorem jeM {b : Nat} {T : TypeId} {F : Nat × Nat} : ∀ (vs : List Value) (o : Nat) (w : World) (cs : Array Value), w.heap[b]? = some (.cells cs T F) →
    ∃ cs', (w.setCells b o vs).heap[b]? = some (.cells cs' T F) ∧ cs'.size = cs.size ∧
      (∀ k, (k < o ∨ o + vs.length ≤ k) → cs'[k]? = cs[k]?) ∧ (∀ k, k < vs.length → o + k < cs.size → cs'[o + k]? = vs[k]?)
  | [], o, w, cs, h => ⟨cs, h, rfl, fun _ _ => rfl, fun k hk => by simp at hk⟩
  | v :: r, o, w, cs, h => by
    have h1 : (w.setCell ⟨b, o, none⟩ v).heap[b]? = some (.cells (cs.setIfInBounds o v) T F) := by
      simp [World.setCell, Array.getElem?_modify, h]
    obtain ⟨cs', h2, h3, h4, h5⟩ := jeM r (o + 1) _ _ h1
    refine ⟨cs', h2, by simpa using h3, fun k hk => ?_, fun k hk hlt => ?_⟩
    · rw [h4 k (by simp at hk; omega), Array.getElem?_setIfInBounds, if_neg (by simp at hk; omega)]
    · cases k with
      | zero =>
        rw [h4 (o + 0) (by omega), Array.getElem?_setIfInBounds]
        simp at hlt
        simp [hlt]
      | succ k =>
        have := h5 k (by simpa using hk) (by simp; omega)
        rw [show o + (k + 1) = o + 1 + k by omega, this]; simp
theorem jcz {b : Nat} : ∀ (vs : List Value) (o : Nat) (w : World) (k : Nat), k ≠ b → (w.setCells b o vs).heap[k]? = w.heap[k]?
  | [], o, w, k, h => rfl
  | v :: r, o, w, k, h => by
    rw [World.setCells, jcz r _ _ k h]
    simp only [World.setCell, Array.getElem?_modify]
    rw [if_neg (by omega)]
theorem jdC {b : Nat} : ∀ (vs : List Value) (o : Nat) (w : World), (w.setCells b o vs).os = w.os ∧ (w.setCells b o vs).tape = w.tape ∧ (w.setCells b o vs).output = w.output ∧ (w.setCells b o vs).heap.size = w.heap.size
  | [], o, w => ⟨rfl, rfl, rfl, rfl⟩
  | v :: r, o, w => by
    obtain ⟨h1, h2, h3, h4⟩ := jdC (b := b) r (o + 1) (w.setCell ⟨b, o, none⟩ v)
    exact ⟨h1, h2, h3, by rw [World.setCells, h4]; simp [World.setCell]⟩

/-! ### The types' table -/
theorem jgZ {t : TypeId} {n : Nat} (h : szO P t = some n) : ∃ i, P.info? t = some i ∧ i.size = n := by
  simp [szO] at h; exact h
theorem jkd {t : TypeId} {g : Bool} (h : aggO P t = some g) : ∃ d, P.underlying t = some d ∧ d.isRow = g := by
  simp only [aggO, Option.map_eq_some_iff] at h
  obtain ⟨d, h1, h2⟩ := h
  refine ⟨d, h1, ?_⟩
  rw [← h2]
  cases d <;> rfl

/-! ### The load -/
def rdRow (g : Bool) (n : Nat) (es : List (List AV)) (e j : Nat) : Option AV :=
  match es[e]? with
  | some c => jeU g n c j
  | none => none
theorem jjO {g : Bool} {n : Nat} {es : Rows AV} {e j : Nat} (h : e < es.len) : rdRow g n es.toL e j = jeU g n (es.get e) j := by
  unfold rdRow
  rw [jfe h]

theorem ARel.rdRow {ι : Iota} {φ : Phi} {cs : Array Value} {off sz e j n : Nat} {es : List (List AV)} {g : Bool} {x : AV} (h : jbc ι φ cs off sz es) (hx : rdRow g n es e j = some x) :
    (g = true ∧ ∃ vs : List Value, vs.length = n ∧ (∀ k v, vs[k]? = some v → cs[off + e * sz + j + k]? = some v) ∧ ARel ι φ (.agg vs.toArray) x) ∨
    (g = false ∧ ∃ u, cs[off + e * sz + j]? = some u ∧ ARel ι φ u x) := by
  unfold Go.AMach.rdRow at hx
  cases hc : es[e]? with
  | none => rw [hc] at hx; cases hx
  | some c =>
    rw [hc] at hx
    simp only [jeU] at hx
    cases g with
    | false => obtain ⟨u, hu, hr, _⟩ := h.2 e j c x hc (by simpa using hx); exact .inr ⟨rfl, u, hu, hr⟩
    | true =>
      simp at hx
      obtain ⟨hle, rfl⟩ := hx
      have hget : ∀ k, k < n → ∃ u, cs[off + e * sz + j + k]? = some u ∧ ∀ y, c[j + k]? = some y → ARel ι φ u y := fun k hk => by
        obtain ⟨u, hu, hr, _⟩ := h.2 e (j + k) c _ hc (List.getElem?_eq_getElem (by omega))
        refine ⟨u, by rw [Nat.add_assoc]; exact hu, fun y hy => ?_⟩
        rw [List.getElem?_eq_getElem (by omega)] at hy
        cases hy; exact hr
      refine .inl ⟨rfl, (List.range n).map fun k => (cs[off + e * sz + j + k]?).getD undef, by simp, fun k v hv => ?_, ?_⟩
      · simp only [List.getElem?_map, Option.map_eq_some_iff] at hv
        obtain ⟨k', hk', rfl⟩ := hv
        have hk : k < n ∧ k' = k := by
          have := (List.getElem?_eq_some_iff.1 hk')
          simp at this; omega
        obtain ⟨hk, rfl⟩ := hk
        obtain ⟨u, hu, _⟩ := hget k' hk
        rw [hu]; rfl
      · refine .agg _ _ (by simp; omega) fun i u y hu hy => ?_
        simp only [List.getElem?_map, Option.map_eq_some_iff] at hu
        obtain ⟨k', hk', rfl⟩ := hu
        have hk : i < n ∧ k' = i := by
          have := (List.getElem?_eq_some_iff.1 hk')
          simp at this; omega
        obtain ⟨hk, rfl⟩ := hk
        obtain ⟨u, hu, hr⟩ := hget k' hk
        rw [hu]
        refine hr y ?_
        rw [List.getElem?_take, if_pos hk, List.getElem?_drop] at hy
        exact hy

theorem jmM (w : World) (b o : Nat) (ty : TypeId) (v : Value) (d : TypeDesc) (hc : w.cell? ⟨b, o, none⟩ = some v)
    (hu : P.underlying ty = some d) (hd : d.isRow = false) : (loadVar ty ⟨b, o, none⟩).run P w = .ok v w := by
  have hagg : (isAgg ty).run P w = .ok false w := by
    unfold isAgg
    rw [Sem.run_bind, run_underlying hu w]
    cases d <;> simp_all
  simp [loadVar, Sem.run_bind, hagg, hc]

/-- A variable read out of a row. -/
theorem jcF {ι φ} {w : World} {b off sz e j n : Nat} {es : List (List AV)} {cs : Array Value} {T : TypeId} {F : Nat × Nat} {g : Bool} {t : TypeId} {x : AV}
    (hb : w.heap[b]? = some (.cells cs T F)) (h : jbc ι φ cs off sz es) (hg : aggO P t = some g) (hs : szO P t = some n) (hx : rdRow g n es e j = some x) :
    ∃ u, (loadVar t ⟨b, off + e * sz + j, none⟩).run P w = .ok u w ∧ ARel ι φ u x := by
  obtain ⟨d, hd, hrow⟩ := jkd hg
  obtain ⟨i, hi, hsz⟩ := jgZ hs
  rcases ARel.rdRow h hx with ⟨rfl, vs, hl, hv, hr⟩ | ⟨rfl, u, hu, hr⟩
  · refine ⟨_, run_loadVar_mid w b (off + e * sz + j) t vs d (fun k v hk => ?_) hd hrow (by simp [hi, hsz, hl]), hr⟩
    rw [jbd hb]; exact hv k v hk
  · exact ⟨u, jmM w b _ t u d (by rw [jbd hb]; exact hu) hd hrow, hr⟩

theorem jzH {ι φ H w n} {t : TypeId} {u : Value} {x : AV} (hx : ARel ι φ u x) : jab P ι φ H w n (Instr.loadAt t u) (jAb P t x) := by
  intro hS
  unfold jAb
  cases hg : aggO P t with
  | none => exact jab.fail hS
  | some g =>
  cases hs : szO P t with
  | none => exact jab.fail hS
  | some m =>
  cases hx with
  | ptr id e j b off sz lim len hφ he =>
    refine jab.get ?_ hS
    cases hid : H.at id with
    | none => exact jab.fail
    | some blk =>
      cases blk with
      | mp p es => exact jab.fail
      | mf K V g => exact jab.fail
      | lp bz k caps => exact jab.fail
      | row p s es =>
        refine jab.ofO fun y hy => ?_
        obtain ⟨loc, hl, hb⟩ := hS.blk id _ hid
        rw [hφ] at hl; cases hl
        obtain ⟨⟨rfl, rfl⟩, _, _, cs, T, F, hb, _, _, hr⟩ := hb
        rw [← jjO he] at hy
        obtain ⟨u, h1, h2⟩ := jcF (P := P) hb hr hg hs hy
        refine ⟨u, by simpa [Instr.loadAt, Instr.sureAddr] using h1, ?_⟩
        cases p
        · exact h2
        · exact h2.of_none
  | rp sz es e j he hw b off cs T F us hm h1 h2 h3 =>
    refine jab.ofO (fun y hy => ?_) hS
    rw [← jjO he] at hy
    have hr : jbc ι Phi.none cs off sz es.toL := ⟨hw, fun e j c x hc hx => ⟨us e j, h1 e j c x hc hx, h2 e j c x hc hx, h3 e j c x hc hx⟩⟩
    obtain ⟨u, h1, h2⟩ := jcF (P := P) (hS.imm _ _ hm) hr hg hs hy
    exact ⟨u, by simpa [Instr.loadAt, Instr.sureAddr] using h1, h2.of_none⟩
  | _ => exact jab.fail hS

/-! ### The cells of a value -/
theorem AV.one_rel {ι φ} {u : Value} {x : AV} (h : ARel ι φ u x) (ho : x.one = true) : u.oneCell' = true := by
  cases h <;> first | rfl | (simp [AV.one] at ho; done) | (simp [AV.one] at ho; exact ho)

theorem jBP {u : Value} (h : u.oneCell' = true) : u.cells = #[u] := by
  cases u <;> first | rfl | (simp [Value.oneCell'] at h)

theorem joi {ι φ} {u : Value} {x : AV} {cs : List AV} (h : ARel ι φ u x) (hc : x.cells = some cs) :
    ∃ vs : List Value, u.cells = vs.toArray ∧ jam ι φ vs cs ∧ ∀ v ∈ vs, v.oneCell' = true := by
  have hone : ∀ {u x}, ARel ι φ u x → x.one = true → ∃ vs : List Value, u.cells = vs.toArray ∧ jam ι φ vs [x] ∧ ∀ v ∈ vs, v.oneCell' = true := fun {u x} h ho =>
    ⟨[u], by rw [jBP (AV.one_rel h ho)], jam.nil.cons h, fun v hv => by simp at hv; subst hv; exact AV.one_rel h ho⟩
  cases h with
  | agg vs cs' hl h =>
    simp only [AV.cells] at hc
    split at hc
    · rename_i hall
      cases hc
      refine ⟨vs, rfl, ⟨hl, h⟩, fun v hv => ?_⟩
      obtain ⟨i, hi⟩ := List.getElem?_of_mem hv
      have hlt : i < cs.length := by rw [← hl]; exact (List.getElem?_eq_some_iff.1 hi).1
      exact AV.one_rel (h i v _ hi (List.getElem?_eq_getElem hlt)) (by rw [List.all_eq_true] at hall; exact hall _ (List.getElem_mem hlt))
    · cases hc
  | junk _ => simp [AV.cells, AV.one] at hc
  | tup _ _ _ _ => simp [AV.cells, AV.one] at hc
  | v y =>
    simp only [AV.cells] at hc
    split at hc
    · rename_i ho; cases hc; exact hone (.v _) ho
    · cases hc
  | sl a cap tg sz es hc' ht hw b off cs' T F us hm h1 h2 h3 => simp [AV.cells, AV.one] at hc; subst hc; exact hone (.sl a cap tg sz es hc' ht hw b off cs' T F us hm h1 h2 h3) rfl
  | rp sz es e j he hw b off cs' T F us hm h1 h2 h3 => simp [AV.cells, AV.one] at hc; subst hc; exact hone (.rp sz es e j he hw b off cs' T F us hm h1 h2 h3) rfl
  | ptr id e j b off sz lim len h he => simp [AV.cells, AV.one] at hc; subst hc; exact hone (.ptr id e j b off sz lim len h he) rfl
  | hs tg id e n a cap loc h hc' ht hm => simp [AV.cells, AV.one] at hc; subst hc; exact hone (.hs tg id e n a cap loc h hc' ht hm) rfl
  | mp id b off sz lim len h => simp [AV.cells, AV.one] at hc; subst hc; exact hone (.mp id b off sz lim len h) rfl
  | yl id b off sz lim len h => simp [AV.cells, AV.one] at hc; subst hc; exact hone (.yl id b off sz lim len h) rfl
  | fn f vs us cs' ds hl h hl' h' => simp [AV.cells, AV.one] at hc; subst hc; exact hone (.fn f vs us cs' ds hl h hl' h') rfl
  | ifc t u x h => simp [AV.cells, AV.one] at hc; subst hc; exact hone (.ifc t u x h) rfl

/-! ### The store -/
theorem jlZ (w : World) (b o : Nat) (ty : TypeId) (u : Value) (vs : List Value) (hv : u.cells = vs.toArray) (ht : w.there b o vs.length)
    (hi : szO P ty = some vs.length) (h1 : ∀ v ∈ vs, v.oneCell' = true) : (storeVar ty ⟨b, o, none⟩ u).run P w = .ok () (w.setCells b o vs) := by
  have := run_storeCells_cells (P := P) b o vs 0 w (fun j hj => by simpa using (ht j hj).1) (fun j hj => by simpa using (ht j hj).2) h1
  obtain ⟨i, hq, hs⟩ := jgZ hi
  simp only [Nat.add_zero] at this
  simp [storeVar, sizeOf, typeInfo, hq, hv, hs, this]

theorem jlM {ι} {φ : Phi} {p q : Bool} {u : Value} {x : AV} (h : ARel ι (pφ p φ) u x) : ARel ι (pφ (p && q) φ) u x := by
  cases p
  · exact h
  · cases q
    · exact h.of_none
    · exact h
theorem jrc {ι} {φ : Phi} {p : Bool} {u : Value} {x : AV} (h : ARel ι φ u x) (hp : p = true → x.pure = true) : ARel ι (pφ p φ) u x := by
  cases p
  · exact h
  · exact ARel.of_pure (hp rfl) h
theorem jni : ∀ {cs : List AV} {i : Nat} {x : AV}, AV.pures cs = true → cs[i]? = some x → x.pure = true
  | [], i, x, _, h => by simp at h
  | c :: cs, 0, x, hp, h => by simp [AV.pures] at hp h; subst h; exact hp.1
  | c :: cs, i + 1, x, hp, h => by simp [AV.pures] at hp; exact jni hp.2 (by simpa using h)

theorem jnh {old cs : List AV} {j : Nat} (h : j + cs.length ≤ old.length) : (putCells old j cs).length = old.length := by
  unfold putCells; simp; omega
theorem juy {old cs : List AV} {j k : Nat} {x : AV} (h : j + cs.length ≤ old.length) (hx : (putCells old j cs)[k]? = some x) :
    (j ≤ k ∧ k < j + cs.length ∧ cs[k - j]? = some x) ∨ ((k < j ∨ j + cs.length ≤ k) ∧ old[k]? = some x) := by
  unfold putCells at hx
  have hl : (old.take j).length = j := by simp; omega
  by_cases h1 : k < j
  · refine .inr ⟨.inl h1, ?_⟩
    rw [List.append_assoc, List.getElem?_append_left (by omega), List.getElem?_take, if_pos h1] at hx
    exact hx
  · by_cases h2 : k < j + cs.length
    · refine .inl ⟨by omega, h2, ?_⟩
      rw [List.append_assoc, List.getElem?_append_right (by omega), List.getElem?_append_left (by omega), hl] at hx
      exact hx
    · refine .inr ⟨.inr (by omega), ?_⟩
      rw [List.getElem?_append_right (by simp; omega), List.getElem?_drop] at hx
      rw [← hx]; congr 1; simp; omega

theorem jbc.put {ι φ} {cs cs' : Array Value} {off sz e j : Nat} {es : List (List AV)} {old new : List AV} {vs : List Value} {p q : Bool}
    (h : jbc ι (pφ p φ) cs off sz es) (hold : es[e]? = some old) (hle : j + new.length ≤ old.length) (hr : jam ι φ vs new) (hone : ∀ v ∈ vs, v.oneCell' = true) (hq : q = AV.pures new)
    (hout : ∀ k, (k < off + e * sz + j ∨ off + e * sz + j + vs.length ≤ k) → cs'[k]? = cs[k]?) (hin : ∀ k, k < vs.length → cs'[off + e * sz + j + k]? = vs[k]?) :
    jbc ι (pφ (p && q) φ) cs' off sz (es.set e (putCells old j new)) := by
  have hsz : old.length = sz := h.1 old (List.mem_of_getElem? hold)
  have hlt : e < es.length := (List.getElem?_eq_some_iff.1 hold).1
  refine ⟨fun c hc => ?_, fun e' j' c x hc hx => ?_⟩
  · rcases List.mem_or_eq_of_mem_set hc with hc | rfl
    · exact h.1 c hc
    · rw [jnh hle, hsz]
  · rw [List.getElem?_set] at hc
    split at hc
    · rename_i he
      subst he
      simp [hlt] at hc
      subst hc
      rcases juy hle hx with ⟨h1, h2, h3⟩ | ⟨h1, h3⟩
      · obtain ⟨u, hu, hru⟩ := hr.get h3
        refine ⟨u, ?_, jrc hru fun hp => ?_, hone u (List.mem_of_getElem? hu)⟩
        · have := hin (j' - j) (by rw [hr.1]; omega)
          rw [show off + e * sz + j + (j' - j) = off + e * sz + j' by omega] at this
          rw [this]; exact hu
        · subst hq
          simp at hp
          exact jni hp.2 h3
      · obtain ⟨u, hu, hru, ho⟩ := h.2 e j' old x hold h3
        exact ⟨u, by rw [hout _ (by rw [hr.1]; omega)]; exact hu, jlM hru, ho⟩
    · rename_i he
      obtain ⟨u, hu, hru, ho⟩ := h.2 e' j' c x hc hx
      refine ⟨u, ?_, jlM hru, ho⟩
      rw [hout _ ?_]
      · exact hu
      · have hj' : j' < sz := by rw [← h.1 c (List.mem_of_getElem? hc)]; exact (List.getElem?_eq_some_iff.1 hx).1
        rw [hr.1]
        rcases Nat.lt_or_gt_of_ne he with h1 | h1
        · right
          have : (e + 1) * sz ≤ e' * sz := Nat.mul_le_mul_right _ h1
          rw [Nat.add_mul, Nat.one_mul] at this
          omega
        · left
          have : (e' + 1) * sz ≤ e * sz := Nat.mul_le_mul_right _ h1
          rw [Nat.add_mul, Nat.one_mul] at this
          omega

theorem jAL {ι φ} {u : Value} {x : AV} (h : ARel ι φ u x) : ARel ι φ u x.slack := by
  cases x with
  | hs tg id e n =>
    cases h with
    | hs _ _ _ _ a cap loc h hc ht hm => exact .hs false id e n a cap loc h hc (fun k => by cases k) hm
  | _ => exact h
theorem jvV {ι φ H w n} {t : TypeId} {a u : Value} {ax x : AV} (ha : ARel ι φ a ax) (hx : ARel ι φ u x) :
    jab P ι φ H w n (do Instr.storeAt t a u; pure undef) (jAB P t ax x) := by
  intro hS
  unfold jAB
  cases hs : szO P t with
  | none => exact jab.fail hS
  | some m =>
  cases hc : x.cells with
  | none => exact jab.fail hS
  | some cs =>
  simp only []
  split
  case isFalse => exact jab.fail hS
  rename_i hm
  cases ha with
  | ptr id e j b off sz lim len hφ he =>
    refine jab.get ?_ hS
    cases hid : H.at id with
    | none => exact jab.fail
    | some blk =>
      cases blk with
      | mp p es => exact jab.fail
      | mf K V g => exact jab.fail
      | lp bz k caps => exact jab.fail
      | row p s es =>
        simp only []
        generalize hold' : es.get e = old
        split
        case isFalse => exact jab.fail
        rename_i hle
        intro hS r H' n' hrun hfr
        simp only [AM.run, hid, Option.some.injEq, Prod.mk.injEq] at hrun
        obtain ⟨rfl, rfl, rfl⟩ := hrun
        obtain ⟨loc, hl, hb⟩ := hS.blk id _ hid
        have hφ' := hφ
        rw [hφ] at hl; cases hl
        obtain ⟨⟨rfl, rfl⟩, hpos, hlim, cs0, T, F, hb0, hF, hcap, hr⟩ := hb
        obtain ⟨vs, hv, hvs, hone⟩ := joi hx hc
        have hvl : vs.length = m := by rw [hvs.1, hm]
        have hold : es.toL[e]? = some old := by rw [jfe he, hold']
        have hsz : old.length = sz := hr.1 old (List.mem_of_getElem? hold)
        have hbound : off + e * sz + j + m ≤ cs0.size := by
          have h1 : (e + 1) * sz ≤ lim * sz := Nat.mul_le_mul_right _ (by omega)
          rw [Nat.add_mul, Nat.one_mul] at h1
          omega
        have hthere : w.there b (off + e * sz + j) vs.length := fun k hk => by
          rw [jbd hb0]
          have : off + e * sz + j + k < cs0.size := by omega
          exact ⟨by simp [this], jfI hb0 hF _ this⟩
        have hst := jlZ (P := P) w b (off + e * sz + j) t u vs hv hthere (by rw [hs, hvl]) hone
        obtain ⟨cs', h1, h2, h3, h4⟩ := jeM vs (off + e * sz + j) w cs0 hb0
        obtain ⟨r1, r2, r3, r4⟩ := jdC (b := b) vs (off + e * sz + j) w
        have hne : ∀ k, k ≠ b → (w.setCells b (off + e * sz + j) vs).heap[k]? = w.heap[k]? := fun k hk => jcz vs _ w k hk
        refine ⟨undef, w.setCells b (off + e * sz + j) vs, φ, ?_, Ext.refl _ _, ?_, .v _, ?_⟩
        · simp only [Instr.storeAt, Instr.sureAddr, Sem.run_bind, Sem.run_pure, Result.andThen_ok, hst]
        · refine hS.write hid hφ' hne ?_
          refine ⟨⟨rfl, by rw [jBs]⟩, hpos, by rw [jBs]; exact hlim, cs', T, F, h1, by rw [h2]; exact hF, by rw [h2]; exact hcap, ?_⟩
          rw [jAA]
          exact jbc.put hr hold (by rw [hm]; exact hle) hvs hone rfl h3 (fun k hk => h4 k hk (by omega))
        · exact Frm.write hS hid hφ' hne r1 r2 r3 (by rw [r4]; exact Nat.le_refl _)
  | _ => exact jab.fail hS

/-! ### A new row -/
theorem jab.newRow {ι φ H} {w w' : World} {n} {sem : Sem Value} {u : Value} {p : Bool} {sz lim : Nat} {es : Rows AV} {X : Nat → AV} {cs : Array Value} {T : TypeId} {F : Nat × Nat}
    (hF : ∀ o, o < cs.size → ¬ (F.1 ≤ o ∧ o < F.2))
    (hrun : sem.run P w = .ok u w') (hheap : w'.heap = w.heap.push (.cells cs T F)) (hos : w'.os = w.os) (ht : w'.tape = w.tape) (ho : w'.output = w.output)
    (hpos : 0 < sz) (hlen : es.len ≤ lim) (hcap : lim * sz ≤ cs.size) (hr : jbc ι (pφ p φ) cs 0 sz es.toL)
    (hX : ∀ φ' : Phi, φ' n = some (.at w.heap.size 0 sz lim es.len) → ARel ι φ' u (X n)) :
    jab P ι φ H w n sem (.new (.row p sz es) fun id => .ret (X id)) := by
  intro hS r H' n' h hf
  simp only [AM.run, Option.some.injEq, Prod.mk.injEq] at h
  obtain ⟨rfl, rfl, rfl⟩ := h
  have hn : φ n = .none := hf n (Nat.le_refl _) (Nat.lt_succ_self _)
  have hold : ∀ k, k < w.heap.size → w'.heap[k]? = w.heap[k]? := fun k hk => by rw [hheap, Array.getElem?_push, if_neg (by omega)]
  have hnew : w'.heap[w.heap.size]? = some (.cells cs T F) := by rw [hheap]; simp
  have hι : ∀ b, ι b ≠ none → b < w.heap.size := fun b hb => by
    cases h : ι b with
    | none => exact absurd h hb
    | some o => exact (Array.getElem?_eq_some_iff.1 (hS.imm b o h)).1
  refine ⟨u, w', updφ φ n (.at w.heap.size 0 sz lim es.len), hrun, Ext.upd _ hn, ?_, hX _ (jbK _ _ _), ?_⟩
  · refine hS.add hn (fun k hk _ => hold k hk) (fun b o s l n e => ?_) ?_
    · cases e
      refine ⟨fun ⟨id, blk, o', s', l', n', h1, h2⟩ => Nat.lt_irrefl _ (hS.lt h1 h2), ?_⟩
      cases h : ι w.heap.size with
      | none => rfl
      | some o => exact absurd (hι _ (by rw [h]; simp)) (Nat.lt_irrefl _)
    · exact ⟨⟨rfl, rfl⟩, hpos, hlen, cs, T, F, hnew, hF, by omega, hr.mono (jnf (Ext.upd _ hn).mono)⟩
  · exact Frm.add hS hn hold (fun b o s l n e => by cases e; exact Nat.le_refl _) hos ht ho (by rw [hheap]; simp)

theorem jbc.single {ι φ} {vs : List Value} {cs : List AV} (h : jam ι φ vs cs) (hone : ∀ v ∈ vs, v.oneCell' = true) : jbc ι φ vs.toArray 0 cs.length [cs] :=
  ⟨fun c hc => by simp at hc; rw [hc], fun e j c x hc hx => by
    cases e with
    | succ e => simp at hc
    | zero =>
      simp at hc; subst hc
      obtain ⟨u, hu, hr⟩ := h.get hx
      exact ⟨u, by simpa using hu, hr, hone u (List.mem_of_getElem? hu)⟩⟩

theorem jam.pure {ι φ} {p : Bool} {vs cs} (h : jam ι φ vs cs) (hp : p = true → AV.pures cs = true) : jam ι (pφ p φ) vs cs := by
  cases p
  · exact h
  · exact jam.of_pure (hp rfl) h

theorem noF (cs : Array Value) : ∀ o, o < cs.size → ¬ ((0, 0).1 ≤ o ∧ o < (0, 0).2) := fun o _ => by simp

theorem jAI {ι φ H w n} {t : TypeId} {u : Value} {x : AV} (hx : ARel ι φ u x) : jab P ι φ H w n (Instr.box t u) (boxM x) := by
  intro hS
  unfold boxM
  cases hc : x.cells with
  | none => exact jab.fail hS
  | some cs =>
    obtain ⟨vs, hv, hvs, hone⟩ := joi hx hc
    simp only []
    split
    case isFalse => exact jab.fail hS
    rename_i h0
    refine jab.newRow (lim := 1) (cs := vs.toArray) (T := t) (X := fun id => .ptr id 0 0) (u := .pointer (some ⟨w.heap.size, 0, none⟩)) (w' := { w with heap := w.heap.push (.cells vs.toArray t) }) (noF _) ?_ rfl rfl rfl rfl h0 (by simp [Rows.len]) (by simp [hvs.1]) (by rw [jcb]; exact jbc.single (hvs.pure id) hone) (fun φ' h => ?_) hS
    · simp [Instr.box, newVar, newRow, hv]
    · have := ARel.ptr (ι := ι) n 0 0 _ _ _ _ _ h (by simp [Rows.len])
      simpa using this
end Go.AMach
