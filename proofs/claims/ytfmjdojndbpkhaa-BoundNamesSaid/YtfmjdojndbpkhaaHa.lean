/- Maps by numbers, whose values are told by a relation of one's own: what a lookup tells, what an update leaves. -/
import Derived.Test.YtfmjdojndbpkhaaAm23
import Derived.WalkKit
namespace Go.AMach
set_option linter.unusedVariables false
set_option linter.unusedSimpArgs false
set_option linter.unnecessarySimpa false
open Go Go.RowKit
set_option linter.unusedVariables false
set_option linter.unusedSectionVars false
set_option linter.unusedSimpArgs false
variable {P : Program}

abbrev KI : Ty := .int .i64
/-- A map by numbers: each key's value is told by R. -/
def MapP {α : Type} (R : Int → Value → α → Prop) (g : Int → Option α) (ms : List MapEntry) : Prop :=
  (∀ e ∈ ms, ∃ x : Int, e.key = KI.keyVal x) ∧ ∀ x : Int, (mfind KI x ms 0 = none ∧ g x = none) ∨ ∃ i u s, mfind KI x ms 0 = some (i, u) ∧ g x = some s ∧ R x u s

theorem MapP.imp {α : Type} {R R' : Int → Value → α → Prop} {g : Int → Option α} {ms : List MapEntry} (h : MapP R g ms) (hi : ∀ x u s i, mfind KI x ms 0 = some (i, u) → g x = some s → R x u s → R' x u s) : MapP R' g ms :=
  ⟨h.1, fun x => (h.2 x).elim .inl fun ⟨i, u, s, h1, h2, h3⟩ => .inr ⟨i, u, s, h1, h2, hi x u s i h1 h2 h3⟩⟩
theorem MapP.nil {α : Type} {R : Int → Value → α → Prop} : MapP R (fun _ => none) [] := ⟨fun e he => by simp at he, fun x => .inl ⟨rfl, rfl⟩⟩

theorem MapP.look {α : Type} {R : Int → Value → α → Prop} {g : Int → Option α} {ms : Array MapEntry} {clk : Nat} {w : World} {b : Nat} {t kt et : TypeId} (hb : w.heap[b]? = some (.map ms clk)) (h : MapP R g ms.toList)
    (ht : P.underlying t = some (.map kt et)) (hk : P.underlying kt = some (.int .i64)) {z : Value} (hz : (zeroValue et).run P w = .ok z w) (x : Int) :
    (g x = none ∧ (Instr.lookup t (.map (some b)) (.int .i64 x) true).run P w = .ok (.tuple #[z, .bool false]) w) ∨
    ∃ i u s, mfind KI x ms.toList 0 = some (i, u) ∧ g x = some s ∧ R x u s ∧ (Instr.lookup t (.map (some b)) (.int .i64 x) true).run P w = .ok (.tuple #[u, .bool true]) w := by
  have hobj : (getObj b).run P w = .ok (.map ms clk) w := by simp [getObj, Sem.run, hb]
  have hko : keyOk P kt (.v (.int .i64 x)) = true := by simp [keyOk, intO, hk]
  have hfind := find_mf (P := P) hk (K := KI) rfl rfl hko (x := x) (by simp [Ty.undo]) ms.toList 0 h.1
  have hch := checkKey_ok (P := P) (ι := fun _ => none) (φ := Phi.none) w hk (.v (.int .i64 x)) hko
  have e : (KI.keyVal x) = .int .i64 x := rfl
  rw [e] at hfind
  rcases h.2 x with ⟨e1, e2⟩ | ⟨i, u, s, e1, e2, hr⟩
  · left
    rw [e1] at hfind
    exact ⟨e2, by simp [Instr.lookup, run_underlying ht, hobj, hch, Instr.findKey, run_underlying hk, hfind, hz]⟩
  · right
    rw [e1] at hfind
    exact ⟨i, u, s, e1, e2, hr, by simp [Instr.lookup, run_underlying ht, hobj, hch, Instr.findKey, run_underlying hk, hfind]⟩

theorem keq_self (x : Int) : KI.keq x x = true := (keq_iff (K := KI) rfl).2 rfl
theorem keq_ne {x y : Int} (h : x ≠ y) : KI.keq x y = false := by
  cases hq : KI.keq x y with
  | false => rfl
  | true => exact absurd ((keq_iff (K := KI) rfl).1 hq) h

/-- An update: the new map; the values at all other keys are what they were. -/
theorem MapP.upd {α : Type} {R : Int → Value → α → Prop} {g : Int → Option α} {ms : Array MapEntry} (clk : Nat) {t kt et : TypeId} (h : MapP R g ms.toList)
    (ht : P.underlying t = some (.map kt et)) (hk : P.underlying kt = some (.int .i64)) (y : Int) (ux : Value) :
    ∃ ms' clk', (∀ (w : World) (b : Nat), w.heap[b]? = some (.map ms clk) → (Instr.mapUpdate t (.map (some b)) (.int .i64 y) ux).run P w = .ok () { w with heap := w.heap.setIfInBounds b (.map ms' clk') }) ∧
      (∀ e ∈ ms'.toList, ∃ x : Int, e.key = KI.keyVal x) ∧ (∃ i, mfind KI y ms'.toList 0 = some (i, ux)) ∧ ∀ x, x ≠ y → mfind KI x ms'.toList 0 = mfind KI x ms.toList 0 := by
  have hobj : ∀ (w : World) (b : Nat), w.heap[b]? = some (.map ms clk) → (getObj b).run P w = .ok (.map ms clk) w := fun w b hb => by simp [getObj, Sem.run, hb]
  have hko : keyOk P kt (.v (.int .i64 y)) = true := by simp [keyOk, intO, hk]
  have hfind := find_mf (P := P) hk (K := KI) rfl rfl hko (x := y) (by simp [Ty.undo]) ms.toList 0 h.1
  have hch := fun w => checkKey_ok (P := P) (ι := fun _ => none) (φ := Phi.none) w hk (.v (.int .i64 y)) hko
  have e : (KI.keyVal y) = .int .i64 y := rfl
  rw [e] at hfind
  have hset : ∀ (w : World) (b : Nat), w.heap[b]? = some (.map ms clk) → ∀ clk' : Nat, ∀ ms2 : Array MapEntry, (setObj b (.map ms2 clk')).run P w = .ok () { w with heap := w.heap.setIfInBounds b (.map ms2 clk') } := fun w b hb clk' ms2 => by
    simp [setObj, Sem.run, hb]
  cases hf : mfind KI y ms.toList 0 with
  | none =>
    rw [hf] at hfind
    refine ⟨ms.push { key := .int .i64 y, val := ux, born := clk }, clk + 1, ?_, ?_, ?_, ?_⟩
    · intro w b hb
      simp [Instr.mapUpdate, run_underlying ht, hobj w b hb, hch w, Instr.findKey, run_underlying hk, hfind, hset w b hb]
    · intro e he
      simp only [Array.toList_push, List.mem_append, List.mem_singleton] at he
      rcases he with he | rfl
      · exact h.1 e he
      · exact ⟨y, rfl⟩
    · refine ⟨0 + ms.toList.length, ?_⟩
      simp only [Array.toList_push]
      rw [mfind_append, hf]
      simp only []
      have hq : KI.keyIs y (Value.int .i64 y) = true := (keyIs_eq (K := KI) (x := y) (y := y) rfl).trans (keq_self y)
      rw [if_pos hq]
    · intro x hx
      simp only [Array.toList_push]
      rw [mfind_append]
      have hq : KI.keyIs x (Value.int .i64 y) = false := (keyIs_eq (K := KI) (x := x) (y := y) rfl).trans (keq_ne (Ne.symm hx))
      simp only [hq]
      cases mfind KI x ms.toList 0 <;> simp
  | some iv =>
    obtain ⟨i, v⟩ := iv
    rw [hf] at hfind
    obtain ⟨j, en, hj, hen, hek, h4, h5⟩ := mfind_modify (K := KI) (ux := ux) rfl ms.toList 0 i v h.1 hf
    rw [Nat.zero_add] at hj
    subst hj
    have hsame : Instr.sameNow (.int .i64) (.int .i64 y) en.key = some true := by
      rw [hek]
      have := sameNow_key (P := P) hk (K := KI) rfl rfl (x := y) (y := y) hko (by simp [Ty.undo])
      rw [keq_self] at this
      exact this
    have hen' : ms[i]? = some en := by simpa using hen
    have hl : (ms.modify i fun e => { e with key := .int .i64 y, val := ux }).toList = ms.toList.modify i fun e => { e with key := KI.keyVal y, val := ux } := by simp; rfl
    refine ⟨ms.modify i fun e => { e with key := .int .i64 y, val := ux }, clk, ?_, ?_, ⟨i, ?_⟩, ?_⟩
    · intro w b hb
      obtain ⟨r, hr, hr'⟩ := keyStays (P := P) w hsame
      subst hr'
      simp [Instr.mapUpdate, run_underlying ht, hobj w b hb, hch w, Instr.findKey, run_underlying hk, hfind, hset w b hb, hen', hr]
    · rw [hl]
      intro e he
      obtain ⟨q, hq⟩ := List.getElem?_of_mem he
      rw [List.getElem?_modify] at hq
      cases hmq : ms.toList[q]? with
      | none => rw [hmq] at hq; simp at hq
      | some e0 =>
        rw [hmq] at hq
        simp at hq
        split at hq
        · subst hq; exact ⟨y, rfl⟩
        · subst hq; exact h.1 _ (List.mem_of_getElem? hmq)
    · rw [hl]; exact h4
    · rw [hl]; exact h5

/-- The relation behind an update. -/
theorem MapP.put {α : Type} {R R' : Int → Value → α → Prop} {g : Int → Option α} {ms ms' : List MapEntry} (h : MapP R g ms) {y : Int} {ux : Value} {s : α}
    (h1 : ∀ e ∈ ms', ∃ x : Int, e.key = KI.keyVal x) (h2 : ∃ i, mfind KI y ms' 0 = some (i, ux)) (h3 : ∀ x, x ≠ y → mfind KI x ms' 0 = mfind KI x ms 0)
    (hx : R' y ux s) (ho : ∀ x u t i, x ≠ y → mfind KI x ms 0 = some (i, u) → g x = some t → R x u t → R' x u t) : MapP R' (fun i => cond (decide (i = y)) (some s) (g i)) ms' := by
  refine ⟨h1, fun x => ?_⟩
  by_cases hxy : x = y
  · subst hxy
    obtain ⟨i, hi⟩ := h2
    exact .inr ⟨i, ux, s, hi, by simp, hx⟩
  · rw [h3 x hxy]
    rcases h.2 x with ⟨e1, e2⟩ | ⟨i, u, t, e1, e2, hr⟩
    · exact .inl ⟨e1, by simp [hxy, e2]⟩
    · exact .inr ⟨i, u, t, e1, by simp [hxy, e2], ho x u t i hxy e1 e2 hr⟩
end Go.AMach
