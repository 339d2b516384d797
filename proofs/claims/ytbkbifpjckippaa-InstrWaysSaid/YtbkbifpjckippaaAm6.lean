/- The abstract machine: values built, parts of them, addresses. -/
import Derived.Test.YtbkbifpjckippaaAm5
namespace Go.AMach
set_option linter.unusedVariables false
set_option linter.unusedSimpArgs false
set_option linter.unnecessarySimpa false
set_option linter.unusedSectionVars false
variable [Sites]
open Go.RowKit
set_option linter.unusedVariables false
set_option linter.unusedSimpArgs false
variable {P : Program}

theorem zeroO_one {t : TypeId} {cs : List AV} (h : zeroO P t = some cs) : ∃ i z, P.info? t = some i ∧ i.zero = some z ∧ cs = z.cells.toList.map .v ∧ ∀ v ∈ z.cells.toList, v.oneCell' = true := by
  simp only [zeroO, Option.bind_eq_some_iff] at h
  obtain ⟨z, ⟨i, h1, h2⟩, h3⟩ := h
  split at h3
  · rename_i hall
    cases h3
    exact ⟨i, z, h1, h2, rfl, fun v hv => by rw [List.all_eq_true] at hall; exact hall v hv⟩
  · cases h3
theorem zeroO_some {t : TypeId} {cs : List AV} (h : zeroO P t = some cs) : ∃ i z, P.info? t = some i ∧ i.zero = some z ∧ cs = z.cells.toList.map .v :=
  let ⟨i, z, h1, h2, h3, _⟩ := zeroO_one h; ⟨i, z, h1, h2, h3⟩
theorem ARels.lits {ι φ} (vs : List Value) : ARels ι φ vs (vs.map .v) := by
  have := ARels.mk_map (ι := ι) (φ := φ) vs id .v fun x _ => .v x
  simpa using this
theorem pures_lits : ∀ (vs : List Value), AV.pures (vs.map .v) = true
  | [] => rfl
  | x :: r => by simp [AV.pures, AV.pure, pures_lits r]
theorem run_zeroValue {t : TypeId} {i : TypeInfo} {z : Value} (hi : P.info? t = some i) (hz : i.zero = some z) (w : World) : (zeroValue t).run P w = .ok z w := by
  simp [zeroValue, typeInfo, hi, hz]
theorem run_sizeOf {t : TypeId} {n : Nat} (h : szO P t = some n) (w : World) : (sizeOf t).run P w = .ok n w := by
  obtain ⟨i, hi, hs⟩ := szO_some h
  simp [sizeOf, typeInfo, hi, hs]

theorem sound_alloc {ι φ H w n} {t : TypeId} : SoundM P ι φ H w n (Instr.alloc t true (.tuple #[])) (allocM P t) := by
  intro hS
  unfold allocM
  cases hz : zeroO P t with
  | none => exact SoundM.fail hS
  | some cs =>
  cases hs : szO P t with
  | none => exact SoundM.fail hS
  | some m =>
  simp only []
  split
  case isFalse => exact SoundM.fail hS
  rename_i hm
  obtain ⟨hm, h0⟩ := hm
  obtain ⟨i, z, hi, hz0, rfl, hone⟩ := zeroO_one hz
  simp at hm
  refine SoundM.newRow (lim := 1) (cs := z.cells) (T := t) (X := fun id => .ptr id 0 0) (u := .pointer (some ⟨w.heap.size, 0, none⟩)) (w' := { w with heap := w.heap.push (.cells z.cells t) }) (noF _) ?_ rfl rfl rfl rfl h0 (by simp [Rows.len]) (by omega) ?_ (fun φ' h => ?_) hS
  · simp [Instr.alloc, newVar, newRow, run_zeroValue hi hz0]
  · have := RowRel.single (ι := ι) (φ := pφ true φ) (ARels.lits z.cells.toList) hone
    simp [hm] at this
    rw [toL_lit]
    exact this
  · have := ARel.ptr (ι := ι) n 0 0 _ _ _ _ _ h (by simp [Rows.len])
    simpa using this

theorem SoundM.newVirt {ι φ H w n sem} {s : Nat} {T : Ty} {k : Nat → AM AV} (h : φ n = .none → SRel ι (updφ φ n .virt) (H.setAt n (some (.row true s (.ty T [])))) w → SoundM P ι (updφ φ n .virt) (H.setAt n (some (.row true s (.ty T [])))) w (n + 1) sem (k n)) :
    SoundM P ι φ H w n sem (.new (.row true s (.ty T [])) k) := by
  intro hS r H' n' hrun hf
  have hle : n + 1 ≤ n' := by
    have : ∀ (m : AM AV) (H : AH) (n : Nat) r H' n', m.run H n = some (r, H', n') → n ≤ n' := by
      intro m
      induction m with
      | ret a => intro H n r H' n' h; simp [AM.run] at h; omega
      | pn a => intro H n r H' n' h; simp [AM.run] at h; omega
      | fail => intro H n r H' n' h; simp [AM.run] at h
      | get i k ih => intro H n r H' n' h; exact ih _ _ _ _ _ _ h
      | next k ih => intro H n r H' n' h; exact ih _ _ _ _ _ _ h
      | set i b k ih =>
        intro H n r H' n' h
        simp only [AM.run] at h
        split at h
        · exact ih _ _ _ _ _ h
        · cases h
      | kill i k ih =>
        intro H n r H' n' h
        simp only [AM.run] at h
        split at h
        · exact ih _ _ _ _ _ h
        · cases h
      | new b k ih => intro H n r H' n' h; have := ih _ _ _ _ _ _ h; omega
      | br b t e iht ihe =>
        intro H n r H' n' h
        cases b with
        | true => exact iht _ _ _ _ _ h
        | false => exact ihe _ _ _ _ _ h
      | call c k ih =>
        intro H n r H' n' h
        simp only [AM.run] at h
        split at h
        · exact ih _ _ _ _ _ _ _ h
        · cases h
    exact this _ _ _ _ _ _ hrun
  have hn : φ n = .none := hf n (Nat.le_refl _) (by omega)
  have hS1 : SRel ι (updφ φ n .virt) (H.setAt n (some (.row true s (.ty T [])))) w := hS.add hn (fun _ _ _ => rfl) (fun b o s l n e => by cases e) rfl
  have hF1 : Frm ι H φ w ι (H.setAt n (some (.row true s (.ty T [])))) (updφ φ n .virt) w := Frm.add hS hn (fun _ _ => rfl) (fun b o s l n e => by cases e) rfl rfl rfl (Nat.le_refl _)
  have hE := Ext.upd .virt hn
  have := h hn hS1 hS1 r H' n' hrun (fun i h1 h2 => by unfold updφ; rw [if_neg (by omega)]; exact hf i (by omega) h2)
  cases r with
  | ok x =>
    obtain ⟨u, w', φ', h1, h2, h3, h4, h5⟩ := this
    exact ⟨u, w', φ', h1, hE.trans h2, h3, h4, hF1.trans h5⟩
  | pn x =>
    obtain ⟨u, w', φ', h1, h2, h3, h4, h5⟩ := this
    exact ⟨u, w', φ', h1, hE.trans h2, h3, h4, hF1.trans h5⟩

theorem sound_allocG {ι φ H w n} {t : TypeId} : SoundM P ι φ H w n (Instr.alloc t true (.tuple #[])) (allocG P t) := by
  intro hS
  unfold allocG
  split
  case h_2 => exact SoundM.fail hS
  rename_i T s hz hs _ _
  obtain ⟨i, z, hi, hz0, hzc, hone⟩ := zeroO_one hz
  refine SoundM.newVirt (fun hn hS1 => ?_) hS
  have hcl : z.cells.toList = [.slice none 0 0] := by
    match hl : z.cells.toList, hzc with
    | [x], h => simp at h; rw [h]
    | [], h => simp at h
    | x :: y :: r, h => simp at h
  have hsz : z.cells.size = 1 := by rw [← Array.length_toList, hcl]; rfl
  refine SoundM.newRow (lim := 1) (cs := z.cells) (T := t) (X := fun id => .ptr id 0 0) (u := .pointer (some ⟨w.heap.size, 0, none⟩)) (w' := { w with heap := w.heap.push (.cells z.cells t) }) (noF _) ?_ rfl rfl rfl rfl (by omega) (by simp [Rows.len]) (by omega) ?_ (fun φ' h => ?_)
  · simp [Instr.alloc, newVar, newRow, run_zeroValue hi hz0]
  · have hcell : ARel ι (pφ false (updφ φ n .virt)) (.slice none 0 0) (.hs false n 0 0) := .hs false n 0 0 none 0 .virt (updφ_same _ _ _) (Nat.le_refl _) (fun h => by cases h) (.inl rfl)
    have := RowRel.single (ι := ι) (φ := pφ false (updφ φ n .virt)) (vs := [.slice none 0 0]) (ARels.nil.cons hcell) (by simp [Value.oneCell'])
    rw [toL_lit]
    have e : z.cells = [Value.slice none 0 0].toArray := by apply Array.ext'; rw [hcl]
    rw [e]
    exact this
  · have := ARel.ptr (ι := ι) (n + 1) 0 0 _ _ _ _ _ h (by simp [Rows.len])
    simpa using this

/-! ### Struct and array values -/
theorem foldl_set (off : Nat) : ∀ (vs : List Value) (k : Nat) (cells : List Value), off + k + vs.length ≤ cells.length →
    ((vs.zipIdx k).foldl (fun (cs : Array Value) (x : Value × Nat) => cs.setIfInBounds (off + x.2) x.1) cells.toArray) = (cells.take (off + k) ++ vs ++ cells.drop (off + k + vs.length)).toArray
  | [], k, cells, h => by simp
  | v :: r, k, cells, h => by
    rw [List.zipIdx_cons, List.foldl_cons]
    simp only [List.setIfInBounds_toArray]
    rw [foldl_set off r (k + 1) _ (by simp at h ⊢; omega)]
    congr 1
    simp at h
    have e1 : (cells.set (off + k) v).take (off + (k + 1)) = cells.take (off + k) ++ [v] := by
      rw [List.set_eq_take_append_cons_drop, if_pos (by omega), List.take_append]
      have : (List.take (off + k) cells).length = off + k := by simp; omega
      rw [this, show off + (k + 1) - (off + k) = 1 by omega, List.take_of_length_le (by omega)]
      rfl
    have e2 : (cells.set (off + k) v).drop (off + (k + 1) + r.length) = cells.drop (off + k + (v :: r).length) := by
      rw [List.drop_set_of_lt (by omega)]
      congr 1
      simp; omega
    rw [e1, e2]
    simp

theorem ARels.putCells {ι φ us vs} {old new : List AV} (h : ARels ι φ us old) (k : ARels ι φ vs new) (j : Nat) (hle : j + new.length ≤ old.length) :
    ARels ι φ (us.take j ++ vs ++ us.drop (j + vs.length)) (Go.AMach.putCells old j new) := by
  unfold Go.AMach.putCells
  rw [k.1]
  exact ((h.take j).append k).append (h.drop _)

theorem fill_rel {ι φ} {place : Nat → Option (Nat × Nat)} : ∀ {parts : List (Nat × AV)} {us : List (Nat × Value)} {cells : List Value} {cs cs' : List AV},
    us.map (·.1) = parts.map (·.1) → ARels ι φ (us.map (·.2)) (parts.map (·.2)) → ARels ι φ cells cs → fillC place cs parts = some cs' →
    ∃ cells', Instr.fill place cells.toArray us = some cells'.toArray ∧ ARels ι φ cells' cs' ∧ ((∀ v ∈ cells, v.oneCell' = true) → ∀ v ∈ cells', v.oneCell' = true)
  | [], us, cells, cs, cs', hi, hr, hc, h => by
    simp at hi; subst hi
    simp only [fillC, Option.some.injEq] at h; subst h
    exact ⟨cells, by simp [Instr.fill], hc, fun h => h⟩
  | (i, x) :: rest, us, cells, cs, cs', hi, hr, hc, h => by
    cases us with
    | nil => simp at hi
    | cons u us =>
      obtain ⟨i', u⟩ := u
      simp at hi
      obtain ⟨rfl, hi⟩ := hi
      simp only [List.map_cons] at hr
      obtain ⟨u', us', he, hux, hrr⟩ := hr.uncons
      simp at he
      obtain ⟨rfl, rfl⟩ := he
      simp only [fillC] at h
      cases hp : place i' with
      | none => simp [hp] at h
      | some p =>
      cases hx : x.cells with
      | none => simp [hp, hx] at h
      | some xs =>
      obtain ⟨off, size⟩ := p
      simp only [hp, hx] at h
      split at h
      case isFalse => cases h
      rename_i hcond
      obtain ⟨vs, hv, hvs, hone⟩ := cells_rel hux hx
      have hvl := hvs.1
      have hcl := hc.1
      obtain ⟨cells', h1, h2, h3⟩ := fill_rel hi hrr (hc.putCells hvs off (by omega)) h
      refine ⟨cells', ?_, h2, fun hcells => h3 fun v hv => ?_⟩
      rotate_left
      · simp only [List.mem_append] at hv
        rcases hv with (hv | hv) | hv
        · exact hcells v (List.mem_of_mem_take hv)
        · exact hone v hv
        · exact hcells v (List.mem_of_mem_drop hv)
      simp only [Instr.fill, hp, hv]
      have hcond2 : ¬ (vs.toArray.size ≠ size ∨ off + vs.toArray.size > cells.toArray.size) := by simp; omega
      have hfold : (vs.toArray.zipIdx.foldl (fun cs (x : Value × Nat) => cs.setIfInBounds (off + x.2) x.1) cells.toArray) = (cells.take off ++ vs ++ cells.drop (off + vs.length)).toArray := by
        have := foldl_set off vs 0 cells (by omega)
        simp only [Nat.add_zero] at this
        rw [← this, ← Array.foldl_toList]
        simp
      rw [if_neg (by simpa using hcond2)]
      rw [← h1]
      congr 1

theorem run_mapM_sizes (w : World) : ∀ (fs : List Field) (l : List (Nat × Nat)), szsO P fs = some l → (fs.mapM fun f => (Prod.mk f.offset <$> sizeOf f.type : Sem (Nat × Nat))).run P w = .ok l w
  | [], l, h => by simp [szsO] at h; subst h; simp
  | f :: r, l, h => by
    simp only [szsO] at h
    cases hs : szO P f.type with
    | none => simp [hs] at h
    | some s =>
    cases hl : szsO P r with
    | none => simp [hs, hl] at h
    | some l' =>
      simp [hs, hl] at h
      subst h
      simp [List.mapM_cons, run_sizeOf hs, run_mapM_sizes w r l' hl]

theorem sound_build {ι φ H w n} {t : TypeId} {us : List (Nat × Value)} {parts : List (Nat × AV)} (hi : us.map (·.1) = parts.map (·.1)) (hr : ARels ι φ (us.map (·.2)) (parts.map (·.2))) :
    SoundM P ι φ H w n (Instr.build t us.toArray) (buildM P t parts) := by
  intro hS
  unfold buildM
  cases hz : zeroO P t with
  | none => exact SoundM.fail hS
  | some cs =>
  cases hs : szO P t with
  | none => exact SoundM.fail hS
  | some m =>
  simp only []
  split
  case isFalse => exact SoundM.fail hS
  obtain ⟨i, z, hinf, hz0, rfl⟩ := zeroO_some hz
  cases hu : P.underlying t with
  | none => exact SoundM.fail hS
  | some d =>
  cases d with
  | struct fs =>
    simp only []
    cases hl : szsO P fs.toList with
    | none => exact SoundM.fail hS
    | some l =>
    simp only []
    cases hf : fillC (fun i => l[i]?) (z.cells.toList.map .v) parts with
    | none => exact SoundM.fail hS
    | some cs =>
      obtain ⟨cells', h1, h2, _⟩ := fill_rel hi hr (ARels.lits z.cells.toList) hf
      refine SoundM.ret (u := .agg cells'.toArray) ?_ (.agg _ _ h2.1 h2.2) hS
      have hm : (fs.mapM fun f => (Prod.mk f.offset <$> sizeOf f.type : Sem (Nat × Nat))).run P w = .ok l.toArray w := by
        rw [Array.mapM_eq_mapM_toList]
        simp [run_mapM_sizes w fs.toList l hl]
      simp at h1
      simp [Instr.build, run_zeroValue hinf hz0, run_underlying hu, hm, h1]
  | array k e =>
    simp only []
    cases hl : szO P e with
    | none => exact SoundM.fail hS
    | some s =>
    simp only []
    cases hf : fillC (fun i => some (i * s, s)) (z.cells.toList.map .v) parts with
    | none => exact SoundM.fail hS
    | some cs =>
      obtain ⟨cells', h1, h2, _⟩ := fill_rel hi hr (ARels.lits z.cells.toList) hf
      refine SoundM.ret (u := .agg cells'.toArray) ?_ (.agg _ _ h2.1 h2.2) hS
      simp at h1
      simp [Instr.build, run_zeroValue hinf hz0, run_underlying hu, run_sizeOf hl, h1]
  | _ => exact SoundM.fail hS

end Go.AMach
