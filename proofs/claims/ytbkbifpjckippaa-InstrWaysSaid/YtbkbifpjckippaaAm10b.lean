/- The abstract machine: copy and clear. -/
import Derived.Test.YtbkbifpjckippaaAm10
import Derived.Laws.IdiomCopy
namespace Go.AMach
set_option linter.unusedVariables false
set_option linter.unusedSimpArgs false
set_option linter.unnecessarySimpa false
set_option linter.unusedSectionVars false
variable [Sites]
open Go.RowKit
set_option linter.unusedVariables false
set_option linter.unusedSimpArgs false
variable {P : Program}

theorem toL_over {r xs : Rows AV} {e : Nat} (h : e + xs.len ≤ r.len) : (r.over e xs).toL = r.toL.take e ++ (xs.toL ++ r.toL.drop (e + xs.len)) := by
  unfold Rows.over
  rw [toL_cat, toL_cat, toL_cut (by omega), toL_cut (by omega), List.drop_zero]
  congr 2
  rw [List.take_of_length_le]
  rw [List.length_drop, toL_length]; omega

theorem len_over {r xs : Rows AV} {e : Nat} (h : e + xs.len ≤ r.len) : (r.over e xs).len = r.len := by
  unfold Rows.over
  rw [len_cat, len_cat, len_cut, len_cut]; omega

theorem RowRel.over {ι φ} {cs cs' : Array Value} {off sz e : Nat} {es xs : List (List AV)} {vs : List Value} {p q : Bool}
    (h : RowRel ι (pφ p φ) cs off sz es) (hle : e + xs.length ≤ es.length) (hw : ∀ c ∈ xs, c.length = sz) (hr : ARels ι (pφ q φ) vs xs.flatten) (hone : ∀ v ∈ vs, v.oneCell' = true)
    (hout : ∀ k, (k < off + e * sz ∨ off + e * sz + vs.length ≤ k) → cs'[k]? = cs[k]?) (hin : ∀ k, k < vs.length → cs'[off + e * sz + k]? = vs[k]?) :
    RowRel ι (pφ (p && q) φ) cs' off sz (es.take e ++ (xs ++ es.drop (e + xs.length))) := by
  have hvl : vs.length = xs.length * sz := by rw [hr.1, flatten_length xs hw]
  have htl : (es.take e).length = e := by simp; omega
  refine ⟨fun c hc => ?_, fun e' j c x hc hx => ?_⟩
  · simp only [List.mem_append] at hc
    rcases hc with hc | hc | hc
    · exact h.1 c (List.mem_of_mem_take hc)
    · exact hw c hc
    · exact h.1 c (List.mem_of_mem_drop hc)
  · by_cases h1 : e' < e
    · rw [List.getElem?_append_left (by omega), List.getElem?_take, if_pos h1] at hc
      have hj : j < sz := by rw [← h.1 c (List.mem_of_getElem? hc)]; exact (List.getElem?_eq_some_iff.1 hx).1
      obtain ⟨u, hu, hru, ho⟩ := h.2 e' j c x hc hx
      refine ⟨u, ?_, pφ_and hru, ho⟩
      rw [hout _ (.inl ?_)]
      · exact hu
      · have := Nat.mul_le_mul_right sz (show e' + 1 ≤ e from h1)
        rw [Nat.add_mul, Nat.one_mul] at this
        omega
    · rw [List.getElem?_append_right (by omega), htl] at hc
      by_cases h2 : e' - e < xs.length
      · rw [List.getElem?_append_left h2] at hc
        have hj : j < sz := by rw [← hw c (List.mem_of_getElem? hc)]; exact (List.getElem?_eq_some_iff.1 hx).1
        have hf := flatten_get xs hw (e' - e) j c x hc hx
        obtain ⟨u, hu, hru⟩ := hr.get hf
        have hlt := (List.getElem?_eq_some_iff.1 hu).1
        refine ⟨u, ?_, pφ_and' hru, hone u (List.mem_of_getElem? hu)⟩
        have := hin _ hlt
        rw [hu] at this
        rw [← this]; congr 1
        have : e' * sz = e * sz + (e' - e) * sz := by rw [← Nat.add_mul]; congr 1; omega
        omega
      · rw [List.getElem?_append_right (by omega), List.getElem?_drop] at hc
        rw [show e + xs.length + (e' - e - xs.length) = e' by omega] at hc
        obtain ⟨u, hu, hru, ho⟩ := h.2 e' j c x hc hx
        refine ⟨u, ?_, pφ_and hru, ho⟩
        rw [hout _ (.inr ?_)]
        · exact hu
        · rw [hvl]
          have := Nat.mul_le_mul_right sz (show e + xs.length ≤ e' by omega)
          rw [Nat.add_mul] at this
          omega

/-- Elements that are written over. -/
theorem sound_over {ι φ H w n} {sem : Sem Value} {s i e room cap : Nat} {tg p2 : Bool} {xs : Rows AV} {x : AV} {a : Option Addr} {vs : List Value} {u : Value}
    (hd : ARel ι φ (.slice a room cap) (.hs tg i e room)) (hx : ARel ι φ u x) (hxl : xs.len ≤ room) (hw : ∀ c ∈ xs.toL, c.length = s) (hvs : ARels ι (pφ p2 φ) vs xs.toL.flatten) (hone : ∀ v ∈ vs, v.oneCell' = true)
    (hnone : vs = [] → sem.run P w = .ok u w)
    (hrun : ∀ b o, a = some ⟨b, o, none⟩ → w.there b o vs.length → sem.run P w = .ok u (w.setCells b o vs)) :
    SoundM P ι φ H w n sem (overM s i e room p2 xs x) := by
  intro hS
  unfold overM
  refine SoundM.get ?_ hS
  cases hid : H.at i with
  | none => exact SoundM.fail
  | some blk =>
  cases blk with
  | mp p es => exact SoundM.fail
  | mf K V g => exact SoundM.fail
  | lp bz k caps => exact SoundM.fail
  | row p sz es =>
  simp only []
  split
  case isFalse => exact SoundM.fail
  rename_i hsz
  subst hsz
  refine SoundM.cond fun hroom => ?_
  have hle : e + xs.len ≤ es.len := by omega
  cases hd with
  | hs _ _ _ _ _ _ loc hφ hc htg hm =>
  obtain ⟨loc', hl', hb⟩ := hS.blk i _ hid
  rw [hφ] at hl'; cases hl'
  have hvl : vs.length = xs.len * sz := by rw [hvs.1, flatten_length _ hw, toL_length]
  by_cases hv : vs = []
  · -- nothing is written
    intro hS r H' n' hr hf
    simp only [AM.run, hid, Option.some.injEq, Prod.mk.injEq] at hr
    obtain ⟨rfl, rfl, rfl⟩ := hr
    cases loc with
    | virt =>
      have hel : es.len = 0 := hb
      have h0 : xs.len = 0 := by omega
      refine ⟨u, w, φ, hnone hv, Ext.refl _ _, ?_, hx, ?_⟩
      · exact hS.redo hid hφ (by show (es.over e xs).len = 0; rw [len_over hle]; exact hel)
      · exact Frm.redo hid
    | «at» b off s' lim len =>
      obtain ⟨⟨hs', rfl⟩, hpos, hlim, cs, T, F, h1, hF, hcs, hrr⟩ := hb
      subst hs'
      have h0 : xs.len = 0 := by
        rw [hv] at hvl
        rcases Nat.mul_eq_zero.1 hvl.symm with h | h
        · exact h
        · omega
      refine ⟨u, w, φ, hnone hv, Ext.refl _ _, ?_, hx, ?_⟩
      · refine hS.redo hid hφ ?_
        refine ⟨⟨rfl, by rw [len_over hle]⟩, hpos, by rw [len_over hle]; exact hlim, cs, T, F, h1, hF, hcs, ?_⟩
        rw [toL_over hle]
        have := RowRel.over (p := p) (q := p2) (φ := φ) hrr (e := e) (xs := xs.toL) (by rw [toL_length, toL_length]; exact hle) hw hvs hone (cs' := cs) (fun _ _ => rfl) (fun k hk => by rw [hv] at hk; simp at hk)
        rw [toL_length] at this
        exact this
      · exact Frm.redo hid
  · -- something is
    have hpos' : xs.len ≠ 0 := fun h => hv (by rw [← List.length_eq_zero_iff, hvl, h, Nat.zero_mul])
    rcases hm with hm | ⟨b, off, s', lim, len, rfl, rfl, e2, e3⟩
    · omega
    obtain ⟨⟨rfl, rfl⟩, hpos, hlim, cs0, T, F, hb0, hF, hcap, hrr⟩ := hb
    intro hS r H' n' hr hf
    simp only [AM.run, hid, Option.some.injEq, Prod.mk.injEq] at hr
    obtain ⟨rfl, rfl, rfl⟩ := hr
    have hbound : off + e * s' + vs.length ≤ cs0.size := by
      have h1 : (e + xs.len) * s' ≤ lim * s' := Nat.mul_le_mul_right _ (by omega)
      rw [Nat.add_mul] at h1
      omega
    have hthere : w.there b (off + e * s') vs.length := fun k hk => by
      rw [cell_of hb0]
      have : off + e * s' + k < cs0.size := by omega
      exact ⟨by simp [this], frozen_of hb0 hF _ this⟩
    obtain ⟨cs', h1, h2, h3, h4⟩ := heap_setCells vs (off + e * s') w cs0 hb0
    obtain ⟨r1, r2, r3, r4⟩ := setCells_rest (b := b) vs (off + e * s') w
    have hne : ∀ k, k ≠ b → (w.setCells b (off + e * s') vs).heap[k]? = w.heap[k]? := fun k hk => heap_setCells_ne vs _ w k hk
    refine ⟨u, w.setCells b (off + e * s') vs, φ, hrun b _ rfl hthere, Ext.refl _ _, ?_, hx, ?_⟩
    · refine hS.write hid hφ hne ?_
      refine ⟨⟨rfl, by rw [len_over hle]⟩, hpos, by rw [len_over hle]; exact hlim, cs', T, F, h1, by rw [h2]; exact hF, by rw [h2]; exact hcap, ?_⟩
      rw [toL_over hle]
      have := RowRel.over (p := p) (q := p2) (φ := φ) hrr (e := e) (xs := xs.toL) (by rw [toL_length, toL_length]; exact hle) hw hvs hone (cs' := cs') h3 (fun k hk => h4 k hk (by omega))
      rw [toL_length] at this
      exact this
    · exact Frm.write hS hid hφ hne r1 r2 r3 (by rw [r4]; exact Nat.le_refl _)

theorem flatten_one {α β : Type} (f : α → β) : ∀ l : List α, (l.map fun n => [f n]).flatten = l.map f
  | [] => rfl
  | x :: l => by simp [flatten_one f l]
theorem toL_u8 (l : List Int) : (Rows.ty (.int .u8) l : Rows AV).toL = l.map fun n => [AV.v (.int .u8 n)] := by
  refine toL_ext (by simp [Rows.len]) fun e he => ?_
  simp at he
  have : Ty.rd (.int .u8) l e = l[e] := rd_some (List.getElem?_eq_getElem he)
  simp [he, Rows.get, this, Ty.enc]
theorem cutL_take {T : Ty} {l : List T.sem} {k : Nat} (h : k ≤ l.length) : T.cutL l 0 k = l.take k := by
  apply List.ext_getElem?
  intro i
  by_cases hi : i < k
  · rw [List.getElem?_take, if_pos hi]
    unfold Ty.cutL
    rw [mkL_get hi, List.getElem?_eq_getElem (by omega), Nat.add_zero]
    rw [rd_some (List.getElem?_eq_getElem (by omega))]
  · rw [List.getElem?_eq_none (by rw [cutL_length]; omega), List.getElem?_eq_none (by simp; omega)]
theorem strBytes_rel {ι φ} (s : ByteArray) (k : Nat) (hk : k ≤ s.size) : ARels ι φ ((s.extract 0 k).data.map fun b => Value.int .u8 b.toNat).toList ((Rows.ty (.int .u8) (bytesL s) : Rows AV).cut 0 k).toL.flatten := by
  have hl : (bytesL s).length = s.size := by simp [bytesL]
  have e1 : (Rows.ty (.int .u8) (bytesL s) : Rows AV).cut 0 k = .ty (.int .u8) ((bytesL s).take k) := by
    show Rows.ty (.int .u8) (Ty.cutL (.int .u8) (bytesL s) 0 k) = _
    rw [cutL_take (by rw [hl]; exact hk)]
  rw [e1, toL_u8, flatten_one]
  have e2 : ((s.extract 0 k).data.map fun b => Value.int .u8 b.toNat).toList = ((bytesL s).take k).map (Value.int .u8) := by
    simp [bytesL, ByteArray.data_extract, List.map_take]
    rfl
  rw [e2]
  exact ARels.mk_map _ _ _ fun x _ => .v _

theorem u8O_elem {t : TypeId} {el : TypeId} (h : elemO P t = some el) (h8 : u8O P t = true) : P.underlying el = some (.int .u8) := by
  obtain ⟨e, h1, h2⟩ := u8O_true h8
  have := elemO_some h
  rw [h1] at this
  cases this
  exact h2

theorem sound_copy {ι φ H w n} {ts : Array TypeId} {ty : TypeId} {vs : List Value} {xs : List AV} (h : ARels ι φ vs xs) :
    SoundM P ι φ H w n (Builtin.copy_ ts ty vs.toArray) (copyM P ts xs) := by
  intro hS
  unfold copyM
  split
  case h_2 => exact SoundM.fail hS
  rename_i el he
  split
  case h_2 => exact SoundM.fail hS
  rename_i s hs
  simp only [Option.bind_eq_some_iff] at he
  obtain ⟨t, ht0, ht1⟩ := he
  have hu := elemO_some ht1
  have two : ∀ {a b : AV}, xs = [a, b] → ∃ va vb, vs = [va, vb] ∧ ARel ι φ va a ∧ ARel ι φ vb b := fun {a b} e => by
    subst e
    obtain ⟨u1, us1, rfl, h1, h2⟩ := h.uncons
    obtain ⟨u2, us2, rfl, h3, h4⟩ := h2.uncons
    rw [h4.nil_inv]
    exact ⟨u1, u2, rfl, h1, h3⟩
  -- what the model does, where the source's first cells are known
  have hrun : ∀ {a : Option Addr} {dn dc : Nat} {vb : Value} {m k : Nat} {cells : List Value}, (Builtin.lenOf vb).run P w = .ok m w → k = Nat.min m dn → (Builtin.firstCells s k vb).run P w = .ok cells.toArray w → (∀ v ∈ cells, v.oneCell' = true) →
      (cells = [] → (Builtin.copy_ ts ty #[.slice a dn dc, vb]).run P w = .ok (.int .i64 (k : Int)) w) ∧
      (∀ b o, a = some ⟨b, o, none⟩ → w.there b o cells.length → (Builtin.copy_ ts ty #[.slice a dn dc, vb]).run P w = .ok (.int .i64 (k : Int)) (w.setCells b o cells)) := by
    intro a dn dc vb m k cells hl hk hf hone
    have hgo : goInt (k : Int) = .int .i64 (k : Int) := rfl
    constructor
    · intro hc
      subst hc
      cases a <;> simp [Builtin.copy_, ht0, run_underlying hu, hl, run_sizeOf hs, ← hk, hf, storeCells, hgo]
    · intro b o ha hth
      subst ha
      have hst := run_storeCells_cells (P := P) b o cells 0 w (fun j hj => by simpa using (hth j hj).1) (fun j hj => by simpa using (hth j hj).2) hone
      simp only [Nat.add_zero] at hst
      simp [Builtin.copy_, ht0, run_underlying hu, hl, run_sizeOf hs, ← hk, hf, hst, hgo]
  split
  · -- a string
    rename_i tg i e dn st
    split
    case isFalse => exact SoundM.fail hS
    rename_i hc
    obtain ⟨hc, rfl⟩ := hc
    rw [ht0] at hc
    have h8 : u8O P t = true := by simpa using hc
    obtain ⟨va, vb, rfl, h1, h2⟩ := two rfl
    cases h2
    cases h1 with
    | hs _ _ _ _ a cap loc hφ hcc htg hm =>
    have hle : Nat.min st.size dn ≤ st.size := Nat.min_le_left _ _
    have hone : ∀ v ∈ ((st.extract 0 (Nat.min st.size dn)).data.map fun b => Value.int .u8 b.toNat).toList, v.oneCell' = true := fun v hv => by
      simp at hv
      have hv := List.mem_of_mem_take hv
      simp only [List.mem_map] at hv
      obtain ⟨x, _, rfl⟩ := hv; rfl
    obtain ⟨r1, r2⟩ := hrun (a := a) (dn := dn) (dc := cap) (vb := .string st) (m := st.size) (k := Nat.min st.size dn) (cells := ((st.extract 0 (Nat.min st.size dn)).data.map fun b => Value.int .u8 b.toNat).toList) (by simp [Builtin.lenOf]) rfl (by simp only [Builtin.firstCells, Array.toArray_toList, Sem.run_pure]) hone
    refine sound_over (p2 := true) (.hs tg i e dn a cap loc hφ hcc htg hm) (.v _) (by rw [len_cut]; exact Nat.min_le_right _ _) (fun c hc => ?_) (strBytes_rel (ι := ι) (φ := pφ true φ) st _ hle) hone r1 r2 hS
    obtain ⟨k, hk⟩ := List.getElem?_of_mem hc
    obtain ⟨_, rfl⟩ := toL_some.1 hk
    rfl
  · -- a row that stays
    rename_i tg i e dn tg2 sz xs0
    split
    case isFalse => exact SoundM.fail hS
    rename_i hsz
    subst hsz
    obtain ⟨va, vb, rfl, h1, h2⟩ := two rfl
    cases h2 with
    | sl a2 cap2 _ _ _ hc2 htg2 hw b off cs T F us hm2 g1 g2 g3 =>
    cases h1 with
    | hs _ _ _ _ a cap loc hφ hcc htg hm =>
    have hkx : Nat.min xs0.len dn ≤ xs0.len := Nat.min_le_left _ _
    have htoL := toL_cut (r := xs0) (l := 0) (n := Nat.min xs0.len dn) (by omega)
    have hcl : ((Rows.cut xs0 0 (Nat.min xs0.len dn)).toL).length = Nat.min xs0.len dn := by rw [toL_length, len_cut]
    have hsub : ∀ (e : Nat) c, (Rows.cut xs0 0 (Nat.min xs0.len dn)).toL[e]? = some c → xs0.toL[e]? = some c := fun e c hc => by
      rw [htoL, List.drop_zero, List.getElem?_take] at hc
      split at hc
      · exact hc
      · cases hc
    have hwc : ∀ c ∈ (Rows.cut xs0 0 (Nat.min xs0.len dn)).toL, c.length = sz := fun c hc => by
      rw [htoL] at hc; exact hw c (List.mem_of_mem_drop (List.mem_of_mem_take hc))
    obtain ⟨cells, c1, c2, c3, c4⟩ := rows_flat (ι := ι) (φ := Phi.none) (cs := cs) (off := off) hwc (fun e j c x hc hx => ⟨us e j, g1 e j c x (hsub e c hc) hx, g2 e j c x (hsub e c hc) hx, g3 e j c x (hsub e c hc) hx⟩)
    rw [hcl] at c1
    have hfirst : (Builtin.firstCells sz (Nat.min xs0.len dn) (.slice a2 xs0.len cap2)).run P w = .ok cells.toArray w := by
      by_cases h0 : xs0.len = 0
      · have hk0 : Nat.min xs0.len dn = 0 := by omega
        rw [hk0] at c1 ⊢
        have : cells = [] := by simpa using c1
        subst this
        cases a2 <;> simp [Builtin.firstCells, loadCells, loadCellsFrom]
      · obtain ⟨rfl, hb⟩ := hm2 h0
        exact run_firstCells_some w sz _ _ _ _ cells c1 fun j u hu => by rw [Addr.add_at, cell_of (hS.imm _ _ hb)]; exact c2 j u hu
    obtain ⟨r1, r2⟩ := hrun (a := a) (dn := dn) (dc := cap) (vb := .slice a2 xs0.len cap2) (m := xs0.len) (k := Nat.min xs0.len dn) (cells := cells) (by simp [Builtin.lenOf]) rfl hfirst c4
    exact sound_over (p2 := true) (.hs tg i e dn a cap loc hφ hcc htg hm) (.v _) (by rw [len_cut]; exact Nat.min_le_right _ _) hwc c3 c4 r1 r2 hS
  · -- a row of the heap
    rename_i tg i e dn tg2 i2 e2 sn
    obtain ⟨va, vb, rfl, h1, h2⟩ := two rfl
    refine SoundM.get ?_ hS
    split
    case h_2 => exact SoundM.fail
    rename_i p2 sz xs0 hid
    split
    case isFalse => exact SoundM.fail
    rename_i hsz
    subst hsz
    refine SoundM.cond fun hle => ?_
    cases h2 with
    | hs _ _ _ _ a2 cap2 loc2 hφ2 hcc2 htg2 hm2 =>
    obtain ⟨loc', hl', hb⟩ := hS.blk i2 _ hid
    rw [hφ2] at hl'; cases hl'
    have hkx : Nat.min sn dn ≤ sn := Nat.min_le_left _ _
    have htoL := toL_cut (r := xs0) (l := e2) (n := Nat.min sn dn) (by omega)
    have hcl : ((Rows.cut xs0 e2 (Nat.min sn dn)).toL).length = Nat.min sn dn := by rw [toL_length, len_cut]
    have main : (∀ c ∈ (Rows.cut xs0 e2 (Nat.min sn dn)).toL, c.length = sz) ∧ ∃ cells : List Value, (Builtin.firstCells sz (Nat.min sn dn) (.slice a2 sn cap2)).run P w = .ok cells.toArray w ∧ ARels ι (pφ p2 φ) cells (Rows.cut xs0 e2 (Nat.min sn dn)).toL.flatten ∧ ∀ v ∈ cells, v.oneCell' = true := by
      cases loc2 with
      | virt =>
        have hx0 : xs0.len = 0 := hb
        have hk0 : Nat.min sn dn = 0 := by omega
        rw [hk0, toL_cut0]
        refine ⟨fun c hc => by simp at hc, [], ?_, ARels.nil, fun v hv => by simp at hv⟩
        cases a2 <;> simp [Builtin.firstCells, loadCells, loadCellsFrom]
      | «at» b off s' lim len =>
        obtain ⟨⟨hs', rfl⟩, hpos, hlim, cs, T, F, hb0, hF, hcs, hr⟩ := hb
        subst hs'
        have hsub := RowRel.sub hr e2 (Nat.min sn dn)
        rw [← htoL] at hsub
        refine ⟨hsub.1, ?_⟩
        obtain ⟨cells, c1, c2, c3, c4⟩ := rows_flat hsub.1 hsub.2
        rw [hcl] at c1
        refine ⟨cells, ?_, c3, c4⟩
        rcases hm2 with hm2 | ⟨b', off', sz', lim', len', hloc, rfl, _, _⟩
        · have hk0 : Nat.min sn dn = 0 := by omega
          rw [hk0] at c1 ⊢
          have : cells = [] := by simpa using c1
          subst this
          cases a2 <;> simp [Builtin.firstCells, loadCells, loadCellsFrom]
        · cases hloc
          exact run_firstCells_some w _ _ _ _ _ cells c1 fun j u hu => by rw [Addr.add_at, cell_of hb0]; exact c2 j u hu
    obtain ⟨hwc, cells, hfirst, c3, c4⟩ := main
    cases h1 with
    | hs _ _ _ _ a cap loc hφ hcc htg hm =>
    obtain ⟨r1, r2⟩ := hrun (a := a) (dn := dn) (dc := cap) (vb := .slice a2 sn cap2) (m := sn) (k := Nat.min sn dn) (cells := cells) (by simp [Builtin.lenOf]) rfl hfirst c4
    exact sound_over (p2 := p2) (.hs tg i e dn a cap loc hφ hcc htg hm) (.v _) (by rw [len_cut]; exact Nat.min_le_right _ _) hwc c3 c4 r1 r2
  · exact SoundM.fail hS

theorem zerosR_toL (e : TypeId) (n : Nat) (z : List AV) : (zerosR P e n z).toL = List.replicate n z ∧ (zerosR P e n z).len = n := by
  unfold zerosR
  split
  · split
    · rename_i T _ _ x hx
      have hz := undo_enc T _ _ hx
      refine ⟨toL_ext (by simp [Rows.len, mkL_length]) fun k hk => ?_, by simp [Rows.len, mkL_length]⟩
      simp only [List.length_replicate] at hk
      have : T.rd (mkL n fun _ => x) k = x := by
        unfold Ty.rd
        rw [List.getD_eq_getElem?_getD, mkL_get hk]; rfl
      simp only [Rows.get, this]
      rw [List.getElem?_replicate, if_pos hk, hz]
    · exact ⟨toL_rep _ _, rfl⟩
  · exact ⟨toL_rep _ _, rfl⟩

theorem sound_clear {ι φ H w n} {ts : Array TypeId} {ty : TypeId} {vs : List Value} {xs : List AV} (h : ARels ι φ vs xs) :
    SoundM P ι φ H w n (Builtin.clear_ ts ty vs.toArray) (clearM P ts xs) := by
  intro hS
  unfold clearM
  split
  case h_2 => exact SoundM.fail hS
  rename_i el he
  split
  case h_2 => exact SoundM.fail hS
  rename_i s z hs hz
  split
  case isFalse => exact SoundM.fail hS
  rename_i hzl
  obtain ⟨hzl, hp⟩ := hzl
  simp only [Option.bind_eq_some_iff] at he
  obtain ⟨t, ht0, ht1⟩ := he
  have hu := elemO_some ht1
  split
  case h_2 => exact SoundM.fail hS
  rename_i tg i e dn
  obtain ⟨va, us, rfl, h1, h2⟩ := h.uncons
  have := h2.nil_inv
  subst this
  obtain ⟨inf, zv, hi, hz0, rfl, hzone⟩ := zeroO_one hz
  have hzs : zv.cells.size = s := by simpa using hzl
  cases h1 with
  | hs _ _ _ _ a cap loc hφ hcc htg hm =>
  · refine sound_over (vs := (Builtin.zeroCells zv.cells dn).toList) (u := .tuple #[]) (p2 := true) (.hs tg i e dn a cap loc hφ hcc htg hm) (.tup [] [] rfl fun i u c hu => by simp at hu) (Nat.le_of_eq (zerosR_toL _ _ _).2) (fun c hc => ?_) ?_ (fun v hv => ?_) ?_ ?_ hS
    · rw [(zerosR_toL _ _ _).1] at hc
      rw [List.eq_of_mem_replicate hc]; simp [hzs]
    · rw [(zerosR_toL _ _ _).1]
      have := madeCells_rel (ι := ι) (φ := pφ true φ) zv.cells dn s hzs hp
      have e : Builtin.zeroCells zv.cells dn = madeCells zv.cells (dn * s) := by rw [← hzs]; rfl
      rw [e]; exact this
    · have e : Builtin.zeroCells zv.cells dn = madeCells zv.cells (dn * s) := by rw [← hzs]; rfl
      rw [e] at hv
      exact madeCells_one hzs hp hzone v hv
    · intro hv
      have hd0 : dn = 0 := by
        have : (Builtin.zeroCells zv.cells dn).size = 0 := by rw [← Array.length_toList, hv]; rfl
        rw [size_zeroCells, hzs] at this
        rcases Nat.mul_eq_zero.1 this with h | h
        · exact h
        · omega
      subst hd0
      cases a <;> simp [Builtin.clear_, ht0, run_underlying hu]
    · intro b o ha hth
      subst ha
      have hst := run_storeCells_cells (P := P) b o (Builtin.zeroCells zv.cells dn).toList 0 w (fun j hj => by simpa using (hth j hj).1) (fun j hj => by simpa using (hth j hj).2) (fun v hv => by
        have e : Builtin.zeroCells zv.cells dn = madeCells zv.cells (dn * s) := by rw [← hzs]; rfl
        rw [e] at hv
        exact madeCells_one hzs hp hzone v hv)
      simp only [Nat.add_zero] at hst
      cases dn with
      | zero =>
        have : (Builtin.zeroCells zv.cells 0).toList = [] := by simp [Builtin.zeroCells]
        rw [this]
        simp [Builtin.clear_, ht0, run_underlying hu, World.setCells]
      | succ dn => simp [Builtin.clear_, ht0, run_underlying hu, run_zeroValue hi hz0, hst]
end Go.AMach
