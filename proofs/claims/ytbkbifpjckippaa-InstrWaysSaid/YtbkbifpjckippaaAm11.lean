/- The abstract machine: calls, and what is kept of a heap. -/
import Derived.Test.YtbkbifpjckippaaAm10c
namespace Go.AMach
set_option linter.unusedVariables false
set_option linter.unusedSimpArgs false
set_option linter.unnecessarySimpa false
set_option linter.unusedSectionVars false
variable [Sites]
open Go.RowKit
set_option linter.unusedVariables false
set_option linter.unusedSimpArgs false
variable {P : Program}

theorem idxOf_some : ∀ {l : List Nat} {i k : Nat}, idxOf l i = some k → l[k]? = some i
  | [], i, k, h => by simp [idxOf] at h
  | x :: r, i, k, h => by
    simp only [idxOf] at h
    split at h
    · rename_i e; subst e; cases h; rfl
    · simp only [Option.map_eq_some_iff] at h
      obtain ⟨k', h', rfl⟩ := h
      simpa using idxOf_some h'
theorem idxOf_none : ∀ {l : List Nat} {i : Nat}, idxOf l i = none → i ∉ l
  | [], i, h => by simp
  | x :: r, i, h => by
    simp only [idxOf] at h
    split at h
    · cases h
    · rename_i e
      simp only [Option.map_eq_none_iff] at h
      have := idxOf_none h
      simp; exact ⟨fun e' => e e'.symm, this⟩
theorem nodup_get {l : List Nat} (h : l.Nodup) {i j x : Nat} (hi : l[i]? = some x) (hj : l[j]? = some x) : i = j := by
  have h1 := List.getElem?_eq_some_iff.1 hi
  have h2 := List.getElem?_eq_some_iff.1 hj
  have hp := List.pairwise_iff_getElem.1 h
  rcases Nat.lt_trichotomy i j with hlt | rfl | hlt
  · exact absurd (h1.2.trans h2.2.symm) (hp i j h1.1 h2.1 hlt)
  · rfl
  · exact absurd (h2.2.trans h1.2.symm) (hp j i h2.1 h1.1 hlt)

theorem renRows_get {ρ : Nat → Option Nat} : ∀ {es : List (List AV)} {e : Nat} {c : List AV}, (renRows ρ es)[e]? = some c → ∃ c0, es[e]? = some c0 ∧ c = AV.rens ρ c0
  | [], e, c, h => by simp [renRows] at h
  | x :: r, 0, c, h => by simp [renRows] at h; exact ⟨x, rfl, h.symm⟩
  | x :: r, e + 1, c, h => by simp [renRows] at h; simpa using renRows_get h
theorem renRows_mem {ρ : Nat → Option Nat} {es : List (List AV)} {c : List AV} (h : c ∈ renRows ρ es) : ∃ c0 ∈ es, c = AV.rens ρ c0 := by
  obtain ⟨i, hi⟩ := List.getElem?_of_mem h
  obtain ⟨c0, h0, h1⟩ := renRows_get hi
  exact ⟨c0, List.mem_of_getElem? h0, h1⟩
theorem renRows_length {ρ : Nat → Option Nat} : ∀ (es : List (List AV)), (renRows ρ es).length = es.length
  | [] => rfl
  | x :: r => by simp [renRows, renRows_length r]
theorem rens_get {ρ : Nat → Option Nat} : ∀ {cs : List AV} {i : Nat} {x : AV}, (AV.rens ρ cs)[i]? = some x → ∃ y, cs[i]? = some y ∧ x = y.ren ρ
  | [], i, x, h => by simp [AV.rens] at h
  | y :: r, 0, x, h => by simp [AV.rens] at h; exact ⟨y, rfl, h.symm⟩
  | y :: r, i + 1, x, h => by simp [AV.rens] at h; simpa using rens_get h
theorem rens_length {ρ : Nat → Option Nat} : ∀ (cs : List AV), (AV.rens ρ cs).length = cs.length
  | [] => rfl
  | x :: r => by simp [AV.rens, rens_length r]
theorem renPairs_map {ρ : Nat → Option Nat} : ∀ (es : List (AV × AV)), (renPairs ρ es).map (·.1) = AV.rens ρ (es.map (·.1)) ∧ (renPairs ρ es).map (·.2) = AV.rens ρ (es.map (·.2))
  | [] => ⟨rfl, rfl⟩
  | (k, x) :: r => by simp [renPairs, AV.rens, renPairs_map r]

theorem RowRel.ren {ι φ φ' cs off sz es} {ρ : Nat → Option Nat} (hρ : ∀ i k, ρ i = some k → ∀ l, φ i = some l → φ' k = some l) (h : RowRel ι φ cs off sz es) : RowRel ι φ' cs off sz (renRows ρ es) :=
  ⟨fun c hc => by obtain ⟨c0, h0, rfl⟩ := renRows_mem hc; rw [rens_length]; exact h.1 c0 h0, fun e j c x hc hx => by
    obtain ⟨c0, h0, rfl⟩ := renRows_get hc
    obtain ⟨y, hy, rfl⟩ := rens_get hx
    obtain ⟨u, hu, hr, ho⟩ := h.2 e j c0 y h0 hy
    exact ⟨u, hu, hr.ren hρ, ho⟩⟩

theorem BRel.ren {ι φ φ'} {w : World} {loc : Loc} {blk : AB} {ρ : Nat → Option Nat} (hρ : ∀ i k, ρ i = some k → ∀ l, φ i = some l → φ' k = some l) (h : BRel ι φ w loc blk) : BRel ι φ' w loc (blk.ren ρ) := by
  cases blk with
  | row p sz es =>
    cases loc with
    | virt =>
      have h : es.len = 0 := h
      cases p
      · show (renRows ρ es.toL).length = 0
        rw [renRows_length, toL_length]; exact h
      · exact h
    | «at» b off sz' lim len =>
      obtain ⟨h1, h2, h3, cs, T, F, h4, h5, h6, h7⟩ := h
      cases p with
      | true => exact ⟨h1, h2, h3, cs, T, F, h4, h5, h6, h7⟩
      | false =>
        have hl : (Rows.lit (renRows ρ es.toL)).len = es.len := by
          show (renRows ρ es.toL).length = _
          rw [renRows_length, toL_length]
        exact ⟨⟨h1.1, by rw [hl]; exact h1.2⟩, h2, by rw [hl]; exact h3, cs, T, F, h4, h5, h6, by rw [toL_lit]; exact RowRel.ren hρ h7⟩
  | mp p es =>
    cases loc with
    | virt => exact h.elim
    | «at» b off sz' lim len =>
      obtain ⟨ms, clk, h1, h2, h3⟩ := h
      cases p with
      | true => exact ⟨ms, clk, h1, h2, h3⟩
      | false => exact ⟨ms, clk, h1, by rw [(renPairs_map es).1]; exact ARels.ren hρ h2, by rw [(renPairs_map es).2]; exact ARels.ren hρ h3⟩
  | mf K V g =>
    cases loc with
    | virt => exact h.elim
    | «at» b off sz' lim len => exact h
  | lp bz k caps =>
    cases loc with
    | virt => exact h.elim
    | «at» b off sz' lim len =>
      obtain ⟨r, h1, h2, h3, h4, h5⟩ := h
      exact ⟨r, h1, h2, h3, h4, ARels.ren hρ h5⟩

/-! ### Some blocks alone -/
def onlyφ (φ : Phi) (ids : List Nat) : Phi := fun k => (ids[k]?).bind φ

theorem onlyφ_of {φ : Phi} {ids : List Nat} : ∀ i k, idxOf ids i = some k → ∀ l, φ i = some l → onlyφ φ ids k = some l := fun i k h l hl => by
  unfold onlyφ; rw [idxOf_some h]; exact hl

theorem only_at {H : AH} {ids : List Nat} {k : Nat} {blk : AB} (h : (H.only ids).at k = some blk) : ∃ i b0, ids[k]? = some i ∧ H.at i = some b0 ∧ blk = b0.ren (idxOf ids) := by
  unfold AH.only AH.at at h
  rw [List.getD_eq_getElem?_getD, List.getElem?_map] at h
  cases hk : ids[k]? with
  | none => simp [hk] at h
  | some i =>
    simp [hk] at h
    obtain ⟨b0, h0, rfl⟩ := h
    exact ⟨i, b0, rfl, by unfold AH.at; rw [List.getD_eq_getElem?_getD]; exact h0, rfl⟩

theorem SRel.only {ι φ H w} (h : SRel ι φ H w) {ids : List Nat} (hn : ids.Nodup) : SRel ι (onlyφ φ ids) (H.only ids) w where
  imm := h.imm
  blk k b hb := by
    obtain ⟨i, b0, hi, h0, rfl⟩ := only_at hb
    obtain ⟨loc, hl, hbr⟩ := h.blk i b0 h0
    exact ⟨loc, by unfold onlyφ; rw [hi]; exact hl, hbr.ren onlyφ_of⟩
  own k b bl off sz lim len hb hl := by
    obtain ⟨i, b0, hi, h0, rfl⟩ := only_at hb
    unfold onlyφ at hl; rw [hi] at hl
    exact h.own i b0 _ _ _ _ _ h0 hl
  inj k k' b b' bl o1 s1 l1 n1 o2 s2 l2 n2 hb hb' hl hl' := by
    obtain ⟨i, b0, hi, h0, rfl⟩ := only_at hb
    obtain ⟨i', b0', hi', h0', rfl⟩ := only_at hb'
    unfold onlyφ at hl hl'; rw [hi] at hl; rw [hi'] at hl'
    have := h.inj i i' b0 b0' _ _ _ _ _ _ _ _ _ h0 h0' hl hl'
    subst this
    exact nodup_get hn hi hi'
theorem Owned.only {H : AH} {φ : Phi} {ids : List Nat} {b : Nat} (h : Owned (H.only ids) (onlyφ φ ids) b) : Owned H φ b := by
  obtain ⟨k, blk, off, sz, lim, len, hb, hl⟩ := h
  obtain ⟨i, b0, hi, h0, rfl⟩ := only_at hb
  unfold onlyφ at hl; rw [hi] at hl
  exact ⟨i, b0, off, sz, lim, len, h0, hl⟩
theorem Frm.only {ι : Iota} {H : AH} {φ : Phi} {w : World} {ι' H' φ' w'} (h : Frm ι H φ w ι' H' φ' w') (ids : List Nat) : Frm ι H φ w ι' (H'.only ids) (onlyφ φ' ids) w' :=
  ⟨h.os, h.tape, h.output, h.size, h.keep, fun b hb => h.sub b hb.only, h.imm, h.grow⟩

/-! ### Calls -/
def EndRel (ι : Iota) (φ : Phi) : AR AV → Ending → Prop
  | .ok x, e => ∃ u, e = .returned u ∧ ARel ι φ u x
  | .pn x, e => ∃ u, e = .panicked [{ v := u, recovered := false }] ∧ ARel ι φ u x

def CallPost (ι : Iota) (φ : Phi) (H : AH) (w : World) (r : AR AV) (H' : AH) (e : Ending) (w' : World) : Prop :=
  ∃ ι' φ', Ext φ φ' H.length H'.length ∧ SRel ι' φ' H' w' ∧ Frm ι H φ w ι' H' φ' w' ∧ EndRel ι' φ' r e

/-- The ranges over functions in a code are those of the table. -/
def RfOk (k : Nat) : Code → Prop
  | .seq a b => RfOk k a ∧ RfOk k b
  | .cond _ a b => RfOk k a ∧ RfOk k b
  | .block _ c => RfOk k c
  | .loop c => RfOk k c
  | .rangeFunc _ ps asg body => Sites.t k = some (ps, asg, body)
  | _ => True

theorem RfOk.range {k : Nat} {g : Operand} {ps : Array Tmp} {asg body : Code} (h : Sites.t k = some (ps, asg, body)) : RfOk k (.rangeFunc g ps asg body) := h
theorem RfOk.block {k id : Nat} {c : Code} (h : RfOk k c) : RfOk k (.block id c) := h
theorem RfOk.loop {k : Nat} {c : Code} (h : RfOk k c) : RfOk k (.loop c) := h
theorem RfOk.seq {k : Nat} {a b : Code} (h : RfOk k a) (h' : RfOk k b) : RfOk k (.seq a b) := ⟨h, h'⟩
theorem RfOk.cond {k : Nat} {c : Operand} {a b : Code} (h : RfOk k a) (h' : RfOk k b) : RfOk k (.cond c a b) := ⟨h, h'⟩

def SiteOk (P : Program) (cf : CallF) : Prop := ∀ f k fn c, cf.site = some (f, k) → P.funcs[f]? = some fn → fn.body = some c → RfOk k c

structure CallSound (P : Program) (cf : CallF) : Prop where
  site : SiteOk P cf
  call : ∀ (ι : Iota) (φ : Phi) (H : AH) (w : World) (f : FuncId) (args : List AV) (vs : List Value) (r : AR AV) (H' : AH),
  SRel ι φ H w → (∀ i, H.length ≤ i → φ i = .none) → ARels ι φ vs args → (cf.call f args H).val = some (r, H') → Calls P f vs.toArray w (CallPost ι φ H w r H')

theorem AM.run_bind {α β : Type} : ∀ (m : AM α) (f : α → AM β) (H : AH) (n : Nat), (m.bind f).run H n = match m.run H n with
    | some (.ok a, H', n') => (f a).run H' n'
    | some (.pn x, H', n') => some (.pn x, H', n')
    | none => none
  | .ret a, f, H, n => rfl
  | .pn x, f, H, n => rfl
  | .fail, f, H, n => rfl
  | .get i k, f, H, n => by simp only [AM.bind, AM.run]; exact run_bind (k (H.at i)) f H n
  | .next k, f, H, n => by simp only [AM.bind, AM.run]; exact run_bind (k n) f H n
  | .set i b k, f, H, n => by
    simp only [AM.bind, AM.run]
    cases H.at i with
    | none => rfl
    | some _ => exact run_bind k f _ n
  | .kill i k, f, H, n => by
    simp only [AM.bind, AM.run]
    cases H.at i with
    | none => rfl
    | some _ => exact run_bind k f _ n
  | .new b k, f, H, n => by simp only [AM.bind, AM.run]; exact run_bind (k n) f _ (n + 1)
  | .br b t e, f, H, n => by
    simp only [AM.bind, AM.run]
    cases b with
    | true => simpa using run_bind t f H n
    | false => simpa using run_bind e f H n
  | .call r k, f, H, n => by
    simp only [AM.bind, AM.run]
    cases r.val with
    | none => rfl
    | some x => exact run_bind (k x.1 x.2) f H n

/-- What the reach tells of a block is what the heap has. -/
theorem reachM_run : ∀ (m : Nat) (todo : List Nat) (seen : List (Nat × Option AB)) (H : AH) (n : Nat) r H' n', (∀ x ∈ seen, H.at x.1 = x.2) → (reachM m todo seen).run H n = some (r, H', n') →
    ∃ l, r = .ok l ∧ H' = H ∧ n' = n ∧ ∀ x ∈ l, H.at x.1 = x.2
  | 0, [], seen, H, n, r, H', n', hs, h => by simp [reachM, AM.run] at h; obtain ⟨rfl, rfl, rfl⟩ := h; exact ⟨seen, rfl, rfl, rfl, hs⟩
  | 0, i :: todo, seen, H, n, r, H', n', hs, h => by simp [reachM, AM.run] at h
  | m + 1, [], seen, H, n, r, H', n', hs, h => by simp [reachM, AM.run] at h; obtain ⟨rfl, rfl, rfl⟩ := h; exact ⟨seen, rfl, rfl, rfl, hs⟩
  | m + 1, i :: todo, seen, H, n, r, H', n', hs, h => by
    simp only [reachM] at h
    split at h
    · exact reachM_run m todo seen H n r H' n' hs h
    · simp only [AM.run] at h
      cases hb : H.at i with
      | none =>
        rw [hb] at h
        exact reachM_run m todo _ H n r H' n' (fun x hx => by
          rcases List.mem_append.1 hx with hx | hx
          · exact hs x hx
          · simp at hx; subst hx; exact hb) h
      | some b =>
        rw [hb] at h
        exact reachM_run m _ _ H n r H' n' (fun x hx => by
          rcases List.mem_append.1 hx with hx | hx
          · exact hs x hx
          · simp at hx; subst hx; exact hb) h

theorem writeBack_run {back : Nat → Option Nat} : ∀ (ids : List Nat) (Hs H : AH) (n : Nat) r Hx n', ids.Nodup → (writeBack back ids Hs).run H n = some (r, Hx, n') →
    r = .ok () ∧ n' = n ∧ (∀ i, i ∉ ids → Hx.at i = H.at i) ∧ (∀ k i, ids[k]? = some i → Hx.at i = (Hs.at k).map (AB.ren back))
  | [], Hs, H, n, r, Hx, n', _, h => by
    simp [writeBack, AM.run] at h
    obtain ⟨rfl, rfl, rfl⟩ := h
    exact ⟨rfl, rfl, fun _ _ => rfl, fun k i h => by simp at h⟩
  | i :: ids, [], H, n, r, Hx, n', _, h => by simp [writeBack, AM.run] at h
  | i :: ids, b :: Hs, H, n, r, Hx, n', hn, h => by
    simp at hn
    have key : ∀ (x : Option AB), (writeBack back ids Hs).run (H.setAt i x) n = some (r, Hx, n') → x = b.map (AB.ren back) →
        r = .ok () ∧ n' = n ∧ (∀ j, j ∉ i :: ids → Hx.at j = H.at j) ∧ (∀ k j, (i :: ids)[k]? = some j → Hx.at j = (AH.at (b :: Hs) k).map (AB.ren back)) := fun x h hx => by
      obtain ⟨h1, h2, h3, h4⟩ := writeBack_run ids Hs _ n r Hx n' hn.2 h
      refine ⟨h1, h2, fun j hj => ?_, fun k j hk => ?_⟩
      · simp at hj
        rw [h3 j hj.2, at_setAt, if_neg hj.1]
      · cases k with
        | zero =>
          simp at hk; subst hk
          rw [h3 i hn.1, at_setAt, if_pos rfl, at_cons_zero, hx]
        | succ k =>
          simp at hk
          rw [h4 k j hk, at_cons_succ]
    cases b with
    | none =>
      simp only [writeBack, AM.run] at h
      split at h
      · exact key none h rfl
      · cases h
    | some b =>
      simp only [writeBack, AM.run] at h
      split at h
      · exact key _ h rfl
      · cases h

theorem newAll_run {back : Nat → Option Nat} : ∀ (Hs H : AH) (n : Nat) r Hx n', (newAll back Hs).run H n = some (r, Hx, n') →
    r = .ok () ∧ n' = n + Hs.length ∧ (∀ i, ¬ (n ≤ i ∧ i < n + Hs.length) → Hx.at i = H.at i) ∧ (∀ k, k < Hs.length → Hx.at (n + k) = (Hs.at k).map (AB.ren back))
  | [], H, n, r, Hx, n', h => by
    simp [newAll, AM.run] at h
    obtain ⟨rfl, rfl, rfl⟩ := h
    exact ⟨rfl, rfl, fun _ _ => rfl, fun k h => by simp at h⟩
  | none :: Hs, H, n, r, Hx, n', h => by simp [newAll, AM.run] at h
  | some b :: Hs, H, n, r, Hx, n', h => by
    simp only [newAll, AM.run] at h
    obtain ⟨h1, h2, h3, h4⟩ := newAll_run Hs _ (n + 1) r Hx n' h
    refine ⟨h1, by simp [h2]; omega, fun i hi => ?_, fun k hk => ?_⟩
    · simp at hi
      rw [h3 i (by omega), at_setAt, if_neg (by omega)]
    · cases k with
      | zero => rw [Nat.add_zero, h3 n (by omega), at_setAt, if_pos rfl]; rfl
      | succ k =>
        have := h4 k (by simpa using hk)
        rw [show n + (k + 1) = n + 1 + k by omega, this, at_cons_succ]

/-- The heap behind a call, put together again. -/
theorem RowRel.imm {ι ι' : Iota} (hι : ∀ b o, ι b = some o → ι' b = some o) {φ cs off sz es} (h : RowRel ι φ cs off sz es) : RowRel ι' φ cs off sz es :=
  ⟨h.1, fun e j c x hc hx => let ⟨u, hu, hr, ho⟩ := h.2 e j c x hc hx; ⟨u, hu, hr.imm hι, ho⟩⟩
theorem BRel.imm {ι ι' : Iota} (hι : ∀ b o, ι b = some o → ι' b = some o) {φ} {w : World} {loc : Loc} {blk : AB} (hb : BRel ι φ w loc blk) : BRel ι' φ w loc blk := by
  cases loc with
  | virt => cases blk <;> exact hb
  | «at» b off sz lim len =>
    cases blk with
    | row p s es =>
      obtain ⟨h1, h2, h3, cs, T, F, h4, h5, h6, h7⟩ := hb
      exact ⟨h1, h2, h3, cs, T, F, h4, h5, h6, h7.imm hι⟩
    | mp p es =>
      obtain ⟨ms, clk, h1, h2, h3⟩ := hb
      exact ⟨ms, clk, h1, h2.imm hι, h3.imm hι⟩
    | mf K V g =>
      obtain ⟨ms, clk, h1, h2, ⟨h3, h4⟩, h5⟩ := hb
      refine ⟨ms, clk, h1, h2, ⟨h3, fun x => ?_⟩, h5⟩
      rcases h4 x with h | ⟨i, u, s, e1, e2, hr⟩
      · exact .inl h
      · exact .inr ⟨i, u, s, e1, e2, hr.imm hι⟩
    | lp bz k caps =>
      obtain ⟨r, h1, h2, h3, h4, h5⟩ := hb
      exact ⟨r, h1, h2, h3, h4, h5.imm hι⟩

theorem SRel.rejoin {ι ι' φ H w} {φ1' : Phi} {H2 Hx : AH} {w' : World} {ids : List Nat} {nx : Nat} {back : Nat → Option Nat} (h : SRel ι φ H w) (hn : ids.Nodup)
    (hback : ∀ k, back k = match ids[k]? with | some i => some i | none => some (nx + (k - ids.length)))
    (hlive : ∀ i ∈ ids, ∃ b, H.at i = some b)
    (h1 : Ext (onlyφ φ ids) φ1' ids.length H2.length) (h2 : SRel ι' φ1' H2 w') (h3 : Frm ι (H.only ids) (onlyφ φ ids) w ι' H2 φ1' w')
    (hfr : ∀ i, nx ≤ i → i < nx + (H2.length - ids.length) → φ i = .none)
    (hx1 : ∀ i, i ∉ ids → ¬ (nx ≤ i ∧ i < nx + (H2.length - ids.length)) → Hx.at i = H.at i) (hx2 : ∀ k i, ids[k]? = some i → Hx.at i = (H2.at k).map (AB.ren back))
    (hx3 : ∀ k, k < H2.length - ids.length → Hx.at (nx + k) = (H2.at (ids.length + k)).map (AB.ren back)) :
    ∃ φ', Ext φ φ' nx (nx + (H2.length - ids.length)) ∧ SRel ι' φ' Hx w' ∧ Frm ι H φ w ι' Hx φ' w' ∧ (∀ k i, back k = some i → ∀ l, φ1' k = some l → φ' i = some l) := by
  let φ' : Phi := fun i => if nx ≤ i ∧ i < nx + (H2.length - ids.length) then φ1' (ids.length + (i - nx)) else φ i
  have hle := h1.le
  have hid : ∀ k i, ids[k]? = some i → k < ids.length := fun k i hk => (List.getElem?_eq_some_iff.1 hk).1
  have hmem : ∀ k i, ids[k]? = some i → i ∈ ids := fun k i hk => List.mem_of_getElem? hk
  have hφid : ∀ i, i ∈ ids → ∃ l, φ i = some l := fun i hi => by
    obtain ⟨b, hb⟩ := hlive i hi
    obtain ⟨l, hl, _⟩ := h.blk i b hb
    exact ⟨l, hl⟩
  have hout : ∀ i, i ∈ ids → ¬ (nx ≤ i ∧ i < nx + (H2.length - ids.length)) := fun i hi hr => by
    obtain ⟨l, hl⟩ := hφid i hi
    rw [hfr i hr.1 hr.2] at hl; cases hl
  have hφ1 : ∀ k i, ids[k]? = some i → φ1' k = φ i := fun k i hk => by
    rw [h1.out k (by have := hid k i hk; omega)]; unfold onlyφ; rw [hk]; rfl
  have hφ'id : ∀ i, i ∈ ids → φ' i = φ i := fun i hi => if_neg (hout i hi)
  have hE : Ext φ φ' nx (nx + (H2.length - ids.length)) := ⟨by omega, fun i hi => if_neg hi, hfr⟩
  have hρ : ∀ k i, back k = some i → ∀ l, φ1' k = some l → φ' i = some l := fun k i hb l hl => by
    rw [hback] at hb
    cases hk : ids[k]? with
    | some i' =>
      rw [hk] at hb; cases hb
      rw [hφ'id i (hmem k i hk), ← hφ1 k i hk]; exact hl
    | none =>
      rw [hk] at hb; cases hb
      have hkl : ids.length ≤ k := by simpa using hk
      by_cases hk2 : k < H2.length
      · show (if _ then _ else _) = _
        rw [if_pos (by omega)]
        rw [show ids.length + (nx + (k - ids.length) - nx) = k by omega]; exact hl
      · rw [h1.out k (by omega)] at hl
        unfold onlyφ at hl; rw [hk] at hl; cases hl
  -- a block behind the call is one of the callee's, or one that it did not see
  have hcase : ∀ i blk, Hx.at i = some blk → (∃ k b2, k < H2.length ∧ H2.at k = some b2 ∧ blk = b2.ren back ∧ back k = some i ∧ φ' i = φ1' k) ∨ (i ∉ ids ∧ H.at i = some blk ∧ φ' i = φ i) := fun i blk hi => by
    by_cases hr : nx ≤ i ∧ i < nx + (H2.length - ids.length)
    · left
      have := hx3 (i - nx) (by omega)
      rw [show nx + (i - nx) = i by omega, hi] at this
      cases hb2 : H2.at (ids.length + (i - nx)) with
      | none => rw [hb2] at this; cases this
      | some b2 =>
        rw [hb2] at this
        simp at this
        refine ⟨ids.length + (i - nx), b2, by omega, hb2, this, ?_, if_pos hr⟩
        rw [hback, List.getElem?_eq_none (by omega)]
        simp only [Option.some.injEq]; omega
    · by_cases hm : i ∈ ids
      · left
        obtain ⟨k, hk⟩ := List.getElem?_of_mem hm
        have := hx2 k i hk
        rw [hi] at this
        cases hb2 : H2.at k with
        | none => rw [hb2] at this; cases this
        | some b2 =>
          rw [hb2] at this
          simp at this
          refine ⟨k, b2, by have := hid k i hk; omega, hb2, this, by rw [hback, hk], ?_⟩
          rw [hφ'id i hm, hφ1 k i hk]
      · right
        exact ⟨hm, by rw [← hx1 i hm hr]; exact hi, if_neg hr⟩
  have hunown : ∀ i blk b off sz lim len, i ∉ ids → H.at i = some blk → φ i = some (.at b off sz lim len) → ¬ Owned (H.only ids) (onlyφ φ ids) b := fun i blk b off sz lim len hi hb hl ho => by
    obtain ⟨k, b0, o', s', l', n', g1, g2⟩ := ho
    obtain ⟨j, b1, hj, hb1, _⟩ := only_at g1
    unfold onlyφ at g2; rw [hj] at g2
    have := h.inj i j blk b1 _ _ _ _ _ _ _ _ _ hb hb1 hl g2
    subst this
    exact hi (hmem k i hj)
  refine ⟨φ', hE, ⟨h2.imm, ?_, ?_, ?_⟩, ⟨h3.os, h3.tape, h3.output, h3.size, fun b hb ho => h3.keep b hb fun ho' => ho ho'.only, ?_, h3.imm, fun b hb hb' => (h3.grow b hb hb').imp id fun h => h.only⟩, hρ⟩
  · intro i blk hi
    rcases hcase i blk hi with ⟨k, b2, hk, hb2, rfl, hbk, hφ⟩ | ⟨hm, hb, hφ⟩
    · obtain ⟨loc, hl, hbr⟩ := h2.blk k b2 hb2
      exact ⟨loc, by rw [hφ]; exact hl, hbr.ren hρ⟩
    · obtain ⟨loc, hl, hbr⟩ := h.blk i blk hb
      refine ⟨loc, by rw [hφ]; exact hl, ?_⟩
      have hbr' := (hbr.mono hE.mono).imm h3.imm
      cases loc with
      | virt => exact hbr'.virt
      | «at» b off sz lim len => exact BRel.heap (h3.keep b hbr.lt (hunown i blk b off sz lim len hm hb hl)) hbr'
  · intro i blk b off sz lim len hi hl
    rcases hcase i blk hi with ⟨k, b2, hk, hb2, rfl, hbk, hφ⟩ | ⟨hm, hb, hφ⟩
    · rw [hφ] at hl; exact h2.own k b2 _ _ _ _ _ hb2 hl
    · rw [hφ] at hl
      have ho := h.own i blk _ _ _ _ _ hb hl
      cases hι : ι' b with
      | none => rfl
      | some o =>
        exfalso
        rcases h3.grow b ho (by rw [hι]; simp) with hs | hs
        · have := h.lt hb hl; omega
        · exact hunown i blk b _ _ _ _ hm hb hl hs
  · intro i i' blk blk' b o1 s1 l1 n1 o2 s2 l2 n2 hi hi' hl hl'
    have mixed : ∀ i i' k b2 blk' o1 s1 l1 n1 o2 s2 l2 n2, H2.at k = some b2 → φ1' k = some (.at b o1 s1 l1 n1) → i' ∉ ids → H.at i' = some blk' → φ i' = some (.at b o2 s2 l2 n2) → i = i' := fun i i' k b2 blk' o1 s1 l1 n1 o2 s2 l2 n2 hb2 hl hm hb hl' => by
      rcases h3.sub b ⟨k, b2, o1, s1, l1, n1, hb2, hl⟩ with hs | hs
      · have := h.lt hb hl'; omega
      · exact absurd hs (hunown i' blk' b _ _ _ _ hm hb hl')
    rcases hcase i blk hi with ⟨k, b2, hk, hb2, rfl, hbk, hφ⟩ | ⟨hm, hb, hφ⟩ <;> rcases hcase i' blk' hi' with ⟨k', b2', hk', hb2', rfl, hbk', hφ'⟩ | ⟨hm', hb', hφ'⟩
    · rw [hφ] at hl; rw [hφ'] at hl'
      have := h2.inj k k' b2 b2' _ _ _ _ _ _ _ _ _ hb2 hb2' hl hl'
      subst this
      rw [hbk] at hbk'; cases hbk'; rfl
    · rw [hφ] at hl; rw [hφ'] at hl'
      exact mixed i i' k b2 blk' _ _ _ _ _ _ _ _ hb2 hl hm' hb' hl'
    · rw [hφ] at hl; rw [hφ'] at hl'
      exact (mixed i' i k' b2' blk _ _ _ _ _ _ _ _ hb2' hl' hm hb hl).symm
    · rw [hφ] at hl; rw [hφ'] at hl'
      exact h.inj i i' blk blk' _ _ _ _ _ _ _ _ _ hb hb' hl hl'
  · intro b ho
    obtain ⟨i, blk, off, sz, lim, len, hi, hl⟩ := ho
    rcases hcase i blk hi with ⟨k, b2, hk, hb2, rfl, hbk, hφ⟩ | ⟨hm, hb, hφ⟩
    · rw [hφ] at hl
      rcases h3.sub b ⟨k, b2, off, sz, lim, len, hb2, hl⟩ with hs | hs
      · exact .inl hs
      · exact .inr hs.only
    · rw [hφ] at hl
      exact .inr ⟨i, blk, off, sz, lim, len, hb, hl⟩
end Go.AMach
