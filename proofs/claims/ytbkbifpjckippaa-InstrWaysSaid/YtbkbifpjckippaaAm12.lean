/- The abstract machine: one operation. -/
import Derived.Test.YtbkbifpjckippaaAm11
namespace Go.AMach
set_option linter.unusedVariables false
set_option linter.unusedSimpArgs false
set_option linter.unnecessarySimpa false
set_option linter.unusedSectionVars false
variable [Sites]
open Go.RowKit
set_option linter.unusedVariables false
set_option linter.unusedSimpArgs false
variable {P : Program}

/-- What the temporaries hold. -/
def ERel (ι : Iota) (φ : Phi) (vs : Array Value) (env : Env) : Prop := ∀ t, ARel ι φ (vs.getD t undef) (look env t)

theorem ev_rel {ι φ} {a : Act} {env : Env} (h : ERel ι φ a.tmps env) (x : Operand) : ARel ι φ (a.eval x) (ev env x) := by
  cases x with
  | tmp t => exact h t
  | const c =>
    simp only [Act.eval, ev, ofVal]
    split
    · rename_i cs
      have := ARels.lits (ι := ι) (φ := φ) cs.toList
      have := ARel.agg (ι := ι) (φ := φ) cs.toList _ this.1 this.2
      simpa using this
    · exact .v _
  | global g => exact .junk _
  | func f => exact .fn (.func f) [] [] [] [] rfl (fun i u c h => by simp at h) rfl (fun i u c h => by simp at h)

theorem evs_rel {ι φ} {a : Act} {env : Env} (h : ERel ι φ a.tmps env) (xs : List Operand) : ARels ι φ (xs.map a.eval) (xs.map (ev env)) :=
  ARels.mk_map _ _ _ fun x _ => ev_rel h x

theorem OR_map {ι φ} {a : Act} {env : Env} (h : ERel ι φ a.tmps env) (x : Option Operand) : OR ι φ (x.map a.eval) (x.map (ev env)) := by
  cases x with
  | none => trivial
  | some x => exact ev_rel h x

theorem ERel.mono {ι : Iota} {φ φ' : Phi} (hφ : ∀ i l, φ i = some l → φ' i = some l) {vs env} (h : ERel ι φ vs env) : ERel ι φ' vs env := fun t => (h t).mono hφ
theorem ERel.imm {ι ι' : Iota} (hι : ∀ b o, ι b = some o → ι' b = some o) {φ : Phi} {vs env} (h : ERel ι φ vs env) : ERel ι' φ vs env := fun t => (h t).imm hι

/-- What is to be known behind an operation. -/
def OpPost (P : Program) (ι : Iota) (φ : Phi) (H : AH) (w : World) (n : Nat) (r : AR AV) (H' : AH) (n' : Nat) (next : Value → World → Prop) (halt : Value → World → Prop) : Prop :=
  match r with
  | .ok x => ∀ u w' ι' φ', Ext φ φ' n n' → SRel ι' φ' H' w' → ARel ι' φ' u x → Frm ι H φ w ι' H' φ' w' → next u w'
  | .pn x => ∀ u w' ι' φ', Ext φ φ' n n' → SRel ι' φ' H' w' → ARel ι' φ' u x → Frm ι H φ w ι' H' φ' w' → halt u w'

theorem wp_of_sem {ι φ H w n} {o : Oper} {a : Act} {sem : Sem Value} {m : AM AV} {r H' n' next Q} (hex : execOp a.eval o = (do pure (.value (← sem)) : Sem Next))
    (hs : SoundM P ι φ H w n sem m) (hS : SRel ι φ H w) (hrun : m.run H n = some (r, H', n')) (hfr : ∀ i, n ≤ i → i < n' → φ i = .none)
    (hp : OpPost P ι φ H w n r H' n' (fun u w' => next (a.put o.dst u) w') (fun u w' => Q (.panic [{ v := u, recovered := false }]) a w')) : o.wp P a w next Q := by
  have h := hs hS r H' n' hrun hfr
  unfold Oper.wp
  rw [hex]
  cases r with
  | ok x =>
    obtain ⟨u, w', φ', h1, h2, h3, h4, h5⟩ := h
    simp only [Sem.run_bind, h1, Result.andThen_ok, Sem.run_pure, Oper.upon_value]
    exact hp u w' ι φ' h2 h3 h4 h5
  | pn x =>
    obtain ⟨u, w', φ', h1, h2, h3, h4, h5⟩ := h
    simp only [Sem.run_bind, h1, Result.andThen_halt, Oper.upon_panic]
    exact hp u w' ι φ' h2 h3 h4 h5

theorem undef_run {sem : Sem Unit} {w : World} {u : Value} {w' : World} (h : (do sem; pure undef : Sem Value).run P w = .ok u w') : sem.run P w = .ok () w' ∧ u = undef := by
  simp only [Sem.run_bind, Sem.run_pure] at h
  cases hr : sem.run P w with
  | ok v w1 => rw [hr] at h; simp at h; exact ⟨by rw [h.2], h.1.symm⟩
  | halt v w1 => rw [hr] at h; simp at h
theorem undef_halt {sem : Sem Unit} {w : World} {u : Halt} {w' : World} (h : (do sem; pure undef : Sem Value).run P w = .halt u w') : sem.run P w = .halt u w' := by
  simp only [Sem.run_bind, Sem.run_pure] at h
  cases hr : sem.run P w with
  | ok v w1 => rw [hr] at h; simp at h
  | halt v w1 => rw [hr] at h; simpa using h

theorem wp_of_unit {ι φ H w n} {o : Oper} {a : Act} {sem : Sem Unit} {m : AM AV} {r H' n' next Q} (hex : execOp a.eval o = (do sem; pure .skip : Sem Next))
    (hs : SoundM P ι φ H w n (do sem; pure undef) m) (hS : SRel ι φ H w) (hrun : m.run H n = some (r, H', n')) (hfr : ∀ i, n ≤ i → i < n' → φ i = .none)
    (hp : OpPost P ι φ H w n r H' n' (fun u w' => next (a.put o.dst u) w') (fun u w' => Q (.panic [{ v := u, recovered := false }]) a w')) : o.wp P a w next Q := by
  have h := hs hS r H' n' hrun hfr
  unfold Oper.wp
  rw [hex]
  cases r with
  | ok x =>
    obtain ⟨u, w', φ', h1, h2, h3, h4, h5⟩ := h
    obtain ⟨h1', rfl⟩ := undef_run h1
    have he : (do sem; pure .skip : Sem Next).run P w = .ok .skip w' := by simp [h1']
    rw [he, Oper.upon_skip]
    exact hp undef w' ι φ' h2 h3 h4 h5
  | pn x =>
    obtain ⟨u, w', φ', h1, h2, h3, h4, h5⟩ := h
    have h1' := undef_halt h1
    have he : (do sem; pure .skip : Sem Next).run P w = .halt (.panic u) w' := by simp [h1']
    rw [he, Oper.upon_panic]
    exact hp u w' ι φ' h2 h3 h4 h5

theorem callM_sound {cf : CallF} (hcf : CallSound P cf) {ι φ H w n} {f : FuncId} {args : List AV} {vs : List Value} (hv : ARels ι φ vs args) (hS : SRel ι φ H w) {r H' n'}
    (hrun : (callM cf f args).run H n = some (r, H', n')) (hfr : ∀ i, n ≤ i → i < n' → φ i = .none) :
    Calls P f vs.toArray w fun e w' => ∃ ι' φ', Ext φ φ' n n' ∧ SRel ι' φ' H' w' ∧ Frm ι H φ w ι' H' φ' w' ∧ EndRel ι' φ' r e := by
  unfold callM at hrun
  rw [AM.run_bind] at hrun
  cases hreach : (reachM (200 + 20 * (AV.idss args).length) (AV.idss args) []).run H n with
  | none => rw [hreach] at hrun; cases hrun
  | some res =>
  obtain ⟨r0, H0, n0⟩ := res
  obtain ⟨seen, rfl, rfl, rfl, hseen⟩ := reachM_run _ _ _ _ _ _ _ _ (fun x hx => by simp at hx) hreach
  rw [hreach] at hrun
  simp only [] at hrun
  generalize hlive : (seen.filterMap fun x => x.2.map fun b => (x.1, b)) = live at hrun
  generalize hids : live.map (·.1) = ids at hrun
  have hl : ∀ x ∈ live, H0.at x.1 = some x.2 := fun x hx => by
    subst hlive
    simp only [List.mem_filterMap, Option.map_eq_some_iff] at hx
    obtain ⟨y, hy, b, hb, rfl⟩ := hx
    rw [hseen y hy, hb]
  split at hrun
  case isFalse => simp [AM.run] at hrun
  rename_i hnd
  have hH1 : (live.map fun x => some (x.2.ren (idxOf ids))) = H0.only ids := by
    subst hids
    unfold AH.only
    rw [List.map_map]
    refine List.map_congr_left fun x hx => ?_
    simp [hl x hx]
  rw [hH1] at hrun
  have hlen1 : (H0.only ids).length = ids.length := by simp [AH.only]
  simp only [AM.run] at hrun
  cases hcall : (cf.call f (AV.rens (idxOf ids) args) (H0.only ids)).val with
  | none => rw [hcall] at hrun; cases hrun
  | some res =>
  obtain ⟨rc, H2⟩ := res
  rw [hcall] at hrun
  simp only [AM.run] at hrun
  have hc := hcf.call ι (onlyφ φ ids) (H0.only ids) w f _ vs rc H2 (hS.only hnd) (fun i hi => by
    unfold onlyφ; rw [List.getElem?_eq_none (by rw [← hlen1]; exact hi)]; rfl) (ARels.ren onlyφ_of hv) hcall
  generalize hbk : (fun k => (match ids[k]? with | some i => some i | none => some (n0 + (k - ids.length)) : Option Nat)) = back at hrun
  have hback : ∀ k, back k = match ids[k]? with | some i => some i | none => some (n0 + (k - ids.length)) := fun k => by rw [← hbk]
  rw [AM.run_bind] at hrun
  cases hwb : (writeBack back ids (H2.take ids.length)).run H0 n0 with
  | none => rw [hwb] at hrun; cases hrun
  | some res =>
  obtain ⟨r1, Ha, na⟩ := res
  obtain ⟨rfl, rfl, hwa, hwb'⟩ := writeBack_run ids _ _ _ _ _ _ hnd hwb
  rw [hwb] at hrun
  simp only [] at hrun
  rw [AM.run_bind] at hrun
  cases hna : (newAll back (H2.drop ids.length)).run Ha na with
  | none => rw [hna] at hrun; cases hrun
  | some res =>
  obtain ⟨r2, Hx, nb⟩ := res
  obtain ⟨rfl, rfl, hnx, hnx'⟩ := newAll_run _ _ _ _ _ _ hna
  rw [hna] at hrun
  simp only [] at hrun
  have hdl : (H2.drop ids.length).length = H2.length - ids.length := by simp
  have hn' : n' = na + (H2.length - ids.length) ∧ Hx = H' := by
    cases rc <;> simp [AM.run] at hrun <;> exact ⟨by rw [← hrun.2.2], hrun.2.1⟩
  obtain ⟨rfl, rfl⟩ := hn'
  have hat1 : ∀ k, k < ids.length → AH.at (H2.take ids.length) k = H2.at k := fun k hk => by
    unfold AH.at; rw [List.getD_eq_getElem?_getD, List.getD_eq_getElem?_getD, List.getElem?_take, if_pos hk]
  have hat2 : ∀ k, AH.at (H2.drop ids.length) k = H2.at (ids.length + k) := fun k => by
    unfold AH.at; rw [List.getD_eq_getElem?_getD, List.getD_eq_getElem?_getD, List.getElem?_drop]
  refine hc.mono fun e w' ⟨ι', φ1', h1, h2, h3, h4⟩ => ?_
  rw [hlen1] at h1
  have hlive' : ∀ i ∈ ids, ∃ b, H0.at i = some b := fun i hi => by
    subst hids
    obtain ⟨x, hx, rfl⟩ := List.mem_map.1 hi
    exact ⟨x.2, hl x hx⟩
  have hnotnew : ∀ i ∈ ids, ¬ (na ≤ i ∧ i < na + (H2.length - ids.length)) := fun i hi hr => by
    obtain ⟨b, hb⟩ := hlive' i hi
    obtain ⟨l, hl', _⟩ := hS.blk i b hb
    rw [hfr i hr.1 hr.2] at hl'; cases hl'
  obtain ⟨φ', g1, g2, g3, g4⟩ := hS.rejoin (Hx := Hx) (back := back) (nx := na) hnd hback hlive' h1 h2 h3 hfr
    (fun i hi hr => by rw [hnx i (by rw [hdl]; exact hr), hwa i hi])
    (fun k i hk => by
      have hkl : k < ids.length := (List.getElem?_eq_some_iff.1 hk).1
      rw [hnx i (by rw [hdl]; exact hnotnew i (List.mem_of_getElem? hk)), hwb' k i hk, hat1 k hkl])
    (fun k hk => by rw [hnx' k (by rw [hdl]; exact hk), hat2 k])
  refine ⟨ι', φ', g1, g2, g3, ?_⟩
  cases rc with
  | ok x =>
    obtain ⟨u, rfl, hu⟩ := h4
    simp [AM.run] at hrun
    rw [← hrun]
    exact ⟨u, rfl, hu.ren g4⟩
  | pn x =>
    obtain ⟨u, rfl, hu⟩ := h4
    simp [AM.run] at hrun
    rw [← hrun]
    exact ⟨u, rfl, hu.ren g4⟩

theorem seenAt_mem : ∀ {seen : List (Nat × Option AB)} {i : Nat} {b : AB}, seenAt seen i = some b → (i, some b) ∈ seen
  | [], i, b, h => by cases h
  | (k, x) :: r, i, b, h => by
    simp only [seenAt] at h
    cases hb : Nat.beq i k with
    | true => rw [hb] at h; simp at h; rw [h, Nat.eq_of_beq_eq_true hb]; exact List.mem_cons_self
    | false => rw [hb] at h; exact List.mem_cons_of_mem _ (seenAt_mem (by simpa using h))

theorem AV.flat_rel {ι ι' φ φ'} {u : Value} {x : AV} (h : ARel ι φ u x) (hf : x.flat = true) : ARel ι' φ' u x := by
  have lst : ∀ {vs : List Value} {cs : List AV}, ARels ι φ vs cs → cs.all (fun c => match c with | .v _ => true | _ => false) = true → ARels ι' φ' vs cs := fun {vs cs} h hf => by
    refine ⟨h.1, fun i u c hu hc => ?_⟩
    have hr := h.2 i u c hu hc
    rw [List.all_eq_true] at hf
    have := hf c (List.mem_of_getElem? hc)
    cases hr <;> simp at this
    exact .v _
  cases h with
  | v => exact .v _
  | agg vs cs hl h => have := lst (⟨hl, h⟩ : ARels ι φ vs cs) hf; exact .agg vs cs this.1 this.2
  | tup vs cs hl h => have := lst (⟨hl, h⟩ : ARels ι φ vs cs) hf; exact .tup vs cs this.1 this.2
  | _ => simp [AV.flat] at hf

theorem ARel.fl1 {ι ι' : Iota} {φ : Phi} {u : Value} {x : AV} (h : ARel ι φ u x) (hf : x.fl1 = true) : ARel ι' φ u x := by
  cases h with
  | v => exact .v _
  | junk => exact .junk _
  | agg vs cs hl h =>
    refine .agg vs cs hl fun i u c hu hc => ?_
    have hr := h i u c hu hc
    simp only [AV.fl1, List.all_eq_true] at hf
    have := hf c (List.mem_of_getElem? hc)
    cases hr <;> simp at this
    exact .v _
  | ptr id e j b off sz lim len h he => exact .ptr id e j b off sz lim len h he
  | hs tg id e n a cap loc h hc ht hm => exact .hs tg id e n a cap loc h hc ht hm
  | mp id b off sz lim len h => exact .mp id b off sz lim len h
  | _ => simp [AV.fl1] at hf
theorem ARel.solid {ι ι' : Iota} {φ : Phi} {u : Value} {x : AV} (h : ARel ι φ u x) (hf : x.solid = true) : ARel ι' φ u x := by
  cases x with
  | tup cs =>
    cases h with
    | tup vs _ hl h =>
    refine .tup vs cs hl fun i u c hu hc => (h i u c hu hc).fl1 ?_
    simp only [AV.solid, List.all_eq_true] at hf
    exact hf c (List.mem_of_getElem? hc)
  | _ => exact h.fl1 hf
theorem enc_fl1 : ∀ (T : Ty) (s : T.sem), T.noSl = true → ∀ x ∈ T.enc s, x.fl1 = true
  | .int k, s, _, x, hx => by simp [Ty.enc] at hx; subst hx; rfl
  | .bool, s, _, x, hx => by simp [Ty.enc] at hx; subst hx; rfl
  | .str, s, _, x, hx => by simp [Ty.enc] at hx; subst hx; rfl
  | .slice t, s, h, x, hx => by cases h
  | .unit, s, _, x, hx => by simp [Ty.enc] at hx
  | .pair a b, s, h, x, hx => by
    simp only [Ty.noSl, Bool.and_eq_true] at h
    simp only [Ty.enc, List.mem_append] at hx
    rcases hx with hx | hx
    · exact enc_fl1 a _ h.1 x hx
    · exact enc_fl1 b _ h.2 x hx
theorem rows_fl1 {es : Rows AV} (h : es.solid = true) {e j : Nat} {c : List AV} {x : AV} (hc : es.toL[e]? = some c) (hx : c[j]? = some x) : x.fl1 = true := by
  obtain ⟨he, rfl⟩ := toL_some.1 hc
  cases es with
  | ty T l => exact enc_fl1 T _ h x (List.mem_of_getElem? hx)
  | lit es =>
    have hc' : es[e]? = some (rowAt es e) := rowAt_get he
    simp only [Rows.solid, List.all_eq_true] at h
    exact h _ (List.mem_of_getElem? hc') x (List.mem_of_getElem? hx)
  | _ => cases h
theorem solidH_at : ∀ {H : AH} {k : Nat} {b : AB}, solidH H = true → H.at k = some b → ∃ p sz es, b = .row p sz es ∧ es.solid = true
  | [], k, b, h, hb => by simp [AH.at] at hb
  | none :: r, 0, b, h, hb => by rw [at_cons_zero] at hb; cases hb
  | none :: r, k + 1, b, h, hb => by rw [at_cons_succ] at hb; exact solidH_at (H := r) (by simpa [solidH] using h) hb
  | some (.row p sz es) :: r, 0, b, h, hb => by
    rw [at_cons_zero] at hb
    cases hb
    simp only [solidH, Bool.and_eq_true] at h
    exact ⟨p, sz, es, rfl, h.1⟩
  | some (.row p sz es) :: r, k + 1, b, h, hb => by
    rw [at_cons_succ] at hb
    simp only [solidH, Bool.and_eq_true] at h
    exact solidH_at h.2 hb
  | some (.mp ..) :: r, k, b, h, hb => by simp [solidH] at h
  | some (.mf ..) :: r, k, b, h, hb => by simp [solidH] at h
  | some (.lp ..) :: r, k, b, h, hb => by simp [solidH] at h
theorem BRel.solid {ι ι' φ} {w : World} {loc : Loc} {p : Bool} {sz : Nat} {es : Rows AV} (h : BRel ι φ w loc (.row p sz es)) (hf : es.solid = true) : BRel ι' φ w loc (.row p sz es) := by
  cases loc with
  | virt => exact h
  | «at» b off sz' lim len =>
    obtain ⟨h1, h2, h3, cs, T, F, h4, h5, h6, h7⟩ := h
    exact ⟨h1, h2, h3, cs, T, F, h4, h5, h6, h7.1, fun e j c x hc hx => by
      obtain ⟨u, hu, hr, ho⟩ := h7.2 e j c x hc hx
      exact ⟨u, hu, hr.fl1 (rows_fl1 hf hc hx), ho⟩⟩

theorem lendM_sound {cf : CallF} (hcf : CallSound P cf) {ι φ H w n} {f : FuncId} {Ts : List Ty} {args : List AV} {vs : List Value} (hv : ARels ι φ vs args) (hS : SRel ι φ H w) {r H' n'}
    (hrun : (lendM cf f Ts args).run H n = some (r, H', n')) (hfr : ∀ i, n ≤ i → i < n' → φ i = .none) :
    Calls P f vs.toArray w fun e w' => ∃ ι' φ', Ext φ φ' n n' ∧ SRel ι' φ' H' w' ∧ Frm ι H φ w ι' H' φ' w' ∧ EndRel ι' φ' r e := by
  unfold lendM at hrun
  rw [AM.run_bind] at hrun
  cases hreach : (reachM (200 + 20 * (AV.idss args).length) (AV.idss args) []).run H n with
  | none => rw [hreach] at hrun; cases hrun
  | some res =>
  obtain ⟨r0, H0, n0⟩ := res
  obtain ⟨seen, rfl, rfl, rfl, hseen⟩ := reachM_run _ _ _ _ _ _ _ _ (fun x hx => by simp at hx) hreach
  rw [hreach] at hrun
  simp only [] at hrun
  split at hrun
  case h_2 => simp [AM.run] at hrun
  rename_i xs hxs
  simp only [AM.run] at hrun
  cases hcall : (cf.call f xs []).val with
  | none => rw [hcall] at hrun; cases hrun
  | some res =>
  obtain ⟨rc, H2⟩ := res
  rw [hcall] at hrun
  simp only [] at hrun
  have hι : ∀ b o, ι b = some o → (fun b => w.heap[b]?) b = some o := hS.imm
  have hargs := asDatas_rel (ι' := fun b => w.heap[b]?) (fun i b hb => hS.blk i b (hseen _ (seenAt_mem hb))) hι (fun _ _ _ _ _ _ _ _ _ => rfl) hv hxs
  have hS0 : SRel (fun b => w.heap[b]?) Phi.none [] w := ⟨fun b o h => h, fun id b h => by simp [AH.at] at h, fun id b _ _ _ _ _ h => by simp [AH.at] at h, fun id _ b _ _ _ _ _ _ _ _ _ _ h => by simp [AH.at] at h⟩
  have hc := hcf.call (fun b => w.heap[b]?) Phi.none [] w f xs vs rc H2 hS0 (fun _ _ => rfl) hargs hcall
  have hno : ∀ b, ¬ Owned [] Phi.none b := fun b ⟨id, blk, _, _, _, _, h, _⟩ => by simp [AH.at] at h
  by_cases hnew : ∃ x b H3, rc = .ok x ∧ H2 = b :: H3
  · obtain ⟨x, b, H3, rfl, rfl⟩ := hnew
    simp only [] at hrun
    split at hrun
    case isFalse => simp [AM.run] at hrun
    rename_i hsol
    simp only [Bool.and_eq_true] at hsol
    simp only [AM.run] at hrun
    rw [AM.run_bind] at hrun
    cases hna : (newAll (fun k => some (n0 + (k - 0))) (b :: H3)).run H0 n0 with
    | none => rw [hna] at hrun; cases hrun
    | some res =>
    obtain ⟨r2, Hx, nb⟩ := res
    obtain ⟨rfl, rfl, hnx, hnx'⟩ := newAll_run _ _ _ _ _ _ hna
    rw [hna] at hrun
    simp only [AM.run, Option.some.injEq, Prod.mk.injEq] at hrun
    obtain ⟨rfl, rfl, rfl⟩ := hrun
    refine hc.mono fun e w' ⟨ι', φ', h1, h2, h3, h4⟩ => ?_
    have hkeep : ∀ b, b < w.heap.size → w'.heap[b]? = w.heap[b]? := fun b hb => h3.keep b hb (hno b)
    have h2' : SRel ι φ' (b :: H3) w' := by
      refine ⟨fun k o hk => ?_, fun id blk hb => ?_, fun id blk bl off sz lim len hb hl => ?_, h2.inj⟩
      · have hb' := hS.imm k o hk
        rw [hkeep k (Array.getElem?_eq_some_iff.1 hb').1]; exact hb'
      · obtain ⟨loc, hl, hbr⟩ := h2.blk id blk hb
        obtain ⟨p, sz, es, rfl, hes⟩ := solidH_at hsol.2 hb
        exact ⟨loc, hl, hbr.solid hes⟩
      · rcases h3.sub bl ⟨id, blk, off, sz, lim, len, hb, hl⟩ with h | h
        · cases hι : ι bl with
          | none => rfl
          | some o =>
            have := (Array.getElem?_eq_some_iff.1 (hS.imm bl o hι)).1
            omega
        · exact absurd h (hno bl)
    have eφ : onlyφ φ [] = Phi.none := by funext k; simp [onlyφ, Phi.none]
    have eH : H0.only [] = [] := rfl
    have h3' : Frm ι (H0.only []) (onlyφ φ []) w ι (b :: H3) φ' w' := by
      rw [eφ, eH]
      exact ⟨h3.os, h3.tape, h3.output, h3.size, h3.keep, h3.sub, fun _ _ h => h, fun _ h h' => absurd h h'⟩
    obtain ⟨φ'', g1, g2, g3, g4⟩ := hS.rejoin (Hx := Hx) (ids := []) (nx := n0) (back := fun k => some (n0 + (k - 0))) List.nodup_nil (fun k => by simp) (fun i hi => by cases hi) (by rw [eφ]; exact h1) h2' h3'
      (fun i hi1 hi2 => hfr i hi1 (by simpa using hi2)) (fun i _ hi => hnx i (by simpa using hi)) (fun k i hk => by simp at hk) (fun k hk => by
        have := hnx' k (by simpa using hk)
        simpa using this)
    obtain ⟨u, rfl, hu⟩ := h4
    exact ⟨ι, φ'', by simpa using g1, g2, g3, u, rfl, (hu.solid hsol.1).ren g4⟩
  have hH2 : H2 = [] ∧ ∃ x, (rc = .ok x ∨ rc = .pn x) ∧ x.flat = true ∧ r = rc ∧ H' = H0 ∧ n' = n0 := by
    split at hrun
    · rename_i x
      split at hrun
      case isFalse => simp [AM.run] at hrun
      rename_i hf
      simp only [AM.run, Option.some.injEq, Prod.mk.injEq] at hrun
      obtain ⟨rfl, rfl, rfl⟩ := hrun
      exact ⟨rfl, x, .inl rfl, hf, rfl, rfl, rfl⟩
    · rename_i x
      split at hrun
      case isFalse => simp [AM.run] at hrun
      rename_i hf
      simp only [AM.run, Option.some.injEq, Prod.mk.injEq] at hrun
      obtain ⟨rfl, rfl, rfl⟩ := hrun
      exact ⟨rfl, x, .inr rfl, hf, rfl, rfl, rfl⟩
    · exact absurd ⟨_, _, _, rfl, rfl⟩ hnew
    · simp [AM.run] at hrun
  obtain ⟨rfl, x, hx, hf, rfl, rfl, rfl⟩ := hH2
  refine hc.mono fun e w' ⟨ι', φ', h1, h2, h3, h4⟩ => ?_
  have hkeep : ∀ b, b < w.heap.size → w'.heap[b]? = w.heap[b]? := fun b hb => h3.keep b hb (hno b)
  have himm : ∀ b o, ι b = some o → w'.heap[b]? = some o := fun b o hb => by
    have hb' := hS.imm b o hb
    rw [hkeep b (Array.getElem?_eq_some_iff.1 hb').1]; exact hb'
  refine ⟨ι, φ, Ext.refl _ _, ⟨himm, fun id b hb => ?_, hS.own, hS.inj⟩, ⟨h3.os, h3.tape, h3.output, h3.size, fun b hb _ => hkeep b hb, fun b hb => .inr hb, fun _ _ h => h, fun _ h h' => absurd h h'⟩, ?_⟩
  · obtain ⟨loc, hl, hbr⟩ := hS.blk id b hb
    refine ⟨loc, hl, ?_⟩
    cases loc with
    | virt => exact hbr.virt
    | «at» b off sz lim len => exact BRel.heap (hkeep b hbr.lt) hbr
  · rcases hx with rfl | rfl
    · obtain ⟨u, he, hu⟩ := h4
      exact ⟨u, he, AV.flat_rel hu hf⟩
    · obtain ⟨u, he, hu⟩ := h4
      exact ⟨u, he, AV.flat_rel hu hf⟩

open Classical in
theorem mixArgs_rel {ι ι' : Iota} {φ φ' : Phi} {w : World} {hp : Nat → Option AB} {ρ : Nat → Option Nat} (hblk : ∀ i b, hp i = some b → ∃ loc, φ i = some loc ∧ BRel ι φ w loc b) (h1 : ∀ b o, ι b = some o → ι' b = some o)
    (h2 : ∀ id blk, hp id = some blk → ∀ b off sz lim len, φ id = some (.at b off sz lim len) → ι' b = w.heap[b]?) (hρ : ∀ i k, ρ i = some k → ∀ l, φ i = some l → φ' k = some l) :
    ∀ {Ts : List (Option Ty)} {us : List Value} {xs ys : List AV}, ARels ι φ us xs → mixArgs hp ρ Ts xs = some ys → ARels ι' φ' us ys
  | [], us, [], ys, h, hy => by
    simp [mixArgs] at hy; subst hy; rw [h.nil_inv]; exact ARels.nil
  | [], us, x :: xs, ys, h, hy => by simp [mixArgs] at hy
  | T :: Ts, us, [], ys, h, hy => by cases T <;> simp [mixArgs] at hy
  | none :: Ts, us, x :: xs, ys, h, hy => by
    obtain ⟨u, us, rfl, k1, k2⟩ := h.uncons
    simp only [mixArgs] at hy
    split at hy
    · rename_i zs hz
      cases hy
      exact ARels.cons ((k1.ren hρ).imm h1) (mixArgs_rel hblk h1 h2 hρ k2 hz)
    · cases hy
  | some T :: Ts, us, x :: xs, ys, h, hy => by
    obtain ⟨u, us, rfl, k1, k2⟩ := h.uncons
    simp only [mixArgs] at hy
    split at hy
    · rename_i z zs hz1 hz2
      cases hy
      exact ARels.cons ((asData_rel hblk h1 h2 k1 hz1).mono fun i l hl => by cases hl) (mixArgs_rel hblk h1 h2 hρ k2 hz2)
    · cases hy

open Classical in
theorem mixM_sound {cf : CallF} (hcf : CallSound P cf) {ι φ H w n} {f : FuncId} {Ts : List (Option Ty)} {args : List AV} {vs : List Value} (hv : ARels ι φ vs args) (hS : SRel ι φ H w) {r H' n'}
    (hrun : (mixM cf f Ts args).run H n = some (r, H', n')) (hfr : ∀ i, n ≤ i → i < n' → φ i = .none) :
    Calls P f vs.toArray w fun e w' => ∃ ι' φ', Ext φ φ' n n' ∧ SRel ι' φ' H' w' ∧ Frm ι H φ w ι' H' φ' w' ∧ EndRel ι' φ' r e := by
  unfold mixM at hrun
  rw [AM.run_bind] at hrun
  cases hreach : (reachM (200 + 20 * (AV.idss args).length) (AV.idss (mixKept Ts args)) []).run H n with
  | none => rw [hreach] at hrun; cases hrun
  | some res =>
  obtain ⟨r0, H0, n0⟩ := res
  obtain ⟨seen, rfl, rfl, rfl, hseen⟩ := reachM_run _ _ _ _ _ _ _ _ (fun x hx => by simp at hx) hreach
  rw [hreach] at hrun
  simp only [] at hrun
  rw [AM.run_bind] at hrun
  cases hreachD : (reachM (200 + 20 * (AV.idss args).length) (AV.idss (mixLent Ts args)) []).run H0 n0 with
  | none => rw [hreachD] at hrun; cases hrun
  | some res =>
  obtain ⟨r0', H0, n0⟩ := res
  obtain ⟨seenD, rfl, rfl, rfl, hseenD⟩ := reachM_run _ _ _ _ _ _ _ _ (fun x hx => by simp at hx) hreachD
  rw [hreachD] at hrun
  simp only [] at hrun
  generalize hlive : (seen.filterMap fun x => x.2.map fun b => (x.1, b)) = live at hrun
  generalize hids : live.map (·.1) = ids at hrun
  have hl : ∀ x ∈ live, H0.at x.1 = some x.2 := fun x hx => by
    subst hlive
    simp only [List.mem_filterMap, Option.map_eq_some_iff] at hx
    obtain ⟨y, hy, b, hb, rfl⟩ := hx
    rw [hseen y hy, hb]
  split at hrun
  case isFalse => simp [AM.run] at hrun
  rename_i hnd0
  obtain ⟨hnd, hdis⟩ := hnd0
  split at hrun
  case h_2 => simp [AM.run] at hrun
  rename_i xs hxs
  have hH1 : (live.map fun x => some (x.2.ren (idxOf ids))) = H0.only ids := by
    subst hids
    unfold AH.only
    rw [List.map_map]
    refine List.map_congr_left fun x hx => ?_
    simp [hl x hx]
  rw [hH1] at hrun
  have hlen1 : (H0.only ids).length = ids.length := by simp [AH.only]
  simp only [AM.run] at hrun
  cases hcall : (cf.call f xs (H0.only ids)).val with
  | none => rw [hcall] at hrun; cases hrun
  | some res =>
  obtain ⟨rc, H2⟩ := res
  rw [hcall] at hrun
  simp only [AM.run] at hrun
  have hS1 := hS.only hnd
  let ι1 : Iota := fun b => if Owned (H0.only ids) (onlyφ φ ids) b then none else w.heap[b]?
  have hι : ∀ b o, ι b = some o → ι1 b = some o := fun b o h => by
    have hno : ¬ Owned (H0.only ids) (onlyφ φ ids) b := fun ⟨id, blk, off, sz, lim, len, k1, k2⟩ => by
      rw [hS1.own id blk b off sz lim len k1 k2] at h; cases h
    simp only [ι1, if_neg hno]; exact hS.imm b o h
  have hS2 : SRel ι1 (onlyφ φ ids) (H0.only ids) w := ⟨fun b o h => by
      simp only [ι1] at h
      split at h
      · cases h
      · exact h, fun id b h => by
      obtain ⟨loc, k1, k2⟩ := hS1.blk id b h
      exact ⟨loc, k1, k2.imm hι⟩, fun id blk b off sz lim len h1 h2 => by simp only [ι1]; rw [if_pos ⟨id, blk, off, sz, lim, len, h1, h2⟩], hS1.inj⟩
  have hargs := mixArgs_rel (ι' := ι1) (φ' := onlyφ φ ids) (fun i b hb => hS.blk i b (hseenD _ (seenAt_mem hb))) hι (fun id blk hb b off sz lim len hl0 => by
    have hno : ¬ Owned (H0.only ids) (onlyφ φ ids) b := fun ⟨k, blk', off', sz', lim', len', k1, k2⟩ => by
      obtain ⟨i, b0, hi, h0, rfl⟩ := only_at k1
      have hk : onlyφ φ ids k = φ i := by unfold onlyφ; rw [hi]; rfl
      rw [hk] at k2
      have := hS.inj id i blk b0 b off sz lim len off' sz' lim' len' (hseenD _ (seenAt_mem hb)) h0 hl0 k2
      subst this
      have hd := List.all_eq_true.1 hdis _ (seenAt_mem hb)
      simp at hd
      exact hd (List.mem_of_getElem? hi)
    show (if Owned (H0.only ids) (onlyφ φ ids) b then none else w.heap[b]?) = w.heap[b]?
    rw [if_neg hno]) onlyφ_of hv hxs
  have hc := hcf.call ι1 (onlyφ φ ids) (H0.only ids) w f _ vs rc H2 hS2 (fun i hi => by
    unfold onlyφ; rw [List.getElem?_eq_none (by rw [← hlen1]; exact hi)]; rfl) hargs hcall
  generalize hbk : (fun k => (match ids[k]? with | some i => some i | none => some (n0 + (k - ids.length)) : Option Nat)) = back at hrun
  have hback : ∀ k, back k = match ids[k]? with | some i => some i | none => some (n0 + (k - ids.length)) := fun k => by rw [← hbk]
  split at hrun
  case isFalse => simp [AM.run] at hrun
  rename_i hsol
  rw [AM.run_bind] at hrun
  cases hwb : (writeBack back ids (H2.take ids.length)).run H0 n0 with
  | none => rw [hwb] at hrun; cases hrun
  | some res =>
  obtain ⟨r1, Ha, na⟩ := res
  obtain ⟨rfl, rfl, hwa, hwb'⟩ := writeBack_run ids _ _ _ _ _ _ hnd hwb
  rw [hwb] at hrun
  simp only [] at hrun
  rw [AM.run_bind] at hrun
  cases hna : (newAll back (H2.drop ids.length)).run Ha na with
  | none => rw [hna] at hrun; cases hrun
  | some res =>
  obtain ⟨r2, Hx, nb⟩ := res
  obtain ⟨rfl, rfl, hnx, hnx'⟩ := newAll_run _ _ _ _ _ _ hna
  rw [hna] at hrun
  simp only [] at hrun
  have hdl : (H2.drop ids.length).length = H2.length - ids.length := by simp
  have hn' : n' = na + (H2.length - ids.length) ∧ Hx = H' := by
    cases rc <;> simp only [] at hrun <;> split at hrun <;> simp [AM.run] at hrun <;> exact ⟨by rw [← hrun.2.2], hrun.2.1⟩
  obtain ⟨rfl, rfl⟩ := hn'
  have hat1 : ∀ k, k < ids.length → AH.at (H2.take ids.length) k = H2.at k := fun k hk => by
    unfold AH.at; rw [List.getD_eq_getElem?_getD, List.getD_eq_getElem?_getD, List.getElem?_take, if_pos hk]
  have hat2 : ∀ k, AH.at (H2.drop ids.length) k = H2.at (ids.length + k) := fun k => by
    unfold AH.at; rw [List.getD_eq_getElem?_getD, List.getD_eq_getElem?_getD, List.getElem?_drop]
  refine hc.mono fun e w' ⟨ι', φ1', h1, h2, h3, h4⟩ => ?_
  rw [hlen1] at h1
  have h2' : SRel ι φ1' H2 w' := by
    refine ⟨fun k o hk => ?_, fun id blk hb => ?_, fun id blk bl off sz lim len hb hl => ?_, h2.inj⟩
    · exact h2.imm k o (h3.imm k o (hι k o hk))
    · obtain ⟨loc, hl, hbr⟩ := h2.blk id blk hb
      obtain ⟨p, sz, es, rfl, hes⟩ := solidH_at hsol hb
      exact ⟨loc, hl, hbr.solid hes⟩
    · cases hιb : ι bl with
      | none => rfl
      | some o =>
        have := h3.imm bl o (hι bl o hιb)
        rw [h2.own id blk bl off sz lim len hb hl] at this; cases this
  have h3' : Frm ι (H0.only ids) (onlyφ φ ids) w ι H2 φ1' w' := ⟨h3.os, h3.tape, h3.output, h3.size, h3.keep, h3.sub, fun _ _ h => h, fun _ h h' => absurd h h'⟩
  have hlive' : ∀ i ∈ ids, ∃ b, H0.at i = some b := fun i hi => by
    subst hids
    obtain ⟨x, hx, rfl⟩ := List.mem_map.1 hi
    exact ⟨x.2, hl x hx⟩
  have hnotnew : ∀ i ∈ ids, ¬ (na ≤ i ∧ i < na + (H2.length - ids.length)) := fun i hi hr => by
    obtain ⟨b, hb⟩ := hlive' i hi
    obtain ⟨l, hl', _⟩ := hS.blk i b hb
    rw [hfr i hr.1 hr.2] at hl'; cases hl'
  obtain ⟨φ', g1, g2, g3, g4⟩ := hS.rejoin (Hx := Hx) (back := back) (nx := na) hnd hback hlive' h1 h2' h3' hfr
    (fun i hi hr => by rw [hnx i (by rw [hdl]; exact hr), hwa i hi])
    (fun k i hk => by
      have hkl : k < ids.length := (List.getElem?_eq_some_iff.1 hk).1
      rw [hnx i (by rw [hdl]; exact hnotnew i (List.mem_of_getElem? hk)), hwb' k i hk, hat1 k hkl])
    (fun k hk => by rw [hnx' k (by rw [hdl]; exact hk), hat2 k])
  refine ⟨ι, φ', g1, g2, g3, ?_⟩
  cases rc with
  | ok x =>
    obtain ⟨u, rfl, hu⟩ := h4
    simp only [] at hrun
    split at hrun
    case isFalse => simp [AM.run] at hrun
    rename_i hsx
    simp [AM.run] at hrun
    rw [← hrun]
    exact ⟨u, rfl, (hu.solid hsx).ren g4⟩
  | pn x =>
    obtain ⟨u, rfl, hu⟩ := h4
    simp only [] at hrun
    split at hrun
    case isFalse => simp [AM.run] at hrun
    rename_i hsx
    simp [AM.run] at hrun
    rw [← hrun]
    exact ⟨u, rfl, (hu.solid hsx).ren g4⟩

theorem dataM_sound {cf : CallF} (hcf : CallSound P cf) {ι φ H w n} {f : FuncId} {Ts : List Ty} {args : List AV} {vs : List Value} (hv : ARels ι φ vs args) (hS : SRel ι φ H w) {r H' n'}
    (hrun : (dataM cf f Ts args).run H n = some (r, H', n')) (hfr : ∀ i, n ≤ i → i < n' → φ i = .none) :
    Calls P f vs.toArray w fun e w' => ∃ ι' φ', Ext φ φ' n n' ∧ SRel ι' φ' H' w' ∧ Frm ι H φ w ι' H' φ' w' ∧ EndRel ι' φ' r e := by
  unfold dataM at hrun
  split at hrun
  · split at hrun
    case h_2 => simp [AM.run] at hrun
    rename_i xs hxs
    have hx := asDatas_rel (ι' := ι) (hp := fun _ => none) (w := w) (fun i b hb => by cases hb) (fun _ _ h => h) (fun id blk hb => by cases hb) hv hxs
    exact callM_sound hcf (hx.mono fun i l hl => by cases hl) hS hrun hfr
  · exact lendM_sound hcf hv hS hrun hfr

theorem maxF_run (w : World) {ι φ} : ∀ {k : IntKind} {x : Int} {vs : List Value} {xs : List AV} {y : AV}, ARels ι φ vs xs → maxF k x xs = some y → ∃ u, (vs.foldlM Builtin.max2 (.int k x)).run P w = .ok u w ∧ ARel ι φ u y
  | k, x, vs, [], y, h, hy => by
    simp [maxF] at hy; subst hy
    rw [h.nil_inv]
    exact ⟨_, by simp, .v _⟩
  | k, x, vs, a :: xs, y, h, hy => by
    obtain ⟨u, us, rfl, h1, h2⟩ := h.uncons
    unfold maxF at hy
    split at hy
    · rename_i heq; cases heq
    · rename_i heq
      simp at heq
      obtain ⟨rfl, rfl⟩ := heq
      cases h1
      obtain ⟨u, hu, hr⟩ := maxF_run w h2 hy
      exact ⟨u, by simp [List.foldlM_cons, Builtin.max2]; simpa using hu, hr⟩
    · cases hy
theorem minF_run (w : World) {ι φ} : ∀ {k : IntKind} {x : Int} {vs : List Value} {xs : List AV} {y : AV}, ARels ι φ vs xs → minF k x xs = some y → ∃ u, (vs.foldlM Builtin.min2 (.int k x)).run P w = .ok u w ∧ ARel ι φ u y
  | k, x, vs, [], y, h, hy => by
    simp [minF] at hy; subst hy
    rw [h.nil_inv]
    exact ⟨_, by simp, .v _⟩
  | k, x, vs, a :: xs, y, h, hy => by
    obtain ⟨u, us, rfl, h1, h2⟩ := h.uncons
    unfold minF at hy
    split at hy
    · rename_i heq; cases heq
    · rename_i heq
      simp at heq
      obtain ⟨rfl, rfl⟩ := heq
      cases h1
      obtain ⟨u, hu, hr⟩ := minF_run w h2 hy
      exact ⟨u, by simp [List.foldlM_cons, Builtin.min2]; simpa using hu, hr⟩
    · cases hy

theorem sound_max {ι φ H w n} {ts : Array TypeId} {ty : TypeId} {vs : List Value} {xs : List AV} (h : ARels ι φ vs xs) : SoundM P ι φ H w n (Builtin.max_ ts ty vs.toArray) (.ofO (maxI xs)) := by
  refine SoundM.ofO fun y hy => ?_
  unfold maxI at hy
  split at hy
  · obtain ⟨u, us, rfl, h1, h2⟩ := h.uncons
    cases h1
    obtain ⟨u, hu, hr⟩ := maxF_run (P := P) w h2 hy
    exact ⟨u, by simpa [Builtin.max_] using hu, hr⟩
  · cases hy
theorem sound_min {ι φ H w n} {ts : Array TypeId} {ty : TypeId} {vs : List Value} {xs : List AV} (h : ARels ι φ vs xs) : SoundM P ι φ H w n (Builtin.min_ ts ty vs.toArray) (.ofO (minI xs)) := by
  refine SoundM.ofO fun y hy => ?_
  unfold minI at hy
  split at hy
  · obtain ⟨u, us, rfl, h1, h2⟩ := h.uncons
    cases h1
    obtain ⟨u, hu, hr⟩ := minF_run (P := P) w h2 hy
    exact ⟨u, by simpa [Builtin.min_] using hu, hr⟩
  · cases hy

theorem sound_builtin {ι φ H w n} {b : Builtin} {ts : Array TypeId} {ty : TypeId} {cs : Array Bool} {vs : List Value} {xs : List AV} (h : ARels ι φ vs xs) (hb : builtinM P b ts xs ≠ .fail) :
    ∃ sem : Sem Value, builtin b ts ty cs vs.toArray = (do pure (.value (← sem)) : Sem Next) ∧ SoundM P ι φ H w n sem (builtinM P b ts xs) := by
  cases b <;> first
    | exact ⟨_, rfl, sound_append2 h⟩
    | exact ⟨_, rfl, sound_copy h⟩
    | exact ⟨_, rfl, sound_clear h⟩
    | exact ⟨_, rfl, sound_len h⟩
    | exact ⟨_, rfl, sound_max h⟩
    | exact ⟨_, rfl, sound_min h⟩
    | exact absurd rfl hb

theorem toList_map_toArray {α β : Type} (xs : Array α) (f : α → β) : xs.map f = (xs.toList.map f).toArray := by apply Array.ext'; simp

theorem op_sound {cf : CallF} (hcf : CallSound P cf) {ι φ H w n} {a : Act} {env : Env} {o : Oper} (hE : ERel ι φ a.tmps env) (hS : SRel ι φ H w) {r H' n' next Q}
    (hrun : (opM P cf env o).run H n = some (r, H', n')) (hfr : ∀ i, n ≤ i → i < n' → φ i = .none)
    (hp : OpPost P ι φ H w n r H' n' (fun u w' => next (a.put o.dst u) w') (fun u w' => Q (.panic [{ v := u, recovered := false }]) a w')) : o.wp P a w next Q := by
  unfold opM at hrun
  split at hrun
  · rename_i x ho
    exact wp_of_sem (sem := pure (a.eval x)) (by simp [execOp, ho]) (SoundM.ret (u := a.eval x) (by simp) (ev_rel hE x)) hS hrun hfr hp
  · rename_i x ho
    exact wp_of_sem (sem := pure (a.eval x)) (by simp [execOp, ho]) (SoundM.ret (u := a.eval x) (by simp) (ev_rel hE x)) hS hrun hfr hp
  · rename_i c x y ho
    have hc := ev_rel hE c
    split at hrun
    case h_2 => simp [AM.run] at hrun
    rename_i t ht
    rw [ht] at hc
    generalize hcv : a.eval c = cv at hc
    cases hc
    refine wp_of_sem (sem := pure (if t then a.eval x else a.eval y)) (by simp [execOp, ho, hcv, asBool]) (SoundM.br (fun ht => ?_) (fun ht => ?_)) hS hrun hfr hp
    · subst ht; exact SoundM.ret (u := a.eval x) (by simp) (ev_rel hE x)
    · subst ht; exact SoundM.ret (u := a.eval y) (by simp) (ev_rel hE y)
  · rename_i t ho
    cases har : cf.arr.contains t with
    | true =>
      rw [har] at hrun
      refine wp_of_sem ?_ sound_allocA hS hrun hfr hp
      simp only [execOp, ho]
    | false =>
      rw [har] at hrun
      cases hgr : cf.grow.contains t with
      | false =>
        rw [hgr] at hrun
        refine wp_of_sem ?_ sound_alloc hS hrun hfr hp
        simp only [execOp, ho]
      | true =>
        rw [hgr] at hrun
        refine wp_of_sem ?_ sound_allocG hS hrun hfr hp
        simp only [execOp, ho]
  · rename_i t x ho
    refine wp_of_sem ?_ (sound_box (t := t) (ev_rel hE x)) hS hrun hfr hp
    simp only [execOp, ho]
  · rename_i t parts ho
    refine wp_of_sem (sem := Instr.build t (parts.toList.map fun x => (x.1, a.eval x.2)).toArray) (by simp only [execOp, ho]; rw [toList_map_toArray]) (sound_build ?_ ?_) hS hrun hfr hp
    · simp
    · have := evs_rel hE (parts.toList.map (·.2))
      simp only [List.map_map] at this ⊢
      exact this
  · rename_i t len parts ho
    refine wp_of_sem (sem := Instr.buildSlice t len (parts.toList.map fun x => (x.1, a.eval x.2)).toArray) (by simp only [execOp, ho]; rw [toList_map_toArray]) (sound_buildSlice ?_ ?_) hS hrun hfr hp
    · simp
    · have := evs_rel hE (parts.toList.map (·.2))
      simp only [List.map_map] at this ⊢
      exact this
  · rename_i t x ho
    refine wp_of_sem ?_ (sound_load (ev_rel hE x)) hS hrun hfr hp
    simp only [execOp, ho]
  · rename_i t x y ho
    refine wp_of_unit ?_ (sound_store (ev_rel hE x) (slack_rel (ev_rel hE y))) hS hrun hfr hp
    simp only [execOp, ho]
  · rename_i x ho
    have hx := ev_rel hE x
    have pan : ∀ {v : Value}, (v = .pointer none ∨ v = .nilIface ∨ v = .nilFunc) → a.eval x = v → (AM.pn (nilPanic P) : AM AV).run H n = some (r, H', n') → o.wp P a w next Q := fun {v} hv hxv hrun => by
      simp only [AM.run, Option.some.injEq, Prod.mk.injEq] at hrun
      obtain ⟨rfl, rfl, rfl⟩ := hrun
      unfold Oper.wp
      have hex : (execOp a.eval o).run P w = .halt (.panic (.iface P.rt.errorString (strVal "invalid memory address or nil pointer dereference"))) w := by
        rcases hv with rfl | rfl | rfl <;> simp [execOp, ho, hxv, runtimePanic]
      rw [hex]
      exact hp _ w ι φ (Ext.refl _ _) hS (.ifc _ _ _ (.v _)) (Frm.refl _ _ _ _)
    split at hrun
    · rename_i hx'; rw [hx'] at hx; generalize hxv : a.eval x = v at hx; cases hx; exact pan (.inl rfl) hxv hrun
    · rename_i hx'; rw [hx'] at hx; generalize hxv : a.eval x = v at hx; cases hx; exact pan (.inr (.inl rfl)) hxv hrun
    · rename_i hx'; rw [hx'] at hx; generalize hxv : a.eval x = v at hx; cases hx; exact pan (.inr (.inr rfl)) hxv hrun
    · rename_i hx'; rw [hx'] at hx
      generalize hxv : a.eval x = v at hx
      have hx0 := hx
      cases hx
      exact wp_of_sem (sem := pure _) (by simp [execOp, ho, hxv]; rfl) (SoundM.ret (by simp) hx0) hS hrun hfr hp
    · rename_i hx'; rw [hx'] at hx
      generalize hxv : a.eval x = v at hx
      have hx0 := hx
      cases hx
      exact wp_of_sem (sem := pure _) (by simp [execOp, ho, hxv]; rfl) (SoundM.ret (by simp) hx0) hS hrun hfr hp
    · simp [AM.run] at hrun
  · rename_i op t x y yt ho
    refine wp_of_sem ?_ (sound_bin (ox := x) (oy := y) (ev_rel hE x) (ev_rel hE y)) hS hrun hfr hp
    simp only [execOp, ho]
  · rename_i op t x ho
    refine wp_of_sem ?_ (sound_un (ev_rel hE x)) hS hrun hfr hp
    simp only [execOp, ho]
  · rename_i src dst x ho
    refine wp_of_sem ?_ (sound_convert (ev_rel hE x)) hS hrun hfr hp
    simp only [execOp, ho]
  · rename_i f first cap ho
    have h1 := evs_rel hE first.toList
    have h2 := evs_rel hE cap.toList
    refine wp_of_sem (sem := pure (.func f (first.toList.map a.eval).toArray (cap.toList.map a.eval).toArray)) (by simp only [execOp, ho, Instr.makeFunc]; rw [toList_map_toArray, toList_map_toArray]) (SoundM.ret (by simp; rfl) ?_) hS hrun hfr hp
    exact .fn f _ _ _ _ h1.1 h1.2 h2.1 h2.2
  · rename_i t ho
    refine wp_of_sem ?_ (sound_makeMap (t := t)) hS hrun hfr hp
    simp only [execOp, ho, Option.map_none]
  · rename_i t l c ho
    refine wp_of_sem ?_ (sound_makeSlice (ev_rel hE l) (ev_rel hE c)) hS hrun hfr hp
    simp only [execOp, ho]
  · rename_i t x lo hi mx ho
    refine wp_of_sem ?_ (sound_slice (ev_rel hE x) (OR_map hE lo) (OR_map hE hi) (OR_map hE mx)) hS hrun hfr hp
    simp only [execOp, ho]
  · rename_i t x f ho
    refine wp_of_sem ?_ (sound_fieldAddr (ev_rel hE x)) hS hrun hfr hp
    simp only [execOp, ho]
  · rename_i t x f ho
    refine wp_of_sem ?_ (sound_field (ev_rel hE x)) hS hrun hfr hp
    simp only [execOp, ho]
  · rename_i t x i ho
    refine wp_of_sem ?_ (sound_indexAddr (ev_rel hE x) (ev_rel hE i)) hS hrun hfr hp
    simp only [execOp, ho]
  · rename_i t x i ho
    refine wp_of_sem ?_ (sound_index (ev_rel hE x) (ev_rel hE i)) hS hrun hfr hp
    simp only [execOp, ho]
  · rename_i t m k ok ho
    refine wp_of_sem ?_ (sound_lookup (ev_rel hE m) (ev_rel hE k)) hS hrun hfr hp
    simp only [execOp, ho]
  · rename_i t m k x ho
    refine wp_of_unit ?_ (sound_mapUpdate (ev_rel hE m) (ev_rel hE k) (ev_rel hE x)) hS hrun hfr hp
    simp only [execOp, ho]
  · rename_i x i ho
    have hx := ev_rel hE x
    split at hrun
    case h_2 => simp [AM.run] at hrun
    rename_i vs hx'
    rw [hx'] at hx
    generalize hxv : a.eval x = v at hx
    cases hx with
    | tup us _ hl h =>
    refine wp_of_sem (sem := Instr.extract (.tuple us.toArray) i) (by simp only [execOp, ho, hxv]) (SoundM.ofO fun y hy => ?_) hS hrun hfr hp
    obtain ⟨u, hu, hr⟩ := ARels.get (⟨hl, h⟩ : ARels ι φ us vs) hy
    exact ⟨u, by simp [Instr.extract, hu], hr⟩
  · rename_i c ho
    unfold callOpM at hrun
    split at hrun
    · rename_i b hb
      have hargs := evs_rel hE c.args.toList
      have hne : builtinM P b c.argTypes (c.args.toList.map (ev env)) ≠ .fail := fun e => by rw [e] at hrun; simp [AM.run] at hrun
      obtain ⟨sem, he, hsnd⟩ := sound_builtin (P := P) (H := H) (w := w) (n := n) (ty := o.type) (cs := c.args.map fun | .const _ => true | _ => false) hargs hne
      refine wp_of_sem (sem := sem) ?_ hsnd hS hrun hfr hp
      simp only [execOp, ho, resolve, hb]
      rw [toList_map_toArray c.args a.eval, ← he]
      rfl
    · rename_i f hf
      have hfv := ev_rel hE f
      split at hrun
      case h_2 => simp [AM.run] at hrun
      rename_i g first cap hfx
      rw [hfx] at hfv
      generalize hfv' : a.eval f = fv at hfv
      cases hfv with
      | fn _ us vs _ _ h1 h2 h3 h4 =>
      split at hrun
      case h_2 => simp [AM.run] at hrun
      rename_i fn hfn
      split at hrun
      case isFalse => simp [AM.run] at hrun
      rename_i hc
      obtain ⟨hbody, hname⟩ := hc
      have hargs := evs_rel hE c.args.toList
      have hall : ARels ι φ (us ++ c.args.toList.map a.eval ++ vs) (first ++ c.args.toList.map (ev env) ++ cap) := ARels.append (ARels.append (⟨h1, h2⟩ : ARels ι φ us first) hargs) ⟨h3, h4⟩
      have hcall : Calls P g (us ++ c.args.toList.map a.eval ++ vs).toArray w fun e w' => ∃ ι' φ', Ext φ φ' n n' ∧ SRel ι' φ' H' w' ∧ Frm ι H φ w ι' H' φ' w' ∧ EndRel ι' φ' r e := by
        cases hm : cf.mix g with
        | some Ts => rw [hm] at hrun; exact mixM_sound hcf hall hS hrun hfr
        | none =>
        rw [hm] at hrun
        simp only [] at hrun
        cases hl : cf.lend g with
        | none => rw [hl] at hrun; exact callM_sound hcf hall hS hrun hfr
        | some Ts => rw [hl] at hrun; exact dataM_sound hcf hall hS hrun hfr
      unfold Oper.wp
      have hex : (execOp a.eval o).run P w = .ok (.enter g (us ++ c.args.toList.map a.eval ++ vs).toArray) w := by
        have hb : fn.body.isNone = false := by
          cases h : fn.body with
          | none => rw [h] at hbody; cases hbody
          | some _ => rfl
        have hnm : (fn.name == "runtime.NumGoroutine") = false := by simpa using hname
        have e1 : us.toArray ++ Array.map a.eval c.args ++ vs.toArray = (us ++ c.args.toList.map a.eval ++ vs).toArray := by apply Array.ext'; simp
        simp only [execOp, ho, resolve, hf, hfv', Deferred.ofValue, invoke, callFunc, Sem.run_bind, Sem.run_pure, Result.andThen_ok, run_program, hfn, hb, hnm, e1]
        simp
      rw [hex]
      rw [Oper.upon_enter]
      refine hcall.mono fun e w' ⟨ι', φ', g1, g2, g3, g4⟩ => ?_
      cases r with
      | ok x =>
        obtain ⟨u, rfl, hu⟩ := g4
        exact hp u w' ι' φ' g1 g2 hu g3
      | pn x =>
        obtain ⟨u, rfl, hu⟩ := g4
        exact hp u w' ι' φ' g1 g2 hu g3
    · simp [AM.run] at hrun
  · simp [AM.run] at hrun
end Go.AMach
