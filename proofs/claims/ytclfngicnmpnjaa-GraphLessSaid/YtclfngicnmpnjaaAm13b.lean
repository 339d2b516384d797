/- The abstract machine: runs, calls. -/
import Derived.Test.YtclfngicnmpnjaaAm13a
namespace Go.AMach
set_option linter.unusedVariables false
set_option linter.unusedSimpArgs false
set_option linter.unnecessarySimpa false
open Go.RowKit
set_option linter.unusedVariables false
set_option linter.unusedSimpArgs false
variable {P : Program}

/-- A region in the order of the text. -/
theorem range_map (ops : Array Oper) : (List.range ops.size).map (fun i => ops[i]?) = ops.toList.map some := by
  apply List.ext_getElem?
  intro i
  simp only [List.getElem?_map]
  by_cases h : i < ops.size
  · simp [h]
  · simp [List.getElem?_eq_none, h]

def DrawSound (P : Program) (cf : CallF) : Prop := ∀ (ι0 : Iota) (φ0 : Phi) (n0 : Nat) (H0 : AH) (w0 : World) (N : Nat) (id : Nat) (ops : Array Oper) (s : St) (a : Act) (w : World) (ι : Iota) (φ : Phi) (x : AX) (s' : St),
  Inv ι0 φ0 n0 H0 w0 N ι φ s a w → runDrawn P cf N ops s = some (x, s') → (Code.region id ops true).wp P (RPost ι0 φ0 n0 H0 w0 N x s') a w

theorem run_sound {cf : CallF} (hcf : CallSound P cf) (hdr : DrawSound P cf) {ι0 φ0 n0 H0 w0 N} {n : Nat} {pol : Pol} : ∀ (c : Code) (k : Option Keep) (s : St) (a : Act) (w : World) (ι : Iota) (φ : Phi) (x : AX) (s' : St),
    Inv ι0 φ0 n0 H0 w0 N ι φ s a w → run P cf N n0 n pol k c s = some (x, s') → c.wp P (RPost ι0 φ0 n0 H0 w0 N x s') a w := by
  intro c
  induction c with
  | skip =>
    intro k s a w ι φ x s' hI hr
    simp [run] at hr
    obtain ⟨rfl, rfl⟩ := hr
    exact wp_skip ⟨ι, φ, hI, trivial⟩
  | label l =>
    intro k s a w ι φ x s' hI hr
    simp [run] at hr
    obtain ⟨rfl, rfl⟩ := hr
    exact wp_label ⟨ι, φ, hI, trivial⟩
  | region id ops draw =>
    intro k s a w ι φ x s' hI hr
    cases draw with
    | true => simp [run] at hr; exact hdr ι0 φ0 n0 H0 w0 N id ops s a w ι φ x s' hI hr
    | false => simp [run] at hr; exact wp_region (runOps_sound hcf _ _ s a w ι φ x s' (range_map ops) hI hr)
  | seq c1 c2 ih1 ih2 =>
    intro k s a w ι φ x s' hI hr
    simp only [run] at hr
    cases h1 : run P cf N n0 n pol k c1 s with
    | none => rw [h1] at hr; cases hr
    | some res =>
      obtain ⟨x1, s1⟩ := res
      have hw := ih1 k s a w ι φ x1 s1 hI h1
      rw [h1] at hr
      refine wp_seq (wp_mono hw fun e a1 w1 hq => ?_)
      obtain ⟨ι1, φ1, hI1, hx⟩ := hq
      cases x1 <;> cases e <;> simp [XRel] at hx <;> simp at hr <;>
        first
          | exact ih2 k s1 a1 w1 ι1 φ1 x s' hI1 hr
          | (obtain ⟨rfl, rfl⟩ := hr; exact ⟨ι1, φ1, hI1, by simp [XRel] <;> exact hx⟩)
  | cond c c1 c2 ih1 ih2 =>
    intro k s a w ι φ x s' hI hr
    simp only [run] at hr
    split at hr
    case h_2 => cases hr
    rename_i t ht
    have hc := ev_rel hI.env c
    rw [ht] at hc
    generalize hv : a.eval c = v at hc
    cases hc
    cases t with
    | true => exact wp_cond_true hv (ih1 k s a w ι φ x s' hI (by simpa using hr))
    | false => exact wp_cond_false hv (ih2 k s a w ι φ x s' hI (by simpa using hr))
  | block id c ih =>
    intro k s a w ι φ x s' hI hr
    simp only [run] at hr
    cases h1 : run P cf N n0 n pol (pol.head id) c s with
    | none => rw [h1] at hr; cases hr
    | some res =>
      obtain ⟨x1, s1⟩ := res
      have hw := ih _ s a w ι φ x1 s1 hI h1
      rw [h1] at hr
      refine wp_block (wp_mono hw fun e a1 w1 hq => ?_)
      obtain ⟨ι1, φ1, hI1, hx⟩ := hq
      cases x1 <;> cases e <;> simp [XRel] at hx <;> simp at hr
      case ex.exit =>
        subst hx
        simp only [Exit.inBlock]
        split at hr
        · rename_i he; rw [if_pos he]
          simp at hr
          obtain ⟨rfl, rfl⟩ := hr; exact ⟨ι1, φ1, hI1, trivial⟩
        · rename_i he; rw [if_neg he]
          simp at hr
          obtain ⟨rfl, rfl⟩ := hr; exact ⟨ι1, φ1, hI1, rfl⟩
      all_goals (obtain ⟨rfl, rfl⟩ := hr; exact ⟨ι1, φ1, hI1, by simp [XRel] <;> exact hx⟩)
  | loop c ih =>
    intro k s a w ι φ x s' hI hr
    simp only [run] at hr
    have key : ∀ (m : Nat) (s : St) (a : Act) (w : World) (ι : Iota) (φ : Phi), Inv ι0 φ0 n0 H0 w0 N ι φ s a w → loopN (run P cf N n0 n pol none c) (gc n0 k) m s = some (x, s') → Code.rounds P c (RPost ι0 φ0 n0 H0 w0 N x s') m a w := by
      intro m
      induction m with
      | zero => intro s a w ι φ hI hr; cases hr
      | succ m ihm =>
        intro s a w ι φ hI hr
        simp only [loopN] at hr
        cases hg : gc n0 k s with
        | none => rw [hg] at hr; cases hr
        | some sg =>
          rw [hg] at hr
          obtain ⟨ιg, φg, hIg⟩ := gc_sound hI hg
          simp only [] at hr
          rw [rounds_succ]
          cases h1 : run P cf N n0 n pol none c sg with
          | none => rw [h1] at hr; cases hr
          | some res =>
            obtain ⟨x1, s1⟩ := res
            have hw := ih none sg a w ιg φg x1 s1 hIg h1
            rw [h1] at hr
            refine wp_mono hw fun e a1 w1 hq => ?_
            obtain ⟨ι1, φ1, hI1, hx⟩ := hq
            cases x1 <;> cases e <;> simp [XRel] at hx <;> simp at hr <;>
              first
                | exact ihm s1 a1 w1 ι1 φ1 hI1 hr
                | (obtain ⟨rfl, rfl⟩ := hr; exact ⟨ι1, φ1, hI1, by simp [XRel] <;> exact hx⟩)
    exact wp_loop_rounds n (key n s a w ι φ hI hr)
  | exit id =>
    intro k s a w ι φ x s' hI hr
    simp only [run, Option.map_eq_some_iff, Prod.mk.injEq] at hr
    obtain ⟨s2, hg, rfl, rfl⟩ := hr
    obtain ⟨ι2, φ2, hI2⟩ := gc_sound hI hg
    exact wp_exit ⟨ι2, φ2, hI2, rfl⟩
  | ret =>
    intro k s a w ι φ x s' hI hr
    simp only [run, Option.map_eq_some_iff, Prod.mk.injEq] at hr
    obtain ⟨s2, hg, rfl, rfl⟩ := hr
    obtain ⟨ι2, φ2, hI2⟩ := gc_sound hI hg
    exact wp_ret ⟨ι2, φ2, hI2, trivial⟩
  | _ => intro k s a w ι φ x s' hI hr; simp [run] at hr

/-! ### Results -/
theorem load_rel {ι φ H w n} {t : TypeId} {u : Value} {x y : AV} {H' : AH} {n' : Nat} (hS : SRel ι φ H w) (hx : ARel ι φ u x) (h : (loadM P t x).run H n = some (.ok y, H', n')) :
    ∃ v, (do loadVar t (← asAddr u)).run P w = .ok v w ∧ ARel ι φ v y := by
  have ofO : ∀ {o : Option AV}, (AM.ofO o).run H n = some (.ok y, H', n') → o = some y := fun {o} h => by
    cases o with
    | none => simp [AM.ofO, AM.run] at h
    | some x => simp [AM.ofO, AM.run] at h; rw [h.1]
  unfold loadM at h
  split at h
  case h_2 => simp [AM.run] at h
  rename_i g m hg hs
  cases hx with
  | ptr id e j b off sz lim len hφ he =>
    simp only [AM.run] at h
    split at h
    case h_2 => simp [AM.run] at h
    rename_i p s es hid
    have hy := ofO h
    obtain ⟨loc, hl, hb⟩ := hS.blk id _ hid
    rw [hφ] at hl; cases hl
    obtain ⟨⟨rfl, rfl⟩, _, _, cs, T, F, hb, _, _, hr⟩ := hb
    rw [← rdRow_toL he] at hy
    obtain ⟨u, h1, h2⟩ := run_loadVar_rel (P := P) hb hr hg hs hy
    refine ⟨u, by simpa [asAddr] using h1, ?_⟩
    cases p
    · exact h2
    · exact h2.of_none
  | rp sz es e j he hw b off cs T F us hm h1 h2 h3 =>
    have hy := ofO h
    rw [← rdRow_toL he] at hy
    have hr : RowRel ι Phi.none cs off sz es.toL := ⟨hw, fun e j c x hc hx => ⟨us e j, h1 e j c x hc hx, h2 e j c x hc hx, h3 e j c x hc hx⟩⟩
    obtain ⟨u, h1, h2⟩ := run_loadVar_rel (P := P) (hS.imm _ _ hm) hr hg hs hy
    exact ⟨u, by simpa [asAddr] using h1, h2.of_none⟩
  | _ => simp [AM.run] at h

def resSem (tmps : Array Value) : ResultVar → Sem Value
  | .tmp t => pure (tmps.getD t undef)
  | .cell a t => do loadVar t (← asAddr (tmps.getD a undef))

theorem result_rel {ι φ H w} {tmps : Array Value} {env : Env} (hS : SRel ι φ H w) (hE : ERel ι φ tmps env) {r : ResultVar} {x : AV} (h : resultA P env H r = some x) :
    ∃ u, (resSem tmps r).run P w = .ok u w ∧ ARel ι φ u x := by
  have hg : ∀ t, ARel ι φ (tmps.getD t undef) (look env t) := hE
  cases r with
  | tmp t => simp [resultA] at h; subst h; exact ⟨tmps.getD t undef, by simp [resSem], by simpa using hg t⟩
  | cell a t =>
    simp only [resultA] at h
    split at h
    case h_2 => cases h
    rename_i y res hrun
    cases h
    exact load_rel hS (hg a) hrun

theorem results_rel {ι φ H w} {tmps : Array Value} {env : Env} (hS : SRel ι φ H w) (hE : ERel ι φ tmps env) : ∀ {rs : List ResultVar} {xs : List AV}, resultsA P env H rs = some xs →
    ∃ us, (rs.mapM (resSem tmps)).run P w = .ok us w ∧ ARels ι φ us xs
  | [], xs, h => by simp [resultsA] at h; subst h; exact ⟨[], by simp, ARels.nil⟩
  | r :: rs, xs, h => by
    simp only [resultsA] at h
    cases h1 : resultA P env H r with
    | none => simp [h1] at h
    | some x =>
    cases h2 : resultsA P env H rs with
    | none => simp [h1, h2] at h
    | some ys =>
      simp [h1, h2] at h
      subst h
      obtain ⟨u, g1, g2⟩ := result_rel hS hE h1
      obtain ⟨us, g3, g4⟩ := results_rel hS hE h2
      exact ⟨u :: us, by simp [List.mapM_cons, g1, g3], g4.cons g2⟩

theorem results_eq (fn : Func) (tmps : Array Value) : results fn tmps = (do let vs ← fn.results.mapM (resSem tmps); pure (if h : vs.size = 1 then vs[0] else .tuple vs)) := by
  unfold results
  congr 1

theorem results_run {w : World} {fn : Func} {tmps : Array Value} {us : List Value} (h : (fn.results.toList.mapM (resSem tmps)).run P w = .ok us w) :
    (results fn tmps).run P w = .ok (if h : us.length = 1 then us[0] else .tuple us.toArray) w := by
  rw [results_eq]
  have : (fn.results.mapM (resSem tmps)).run P w = .ok us.toArray w := by
    rw [Array.mapM_eq_mapM_toList]
    simp [h]
  simp only [Sem.run_bind, this, Result.andThen_ok, Sem.run_pure]
  congr 1

theorem zipKp_fst : ∀ (xs : List AV) (ks : List Kp), (zipKp xs ks).map (·.1) = xs
  | [], ks => by cases ks <;> rfl
  | x :: xs, [] => by simp [zipKp, zipKp_fst xs []]
  | x :: xs, k :: ks => by simp [zipKp, zipKp_fst xs ks]

theorem keepAll_length {n0 : Nat} {l : List (AV × Kp)} {H : AH} {nx : Nat} {r : List AV × AH × Nat} (h : keepAll n0 l H nx = some r) : n0 ≤ r.2.1.length := by
  unfold keepAll at h
  simp only [] at h
  split at h
  case h_1 => cases h
  split at h
  case isFalse => cases h
  cases h
  simp only [AH.only, List.length_map]
  exact gcTo_length

theorem oneOr_rel {ι φ us xs} (h : ARels ι φ us xs) : ARel ι φ (if h : us.length = 1 then us[0] else .tuple us.toArray) (oneOr xs) := by
  match xs, h with
  | [x], h =>
    obtain ⟨u, us', rfl, h1, h2⟩ := h.uncons
    have := h2.nil_inv
    subst this
    exact h1
  | [], h => rw [h.nil_inv]; exact .tup [] [] rfl (fun i u c h => by simp at h)
  | x :: y :: xs, h =>
    rw [dif_neg (by rw [h.1]; simp)]
    exact .tup us _ h.1 h.2

/-- What is kept of a heap behind a call. -/
theorem finish_sound {ι0 φ0 H0 w0 N ι φ s a w} (h : Inv ι0 φ0 H0.length H0 w0 N ι φ s a w) (hfr : ∀ i, H0.length ≤ i → φ0 i = .none) {ks : List Kp} {us : List Value} {xs ys : List AV} {H' : AH} (hx : ARels ι φ us xs) (hf : finish H0.length ks xs s.heap s.nx = some (ys, H')) :
    ∃ ι' φ', Ext φ0 φ' H0.length H'.length ∧ SRel ι' φ' H' w ∧ Frm ι0 H0 φ0 w0 ι' H' φ' w ∧ ARels ι' φ' us ys := by
  unfold finish at hf
  simp only [Option.map_eq_some_iff, Prod.mk.injEq] at hf
  obtain ⟨⟨zs, H2, nx'⟩, hk, rfl, rfl⟩ := hf
  obtain ⟨ι', φ', g1, g2, g3, g4, g5, g6, g7⟩ := keepAll_sound h.rel h.le h.fresh (by rw [zipKp_fst]; exact hx) hk
  refine ⟨ι', φ', ⟨by show H0.length ≤ H2.length; rw [← g4]; exact g3, fun i hi => ?_, fun i h1 _ => hfr i h1⟩, g5, h.frm.trans g7, g6⟩
  by_cases hi0 : i < H0.length
  · rw [g1 i hi0]; exact h.base i hi0
  · have hi : ¬ (H0.length ≤ i ∧ i < H2.length) := hi
    rw [g2 i (by omega), hfr i (by omega)]

theorem argsEnv_look {ι φ} {tmps : Array Value} : ∀ {xs : List AV} {vs : List Value} {i : Nat}, ARels ι φ vs xs → (∀ k, k < vs.length → tmps.getD (i + k) undef = vs.getD k undef) → ERel ι φ tmps (argsEnv i xs)
  | [], vs, i, h, _ => fun t => .junk _
  | x :: xs, vs, i, h, hk => fun t => by
    obtain ⟨u, us, rfl, ha, hb⟩ := h.uncons
    simp only [argsEnv]
    rw [look_cons]
    split
    · rename_i e
      subst e
      have := hk 0 (by simp)
      simp only [Nat.add_zero, List.getD_cons_zero] at this
      rw [this]; exact ha
    · exact argsEnv_look hb (fun k hkl => by
        have := hk (k + 1) (by simpa using hkl)
        rw [show i + 1 + k = i + (k + 1) by omega, this]; simp) t

theorem runF_sound (hdr : ∀ cf, CallSound P cf → DrawSound P cf) {cf : CallF} (hcf : CallSound P cf) {n : Nat} {pol : Pol} {ι : Iota} {φ : Phi} {H : AH} {w : World} {f : FuncId} {args : List AV} {vs : List Value} {r : AR AV} {H' : AH}
    (hS : SRel ι φ H w) (hfr : ∀ i, H.length ≤ i → φ i = .none) (hv : ARels ι φ vs args) (h : runF P cf n pol f args H = some (r, H')) : Calls P f vs.toArray w (CallPost ι φ H w r H') := by
  unfold runF at h
  split at h
  case h_1 => cases h
  rename_i fn hfn
  split at h
  case h_1 => cases h
  rename_i c hbody
  split at h
  case isFalse => cases h
  rename_i hlen
  refine calls_of_wp hfn hbody ?_
  have hI : Inv ι φ H.length H w fn.ntmps ι φ ⟨argsEnv 0 args, H, H.length⟩ { tmps := vs.toArray ++ Array.replicate (fn.ntmps - vs.toArray.size) undef, defers := [] } w := by
    refine ⟨fun _ _ => rfl, hfr, Nat.le_refl _, hS, argsEnv_look hv fun k hk => ?_, by simp [hv.1]; omega, rfl, Frm.refl _ _ _ _⟩
    rw [Array.getD_eq_getD_getElem?, List.getD_eq_getElem?_getD, Nat.zero_add, Array.getElem?_append_left (by simpa using hk)]
    simp
  cases hrun : run P cf fn.ntmps H.length n pol none c ⟨argsEnv 0 args, H, H.length⟩ with
  | none => rw [hrun] at h; cases h
  | some res =>
  obtain ⟨x, s⟩ := res
  rw [hrun] at h
  refine wp_mono (run_sound hcf (hdr _ hcf) c none _ _ w ι φ x s hI hrun) fun e a w' hq => ?_
  obtain ⟨ι', φ', hI', hx⟩ := hq
  have ret : retA P H.length pol fn.results.toList s = some (r, H') → a.defers = [] ∧ ∃ v, (results fn a.tmps).run P w' = .ok v w' ∧ CallPost ι φ H w r H' (.returned v) w' := fun h => by
    refine ⟨hI'.defers, ?_⟩
    unfold retA at h
    split at h
    case h_2 => cases h
    rename_i xs hres
    obtain ⟨us, g1, g2⟩ := results_rel (P := P) hI'.rel hI'.env hres
    simp only [Option.map_eq_some_iff, Prod.mk.injEq] at h
    obtain ⟨⟨ys, H2⟩, hf, rfl, rfl⟩ := h
    obtain ⟨ι2, φ2, k1, k2, k3, k4⟩ := finish_sound hI' hfr g2 hf
    exact ⟨_, results_run g1, ι2, φ2, k1, k2, k3, _, rfl, oneOr_rel k4⟩
  cases x with
  | nm =>
    cases e <;> simp [XRel] at hx
    exact ret h
  | rt =>
    cases e <;> simp [XRel] at hx
    exact ret h
  | pn x =>
    cases e <;> simp [XRel] at hx
    obtain ⟨u, rfl, hu⟩ := hx
    refine ⟨hI'.defers, ?_⟩
    simp only [Option.map_eq_some_iff, Prod.mk.injEq] at h
    obtain ⟨⟨ys, H2⟩, hf, rfl, rfl⟩ := h
    obtain ⟨ι2, φ2, k1, k2, k3, k4⟩ := finish_sound hI' hfr (ARels.nil.cons hu) hf
    exact ⟨ι2, φ2, k1, k2, k3, u, rfl, by have := oneOr_rel k4; simpa using this⟩
  | ex i => cases h
  | gt i => cases h
end Go.AMach
