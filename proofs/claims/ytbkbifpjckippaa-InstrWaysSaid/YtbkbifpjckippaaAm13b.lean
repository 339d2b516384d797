/- The abstract machine: runs, calls. -/
import Derived.Test.YtbkbifpjckippaaAm13a
namespace Go.AMach
set_option linter.unusedVariables false
set_option linter.unusedSimpArgs false
set_option linter.unnecessarySimpa false
set_option linter.unusedSectionVars false
variable [Sites]
open Go.RowKit
set_option linter.unusedVariables false
set_option linter.unusedSimpArgs false
variable {P : Program}

/-- A region in the order of the text. -/
theorem range_map (ops : Array Oper) : (List.range ops.size).map (fun i => ops[i]?) = ops.toList.map some := by
  apply List.ext_getElem?
  intro i
  simp only [List.getElem?_map]
  by_cases h : i < ops.size
  · simp [h]
  · simp [List.getElem?_eq_none, h]

theorem Marks.lt {ι H φ w0 w} : ∀ {ds : List Deferred}, Marks ι H φ w0 w ds → ∀ d ∈ ds, d.target ≠ .collected w.heap.size
  | [], _, d, hd, e => by cases hd
  | d0 :: ds, ⟨⟨r, h1, h2, h3, h4, h5, h6⟩, hr⟩, d, hd, e => by
    rcases List.mem_cons.1 hd with rfl | hd
    · rw [h1] at e
      have : r = w.heap.size := by simpa using e
      have hlt : r < w.heap.size := (Array.getElem?_eq_some_iff.1 h3).1
      omega
    · exact hr.lt d hd e
theorem Marks.put {ι H φ w0 w w'} {r0 : Nat} (ho : ∀ k, k ≠ r0 → w'.heap[k]? = w.heap[k]?) : ∀ {ds : List Deferred}, Marks ι H φ w0 w ds → (∀ d' ∈ ds, d'.target ≠ .collected r0) → Marks ι H φ w0 w' ds
  | [], _, _ => trivial
  | d0 :: ds, ⟨⟨r, h1, h2, h3, h4, h5, h6⟩, hr⟩, hn =>
    ⟨⟨r, h1, h2, (ho r (fun e => hn d0 List.mem_cons_self (by rw [h1, e]))).trans h3, h4, h5, h6⟩, hr.put ho fun d hd => hn d (List.mem_cons_of_mem _ hd)⟩

/-! ### The statement -/
theorem SRel.off {ι φ H} {w w' : World} (h : SRel ι φ H w) {b : Nat} (hb : ¬ Owned H φ b) (hι : ι b = none) (hk : ∀ k, k ≠ b → w'.heap[k]? = w.heap[k]?) : SRel ι φ H w' where
  imm k o ho := by
    rw [hk k (fun e => by subst e; rw [hι] at ho; cases ho)]
    exact h.imm k o ho
  blk id x hx := by
    obtain ⟨loc, hl, hbl⟩ := h.blk id x hx
    refine ⟨loc, hl, ?_⟩
    cases loc with
    | virt => exact hbl.virt
    | «at» b' o' s' l' n' => exact BRel.heap (hk b' fun e => hb (by subst e; exact ⟨id, x, o', s', l', n', hx, hl⟩)) hbl
  own := h.own
  inj := h.inj

theorem range_sound {cf : CallF} (hcf : CallSound P cf) {ι0 φ0 n0 H0 w0 N} {s : St} {a : Act} {w : World} {ι : Iota} {φ : Phi} {g : Operand} {ps : Array Tmp} {asg body : Code} {f0 : FuncId} {k : Nat} {x : AV} {H' : AH} {n' : Nat}
    (hI : Inv ι0 φ0 n0 H0 w0 N ι φ s a w) (hs : cf.site = some (f0, k)) (hk : Sites.t k = some (ps, asg, body)) (hr : (rangeM P cf N s.env g).run s.heap s.nx = some (.ok x, H', n')) :
    (Code.rangeFunc g ps asg body).wpIn (FR none) 0 P (RPost ι0 φ0 n0 H0 w0 N .nm ⟨s.env, H', n'⟩) a w := by
  unfold rangeM at hr
  rw [hs] at hr
  split at hr
  case h_2 => simp [AM.run] at hr
  rename_i f1 k' f first cap hsite hg
  cases hsite
  have hgv := ev_rel hI.env g
  rw [hg] at hgv
  generalize hge : a.eval g = gv at hgv
  cases hgv with
  | fn _ us vs _ _ h1 h2 h3 h4 =>
  split at hr
  case h_2 => simp [AM.run] at hr
  rename_i fn hfn
  split at hr
  case isFalse => simp [AM.run] at hr
  rename_i hc
  obtain ⟨hbody, hname⟩ := hc
  simp only [AM.run] at hr
  rw [AM.run_bind] at hr
  cases hcall : ((callM cf f (first ++ [AV.yl s.nx] ++ cap)).np).run (s.heap.setAt s.nx (some (.lp false k ((List.range N).map fun t => cond (cf.held.contains t) (look s.env t) .junk)))) (s.nx + 1) with
  | none => rw [hcall] at hr; cases hr
  | some q =>
  obtain ⟨q1, H1, n1⟩ := q
  obtain ⟨y, rfl, hcall'⟩ := AM.np_run _ _ _ hcall
  rw [hcall] at hr
  simp only [AM.run] at hr
  split at hr
  case h_2 => simp [AM.run] at hr
  rename_i k2 caps2 hH1
  simp only [AM.run] at hr
  rw [hH1] at hr
  simp only [Option.some.injEq, Prod.mk.injEq] at hr
  obtain ⟨_, rfl, rfl⟩ := hr
  have hle := AM.run_le _ _ _ hcall'
  refine wpIn_rangeFunc (F := FR none) fun fn0 _ => ?_
  have hn := hI.fresh s.nx (Nat.le_refl _)
  -- the record
  let rc : Loop := { state := .ready, pending := none, fn := fn0, tmps := a.tmps, params := ps, assign := asg, body, defers := w.heap.size }
  let w1 : World := (w.alloc (.deferred (some []))).alloc (.loop rc)
  have hw1s : w1.heap.size = w.heap.size + 2 := by simp [w1]
  have hold : ∀ j, j < w.heap.size → w1.heap[j]? = w.heap[j]? := fun j hj => by
    show ((w.heap.push _).push _)[j]? = _
    rw [Array.getElem?_push_lt (by simp; omega), Array.getElem_push_lt hj, Array.getElem?_eq_getElem hj]
  have hmk : w1.heap[w.heap.size]? = some (.deferred (some [])) := by
    show ((w.heap.push _).push _)[w.heap.size]? = _
    rw [Array.getElem?_push_lt (by simp)]
    simp
  have hrc : w1.heap[w.heap.size + 1]? = some (.loop rc) := by
    have := World.alloc_heap_new (w.alloc (.deferred (some []))) (.loop rc)
    rw [World.size_alloc] at this
    exact this
  let φ1 : Phi := updφ φ s.nx (.at (w.heap.size + 1) 0 0 0 0)
  have hcaps : ARels ι φ1 rc.tmps.toList ((List.range N).map fun t => cond (cf.held.contains t) (look s.env t) .junk) := by
    refine ⟨by simp [rc, hI.size], fun i u c hu hc' => ?_⟩
    simp only [List.getElem?_map, Option.map_eq_some_iff] at hc'
    obtain ⟨j, hj, rfl⟩ := hc'
    obtain ⟨hj1, hj2⟩ := List.getElem?_eq_some_iff.1 hj
    simp at hj2; subst hj2
    have hj0 := hj
    show ARel ι φ1 u (cond (cf.held.contains i) (look s.env i) .junk)
    cases cf.held.contains i with
    | false => exact .junk _
    | true =>
    have := (hI.env i).mono (Ext.upd (.at (w.heap.size + 1) 0 0 0 0) hn).mono
    have hu' : a.tmps[i]? = some u := by simpa [rc] using hu
    rw [Array.getD_eq_getD_getElem?, hu'] at this
    exact this
  have hnot : ∀ b, w.heap.size ≤ b → ¬ Owned s.heap φ b := fun b hb ⟨id, x, o, s', l, n, hx, hl⟩ => by
    have := hI.rel.lt hx hl; omega
  have hnoι : ∀ b, w.heap.size ≤ b → ι b = none := fun b hb => by
    cases h : ι b with
    | none => rfl
    | some o =>
      have := (Array.getElem?_eq_some_iff.1 (hI.rel.imm b o h)).1
      omega
  have hS1 : SRel ι φ1 (s.heap.setAt s.nx (some (.lp false k ((List.range N).map fun t => cond (cf.held.contains t) (look s.env t) .junk)))) w1 :=
    hI.rel.add hn (fun j hj _ => hold j hj) (fun b o s' l n e => by cases e; exact ⟨hnot _ (by omega), hnoι _ (by omega)⟩) ⟨rc, hrc, rfl, ⟨_, hk, rfl, rfl, rfl⟩, rfl, hcaps⟩
  have hF1 : Frm ι s.heap φ w ι (s.heap.setAt s.nx (some (.lp false k ((List.range N).map fun t => cond (cf.held.contains t) (look s.env t) .junk)))) φ1 w1 :=
    Frm.add hI.rel hn hold (fun b o s' l n e => by cases e; omega) rfl rfl rfl (by omega)
  have hE1 : Ext φ φ1 s.nx (s.nx + 1) := Ext.upd _ hn
  have hall : ARels ι φ1 (us ++ [Value.func (.yield (w.heap.size + 1)) #[] #[]] ++ vs) (first ++ [AV.yl s.nx] ++ cap) :=
    ARels.append (ARels.append (ARels.mono hE1.mono (⟨h1, h2⟩ : ARels ι φ us first)) (ARels.nil.cons (.yl s.nx _ 0 0 0 0 (updφ_same _ _ _)))) (ARels.mono hE1.mono (⟨h3, h4⟩ : ARels ι φ vs cap))
  have hcs := callM_sound hcf hall hS1 hcall' (fun i hi1 hi2 => by
    show updφ φ s.nx _ i = .none
    unfold updφ
    rw [if_neg (by omega)]
    exact hI.fresh i (by omega))
  refine ⟨w.heap.size + 1, [{ target := .collected w.heap.size, args := #[] }], w1, { target := .fn (.func f) vs.toArray, args := us.toArray ++ #[Value.func (.yield (w.heap.size + 1)) #[] #[]] }, w1, f, (us ++ [Value.func (.yield (w.heap.size + 1)) #[] #[]] ++ vs).toArray, w1, ?_, ?_, fun _ _ => trivial, ?_, fun h => by simp [Fence.wide] at h, callsIn_FR (hcs.mono ?_)⟩
  · exact run_enterLoop_outer fn0 a.tmps ps asg body
  · simp only [rangeCall, resolve, hge, Deferred.ofValue]
    simp [Act.eval]
  · have hb : fn.body.isNone = false := by
      cases h : fn.body with
      | none => rw [h] at hbody; cases hbody
      | some _ => rfl
    have hnm : (fn.name == "runtime.NumGoroutine") = false := by simpa using hname
    have e1 : us.toArray ++ #[Value.func (.yield (w.heap.size + 1)) #[] #[]] ++ vs.toArray = (us ++ [Value.func (.yield (w.heap.size + 1)) #[] #[]] ++ vs).toArray := by apply Array.ext'; simp
    simp only [invoke, callFunc, Sem.run_bind, Sem.run_pure, Result.andThen_ok, run_program, hfn, hb, hnm, e1]
    simp
  · rintro e w2 ⟨ι2, φ2, g1, g2, g3, g4⟩
    obtain ⟨u, rfl, hu⟩ := g4
    have hφ2 : φ2 s.nx = some (.at (w.heap.size + 1) 0 0 0 0) := g1.mono _ _ (updφ_same _ _ _)
    obtain ⟨r2, u1, u2, _, u4, _⟩ := lp_inv g2 hφ2 hH1
    have hown : Owned H1 φ2 (w.heap.size + 1) := ⟨s.nx, _, _, _, _, _, hH1, hφ2⟩
    obtain ⟨w3, hw3⟩ : ∃ w3, w3 = w2.putObj (w.heap.size + 1) (.loop { r2 with state := .exhausted }) := ⟨_, rfl⟩
    refine ⟨_, w3, by rw [hw3]; exact run_endLoop u1 (by rw [u4]; simp), ?_⟩
    rw [u2]
    -- behind it
    have hother : ∀ j, j ≠ w.heap.size + 1 → w3.heap[j]? = w2.heap[j]? := fun j hj => by rw [hw3]; exact World.putObj_heap_other hj
    have hnown : ¬ Owned (H1.setAt s.nx none) φ2 (w.heap.size + 1) := fun ⟨id, y, o, s', l, n, hx, hl⟩ => by
      rw [at_setAt] at hx
      split at hx
      · cases hx
      · rename_i hne
        exact hne (g2.inj _ _ _ _ _ _ _ _ _ _ _ _ _ hx hH1 hl hφ2)
    have hS3 : SRel ι2 φ2 (H1.setAt s.nx none) w3 :=
      (g2.kill ⟨_, hH1⟩).off hnown (g2.own _ _ _ _ _ _ _ hH1 hφ2) hother
    have hF3 : Frm ι2 H1 φ2 w2 ι2 (H1.setAt s.nx none) φ2 w3 :=
      ⟨by rw [hw3]; rfl, by rw [hw3]; rfl, by rw [hw3]; rfl, by rw [hw3]; simp, fun j _ hj => hother j fun e => hj (by subst e; exact hown), fun j hj => .inr (hj.mono_set ⟨_, hH1⟩), fun _ _ h => h, fun _ h h' => absurd h h'⟩
    have hmarks1 : Marks ι (s.heap.setAt s.nx (some (.lp false k ((List.range N).map fun t => cond (cf.held.contains t) (look s.env t) .junk)))) φ1 w0 w1 ([{ target := .collected w.heap.size, args := #[] }] ++ a.defers) := by
      refine ⟨⟨w.heap.size, rfl, hI.frm.size, hmk, fun ho => ?_, hnoι _ (Nat.le_refl _), fun d hd e => ?_⟩, hI.defers.frm hF1⟩
      · obtain ⟨id, y, o, s', l, n, hx, hl⟩ := ho
        rw [at_setAt] at hx
        split at hx
        · rename_i e; subst e
          have hl' : updφ φ s.nx _ s.nx = _ := hl
          rw [updφ_same] at hl'
          simp at hl'
        · rename_i hne
          have hl' : updφ φ s.nx _ id = _ := hl
          unfold updφ at hl'
          rw [if_neg hne] at hl'
          exact hnot _ (Nat.le_refl _) ⟨id, y, o, s', l, n, hx, hl'⟩
      · exact Marks.lt hI.defers d hd e
    refine ⟨ι2, φ2, ⟨?_, ?_, ?_, hS3, ?_, hI.size, (hmarks1.frm g3).frm hF3, ((hI.frm.trans hF1).trans g3).trans hF3⟩, trivial⟩
    · intro j hj
      have := hI.le
      rw [g1.out j (by omega)]
      show updφ φ s.nx _ j = _
      unfold updφ
      rw [if_neg (by omega)]
      exact hI.base j hj
    · intro j hj
      have hj : n1 ≤ j := hj
      rw [g1.out j (by omega)]
      show updφ φ s.nx _ j = _
      unfold updφ
      rw [if_neg (by omega)]
      exact hI.fresh j (by omega)
    · have := hI.le
      show n0 ≤ n1
      omega
    · exact ((hI.env.mono hE1.mono).mono g1.mono).imm g3.imm

def DrawSound (P : Program) (cf : CallF) : Prop := ∀ (ι0 : Iota) (φ0 : Phi) (n0 : Nat) (H0 : AH) (w0 : World) (N : Nat) (id : Nat) (ops : Array Oper) (s : St) (a : Act) (w : World) (ι : Iota) (φ : Phi) (x : AX) (s' : St),
  Inv ι0 φ0 n0 H0 w0 N ι φ s a w → runDrawn P cf N ops s = some (x, s') → (Code.region id ops true).wp P (RPost ι0 φ0 n0 H0 w0 N x s') a w

theorem run_sound {cf : CallF} (hcf : CallSound P cf) (hdr : DrawSound P cf) {ι0 φ0 n0 H0 w0 N} {n : Nat} {pol : Pol} : ∀ (c : Code) (hsite : ∀ f k, cf.site = some (f, k) → RfOk k c) (k : Option Keep) (s : St) (a : Act) (w : World) (ι : Iota) (φ : Phi) (x : AX) (s' : St),
    Inv ι0 φ0 n0 H0 w0 N ι φ s a w → run P cf N n0 n pol k c s = some (x, s') → c.wpIn (FR none) 0 P (RPost ι0 φ0 n0 H0 w0 N x s') a w := by
  intro c
  induction c with
  | skip =>
    intro hsite k s a w ι φ x s' hI hr
    simp [run] at hr
    obtain ⟨rfl, rfl⟩ := hr
    exact wpIn_skip ⟨ι, φ, hI, trivial⟩
  | label l =>
    intro hsite k s a w ι φ x s' hI hr
    simp [run] at hr
    obtain ⟨rfl, rfl⟩ := hr
    exact wpIn_label ⟨ι, φ, hI, trivial⟩
  | region id ops draw =>
    intro hsite k s a w ι φ x s' hI hr
    cases draw with
    | true => simp [run] at hr; exact wpIn_wide.2 (hdr ι0 φ0 n0 H0 w0 N id ops s a w ι φ x s' hI hr)
    | false => simp [run] at hr; exact wpIn_region (runOps_sound hcf _ _ s a w ι φ x s' (range_map ops) hI hr)
  | seq c1 c2 ih1 ih2 =>
    intro hsite k s a w ι φ x s' hI hr
    simp only [run] at hr
    cases h1 : run P cf N n0 n pol k c1 s with
    | none => rw [h1] at hr; cases hr
    | some res =>
      obtain ⟨x1, s1⟩ := res
      have hw := ih1 (fun f k h => (hsite f k h).1) k s a w ι φ x1 s1 hI h1
      rw [h1] at hr
      refine wpIn_seq (wpIn_mono hw fun e a1 w1 hq => ?_)
      obtain ⟨ι1, φ1, hI1, hx⟩ := hq
      cases x1 <;> cases e <;> simp [XRel] at hx <;> simp at hr <;>
        first
          | exact ih2 (fun f k h => (hsite f k h).2) k s1 a1 w1 ι1 φ1 x s' hI1 hr
          | (obtain ⟨rfl, rfl⟩ := hr; exact ⟨ι1, φ1, hI1, by simp [XRel] <;> exact hx⟩)
  | cond c c1 c2 ih1 ih2 =>
    intro hsite k s a w ι φ x s' hI hr
    simp only [run] at hr
    split at hr
    case h_2 => cases hr
    rename_i t ht
    have hc := ev_rel hI.env c
    rw [ht] at hc
    generalize hv : a.eval c = v at hc
    cases hc
    cases t with
    | true => exact wpIn_cond_true hv (ih1 (fun f k h => (hsite f k h).1) k s a w ι φ x s' hI (by simpa using hr))
    | false => exact wpIn_cond_false hv (ih2 (fun f k h => (hsite f k h).2) k s a w ι φ x s' hI (by simpa using hr))
  | block id c ih =>
    intro hsite k s a w ι φ x s' hI hr
    simp only [run] at hr
    cases h1 : run P cf N n0 n pol (pol.head id) c s with
    | none => rw [h1] at hr; cases hr
    | some res =>
      obtain ⟨x1, s1⟩ := res
      have hw := ih (fun f k h => hsite f k h) _ s a w ι φ x1 s1 hI h1
      rw [h1] at hr
      refine wpIn_block (wpIn_mono hw fun e a1 w1 hq => ?_)
      obtain ⟨ι1, φ1, hI1, hx⟩ := hq
      cases x1 <;> cases e <;> simp [XRel] at hx <;> simp at hr
      case ex.exit =>
        subst hx
        simp only [Exit.inBlock]
        split at hr
        · rename_i he; rw [if_pos he]
          simp at hr
          obtain ⟨rfl, rfl⟩ := hr; exact ⟨ι1, φ1, hI1, trivial⟩
        · rename_i he; rw [if_neg he]
          simp at hr
          obtain ⟨rfl, rfl⟩ := hr; exact ⟨ι1, φ1, hI1, rfl⟩
      all_goals (obtain ⟨rfl, rfl⟩ := hr; exact ⟨ι1, φ1, hI1, by simp [XRel] <;> exact hx⟩)
  | loop c ih =>
    intro hsite k s a w ι φ x s' hI hr
    simp only [run] at hr
    have key : ∀ (m : Nat) (s : St) (a : Act) (w : World) (ι : Iota) (φ : Phi), Inv ι0 φ0 n0 H0 w0 N ι φ s a w → loopN (run P cf N n0 n pol none c) (gc n0 k) m s = some (x, s') → Code.roundsIn (FR none) 0 P c (RPost ι0 φ0 n0 H0 w0 N x s') m a w := by
      intro m
      induction m with
      | zero => intro s a w ι φ hI hr; cases hr
      | succ m ihm =>
        intro s a w ι φ hI hr
        simp only [loopN] at hr
        cases hg : gc n0 k s with
        | none => rw [hg] at hr; cases hr
        | some sg =>
          rw [hg] at hr
          obtain ⟨ιg, φg, hIg⟩ := gc_sound hI hg
          simp only [] at hr
          rw [roundsIn_succ]
          cases h1 : run P cf N n0 n pol none c sg with
          | none => rw [h1] at hr; cases hr
          | some res =>
            obtain ⟨x1, s1⟩ := res
            have hw := ih (fun f k h => hsite f k h) none sg a w ιg φg x1 s1 hIg h1
            rw [h1] at hr
            refine wpIn_mono hw fun e a1 w1 hq => ?_
            obtain ⟨ι1, φ1, hI1, hx⟩ := hq
            cases x1 <;> cases e <;> simp [XRel] at hx <;> simp at hr <;>
              first
                | exact ihm s1 a1 w1 ι1 φ1 hI1 hr
                | (obtain ⟨rfl, rfl⟩ := hr; exact ⟨ι1, φ1, hI1, by simp [XRel] <;> exact hx⟩)
    exact wpIn_loop_rounds n (key n s a w ι φ hI hr)
  | exit id =>
    intro hsite k s a w ι φ x s' hI hr
    simp only [run, Option.map_eq_some_iff, Prod.mk.injEq] at hr
    obtain ⟨s2, hg, rfl, rfl⟩ := hr
    obtain ⟨ι2, φ2, hI2⟩ := gc_sound hI hg
    exact wpIn_exit ⟨ι2, φ2, hI2, rfl⟩
  | ret =>
    intro hsite k s a w ι φ x s' hI hr
    simp only [run, Option.map_eq_some_iff, Prod.mk.injEq] at hr
    obtain ⟨s2, hg, rfl, rfl⟩ := hr
    obtain ⟨ι2, φ2, hI2⟩ := gc_sound hI hg
    exact wpIn_ret ⟨ι2, φ2, hI2, trivial⟩
  | rangeFunc g ps asg body =>
    intro hsite k s a w ι φ x s' hI hr
    simp only [run] at hr
    split at hr
    case h_2 => cases hr
    rename_i y H' n' hm
    simp only [Option.some.injEq, Prod.mk.injEq] at hr
    obtain ⟨rfl, rfl⟩ := hr
    cases hs : cf.site with
    | none => unfold rangeM at hm; rw [hs] at hm; simp [AM.run] at hm
    | some fk =>
      obtain ⟨f, k⟩ := fk
      exact range_sound hcf hI hs (hsite f k hs) hm
  | _ => intro hsite k s a w ι φ x s' hI hr; simp [run] at hr

/-! ### Results -/
theorem load_rel {ι φ H w n} {t : TypeId} {u : Value} {x y : AV} {H' : AH} {n' : Nat} (hS : SRel ι φ H w) (hx : ARel ι φ u x) (h : (loadM P t x).run H n = some (.ok y, H', n')) :
    ∃ v, (do loadVar t (← asAddr u)).run P w = .ok v w ∧ ARel ι φ v y := by
  have ofO : ∀ {o : Option AV}, (AM.ofO o).run H n = some (.ok y, H', n') → o = some y := fun {o} h => by
    cases o with
    | none => simp [AM.ofO, AM.run] at h
    | some x => simp [AM.ofO, AM.run] at h; rw [h.1]
  unfold loadM at h
  split at h
  case h_2 => simp [AM.run] at h
  rename_i g m hg hs
  cases hx with
  | ptr id e j b off sz lim len hφ he =>
    simp only [AM.run] at h
    split at h
    case h_2 => simp [AM.run] at h
    rename_i p s es hid
    have hy := ofO h
    obtain ⟨loc, hl, hb⟩ := hS.blk id _ hid
    rw [hφ] at hl; cases hl
    obtain ⟨⟨rfl, rfl⟩, _, _, cs, T, F, hb, _, _, hr⟩ := hb
    rw [← rdRow_toL he] at hy
    obtain ⟨u, h1, h2⟩ := run_loadVar_rel (P := P) hb hr hg hs hy
    refine ⟨u, by simpa [asAddr] using h1, ?_⟩
    cases p
    · exact h2
    · exact h2.of_none
  | rp sz es e j he hw b off cs T F us hm h1 h2 h3 =>
    have hy := ofO h
    rw [← rdRow_toL he] at hy
    have hr : RowRel ι Phi.none cs off sz es.toL := ⟨hw, fun e j c x hc hx => ⟨us e j, h1 e j c x hc hx, h2 e j c x hc hx, h3 e j c x hc hx⟩⟩
    obtain ⟨u, h1, h2⟩ := run_loadVar_rel (P := P) (hS.imm _ _ hm) hr hg hs hy
    exact ⟨u, by simpa [asAddr] using h1, h2.of_none⟩
  | _ => simp [AM.run] at h

def resSem (tmps : Array Value) : ResultVar → Sem Value
  | .tmp t => pure (tmps.getD t undef)
  | .cell a t => do loadVar t (← asAddr (tmps.getD a undef))

theorem result_rel {ι φ H w} {tmps : Array Value} {env : Env} (hS : SRel ι φ H w) (hE : ERel ι φ tmps env) {r : ResultVar} {x : AV} (h : resultA P env H r = some x) :
    ∃ u, (resSem tmps r).run P w = .ok u w ∧ ARel ι φ u x := by
  have hg : ∀ t, ARel ι φ (tmps.getD t undef) (look env t) := hE
  cases r with
  | tmp t => simp [resultA] at h; subst h; exact ⟨tmps.getD t undef, by simp [resSem], by simpa using hg t⟩
  | cell a t =>
    simp only [resultA] at h
    split at h
    case h_2 => cases h
    rename_i y res hrun
    cases h
    exact load_rel hS (hg a) hrun

theorem results_rel {ι φ H w} {tmps : Array Value} {env : Env} (hS : SRel ι φ H w) (hE : ERel ι φ tmps env) : ∀ {rs : List ResultVar} {xs : List AV}, resultsA P env H rs = some xs →
    ∃ us, (rs.mapM (resSem tmps)).run P w = .ok us w ∧ ARels ι φ us xs
  | [], xs, h => by simp [resultsA] at h; subst h; exact ⟨[], by simp, ARels.nil⟩
  | r :: rs, xs, h => by
    simp only [resultsA] at h
    cases h1 : resultA P env H r with
    | none => simp [h1] at h
    | some x =>
    cases h2 : resultsA P env H rs with
    | none => simp [h1, h2] at h
    | some ys =>
      simp [h1, h2] at h
      subst h
      obtain ⟨u, g1, g2⟩ := result_rel hS hE h1
      obtain ⟨us, g3, g4⟩ := results_rel hS hE h2
      exact ⟨u :: us, by simp [List.mapM_cons, g1, g3], g4.cons g2⟩

theorem results_eq (fn : Func) (tmps : Array Value) : results fn tmps = (do let vs ← fn.results.mapM (resSem tmps); pure (if h : vs.size = 1 then vs[0] else .tuple vs)) := by
  unfold results
  congr 1

theorem results_run {w : World} {fn : Func} {tmps : Array Value} {us : List Value} (h : (fn.results.toList.mapM (resSem tmps)).run P w = .ok us w) :
    (results fn tmps).run P w = .ok (if h : us.length = 1 then us[0] else .tuple us.toArray) w := by
  rw [results_eq]
  have : (fn.results.mapM (resSem tmps)).run P w = .ok us.toArray w := by
    rw [Array.mapM_eq_mapM_toList]
    simp [h]
  simp only [Sem.run_bind, this, Result.andThen_ok, Sem.run_pure]
  congr 1

theorem zipKp_fst : ∀ (xs : List AV) (ks : List Kp), (zipKp xs ks).map (·.1) = xs
  | [], ks => by cases ks <;> rfl
  | x :: xs, [] => by simp [zipKp, zipKp_fst xs []]
  | x :: xs, k :: ks => by simp [zipKp, zipKp_fst xs ks]

theorem keepAll_length {n0 : Nat} {l : List (AV × Kp)} {H : AH} {nx : Nat} {r : List AV × AH × Nat} (h : keepAll n0 l H nx = some r) : n0 ≤ r.2.1.length := by
  unfold keepAll at h
  simp only [] at h
  split at h
  case h_1 => cases h
  split at h
  case isFalse => cases h
  cases h
  simp only [AH.only, List.length_map]
  exact gcTo_length

theorem oneOr_rel {ι φ us xs} (h : ARels ι φ us xs) : ARel ι φ (if h : us.length = 1 then us[0] else .tuple us.toArray) (oneOr xs) := by
  match xs, h with
  | [x], h =>
    obtain ⟨u, us', rfl, h1, h2⟩ := h.uncons
    have := h2.nil_inv
    subst this
    exact h1
  | [], h => rw [h.nil_inv]; exact .tup [] [] rfl (fun i u c h => by simp at h)
  | x :: y :: xs, h =>
    rw [dif_neg (by rw [h.1]; simp)]
    exact .tup us _ h.1 h.2

/-- What is kept of a heap behind a call. -/
theorem finish_sound {ι0 φ0 H0 w0 N ι φ s a w} (h : Inv ι0 φ0 H0.length H0 w0 N ι φ s a w) (hfr : ∀ i, H0.length ≤ i → φ0 i = .none) {ks : List Kp} {us : List Value} {xs ys : List AV} {H' : AH} (hx : ARels ι φ us xs) (hf : finish H0.length ks xs s.heap s.nx = some (ys, H')) :
    ∃ ι' φ', Ext φ0 φ' H0.length H'.length ∧ SRel ι' φ' H' w ∧ Frm ι0 H0 φ0 w0 ι' H' φ' w ∧ ARels ι' φ' us ys := by
  unfold finish at hf
  simp only [Option.map_eq_some_iff, Prod.mk.injEq] at hf
  obtain ⟨⟨zs, H2, nx'⟩, hk, rfl, rfl⟩ := hf
  obtain ⟨ι', φ', g1, g2, g3, g4, g5, g6, g7⟩ := keepAll_sound h.rel h.le h.fresh (by rw [zipKp_fst]; exact hx) hk
  refine ⟨ι', φ', ⟨by show H0.length ≤ H2.length; rw [← g4]; exact g3, fun i hi => ?_, fun i h1 _ => hfr i h1⟩, g5, h.frm.trans g7, g6⟩
  by_cases hi0 : i < H0.length
  · rw [g1 i hi0]; exact h.base i hi0
  · have hi : ¬ (H0.length ≤ i ∧ i < H2.length) := hi
    rw [g2 i (by omega), hfr i (by omega)]

theorem argsEnv_look {ι φ} {tmps : Array Value} : ∀ {xs : List AV} {vs : List Value} {i : Nat}, ARels ι φ vs xs → (∀ k, k < vs.length → tmps.getD (i + k) undef = vs.getD k undef) → ERel ι φ tmps (argsEnv i xs)
  | [], vs, i, h, _ => fun t => .junk _
  | x :: xs, vs, i, h, hk => fun t => by
    obtain ⟨u, us, rfl, ha, hb⟩ := h.uncons
    simp only [argsEnv]
    rw [look_cons]
    split
    · rename_i e
      subst e
      have := hk 0 (by simp)
      simp only [Nat.add_zero, List.getD_cons_zero] at this
      rw [this]; exact ha
    · exact argsEnv_look hb (fun k hkl => by
        have := hk (k + 1) (by simpa using hkl)
        rw [show i + 1 + k = i + (k + 1) by omega, this]; simp) t

/-- The marks are come to: nothing of what is known is touched. -/
theorem marks_leave {ι0 : Iota} {φ0 : Phi} {n0 : Nat} {H0 : AH} {w0 : World} {N : Nat} {ι : Iota} {φ : Phi} {s : St} {fn : Func} {R : Ending → World → Prop} {u : FrameMode} (hu : u ≠ .run) : ∀ {ds : List Deferred} {a : Act} {w : World}, Inv ι0 φ0 n0 H0 w0 N ι φ s { a with defers := ds } w →
    (∀ w', Inv ι0 φ0 n0 H0 w0 N ι φ s { a with defers := [] } w' → LeavesIn (FR none) 0 P fn a.tmps R [] u w') → LeavesInM (FR none) 0 P fn a.tmps R ds u w
  | [], a, w, hI, h => h w hI
  | d :: ds, a, w, hI, h => by
    obtain ⟨⟨r, h1, h2, h3, h4, h5, h6⟩, hr⟩ := hI.defers
    refine ⟨hu, .inl ⟨r, w.putObj r (.deferred none), by rw [h1], run_takeDeferred h3, ?_⟩⟩
    have ho : ∀ k, k ≠ r → (w.putObj r (.deferred none)).heap[k]? = w.heap[k]? := fun k hk => World.putObj_heap_other hk
    refine marks_leave hu (a := a) ⟨hI.base, hI.fresh, hI.le, hI.rel.off h4 h5 ho, hI.env, hI.size, hr.put ho h6, ?_⟩ h
    exact ⟨hI.frm.os, hI.frm.tape, hI.frm.output, by simpa using hI.frm.size, fun b hb hn => (ho b (by omega)).trans (hI.frm.keep b hb hn), hI.frm.sub, hI.frm.imm, hI.frm.grow⟩

/-! ### The start -/
theorem SRel.phi {ι φ φ' H w} (h : SRel ι φ H w) (h1 : ∀ k l, φ k = some l → φ' k = some l) (h2 : ∀ k b, H.at k = some b → φ' k = φ k) : SRel ι φ' H w where
  imm := h.imm
  blk id b hb := by
    obtain ⟨loc, hl, hbr⟩ := h.blk id b hb
    exact ⟨loc, h1 _ _ hl, hbr.mono h1⟩
  own id b bl off sz lim len hb hl := by rw [h2 id b hb] at hl; exact h.own id b _ _ _ _ _ hb hl
  inj id id' b b' bl o1 s1 l1 n1 o2 s2 l2 n2 hb hb' hl hl' := by
    rw [h2 id b hb] at hl; rw [h2 id' b' hb'] at hl'
    exact h.inj _ _ _ _ _ _ _ _ _ _ _ _ _ hb hb' hl hl'

def startφ (φ : Phi) (n : Nat) (free : List Nat) : Phi := match free with
  | [] => φ
  | _ => fun k => if k < n then φ k else onlyφ φ (moved free n) k

theorem moved_get {free : List Nat} {n k : Nat} (h : k < n) : (moved free n)[k]? = some (cond (free.contains k) (n + 100 + k) k) := by
  unfold moved
  rw [List.getElem?_append_left (by simpa using h), List.getElem?_map, List.getElem?_range h]
  rfl
theorem moved_le {free : List Nat} {n : Nat} : n ≤ (moved free n).length := by unfold moved; simp

theorem start_inv {ι φ H w} {N : Nat} {free : List Nat} {args : List AV} {vs : List Value} {tmps : Array Value} (hS : SRel ι φ H w) (hfr : ∀ i, H.length ≤ i → φ i = .none) (hv : ARels ι φ vs args) (hn : (moved free H.length).Nodup)
    (hN : tmps.size = N) (hk : ∀ k, k < vs.length → tmps.getD (0 + k) undef = vs.getD k undef) : Inv ι φ H.length H w N ι (startφ φ H.length free) (startS free args H) { tmps, defers := [] } w := by
  cases free with
  | nil => exact ⟨fun _ _ => rfl, hfr, Nat.le_refl _, hS, argsEnv_look hv hk, hN, trivial, Frm.refl _ _ _ _⟩
  | cons f fs =>
    have m1 : ∀ k l, onlyφ φ (moved (f :: fs) H.length) k = some l → startφ φ H.length (f :: fs) k = some l := fun k l h => by
      show (if k < H.length then φ k else _) = _
      split
      · rename_i hlt
        unfold onlyφ at h
        rw [moved_get hlt] at h
        cases hc : (f :: fs).contains k with
        | false => rw [hc] at h; exact h
        | true => rw [hc] at h; simp at h; rw [hfr _ (by omega)] at h; cases h
      · exact h
    have m2 : ∀ k b, (H.only (moved (f :: fs) H.length)).at k = some b → startφ φ H.length (f :: fs) k = onlyφ φ (moved (f :: fs) H.length) k := fun k b hb => by
      obtain ⟨loc, hl, _⟩ := (hS.only hn).blk k b hb
      rw [hl]; exact m1 k loc hl
    have hS1 := (hS.only hn).phi m1 m2
    refine ⟨fun k hk => ?_, fun k hk => ?_, moved_le, hS1, argsEnv_look ((ARels.ren onlyφ_of hv).mono m1) hk, hN, trivial, ⟨rfl, rfl, rfl, Nat.le_refl _, fun _ _ _ => rfl, fun b hb => .inr ?_, fun _ _ h => h, fun _ h h' => absurd h h'⟩⟩
    · show (if k < H.length then φ k else _) = _
      rw [if_pos hk]
    · have hk : (moved (f :: fs) H.length).length ≤ k := hk
      have := moved_le (free := f :: fs) (n := H.length)
      show (if k < H.length then φ k else _) = _
      rw [if_neg (by omega)]
      unfold onlyφ
      rw [List.getElem?_eq_none hk]; rfl
    · obtain ⟨id, blk, off, sz, lim, len, h1, h2⟩ := hb
      have h1 : (H.only (moved (f :: fs) H.length)).at id = some blk := h1
      rw [m2 id blk h1] at h2
      exact Owned.only ⟨id, blk, off, sz, lim, len, h1, h2⟩

theorem runF_sound (hdr : ∀ cf, CallSound P cf → DrawSound P cf) {cf : CallF} (hcf : CallSound P cf) {n : Nat} {pol : Pol} {ι : Iota} {φ : Phi} {H : AH} {w : World} {f : FuncId} {args : List AV} {vs : List Value} {r : AR AV} {H' : AH}
    (hS : SRel ι φ H w) (hfr : ∀ i, H.length ≤ i → φ i = .none) (hv : ARels ι φ vs args) (h : runF P cf n pol f args H = some (r, H')) : Calls P f vs.toArray w (CallPost ι φ H w r H') := by
  unfold runF at h
  split at h
  case h_1 => cases h
  rename_i fn hfn
  split at h
  case h_1 => cases h
  rename_i c hbody
  split at h
  case isFalse => cases h
  rename_i hlen
  obtain ⟨hlen, hsf, hmv⟩ := hlen
  refine callsIn_wide.1 (callsIn_of_wp_marks (n := 0) hfn hbody trivial ?_)
  have hI : Inv ι φ H.length H w fn.ntmps ι (startφ φ H.length pol.free) (startS pol.free args H) { tmps := vs.toArray ++ Array.replicate (fn.ntmps - vs.toArray.size) undef, defers := [] } w :=
    start_inv hS hfr hv (nodupB_nodup hmv) (by simp [hv.1]; omega) fun k hk => by
      rw [Array.getD_eq_getD_getElem?, List.getD_eq_getElem?_getD, Nat.zero_add, Array.getElem?_append_left (by simpa using hk)]
      simp
  cases hrun : run P cf fn.ntmps H.length n pol none c (startS pol.free args H) with
  | none => rw [hrun] at h; cases h
  | some res =>
  obtain ⟨x, s⟩ := res
  rw [hrun] at h
  refine wpIn_mono (run_sound hcf (hdr _ hcf) c (fun f' k hs => by
    have : f' = f := by rw [hs] at hsf; exact hsf
    subst this
    exact hcf.site f' k fn c hs hfn hbody) none _ _ w ι _ x s hI hrun) fun e a w' hq => ?_
  obtain ⟨ι', φ', hI', hx⟩ := hq
  have ret : retA P H.length pol fn.results.toList s = some (r, H') → LeavesInM (FR none) 0 P fn a.tmps (CallPost ι φ H w r H') a.defers .returning w' := fun h => by
    unfold retA at h
    split at h
    case h_2 => cases h
    rename_i xs hres
    simp only [Option.map_eq_some_iff, Prod.mk.injEq] at h
    obtain ⟨⟨ys, H2⟩, hf, rfl, rfl⟩ := h
    refine marks_leave (by simp) hI' fun w2 hI2 => ?_
    obtain ⟨us, g1, g2⟩ := results_rel (P := P) hI2.rel hI2.env hres
    obtain ⟨ι2, φ2, k1, k2, k3, k4⟩ := finish_sound hI2 hfr g2 hf
    exact ⟨_, results_run g1, ι2, φ2, k1, k2, k3, _, rfl, oneOr_rel k4⟩
  cases x with
  | nm =>
    cases e <;> simp [XRel] at hx
    exact ret h
  | rt =>
    cases e <;> simp [XRel] at hx
    exact ret h
  | pn x =>
    cases e <;> simp [XRel] at hx
    obtain ⟨u, rfl, hu⟩ := hx
    simp only [Option.map_eq_some_iff, Prod.mk.injEq] at h
    obtain ⟨⟨ys, H2⟩, hf, rfl, rfl⟩ := h
    refine marks_leave (by simp) hI' fun w2 hI2 => ?_
    obtain ⟨ι2, φ2, k1, k2, k3, k4⟩ := finish_sound hI2 hfr (ARels.nil.cons hu) hf
    exact ⟨ι2, φ2, k1, k2, k3, u, rfl, by have := oneOr_rel k4; simpa using this⟩
  | ex i => cases h
  | gt i => cases h
end Go.AMach
