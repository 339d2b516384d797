/- The abstract machine: regions that draw their order. -/
import Derived.Test.YtbkbifpjckippaaAm13b
namespace Go.AMach
set_option linter.unusedVariables false
set_option linter.unusedSimpArgs false
set_option linter.unnecessarySimpa false
set_option linter.unusedSectionVars false
variable [Sites]
open Go.RowKit
set_option linter.unusedVariables false
set_option linter.unusedSimpArgs false
variable {P : Program}

/-! ### What a program over the heap looks at, and writes -/
theorem runL_run {α : Type} : ∀ (m : AM α) (H : AH) (n : Nat) (R W : List Nat) r H' n' R' W', m.runL H n R W = some (r, H', n', R', W') → m.run H n = some (r, H', n')
  | .ret a, H, n, R, W, r, H', n', R', W', h => by simp [AM.runL] at h; simp [AM.run, h]
  | .pn x, H, n, R, W, r, H', n', R', W', h => by simp [AM.runL] at h; simp [AM.run, h]
  | .fail, H, n, R, W, r, H', n', R', W', h => by simp [AM.runL] at h
  | .get i k, H, n, R, W, r, H', n', R', W', h => by simp only [AM.runL, AM.run] at h ⊢; exact runL_run _ _ _ _ _ _ _ _ _ _ h
  | .next k, H, n, R, W, r, H', n', R', W', h => by simp only [AM.runL, AM.run] at h ⊢; exact runL_run _ _ _ _ _ _ _ _ _ _ h
  | .set i b k, H, n, R, W, r, H', n', R', W', h => by
    simp only [AM.runL, AM.run] at h ⊢
    cases hi : H.at i with
    | none => rw [hi] at h; cases h
    | some _ => rw [hi] at h; exact runL_run _ _ _ _ _ _ _ _ _ _ h
  | .kill i k, H, n, R, W, r, H', n', R', W', h => by
    simp only [AM.runL, AM.run] at h ⊢
    cases hi : H.at i with
    | none => rw [hi] at h; cases h
    | some _ => rw [hi] at h; exact runL_run _ _ _ _ _ _ _ _ _ _ h
  | .new b k, H, n, R, W, r, H', n', R', W', h => by simp only [AM.runL, AM.run] at h ⊢; exact runL_run _ _ _ _ _ _ _ _ _ _ h
  | .br b t e, H, n, R, W, r, H', n', R', W', h => by
    simp only [AM.runL, AM.run] at h ⊢
    cases b with
    | true => exact runL_run t _ _ _ _ _ _ _ _ _ (by simpa using h)
    | false => exact runL_run e _ _ _ _ _ _ _ _ _ (by simpa using h)
  | .call c k, H, n, R, W, r, H', n', R', W', h => by
    simp only [AM.runL, AM.run] at h ⊢
    cases hc : c.val with
    | none => rw [hc] at h; cases h
    | some x => rw [hc] at h; exact runL_run (k x.1 x.2) H n R W r H' n' R' W' h

theorem runL_foot {α : Type} : ∀ (m : AM α) (H : AH) (n : Nat) (R W : List Nat) r H' n' R' W', m.runL H n R W = some (r, H', n', R', W') →
    (∀ i ∈ R, i ∈ R') ∧ (∀ i ∈ W, i ∈ W') ∧ (∀ i, i ∉ W' → H'.at i = H.at i) ∧
    ∀ H2 : AH, (∀ i, i ∈ R' ∨ i ∈ W' → H2.at i = H.at i) → ∃ H2', m.runL H2 n R W = some (r, H2', n', R', W') ∧ (∀ i, i ∈ W' → H2'.at i = H'.at i) ∧ (∀ i, i ∉ W' → H2'.at i = H2.at i)
  | .ret a, H, n, R, W, r, H', n', R', W', h => by
    simp [AM.runL] at h; obtain ⟨rfl, rfl, rfl, rfl, rfl⟩ := h
    exact ⟨fun _ h => h, fun _ h => h, fun _ _ => rfl, fun H2 h => ⟨H2, rfl, fun i hi => h i (.inr hi), fun _ _ => rfl⟩⟩
  | .pn x, H, n, R, W, r, H', n', R', W', h => by
    simp [AM.runL] at h; obtain ⟨rfl, rfl, rfl, rfl, rfl⟩ := h
    exact ⟨fun _ h => h, fun _ h => h, fun _ _ => rfl, fun H2 h => ⟨H2, rfl, fun i hi => h i (.inr hi), fun _ _ => rfl⟩⟩
  | .fail, H, n, R, W, r, H', n', R', W', h => by simp [AM.runL] at h
  | .get i k, H, n, R, W, r, H', n', R', W', h => by
    simp only [AM.runL] at h ⊢
    obtain ⟨h1, h2, h3, h4⟩ := runL_foot _ _ _ _ _ _ _ _ _ _ h
    refine ⟨fun j hj => h1 j (List.mem_cons_of_mem _ hj), h2, h3, fun H2 hH => ?_⟩
    rw [hH i (.inl (h1 i List.mem_cons_self))]
    exact h4 H2 hH
  | .next k, H, n, R, W, r, H', n', R', W', h => by
    simp only [AM.runL] at h ⊢
    exact runL_foot _ _ _ _ _ _ _ _ _ _ h
  | .set i b k, H, n, R, W, r, H', n', R', W', h => by
    simp only [AM.runL] at h ⊢
    cases hi : H.at i with
    | none => rw [hi] at h; cases h
    | some b0 =>
      rw [hi] at h
      obtain ⟨h1, h2, h3, h4⟩ := runL_foot _ _ _ _ _ _ _ _ _ _ h
      have hiW := h2 i List.mem_cons_self
      refine ⟨h1, fun j hj => h2 j (List.mem_cons_of_mem _ hj), fun j hj => ?_, fun H2 hH => ?_⟩
      · rw [h3 j hj, at_setAt, if_neg (fun e => hj (by subst e; exact hiW))]
      · rw [hH i (.inr hiW), hi]
        obtain ⟨H2', g1, g2, g3⟩ := h4 (H2.setAt i (some b)) fun j hj => by rw [at_setAt, at_setAt, hH j hj]
        exact ⟨H2', g1, g2, fun j hj => by rw [g3 j hj, at_setAt, if_neg (fun e => hj (by subst e; exact hiW))]⟩
  | .kill i k, H, n, R, W, r, H', n', R', W', h => by
    simp only [AM.runL] at h ⊢
    cases hi : H.at i with
    | none => rw [hi] at h; cases h
    | some b0 =>
      rw [hi] at h
      obtain ⟨h1, h2, h3, h4⟩ := runL_foot _ _ _ _ _ _ _ _ _ _ h
      have hiW := h2 i List.mem_cons_self
      refine ⟨h1, fun j hj => h2 j (List.mem_cons_of_mem _ hj), fun j hj => ?_, fun H2 hH => ?_⟩
      · rw [h3 j hj, at_setAt, if_neg (fun e => hj (by subst e; exact hiW))]
      · rw [hH i (.inr hiW), hi]
        obtain ⟨H2', g1, g2, g3⟩ := h4 (H2.setAt i none) fun j hj => by rw [at_setAt, at_setAt, hH j hj]
        exact ⟨H2', g1, g2, fun j hj => by rw [g3 j hj, at_setAt, if_neg (fun e => hj (by subst e; exact hiW))]⟩
  | .new b k, H, n, R, W, r, H', n', R', W', h => by
    simp only [AM.runL] at h ⊢
    obtain ⟨h1, h2, h3, h4⟩ := runL_foot _ _ _ _ _ _ _ _ _ _ h
    have hiW := h2 n List.mem_cons_self
    refine ⟨h1, fun j hj => h2 j (List.mem_cons_of_mem _ hj), fun j hj => ?_, fun H2 hH => ?_⟩
    · rw [h3 j hj, at_setAt, if_neg (fun e => hj (by subst e; exact hiW))]
    · obtain ⟨H2', g1, g2, g3⟩ := h4 (H2.setAt n (some b)) fun j hj => by rw [at_setAt, at_setAt, hH j hj]
      exact ⟨H2', g1, g2, fun j hj => by rw [g3 j hj, at_setAt, if_neg (fun e => hj (by subst e; exact hiW))]⟩
  | .br b t e, H, n, R, W, r, H', n', R', W', h => by
    simp only [AM.runL] at h ⊢
    cases b with
    | true => simpa using runL_foot t _ _ _ _ _ _ _ _ _ (by simpa using h)
    | false => simpa using runL_foot e _ _ _ _ _ _ _ _ _ (by simpa using h)
  | .call c k, H, n, R, W, r, H', n', R', W', h => by
    simp only [AM.runL] at h ⊢
    cases hc : c.val with
    | none => rw [hc] at h; cases h
    | some x => rw [hc] at h; exact runL_foot (k x.1 x.2) H n R W r H' n' R' W' h

/-! ### An operation hangs on its operands alone -/

theorem opM_congr {cf : CallF} {env env' : Env} {o : Oper} (h : ∀ x ∈ o.op.operands, ev env x = ev env' x) : opM P cf env o = opM P cf env' o := by
  have lst : ∀ (xs : Array Operand), (∀ x ∈ xs, ev env x = ev env' x) → xs.toList.map (ev env) = xs.toList.map (ev env') := fun xs hx => List.map_congr_left fun x hm => hx x (by simpa using hm)
  have opt : ∀ (x : Option Operand), (∀ y ∈ x.toArray, ev env y = ev env' y) → x.map (ev env) = x.map (ev env') := fun x hx => by
    cases x with
    | none => rfl
    | some y => simp; exact hx y (by simp)
  have prt : ∀ (ps : Array (Nat × Operand)), (∀ x ∈ (ps.toList.map (·.2)).toArray, ev env x = ev env' x) → (ps.toList.map fun x => (x.1, ev env x.2)) = ps.toList.map fun x => (x.1, ev env' x.2) := fun ps hx =>
    List.map_congr_left fun x hm => by rw [hx x.2 (by simp; exact ⟨x.1, by simpa using hm⟩)]
  unfold opM
  cases hop : o.op <;> simp only [hop, Op.operands] at h ⊢
  case pick c a b => rw [h c (by simp), h a (by simp), h b (by simp)]
  case build t ps => rw [prt ps h]
  case buildSlice t len ps => rw [prt ps h]
  case makeFunc f first cap =>
    rw [lst first fun x hx => h x (by simp [hx]), lst cap fun x hx => h x (by simp [hx])]
  case makeMap t r => cases r <;> rfl
  case slice t x lo hi mx =>
    rw [h x (by simp), opt lo fun y hy => h y (by simp at hy ⊢; simp [hy]), opt hi fun y hy => h y (by simp at hy ⊢; simp [hy]), opt mx fun y hy => h y (by simp at hy ⊢; simp [hy])]
  case call c =>
    unfold callOpM
    cases hc : c.callee with
    | builtin b =>
      simp only [Call.operands, hc] at h ⊢
      rw [lst c.args fun x hx => h x (by simp [hx])]
    | invoke r m => rfl
    | value f =>
      simp only [Call.operands, hc] at h ⊢
      rw [h f (by simp), lst c.args fun x hx => h x (by simp [hx])]
  case binOp op t x y yt => rw [h x (by simp), h y (by simp)]
  case store t x y => rw [h x (by simp), h y (by simp)]
  case makeSlice t x y => rw [h x (by simp), h y (by simp)]
  case indexAddr t x y => rw [h x (by simp), h y (by simp)]
  case index t x y => rw [h x (by simp), h y (by simp)]
  case lookup t x y ok => rw [h x (by simp), h y (by simp)]
  case mapUpdate t x y z => rw [h x (by simp), h y (by simp), h z (by simp)]
  case move x => rw [h x (by simp)]
  case assign x => rw [h x (by simp)]
  case box t x => rw [h x (by simp)]
  case load t x => rw [h x (by simp)]
  case nilCheck x => rw [h x (by simp)]
  case unOp op t x => rw [h x (by simp)]
  case convert s d x => rw [h x (by simp)]
  case fieldAddr t x f => rw [h x (by simp)]
  case field t x f => rw [h x (by simp)]
  case extract x i => rw [h x (by simp)]

/-! ### Steps of a region that draws, in any order -/
structure DS where
  env : Env
  heap : AH

def DS.eqv (s t : DS) : Prop := (∀ k, look s.env k = look t.env k) ∧ ∀ i, s.heap.at i = t.heap.at i

/-- One operation, at its own names. -/
def stepD (P : Program) (cf : CallF) (N : Nat) (ops : Array Oper) (base : Nat) (p : Oper × Nat) (s : DS) : Option (DS × Log) :=
  let step : Option (DS × Log) :=
    match (opM P cf s.env p.1).runL s.heap (base + roomEach * p.2) [] [] with
    | some (.ok x, H, n, R, W) => if n ≤ base + roomEach * (p.2 + 1) ∧ dOk N p.1.dst = true then some (⟨pushO s.env p.1.dst x, H⟩, (R, W)) else none
    | _ => none
  match p.1.guard with
  | none => step
  | some (j, want) => match yieldA ops s.env j with
    | none => none
    | some y => if y = some want then step else if dOk N p.1.dst = true then some (⟨pushO s.env p.1.dst (.v undef), s.heap⟩, ([], [])) else none

abbrev Item := (Oper × Nat) × Log

inductive RunT (P : Program) (cf : CallF) (N : Nat) (ops : Array Oper) (base : Nat) : List Item → DS → DS → Prop
  | nil {s t : DS} (h : s.eqv t) : RunT P cf N ops base [] s t
  | cons {p : Oper × Nat} {l : Log} {r : List Item} {s s1 t : DS} (h : stepD P cf N ops base p s = some (s1, l)) (k : RunT P cf N ops base r s1 t) : RunT P cf N ops base ((p, l) :: r) s t

theorem runDraw_trace {cf : CallF} {N : Nat} {ops : Array Oper} {base : Nat} : ∀ (r : List Oper) (i : Nat) (env : Env) (H : AH) (logs : List Log) (env' : Env) (H' : AH) (logs' : List Log),
    runDraw P cf N ops base r i env H logs = some (env', H', logs') → ∃ t : List Item, t.map (·.1) = r.zipIdx i ∧ logs' = logs ++ t.map (·.2) ∧ RunT P cf N ops base t ⟨env, H⟩ ⟨env', H'⟩
  | [], i, env, H, logs, env', H', logs', h => by
    simp [runDraw] at h
    obtain ⟨rfl, rfl, rfl⟩ := h
    exact ⟨[], by simp, by simp, .nil ⟨fun _ => rfl, fun _ => rfl⟩⟩
  | o :: r, i, env, H, logs, env', H', logs', h => by
    have fin : ∀ (env1 : Env) (H1 : AH) (l : Log), stepD P cf N ops base (o, i) ⟨env, H⟩ = some (⟨env1, H1⟩, l) → runDraw P cf N ops base r (i + 1) env1 H1 (logs ++ [l]) = some (env', H', logs') →
        ∃ t : List Item, t.map (·.1) = (o :: r).zipIdx i ∧ logs' = logs ++ t.map (·.2) ∧ RunT P cf N ops base t ⟨env, H⟩ ⟨env', H'⟩ := fun env1 H1 l h1 h2 => by
      obtain ⟨t, g1, g2, g3⟩ := runDraw_trace r (i + 1) env1 H1 _ env' H' logs' h2
      exact ⟨((o, i), l) :: t, by simp [g1], by simp [g2], .cons h1 g3⟩
    have step : (match (opM P cf env o).runL H (base + roomEach * i) [] [] with
          | some (.ok x, H, n, R, W) => if n ≤ base + roomEach * (i + 1) then (putO N env o.dst x).bind fun env => runDraw P cf N ops base r (i + 1) env H (logs ++ [(R, W)]) else none
          | _ => none) = some (env', H', logs') →
        ∃ env1 H1 l, (match (opM P cf env o).runL H (base + roomEach * i) [] [] with
          | some (.ok x, H, n, R, W) => if n ≤ base + roomEach * (i + 1) ∧ dOk N o.dst = true then some ((⟨pushO env o.dst x, H⟩ : DS), ((R, W) : Log)) else none
          | _ => none) = some (⟨env1, H1⟩, l) ∧ runDraw P cf N ops base r (i + 1) env1 H1 (logs ++ [l]) = some (env', H', logs') := fun h => by
      split at h
      case h_2 => cases h
      split at h
      case isFalse => cases h
      rename_i x H1 n R W heq hn
      simp only [Option.bind_eq_some_iff] at h
      obtain ⟨env1, hput, h⟩ := h
      obtain ⟨hd, rfl⟩ := putO_some hput
      exact ⟨_, _, _, by rw [if_pos ⟨hn, hd⟩], h⟩
    simp only [runDraw] at h
    cases hg : o.guard with
    | none =>
      rw [hg] at h
      obtain ⟨env1, H1, l, h1, h2⟩ := step h
      exact fin env1 H1 l (by simp only [stepD, hg]; exact h1) h2
    | some g =>
      obtain ⟨j, want⟩ := g
      rw [hg] at h
      simp only [] at h
      cases hy : yieldA ops env j with
      | none => rw [hy] at h; cases h
      | some y =>
        rw [hy] at h
        simp only [] at h
        by_cases hw : y = some want
        · rw [if_pos hw] at h
          obtain ⟨env1, H1, l, h1, h2⟩ := step h
          exact fin env1 H1 l (by simp only [stepD, hg, hy]; rw [if_pos hw]; exact h1) h2
        · rw [if_neg hw] at h
          simp only [Option.bind_eq_some_iff] at h
          obtain ⟨env1, hput, h⟩ := h
          obtain ⟨hd, rfl⟩ := putO_some hput
          exact fin _ _ _ (by simp only [stepD, hg, hy]; rw [if_neg hw, if_pos hd]) h

theorem mem_disj {a b : List Nat} (h : disj a b = true) {i : Nat} (ha : i ∈ a) : i ∉ b := fun hb => by
  unfold disj at h
  rw [List.all_eq_true] at h
  have := h i ha
  simp at this
  exact this hb

/-- What a step does hangs on what it looks at. -/
theorem stepD_foot {cf : CallF} {N : Nat} {ops : Array Oper} {base : Nat} {p : Oper × Nat} {s s1 : DS} {l : Log} (h : stepD P cf N ops base p s = some (s1, l)) :
    ∃ x : AV, s1.env = pushO s.env p.1.dst x ∧ dOk N p.1.dst = true ∧ (∀ i, i ∉ l.2 → s1.heap.at i = s.heap.at i) ∧
      ∀ t : DS, (∀ y ∈ p.1.op.operands, ev s.env y = ev t.env y) → (∀ g, p.1.guard = some g → yieldA ops s.env g.1 = yieldA ops t.env g.1) → (∀ i, i ∈ l.1 ∨ i ∈ l.2 → t.heap.at i = s.heap.at i) →
        ∃ H2, stepD P cf N ops base p t = some (⟨pushO t.env p.1.dst x, H2⟩, l) ∧ (∀ i, i ∈ l.2 → H2.at i = s1.heap.at i) ∧ (∀ i, i ∉ l.2 → H2.at i = t.heap.at i) := by
  have main : (match (opM P cf s.env p.1).runL s.heap (base + roomEach * p.2) [] [] with
      | some (.ok x, H, n, R, W) => if n ≤ base + roomEach * (p.2 + 1) ∧ dOk N p.1.dst = true then some ((⟨pushO s.env p.1.dst x, H⟩ : DS), ((R, W) : Log)) else none
      | _ => none) = some (s1, l) → ∃ x : AV, s1.env = pushO s.env p.1.dst x ∧ dOk N p.1.dst = true ∧ (∀ i, i ∉ l.2 → s1.heap.at i = s.heap.at i) ∧
      ∀ t : DS, (∀ y ∈ p.1.op.operands, ev s.env y = ev t.env y) → (∀ i, i ∈ l.1 ∨ i ∈ l.2 → t.heap.at i = s.heap.at i) →
        ∃ H2, (match (opM P cf t.env p.1).runL t.heap (base + roomEach * p.2) [] [] with
      | some (.ok x, H, n, R, W) => if n ≤ base + roomEach * (p.2 + 1) ∧ dOk N p.1.dst = true then some ((⟨pushO t.env p.1.dst x, H⟩ : DS), ((R, W) : Log)) else none
      | _ => none) = some (⟨pushO t.env p.1.dst x, H2⟩, l) ∧ (∀ i, i ∈ l.2 → H2.at i = s1.heap.at i) ∧ (∀ i, i ∉ l.2 → H2.at i = t.heap.at i) := fun h => by
    split at h
    case h_2 => cases h
    split at h
    case isFalse => cases h
    rename_i x H1 n R W heq hn
    simp only [Option.some.injEq, Prod.mk.injEq] at h
    obtain ⟨rfl, rfl⟩ := h
    obtain ⟨_, _, h3, h4⟩ := runL_foot _ _ _ _ _ _ _ _ _ _ heq
    refine ⟨x, rfl, hn.2, h3, fun t ho hh => ?_⟩
    obtain ⟨H2, g1, g2, g3⟩ := h4 t.heap hh
    refine ⟨H2, ?_, g2, g3⟩
    rw [← opM_congr ho, g1]
    simp only []
    rw [if_pos hn]
  unfold stepD at h
  cases hg : p.1.guard with
  | none =>
    rw [hg] at h
    obtain ⟨x, h1, hd, h2, h3⟩ := main h
    refine ⟨x, h1, hd, h2, fun t ho _ hh => ?_⟩
    obtain ⟨H2, g1, g2, g3⟩ := h3 t ho hh
    exact ⟨H2, by unfold stepD; rw [hg]; exact g1, g2, g3⟩
  | some g =>
    obtain ⟨j, want⟩ := g
    rw [hg] at h
    simp only [] at h
    cases hy : yieldA ops s.env j with
    | none => rw [hy] at h; cases h
    | some y =>
      rw [hy] at h
      simp only [] at h
      by_cases hw : y = some want
      · rw [if_pos hw] at h
        obtain ⟨x, h1, hd, h2, h3⟩ := main h
        refine ⟨x, h1, hd, h2, fun t ho hgd hh => ?_⟩
        obtain ⟨H2, g1, g2, g3⟩ := h3 t ho hh
        have := hgd _ rfl
        simp only [hy] at this
        exact ⟨H2, by unfold stepD; rw [hg]; simp only [← this]; rw [if_pos hw]; exact g1, g2, g3⟩
      · rw [if_neg hw] at h
        split at h
        case isFalse => cases h
        rename_i hd
        simp only [Option.some.injEq, Prod.mk.injEq] at h
        obtain ⟨rfl, rfl⟩ := h
        refine ⟨.v undef, rfl, hd, fun _ _ => rfl, fun t ho hgd hh => ?_⟩
        have := hgd _ rfl
        simp only [hy] at this
        exact ⟨t.heap, by unfold stepD; rw [hg]; simp only [← this]; rw [if_neg hw, if_pos hd], fun i hi => by simp at hi, fun _ _ => rfl⟩

theorem look_push {env env' : Env} (h : ∀ k, look env k = look env' k) (d : Option Tmp) (x : AV) : ∀ k, look (pushO env d x) k = look (pushO env' d x) k := fun k => by
  cases d with
  | none => exact h k
  | some d => simp only [pushO]; rw [look_cons, look_cons, h k]
theorem ev_look {env env' : Env} (h : ∀ k, look env k = look env' k) (x : Operand) : ev env x = ev env' x := by
  cases x with
  | tmp t => exact h t
  | _ => rfl
theorem yieldA_look {env env' : Env} (h : ∀ k, look env k = look env' k) (ops : Array Oper) (j : Nat) : yieldA ops env j = yieldA ops env' j := by
  unfold yieldA
  cases (ops[j]?).bind (·.dst) with
  | none => rfl
  | some d => simp only []; rw [h d]

theorem RunT.eqv {cf : CallF} {N : Nat} {ops : Array Oper} {base : Nat} : ∀ {r : List Item} {s s' t : DS}, RunT P cf N ops base r s t → s.eqv s' → RunT P cf N ops base r s' t
  | [], s, s', t, h, he => by
    cases h with
    | nil h => exact .nil ⟨fun k => (he.1 k).symm.trans (h.1 k), fun i => (he.2 i).symm.trans (h.2 i)⟩
  | (p, l) :: r, s, s', t, h, he => by
    cases h with
    | cons h k =>
      obtain ⟨x, h1, hd, h2, h3⟩ := stepD_foot h
      obtain ⟨H2, g1, g2, g3⟩ := h3 s' (fun y _ => ev_look he.1 y) (fun g _ => yieldA_look he.1 ops g.1) (fun i _ => (he.2 i).symm)
      refine .cons g1 (k.eqv ⟨fun k => by rw [h1]; exact look_push he.1 _ _ k, fun i => ?_⟩)
      by_cases hi : i ∈ l.2
      · exact (g2 i hi).symm
      · show _ = H2.at i
        rw [h2 i hi, g3 i hi, he.2 i]

/-! ### Two that stand side by side change places -/
def Apart2 (ops : Array Oper) (a b : Item) : Prop := a.1.1.apart ops b.1.1 = true ∧ apartL a.2 b.2 = true

theorem ev_put {env : Env} {d : Option Tmp} {x : AV} {y : Operand} (h : ∀ t, d = some t → y ≠ .tmp t) : ev (pushO env d x) y = ev env y := by
  cases d with
  | none => rfl
  | some d =>
    cases y with
    | tmp t =>
      have : t ≠ d := fun e => h d rfl (by rw [e])
      simp only [ev, pushO]
      rw [look_cons, if_neg this]
    | _ => rfl

theorem yieldA_put {ops : Array Oper} {env : Env} {d : Option Tmp} {x : AV} {j : Nat} (h : ∀ t, d = some t → (ops[j]?).bind (·.dst) ≠ some t) : yieldA ops (pushO env d x) j = yieldA ops env j := by
  unfold yieldA
  cases hd : (ops[j]?).bind (·.dst) with
  | none => rfl
  | some t =>
    cases d with
    | none => rfl
    | some d =>
      have : t ≠ d := fun e => h d rfl (by rw [hd, e])
      simp only [pushO]
      rw [look_cons, if_neg this]

theorem looks_put {ops : Array Oper} {o : Oper} {env : Env} {d : Option Tmp} {x : AV} (h : ∀ t, d = some t → t ∉ o.looksAt ops) :
    (∀ y ∈ o.op.operands, ev (pushO env d x) y = ev env y) ∧ ∀ g, o.guard = some g → yieldA ops (pushO env d x) g.1 = yieldA ops env g.1 := by
  refine ⟨fun y hy => ev_put fun t ht e => ?_, fun g hg => yieldA_put fun t ht e => ?_⟩
  · subst e
    refine h t ht ?_
    unfold Oper.looksAt
    refine List.mem_append_left _ ?_
    rw [List.mem_filterMap]
    exact ⟨.tmp t, by simpa using hy, rfl⟩
  · refine h t ht ?_
    unfold Oper.looksAt
    refine List.mem_append_right _ ?_
    obtain ⟨g1, g2⟩ := g
    rw [hg]
    simp only [e]
    simp

theorem put_comm {env : Env} {d e : Option Tmp} {x y : AV} (h : ∀ t, d = some t → e ≠ some t) (k : Nat) : look (pushO (pushO env d x) e y) k = look (pushO (pushO env e y) d x) k := by
  cases d with
  | none => rfl
  | some d =>
    cases e with
    | none => rfl
    | some e =>
      have : d ≠ e := fun he => h d rfl (by rw [he])
      simp only [pushO]
      rw [look_cons, look_cons, look_cons, look_cons]
      by_cases h1 : k = e
      · have h2 : ¬ k = d := fun h2 => this (h2.symm.trans h1)
        rw [if_pos h1, if_pos h1, if_neg h2]
      · rw [if_neg h1, if_neg h1]

theorem RunT.swap {cf : CallF} {N : Nat} {ops : Array Oper} {base : Nat} {a b : Item} {r : List Item} {s t : DS} (h : RunT P cf N ops base (a :: b :: r) s t) (hap : Apart2 ops a b) : RunT P cf N ops base (b :: a :: r) s t := by
  obtain ⟨pa, la⟩ := a
  obtain ⟨pb, lb⟩ := b
  obtain ⟨hs, hl⟩ := hap
  obtain ⟨q1, q2, q3⟩ := Oper.apart_spec hs
  simp only [apartL, Bool.and_eq_true] at hl
  obtain ⟨⟨l1, l2⟩, l3⟩ := hl
  cases h with
  | cons ha k =>
  cases k with
  | cons hb k =>
  rename_i s1 s2
  obtain ⟨xa, a1, _, a2, a3⟩ := stepD_foot ha
  obtain ⟨xb, b1, _, b2, b3⟩ := stepD_foot hb
  -- b first
  have hlb := looks_put (env := s.env) (x := xa) q1
  obtain ⟨Hb, c1, c2, c3⟩ := b3 s (fun y hy => by rw [a1]; exact hlb.1 y hy) (fun g hg => by rw [a1]; exact hlb.2 g hg) (fun i hi => (a2 i (by
    intro hia
    rcases hi with hi | hi
    · exact mem_disj l1 hia hi
    · exact mem_disj l2 hia hi)).symm)
  -- then a
  have hla := looks_put (env := s.env) (x := xb) q3
  obtain ⟨Ha, d1, d2, d3⟩ := a3 ⟨pushO s.env pb.1.dst xb, Hb⟩ (fun y hy => (hla.1 y hy).symm) (fun g hg => (hla.2 g hg).symm) (fun i hi => c3 i (by
    intro hib
    rcases hi with hi | hi
    · exact mem_disj l3 hib hi
    · exact mem_disj l2 hi hib))
  refine .cons c1 (.cons d1 (k.eqv ⟨?_, fun i => ?_⟩))
  · intro k
    rw [b1, a1]
    exact put_comm q2 k
  · show s2.heap.at i = Ha.at i
    by_cases hia : i ∈ la.2
    · rw [d2 i hia]
      exact b2 i (mem_disj l2 hia)
    · rw [d3 i hia]
      by_cases hib : i ∈ lb.2
      · exact (c2 i hib).symm
      · show _ = Hb.at i
        rw [b2 i hib, a2 i hia, c3 i hib]

theorem RunT.front {cf : CallF} {N : Nat} {ops : Array Oper} {base : Nat} : ∀ {r1 r2 : List Item} {x : Item} {s t : DS}, RunT P cf N ops base (r1 ++ x :: r2) s t → (∀ y ∈ r1, Apart2 ops y x) → RunT P cf N ops base (x :: (r1 ++ r2)) s t
  | [], r2, x, s, t, h, _ => h
  | y :: r1, r2, x, s, t, h, hap => by
    cases h with
    | cons hy k =>
      have := RunT.front k fun z hz => hap z (List.mem_cons_of_mem _ hz)
      exact (RunT.cons hy this).swap (hap _ List.mem_cons_self)
end Go.AMach
