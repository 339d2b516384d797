/- The abstract machine, with what comes next as a function; loops are told by a table. -/
import Derived.Test.YtbkbifpjckippaaAm15
namespace Go.AMach
set_option linter.unusedVariables false
set_option linter.unusedSimpArgs false
set_option linter.unnecessarySimpa false
set_option linter.unusedSectionVars false
variable [Sites]
set_option linter.unusedVariables false
set_option linter.unusedSimpArgs false

abbrev Res := AR AV × AH

def AM.runK {α : Type} : AM α → AH → Nat → (AR α → AH → Nat → Option Res) → Option Res
  | .ret a, H, n, K => K (.ok a) H n
  | .pn x, H, n, K => K (.pn x) H n
  | .fail, _, _, _ => none
  | .get i k, H, n, K => (k (H.at i)).runK H n K
  | .next k, H, n, K => (k n).runK H n K
  | .set i b k, H, n, K => match H.at i with
    | some _ => k.runK (H.setAt i (some b)) n K
    | none => none
  | .kill i k, H, n, K => match H.at i with
    | some _ => k.runK (H.setAt i none) n K
    | none => none
  | .new b k, H, n, K => (k n).runK (H.setAt n (some b)) (n + 1) K
  | .br b t e, H, n, K => cond b (t.runK H n K) (e.runK H n K)
  | .call r k, H, n, K => r.fold fun x H2 => (k x H2).runK H n K

def AM.runLK {α : Type} : AM α → AH → Nat → List Nat → List Nat → (AR α → AH → Nat → List Nat → List Nat → Option Res) → Option Res
  | .ret a, H, n, R, W, K => K (.ok a) H n R W
  | .pn x, H, n, R, W, K => K (.pn x) H n R W
  | .fail, _, _, _, _, _ => none
  | .get i k, H, n, R, W, K => (k (H.at i)).runLK H n (i :: R) W K
  | .next k, H, n, R, W, K => (k n).runLK H n R W K
  | .set i b k, H, n, R, W, K => match H.at i with
    | some _ => k.runLK (H.setAt i (some b)) n R (i :: W) K
    | none => none
  | .kill i k, H, n, R, W, K => match H.at i with
    | some _ => k.runLK (H.setAt i none) n R (i :: W) K
    | none => none
  | .new b k, H, n, R, W, K => (k n).runLK (H.setAt n (some b)) (n + 1) R (n :: W) K
  | .br b t e, H, n, R, W, K => cond b (t.runLK H n R W K) (e.runLK H n R W K)
  | .call r k, H, n, R, W, K => r.fold fun x H2 => (k x H2).runLK H n R W K

theorem runK_some {α : Type} : ∀ {m : AM α} {H : AH} {n : Nat} {K : AR α → AH → Nat → Option Res} {r : Res}, m.runK H n K = some r → ∃ x H' n', m.run H n = some (x, H', n') ∧ K x H' n' = some r
  | .ret a, H, n, K, r, h => ⟨_, _, _, rfl, h⟩
  | .pn x, H, n, K, r, h => ⟨_, _, _, rfl, h⟩
  | .fail, H, n, K, r, h => by cases h
  | .get i k, H, n, K, r, h => runK_some (m := k (H.at i)) h
  | .next k, H, n, K, r, h => runK_some (m := k n) h
  | .set i b k, H, n, K, r, h => by
    simp only [AM.runK, AM.run] at h ⊢
    cases hi : H.at i with
    | none => rw [hi] at h; cases h
    | some b0 => rw [hi] at h; exact runK_some h
  | .kill i k, H, n, K, r, h => by
    simp only [AM.runK, AM.run] at h ⊢
    cases hi : H.at i with
    | none => rw [hi] at h; cases h
    | some b0 => rw [hi] at h; exact runK_some h
  | .new b k, H, n, K, r, h => runK_some (m := k n) h
  | .br b t e, H, n, K, r, h => by
    cases b with
    | true => exact runK_some (m := t) h
    | false => exact runK_some (m := e) h
  | .call c k, H, n, K, r, h => by
    simp only [AM.runK, AM.run] at h ⊢
    rw [Tr.fold_val] at h
    cases hc : c.val with
    | none => rw [hc] at h; cases h
    | some x => rw [hc] at h; exact runK_some (m := k x.1 x.2) h

theorem runLK_some {α : Type} : ∀ {m : AM α} {H : AH} {n : Nat} {R W : List Nat} {K : AR α → AH → Nat → List Nat → List Nat → Option Res} {r : Res}, m.runLK H n R W K = some r →
    ∃ x H' n' R' W', m.runL H n R W = some (x, H', n', R', W') ∧ K x H' n' R' W' = some r
  | .ret a, H, n, R, W, K, r, h => ⟨_, _, _, _, _, rfl, h⟩
  | .pn x, H, n, R, W, K, r, h => ⟨_, _, _, _, _, rfl, h⟩
  | .fail, H, n, R, W, K, r, h => by cases h
  | .get i k, H, n, R, W, K, r, h => runLK_some (m := k (H.at i)) h
  | .next k, H, n, R, W, K, r, h => runLK_some (m := k n) h
  | .set i b k, H, n, R, W, K, r, h => by
    simp only [AM.runLK, AM.runL] at h ⊢
    cases hi : H.at i with
    | none => rw [hi] at h; cases h
    | some b0 => rw [hi] at h; exact runLK_some h
  | .kill i k, H, n, R, W, K, r, h => by
    simp only [AM.runLK, AM.runL] at h ⊢
    cases hi : H.at i with
    | none => rw [hi] at h; cases h
    | some b0 => rw [hi] at h; exact runLK_some h
  | .new b k, H, n, R, W, K, r, h => runLK_some (m := k n) h
  | .br b t e, H, n, R, W, K, r, h => by
    cases b with
    | true => exact runLK_some (m := t) h
    | false => exact runLK_some (m := e) h
  | .call c k, H, n, R, W, K, r, h => by
    simp only [AM.runLK, AM.runL] at h ⊢
    rw [Tr.fold_val] at h
    cases hc : c.val with
    | none => rw [hc] at h; cases h
    | some x => rw [hc] at h; exact runLK_some (m := k x.1 x.2) h

def replD (ops : Array Oper) (s : St) (j : Nat) (b : Bool) : St := ⟨match (ops[j]?).bind (·.dst) with
  | some d => repl s.env d (.v (.bool b))
  | none => s.env, s.heap, s.nx⟩
theorem replD_same {ops : Array Oper} {s : St} {j : Nat} {b : Bool} (h : yieldA ops s.env j = some (some b)) : replD ops s j b = s := by
  unfold yieldA at h
  unfold replD
  cases hd : (ops[j]?).bind (·.dst) with
  | none => rfl
  | some d =>
    rw [hd] at h
    simp only [] at h ⊢
    have : look s.env d = .v (.bool b) := by
      generalize look s.env d = x at h
      split at h
      · simp at h; rw [h]
      · cases h
      · simp at h
    rw [repl_same this]
def replE (s : St) (c : Operand) (b : Bool) : St := ⟨match c with
  | .tmp t => repl s.env t (.v (.bool b))
  | _ => s.env, s.heap, s.nx⟩
theorem replE_same {s : St} {c : Operand} {b : Bool} (h : ev s.env c = .v (.bool b)) : replE s c b = s := by
  unfold replE
  cases c with
  | tmp t => simp only []; rw [repl_same (by exact h)]
  | _ => rfl

section
variable (P : Program)

def stepK (cf : CallF) (N : Nat) (o : Oper) (s : St) (k : St → Option Res) : Option Res :=
  (opA P cf s.env o).runK s.heap s.nx fun r H n => match r with
    | .ok x => cond (dOk N o.dst) (k ⟨pushO s.env o.dst x, H, n⟩) none
    | .pn _ => none

def skipK (N : Nat) (o : Oper) (s : St) (k : St → Option Res) : Option Res := cond (dOk N o.dst) (k ⟨pushO s.env o.dst (.v undef), s.heap, s.nx⟩) none

def opsK (cf : CallF) (N : Nat) (ops : Array Oper) : List Oper → St → (St → Option Res) → Option Res
  | [], s, k => k s
  | o :: r, s, k => match o.guard with
    | none => stepK P cf N o s fun s => opsK cf N ops r s k
    | some (j, want) => match yieldA ops s.env j, want with
      | none, _ => none
      | some none, _ => skipK N o s fun s => opsK cf N ops r s k
      | some (some b), true => cond b (stepK P cf N o (replD ops s j true) fun s => opsK cf N ops r s k) (skipK N o (replD ops s j false) fun s => opsK cf N ops r s k)
      | some (some b), false => cond b (skipK N o (replD ops s j true) fun s => opsK cf N ops r s k) (stepK P cf N o (replD ops s j false) fun s => opsK cf N ops r s k)

def drawStepK (cf : CallF) (N : Nat) (base i : Nat) (o : Oper) (env : Env) (H : AH) (logs : List Log) (k : Env → AH → List Log → Option Res) : Option Res :=
  (opM P cf env o).runLK H (base + roomEach * i) [] [] fun r H n R W => match r with
    | .ok x => if n ≤ base + roomEach * (i + 1) then cond (dOk N o.dst) (k (pushO env o.dst x) H (logs ++ [(R, W)])) none else none
    | .pn _ => none
def drawSkipK (N : Nat) (o : Oper) (env : Env) (H : AH) (logs : List Log) (k : Env → AH → List Log → Option Res) : Option Res :=
  cond (dOk N o.dst) (k (pushO env o.dst (.v undef)) H (logs ++ [([], [])])) none

def drawK (cf : CallF) (N : Nat) (ops : Array Oper) (base : Nat) : List Oper → Nat → Env → AH → List Log → (Env → AH → List Log → Option Res) → Option Res
  | [], _, env, H, logs, k => k env H logs
  | o :: r, i, env, H, logs, k => match o.guard with
    | none => drawStepK P cf N base i o env H logs fun env H logs => drawK cf N ops base r (i + 1) env H logs k
    | some (j, want) => match yieldA ops env j, want with
      | none, _ => none
      | some none, _ => drawSkipK N o env H logs fun env H logs => drawK cf N ops base r (i + 1) env H logs k
      | some (some b), true => cond b (drawStepK P cf N base i o (replD ops ⟨env, H, 0⟩ j true).env H logs fun env H logs => drawK cf N ops base r (i + 1) env H logs k) (drawSkipK N o (replD ops ⟨env, H, 0⟩ j false).env H logs fun env H logs => drawK cf N ops base r (i + 1) env H logs k)
      | some (some b), false => cond b (drawSkipK N o (replD ops ⟨env, H, 0⟩ j true).env H logs fun env H logs => drawK cf N ops base r (i + 1) env H logs k) (drawStepK P cf N base i o (replD ops ⟨env, H, 0⟩ j false).env H logs fun env H logs => drawK cf N ops base r (i + 1) env H logs k)

def drawnK (cf : CallF) (N : Nat) (ops : Array Oper) (s : St) (k : St → Option Res) : Option Res :=
  if slotsOk ops then drawK P cf N ops s.nx ops.toList 0 s.env s.heap [] fun env H logs =>
    if logsOk (befs ops.toList []) logs then k ⟨env, H, s.nx + roomEach * ops.size⟩ else none
  else none

abbrev Cont := AX → St → Option Res
abbrev Loops := Nat → Option (St → Cont → Option Res)

def exitK (id : Nat) (K : Cont) : Cont := fun x s => match x with
  | .ex i => cond (Nat.beq i id) (K .nm s) (K (.ex i) s)
  | x => K x s

def runT (cf : CallF) (N n0 : Nat) (pol : Pol) (ls : Loops) : Code → St → Cont → Option Res
  | .skip, s, K => K .nm s
  | .label _, s, K => K .nm s
  | .region _ ops draw, s, K => match draw with
    | true => drawnK P cf N ops s fun s => K .nm s
    | false => opsK P cf N ops ops.toList s fun s => K .nm s
  | .seq a b, s, K => runT cf N n0 pol ls a s fun x s => match x with
    | .nm => runT cf N n0 pol ls b s K
    | x => K x s
  | .cond c a b, s, K => match ev s.env c with
    | .v (.bool t) => cond t (runT cf N n0 pol ls a (replE s c true) K) (runT cf N n0 pol ls b (replE s c false) K)
    | _ => none
  | .block id c, s, K => match c with
    | .loop _ => match ls id with
      | some L => L s (exitK id K)
      | none => none
    | c => runT cf N n0 pol ls c s (exitK id K)
  | .exit id, s, K => match gc n0 (pol.tail id) s with
    | some s => K (.ex id) s
    | none => none
  | .ret, s, K => match gc n0 pol.ret s with
    | some s => K .rt s
    | none => none
  | .rangeFunc g _ _ _, s, K => (rangeM P cf N s.env g).runK s.heap s.nx fun r H n => match r with
    | .ok _ => K .nm ⟨s.env, H, n⟩
    | .pn _ => none
  | _, _, _ => none

theorem stepK_some {cf : CallF} {N : Nat} {o : Oper} {s : St} {k : St → Option Res} {k' : St → Option (AX × St)} {Q : AX → St → Prop} {r : Res} (hk : ∀ s, k s = some r → ∃ x s', k' s = some (x, s') ∧ Q x s')
    (h : stepK P cf N o s k = some r) : ∃ x s', stepO P cf N o s k' = some (x, s') ∧ Q x s' := by
  unfold stepK at h
  obtain ⟨x, H', n', h1, h2⟩ := runK_some h
  cases x with
  | pn x => cases h2
  | ok x =>
    simp only [] at h2
    cases hd : dOk N o.dst with
    | false => rw [hd] at h2; cases h2
    | true =>
      rw [hd] at h2
      obtain ⟨y, s', g1, g2⟩ := hk _ h2
      refine ⟨y, s', ?_, g2⟩
      unfold stepO
      rw [h1]
      simp only [putO, hd]
      exact g1
theorem skipK_some {cf : CallF} {N : Nat} {o : Oper} {s : St} {k : St → Option Res} {k' : St → Option (AX × St)} {Q : AX → St → Prop} {r : Res} (hk : ∀ s, k s = some r → ∃ x s', k' s = some (x, s') ∧ Q x s')
    (h : skipK N o s k = some r) : ∃ x s', ((putO N s.env o.dst (.v undef)).bind fun env => k' ⟨env, s.heap, s.nx⟩) = some (x, s') ∧ Q x s' := by
  unfold skipK at h
  cases hd : dOk N o.dst with
  | false => rw [hd] at h; cases h
  | true =>
    rw [hd] at h
    obtain ⟨y, s', g1, g2⟩ := hk _ h
    refine ⟨y, s', ?_, g2⟩
    simp only [putO, hd]
    exact g1

theorem opsK_some {cf : CallF} {N : Nat} {ops : Array Oper} {k : St → Option Res} {r : Res} : ∀ (l : List Oper) (s : St), opsK P cf N ops l s k = some r → ∃ x s', runOps P cf N ops l s = some (x, s') ∧ (x = .nm ∧ k s' = some r)
  | [], s, h => ⟨.nm, s, rfl, rfl, h⟩
  | o :: l, s, h => by
    have ih : ∀ s, opsK P cf N ops l s k = some r → ∃ x s', runOps P cf N ops l s = some (x, s') ∧ (x = .nm ∧ k s' = some r) := fun s h => opsK_some l s h
    simp only [opsK, runOps] at h ⊢
    cases hg : o.guard with
    | none => rw [hg] at h; exact stepK_some P ih h
    | some g =>
      obtain ⟨j, want⟩ := g
      rw [hg] at h
      simp only [] at h ⊢
      cases hy : yieldA ops s.env j with
      | none => rw [hy] at h; cases h
      | some y =>
        rw [hy] at h
        simp only [] at h ⊢
        cases y with
        | none => rw [if_neg (by simp)]; exact skipK_some (cf := cf) ih h
        | some b =>
          cases want <;> cases b <;> simp only [cond_true, cond_false, replD_same hy] at h <;> first
            | (rw [if_pos rfl]; exact stepK_some P ih h)
            | (rw [if_neg (by simp)]; exact skipK_some (cf := cf) ih h)

theorem drawK_some {cf : CallF} {N : Nat} {ops : Array Oper} {base : Nat} {k : Env → AH → List Log → Option Res} {r : Res} : ∀ (l : List Oper) (i : Nat) (env : Env) (H : AH) (logs : List Log), drawK P cf N ops base l i env H logs k = some r →
    ∃ env' H' logs', runDraw P cf N ops base l i env H logs = some (env', H', logs') ∧ k env' H' logs' = some r
  | [], i, env, H, logs, h => ⟨_, _, _, rfl, h⟩
  | o :: l, i, env, H, logs, h => by
    have ih : ∀ env H logs, drawK P cf N ops base l (i + 1) env H logs k = some r → ∃ env' H' logs', runDraw P cf N ops base l (i + 1) env H logs = some (env', H', logs') ∧ k env' H' logs' = some r := fun env H logs h => drawK_some l (i + 1) env H logs h
    have hstep : drawStepK P cf N base i o env H logs (fun env H logs => drawK P cf N ops base l (i + 1) env H logs k) = some r →
        ∃ env' H' logs', (match (opM P cf env o).runL H (base + roomEach * i) [] [] with
          | some (.ok x, H, n, R, W) => if n ≤ base + roomEach * (i + 1) then (putO N env o.dst x).bind fun env => runDraw P cf N ops base l (i + 1) env H (logs ++ [(R, W)]) else none
          | _ => none) = some (env', H', logs') ∧ k env' H' logs' = some r := fun h => by
      unfold drawStepK at h
      obtain ⟨x, H1, n1, R, W, h1, h2⟩ := runLK_some h
      cases x with
      | pn x => cases h2
      | ok x =>
        simp only [] at h2
        split at h2
        case isFalse => cases h2
        rename_i hn
        cases hd : dOk N o.dst with
        | false => rw [hd] at h2; cases h2
        | true =>
          rw [hd] at h2
          obtain ⟨e', H', l', g1, g2⟩ := ih _ _ _ h2
          refine ⟨e', H', l', ?_, g2⟩
          rw [h1]
          simp only []
          rw [if_pos hn]
          simp only [putO, hd]
          exact g1
    have hskip : drawSkipK N o env H logs (fun env H logs => drawK P cf N ops base l (i + 1) env H logs k) = some r →
        ∃ env' H' logs', ((putO N env o.dst (.v undef)).bind fun env => runDraw P cf N ops base l (i + 1) env H (logs ++ [([], [])])) = some (env', H', logs') ∧ k env' H' logs' = some r := fun h => by
      unfold drawSkipK at h
      cases hd : dOk N o.dst with
      | false => rw [hd] at h; cases h
      | true =>
        rw [hd] at h
        obtain ⟨e', H', l', g1, g2⟩ := ih _ _ _ h
        refine ⟨e', H', l', ?_, g2⟩
        simp only [putO, hd]
        exact g1
    simp only [drawK, runDraw] at h ⊢
    cases hg : o.guard with
    | none => rw [hg] at h; exact hstep h
    | some g =>
      obtain ⟨j, want⟩ := g
      rw [hg] at h
      simp only [] at h ⊢
      cases hy : yieldA ops env j with
      | none => rw [hy] at h; cases h
      | some y =>
        rw [hy] at h
        simp only [] at h ⊢
        cases y with
        | none => rw [if_neg (by simp)]; exact hskip h
        | some b =>
          cases want <;> cases b <;> simp only [cond_true, cond_false, replD_same (s := ⟨env, H, 0⟩) hy] at h <;> first
            | (rw [if_pos rfl]; exact hstep h)
            | (rw [if_neg (by simp)]; exact hskip h)

/-- The table tells the truth of the loops in a code. -/
def LOk (cf : CallF) (N n0 n : Nat) (pol : Pol) (ls : Loops) : Code → Prop
  | .seq a b => LOk cf N n0 n pol ls a ∧ LOk cf N n0 n pol ls b
  | .cond _ a b => LOk cf N n0 n pol ls a ∧ LOk cf N n0 n pol ls b
  | .block id c => match c with
    | .loop b => ∀ L, ls id = some L → ∀ s K r, L s K = some r → ∃ x s', loopN (run P cf N n0 n pol none b) (gc n0 (pol.head id)) n s = some (x, s') ∧ K x s' = some r
    | c => LOk cf N n0 n pol ls c
  | _ => True

theorem exitK_some {cf : CallF} {N n0 n : Nat} {pol : Pol} {id : Nat} {c : Code} {s : St} {K : Cont} {r : Res} {x : AX} {s' : St} (h1 : run P cf N n0 n pol (pol.head id) c s = some (x, s')) (h2 : exitK id K x s' = some r) (k : Option Keep) :
    ∃ x s', run P cf N n0 n pol k (.block id c) s = some (x, s') ∧ K x s' = some r := by
  simp only [run, h1]
  cases x with
  | ex i =>
    simp only [exitK] at h2
    by_cases hi : i = id
    · subst hi
      simp at h2
      exact ⟨.nm, s', by simp, h2⟩
    · have : Nat.beq i id = false := by
        cases hb : Nat.beq i id with
        | false => rfl
        | true => exact absurd (Nat.eq_of_beq_eq_true hb) hi
      rw [this] at h2
      exact ⟨.ex i, s', by simp [hi], h2⟩
  | nm => exact ⟨.nm, s', rfl, h2⟩
  | gt l => exact ⟨.gt l, s', rfl, h2⟩
  | rt => exact ⟨.rt, s', rfl, h2⟩
  | pn y => exact ⟨.pn y, s', rfl, h2⟩

theorem runT_some {cf : CallF} {N n0 n : Nat} {pol : Pol} {ls : Loops} : ∀ (c : Code) (k : Option Keep) (s : St) (K : Cont) (r : Res), LOk P cf N n0 n pol ls c → runT P cf N n0 pol ls c s K = some r →
    ∃ x s', run P cf N n0 n pol k c s = some (x, s') ∧ K x s' = some r := by
  intro c
  induction c with
  | skip => intro k s K r _ h; exact ⟨.nm, s, rfl, h⟩
  | label l => intro k s K r _ h; exact ⟨.nm, s, rfl, h⟩
  | region id ops draw =>
    intro k s K r _ h
    cases draw with
    | false =>
      obtain ⟨x, s', h1, rfl, h2⟩ := opsK_some P _ _ h
      exact ⟨.nm, s', by simp only [run]; exact h1, h2⟩
    | true =>
      simp only [runT, drawnK] at h
      split at h
      case isFalse => cases h
      rename_i hs
      obtain ⟨env, H, logs, h1, h2⟩ := drawK_some P _ _ _ _ _ h
      split at h2
      case isFalse => cases h2
      rename_i hl
      refine ⟨.nm, _, ?_, h2⟩
      simp only [run, runDrawn, if_true]
      rw [if_pos hs, h1]
      simp only []
      rw [if_pos hl]
  | seq a b iha ihb =>
    intro k s K r hL h
    obtain ⟨x, s1, h1, h2⟩ := iha k s _ r hL.1 h
    simp only [run]
    rw [h1]
    cases x with
    | nm => exact ihb k s1 K r hL.2 h2
    | ex i => exact ⟨_, _, rfl, h2⟩
    | gt i => exact ⟨_, _, rfl, h2⟩
    | rt => exact ⟨_, _, rfl, h2⟩
    | pn i => exact ⟨_, _, rfl, h2⟩
  | cond c a b iha ihb =>
    intro k s K r hL h
    simp only [runT, run] at h ⊢
    split at h
    case h_2 => cases h
    rename_i t ht
    rw [ht]
    cases t with
    | true => rw [cond_true, replE_same ht] at h; exact iha k s K r hL.1 h
    | false => rw [cond_false, replE_same ht] at h; exact ihb k s K r hL.2 h
  | block id c ih =>
    intro k s K r hL h
    cases c with
    | loop b =>
      simp only [runT] at h
      simp only [LOk] at hL
      split at h
      case h_2 => cases h
      rename_i L hl
      obtain ⟨x, s', h1, h2⟩ := hL L hl s _ r h
      exact exitK_some P (by simp only [run]; exact h1) h2 k
    | _ =>
      obtain ⟨x, s', h1, h2⟩ := ih (pol.head id) s _ r (by first | exact hL | trivial | (simp only [LOk] at hL ⊢; first | exact hL | done)) (by first | exact h | (simp only [runT] at h ⊢; exact h))
      exact exitK_some P h1 h2 k
  | exit id =>
    intro k s K r _ h
    simp only [runT] at h
    split at h
    case h_2 => cases h
    rename_i s' hg
    exact ⟨.ex id, s', by simp [run, hg], h⟩
  | ret =>
    intro k s K r _ h
    simp only [runT] at h
    split at h
    case h_2 => cases h
    rename_i s' hg
    exact ⟨.rt, s', by simp [run, hg], h⟩
  | rangeFunc g ps asg body =>
    intro k s K r _ h
    simp only [runT] at h
    obtain ⟨x, H', n', h1, h2⟩ := runK_some h
    cases x with
    | pn x => cases h2
    | ok x => exact ⟨.nm, ⟨s.env, H', n'⟩, by simp only [run, h1], h2⟩
  | _ => intro k s K r _ h; simp [runT] at h

def endK (fn : Func) (n0 : Nat) (pol : Pol) : Cont := fun x s => match x with
  | .nm => retA P n0 pol fn.results.toList s
  | .rt => retA P n0 pol fn.results.toList s
  | _ => none

/-- One function, its loops by a table. -/
def runFT (cf : CallF) (pol : Pol) (ls : Loops) (fn : Func) (c : Code) (args : List AV) (H : AH) : Option Res :=
  runT P cf fn.ntmps H.length pol ls c (startS pol.free args H) (endK P fn H.length pol)

theorem runFT_some {cf : CallF} {n : Nat} {pol : Pol} {ls : Loops} {f : FuncId} {fn : Func} {c : Code} {args : List AV} {H : AH} {r : Res} (hf : P.funcs[f]? = some fn) (hc : fn.body = some c) (ha : args.length ≤ fn.ntmps)
    (hL : LOk P cf fn.ntmps H.length n pol ls c) (h : runFT P cf pol ls fn c args H = some r) (hs : (cf.site.map (·.1)).getD f = f := by rfl) (hmv : nodupB (moved pol.free H.length) = true := by rfl) : runF P cf n pol f args H = some r := by
  obtain ⟨x, s', h1, h2⟩ := runT_some P c none _ _ r hL h
  unfold runF
  rw [hf]
  simp only [hc]
  rw [if_pos ⟨ha, hs, hmv⟩, h1]
  cases x with
  | nm => exact h2
  | rt => exact h2
  | ex i => cases h2
  | gt i => cases h2
  | pn i => cases h2
end
end Go.AMach
