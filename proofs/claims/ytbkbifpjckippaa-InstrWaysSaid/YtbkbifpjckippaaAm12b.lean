/- The abstract machine: rounds of a range over a function. -/
import Derived.Test.YtbkbifpjckippaaAm12
import Derived.RangeFuncRecord
namespace Go.AMach
set_option linter.unusedVariables false
set_option linter.unusedSimpArgs false
set_option linter.unnecessarySimpa false
set_option linter.unusedSectionVars false
variable [Sites]
open Go.RowKit
set_option linter.unusedVariables false
set_option linter.unusedSimpArgs false
variable {P : Program}

theorem look_cons (k : Nat) (x : AV) (r : Env) (t : Nat) : look ((k, x) :: r) t = if t = k then x else look r t := by
  simp only [look]
  cases h : Nat.beq t k with
  | true => rw [if_pos (Nat.eq_of_beq_eq_true h)]; rfl
  | false => rw [if_neg (fun e => by subst e; simp at h)]; rfl

theorem putO_some {N : Nat} {env env' : Env} {d : Option Tmp} {x : AV} (h : putO N env d x = some env') : dOk N d = true ∧ env' = pushO env d x := by
  unfold putO at h
  cases hd : dOk N d with
  | false => rw [hd] at h; cases h
  | true => rw [hd] at h; simp at h; exact ⟨rfl, h.symm⟩

theorem push_env {ι φ} {a : Act} {N : Nat} {env : Env} (h : ERel ι φ a.tmps env) (hN : a.tmps.size = N) {u x} (hx : ARel ι φ u x) {d : Option Tmp} (hd : dOk N d = true) :
    ERel ι φ (a.put d u).tmps (pushO env d x) ∧ (a.put d u).tmps.size = N := by
  cases d with
  | none => exact ⟨h, hN⟩
  | some d =>
    have hd : d < a.tmps.size := by
      rw [hN]
      simp [dOk, Nat.blt] at hd
      exact hd
    refine ⟨fun t => ?_, by simpa [Act.put] using hN⟩
    simp only [pushO]
    rw [look_cons]
    simp only [Act.put]
    rw [Array.getD_eq_getD_getElem?, Array.getElem?_setIfInBounds]
    by_cases ht : t = d
    · subst ht
      simp [hd]; exact hx
    · rw [if_neg ht, if_neg (by omega), ← Array.getD_eq_getD_getElem?]
      exact h t

theorem put_env {ι φ} {a : Act} {N : Nat} {env env' : Env} (h : ERel ι φ a.tmps env) (hN : a.tmps.size = N) {u x} (hx : ARel ι φ u x) {d : Option Tmp} (hp : putO N env d x = some env') :
    ERel ι φ (a.put d u).tmps env' ∧ (a.put d u).tmps.size = N := by
  obtain ⟨hd, rfl⟩ := putO_some hp
  exact push_env h hN hx hd

theorem yieldA_rel {ι φ} {ops : Array Oper} {tmps : Array Value} {env : Env} {j : Nat} {y : Option Bool} (h : ERel ι φ tmps env) (hy : yieldA ops env j = some y) : yielded ops tmps j = y := by
  unfold yieldA at hy
  unfold yielded
  cases hd : (ops[j]?).bind (·.dst) with
  | none => rw [hd] at hy; simp at hy; subst hy; rfl
  | some d =>
    rw [hd] at hy
    simp only [Option.bind_some] at hy ⊢
    have hr := h d
    generalize look env d = c at hr hy
    cases hu : tmps[d]? with
    | none =>
      rw [Array.getD_eq_getD_getElem?, hu] at hr
      simp only [Option.getD_none] at hr
      generalize hv : undef = v at hr
      cases hr with
      | v => subst hv; simp [undef] at hy; exact hy
      | junk => cases hy
      | _ => cases hy; rfl
    | some u =>
      rw [Array.getD_eq_getD_getElem?, hu] at hr
      simp only [Option.getD_some] at hr
      cases hr with
      | v => cases u <;> simp at hy <;> exact hy
      | junk => cases hy
      | _ => cases hy; rfl

theorem put_defers {a : Act} (d : Option Tmp) (u : Value) : (a.put d u).defers = a.defers := by cases d <;> rfl

/-! ### Fences that let all in -/
abbrev FR (ro : Option Nat) : Fence := { Fence.wide with round := ro }

theorem rowsIn_FR {ro : Option Nat} {n : Nat} {row : String} {args : Array Value} {w : World} {R : Value → World → Prop} (h : Go.Rows P row args w R) : RowsIn (FR ro) n P row args w R :=
  fun c cs _ => let ⟨v, w', r, s⟩ := h c cs; ⟨v, w', r, stepsIn_wide.2 s⟩
theorem callsIn_FR {ro : Option Nat} {n : Nat} {f : FuncId} {args : Array Value} {w : World} {R : Ending → World → Prop} (h : Calls P f args w R) : CallsIn (FR ro) n P f args w R :=
  ⟨trivial, fun cs _ => let ⟨e, w', fr, r, s, x⟩ := h cs; ⟨e, w', fr, r, comesIn_wide.2 s, x⟩⟩

theorem wpIn_of_op {ro : Option Nat} {o : Oper} {a : Act} {w : World} {next Q} (hs : o.semAt ro a.eval = execOp a.eval o) (h : o.wp P a w next Q) : o.wpIn (FR ro) 0 P a w next Q := by
  refine ⟨fun _ _ => trivial, ?_⟩
  show o.uponIn (FR ro) 0 P a next Q ((o.semAt ro a.eval).run P w)
  rw [hs]
  unfold Oper.wp at h
  generalize (execOp a.eval o).run P w = res at h
  cases res with
  | ok nx w' =>
    cases nx with
    | value v => exact h
    | skip => exact h
    | defer d => exact h
    | enter f args => exact ⟨fun h => by simp [Fence.wide] at h, callsIn_FR h⟩
    | row row args => exact ⟨fun h => by simp [Fence.wide] at h, rowsIn_FR h⟩
    | _ => exact h.elim
  | halt h' w' =>
    cases h' with
    | panic v => exact h
    | _ => exact h.elim

theorem AM.run_le {α : Type} : ∀ (m : AM α) (H : AH) (n : Nat) {r H' n'}, m.run H n = some (r, H', n') → n ≤ n'
  | .ret a, H, n, r, H', n', h => by simp [AM.run] at h; omega
  | .pn x, H, n, r, H', n', h => by simp [AM.run] at h; omega
  | .fail, H, n, r, H', n', h => by simp [AM.run] at h
  | .get i k, H, n, r, H', n', h => run_le (k (H.at i)) H n h
  | .next k, H, n, r, H', n', h => run_le (k n) H n h
  | .set i b k, H, n, r, H', n', h => by
    simp only [AM.run] at h
    split at h
    · exact run_le k _ n h
    · cases h
  | .kill i k, H, n, r, H', n', h => by
    simp only [AM.run] at h
    split at h
    · exact run_le k _ n h
    · cases h
  | .new b k, H, n, r, H', n', h => by
    have := run_le (k n) _ (n + 1) h
    omega
  | .br b t e, H, n, r, H', n', h => by
    simp only [AM.run] at h
    split at h
    · exact run_le t _ n h
    · exact run_le e _ n h
  | .call c k, H, n, r, H', n', h => by
    simp only [AM.run] at h
    split at h
    · exact run_le (k _ _) H n h
    · cases h

theorem AM.np_run {α : Type} : ∀ (m : AM α) (H : AH) (n : Nat) {r H' n'}, m.np.run H n = some (r, H', n') → ∃ x, r = .ok x ∧ m.run H n = some (.ok x, H', n')
  | .ret a, H, n, r, H', n', h => by
    simp only [AM.np, AM.run, Option.some.injEq, Prod.mk.injEq] at h
    obtain ⟨rfl, rfl, rfl⟩ := h
    exact ⟨a, rfl, rfl⟩
  | .pn x, H, n, r, H', n', h => by simp [AM.np, AM.run] at h
  | .fail, H, n, r, H', n', h => by simp [AM.np, AM.run] at h
  | .get i k, H, n, r, H', n', h => np_run (k (H.at i)) H n h
  | .next k, H, n, r, H', n', h => np_run (k n) H n h
  | .set i b k, H, n, r, H', n', h => by
    simp only [AM.np, AM.run] at h ⊢
    cases hi : H.at i with
    | none => rw [hi] at h; cases h
    | some _ => rw [hi] at h; exact np_run k _ n h
  | .kill i k, H, n, r, H', n', h => by
    simp only [AM.np, AM.run] at h ⊢
    cases hi : H.at i with
    | none => rw [hi] at h; cases h
    | some _ => rw [hi] at h; exact np_run k _ n h
  | .new b k, H, n, r, H', n', h => np_run (k n) _ (n + 1) h
  | .br b t e, H, n, r, H', n', h => by
    simp only [AM.np, AM.run] at h ⊢
    cases b with
    | true => exact np_run t _ n h
    | false => exact np_run e _ n h
  | .call c k, H, n, r, H', n', h => by
    simp only [AM.np, AM.run] at h ⊢
    cases hc : c.val with
    | none => rw [hc] at h; cases h
    | some x => rw [hc] at h; exact np_run (k x.1 x.2) H n h

theorem repl_same : ∀ {env : Env} {t : Nat} {x : AV}, look env t = x → repl env t x = env
  | [], t, x, _ => rfl
  | (k, y) :: r, t, x, h => by
    simp only [look] at h
    simp only [repl]
    cases hb : Nat.beq t k with
    | true => rw [hb] at h; simp at h; rw [h]; rfl
    | false => rw [hb] at h; simp at h; rw [repl_same h]; rfl
theorem replG_same {ops : Array Oper} {env : Env} {j : Nat} {b : Bool} (h : yieldA ops env j = some (some b)) : replG ops env j b = env := by
  unfold yieldA at h
  unfold replG
  cases hd : (ops[j]?).bind (·.dst) with
  | none => rfl
  | some d =>
    rw [hd] at h
    simp only [] at h ⊢
    have : look env d = .v (.bool b) := by
      generalize look env d = x at h
      split at h
      · simp at h; rw [h]
      · cases h
      · simp at h
    rw [repl_same this]
theorem replC_same {env : Env} {c : Operand} {b : Bool} (h : ev env c = .v (.bool b)) : replC env c b = env := by
  unfold replC
  cases c with
  | tmp t => exact repl_same h
  | _ => rfl

/-! ### A round's code -/
/-- What holds behind a part of a round. -/
def RdPost (ι : Iota) (φ : Phi) (H : AH) (w : World) (n : Nat) (H' : AH) (n' : Nat) (N : Nat) (env : Env) (ds : List Deferred) (a' : Act) (w' : World) : Prop :=
  ∃ ι' φ', Ext φ φ' n n' ∧ SRel ι' φ' H' w' ∧ Frm ι H φ w ι' H' φ' w' ∧ ERel ι' φ' a'.tmps env ∧ a'.tmps.size = N ∧ a'.defers = ds

theorem RdPost.trans {ι : Iota} {φ : Phi} {H : AH} {w : World} {n : Nat} {H1 : AH} {n1 N : Nat} {ds : List Deferred} {w1 : World} {ι1 : Iota} {φ1 : Phi} {H2 : AH} {n2 : Nat} {env2 : Env} {a2 : Act} {w2 : World} (h1 : Ext φ φ1 n n1) (h2 : Frm ι H φ w ι1 H1 φ1 w1) (h : RdPost ι1 φ1 H1 w1 n1 H2 n2 N env2 ds a2 w2) : RdPost ι φ H w n H2 n2 N env2 ds a2 w2 := by
  obtain ⟨ι2, φ2, k1, k2, k3, k4, k5, k6⟩ := h
  exact ⟨ι2, φ2, h1.trans k1, k2, h2.trans k3, k4, k5, k6⟩

theorem not_defer {cf : CallF} {env : Env} {o : Oper} {H n r H' n'} (h : (opM P cf env o).run H n = some (r, H', n')) : ∀ c, o.op ≠ .defer c := fun c e => by
  unfold opM at h
  rw [e] at h
  simp [AM.run] at h

theorem fresh_left {φ : Phi} {n n1 n2 : Nat} (h : ∀ i, n ≤ i → i < n2 → φ i = .none) (hle : n1 ≤ n2) : ∀ i, n ≤ i → i < n1 → φ i = .none := fun i h1 h2 => h i h1 (by omega)
theorem fresh_right {φ φ1 : Phi} {n n1 n2 : Nat} (h : ∀ i, n ≤ i → i < n2 → φ i = .none) (he : Ext φ φ1 n n1) : ∀ i, n1 ≤ i → i < n2 → φ1 i = .none := fun i h1 h2 => by
  rw [he.out i (by omega)]; exact h i (by have := he.le; omega) h2

def AM.nopn {α : Type} (m : AM α) : Prop := ∀ H n y H' n', m.run H n ≠ some (.pn y, H', n')
theorem AM.nopn_bind {α β : Type} {m : AM α} {f : α → AM β} (h : m.nopn) (hf : ∀ a, (f a).nopn) : (m.bind f).nopn := fun H n y H' n' e => by
  rw [AM.run_bind] at e
  cases hm : m.run H n with
  | none => rw [hm] at e; cases e
  | some r =>
    obtain ⟨r, H1, n1⟩ := r
    rw [hm] at e
    cases r with
    | ok a => exact hf a _ _ _ _ _ e
    | pn x => exact h _ _ _ _ _ hm
theorem AM.nopn_np {α : Type} (m : AM α) : m.np.nopn := fun H n y H' n' e => by
  obtain ⟨x, hx, _⟩ := AM.np_run m H n e
  cases hx
theorem AM.nopn_ret {α : Type} (a : α) : (AM.ret a).nopn := fun H n y H' n' e => by simp [AM.run] at e
theorem AM.nopn_fail {α : Type} : (AM.fail : AM α).nopn := fun H n y H' n' e => by simp [AM.run] at e
theorem AM.nopn_br {α : Type} {b : Bool} {s t : AM α} (hs : s.nopn) (ht : t.nopn) : (AM.br b s t).nopn := fun H n y H' n' e => by
  cases b with
  | true => exact hs _ _ _ _ _ e
  | false => exact ht _ _ _ _ _ e
theorem stepR_nopn {cf : CallF} {N : Nat} {o : Oper} {env : Env} : (stepR P cf N o env).nopn := AM.nopn_bind (AM.nopn_np _) fun x => by
  cases dOk N o.dst
  · exact AM.nopn_fail
  · exact AM.nopn_ret _
theorem skipR_nopn {N : Nat} {o : Oper} {env : Env} : (skipR N o env).nopn := by
  unfold skipR
  cases dOk N o.dst
  · exact AM.nopn_fail
  · exact AM.nopn_ret _
theorem opsR_nopn {cf : CallF} {N : Nat} {ops : Array Oper} : ∀ (r : List Oper) (env : Env), (opsR P cf N ops r env).nopn
  | [], env => AM.nopn_ret _
  | o :: r, env => by
    simp only [opsR]
    cases hg : o.guard with
    | none => exact AM.nopn_bind stepR_nopn fun e => opsR_nopn r e
    | some g =>
      obtain ⟨j, want⟩ := g
      simp only []
      cases hy : yieldA ops env j with
      | none => exact AM.nopn_fail
      | some y =>
        cases y with
        | none => exact AM.nopn_bind skipR_nopn fun e => opsR_nopn r e
        | some b =>
          cases want
          · exact AM.nopn_br (AM.nopn_bind skipR_nopn fun e => opsR_nopn r e) (AM.nopn_bind stepR_nopn fun e => opsR_nopn r e)
          · exact AM.nopn_br (AM.nopn_bind stepR_nopn fun e => opsR_nopn r e) (AM.nopn_bind skipR_nopn fun e => opsR_nopn r e)

theorem opsR_sound {cf : CallF} (hcf : CallSound P cf) {l : Nat} {N : Nat} {ops : Array Oper} : ∀ (r : List Oper) (idx : List Nat) (env : Env) (a : Act) (w : World) (ι : Iota) (φ : Phi) (H : AH) (n : Nat) (res : AR Env) (H' : AH) (n' : Nat),
    idx.map (fun i => ops[i]?) = r.map some → ERel ι φ a.tmps env → a.tmps.size = N → SRel ι φ H w → (opsR P cf N ops r env).run H n = some (res, H', n') → (∀ i, n ≤ i → i < n' → φ i = .none) →
    ∃ env', res = .ok env' ∧ ∀ (Q : Exit → Act → World → Prop), (∀ a' w', RdPost ι φ H w n H' n' N env' a.defers a' w' → Q .normal a' w') → wpOpsIn (FR (some l)) 0 P ops Q idx a w := by
  intro r
  induction r with
  | nil =>
    intro idx env a w ι φ H n res H' n' hl hE hN hS hrun hfr
    simp at hl; subst hl
    simp [opsR, AM.run] at hrun
    obtain ⟨rfl, rfl, rfl⟩ := hrun
    exact ⟨env, rfl, fun Q hQ => hQ a w ⟨ι, φ, Ext.refl _ _, hS, Frm.refl _ _ _ _, hE, hN, rfl⟩⟩
  | cons o r ih =>
    intro idx env a w ι φ H n res H' n' hl hE hN hS hrun hfr
    cases idx with
    | nil => simp at hl
    | cons i idx =>
    simp only [List.map_cons, List.cons.injEq] at hl
    obtain ⟨ho, hl⟩ := hl
    have step : ((stepR P cf N o env).bind (opsR P cf N ops r)).run H n = some (res, H', n') → Region.wanted o (yielded ops a.tmps) = true →
        ∃ env', res = .ok env' ∧ ∀ (Q : Exit → Act → World → Prop), (∀ a' w', RdPost ι φ H w n H' n' N env' a.defers a' w' → Q .normal a' w') → wpOpsIn (FR (some l)) 0 P ops Q (i :: idx) a w := fun hrun hw => by
      unfold stepR at hrun
      rw [AM.run_bind, AM.run_bind] at hrun
      cases h1 : ((opM P cf env o).np).run H n with
      | none => rw [h1] at hrun; cases hrun
      | some q =>
      obtain ⟨r1, H1, n1⟩ := q
      obtain ⟨x, rfl, h2⟩ := AM.np_run _ _ _ h1
      rw [h1] at hrun
      simp only [] at hrun
      cases hd : dOk N o.dst with
      | false => rw [hd] at hrun; simp [AM.run] at hrun
      | true =>
      rw [hd] at hrun
      simp only [cond_true, AM.run] at hrun
      have hle := AM.run_le _ _ _ hrun
      -- the first one, then the rest
      have key : ∀ u w' ι' φ', Ext φ φ' n n1 → SRel ι' φ' H1 w' → ARel ι' φ' u x → Frm ι H φ w ι' H1 φ' w' → ∃ env', res = .ok env' ∧ ∀ (Q : Exit → Act → World → Prop), (∀ a' w'', RdPost ι φ H w n H' n' N env' a.defers a' w'' → Q .normal a' w'') → wpOpsIn (FR (some l)) 0 P ops Q idx (a.put o.dst u) w' := fun u w' ι' φ' g1 g2 g3 g4 => by
        obtain ⟨p1, p2⟩ := push_env ((hE.mono g1.mono).imm g4.imm) hN g3 hd
        obtain ⟨env', he, hq⟩ := ih idx _ (a.put o.dst u) w' ι' φ' H1 n1 res H' n' hl p1 p2 g2 hrun (fresh_right hfr g1)
        refine ⟨env', he, fun Q hQ => hq Q fun a' w'' hp => hQ a' w'' ?_⟩
        rw [put_defers] at hp
        exact RdPost.trans g1 g4 hp
      have hres : ∃ env', res = .ok env' := by
        cases res with
        | ok env' => exact ⟨env', rfl⟩
        | pn y =>
          exfalso
          exact opsR_nopn r _ _ _ _ _ _ hrun
      obtain ⟨env', rfl⟩ := hres
      refine ⟨env', rfl, fun Q hQ => ?_⟩
      simp only [wpOpsIn, ho, hw, if_true]
      refine wpIn_of_op (Oper.semAt_eq _ _ _ (not_defer h2)) (op_sound hcf hE hS h2 (fresh_left hfr hle) ?_)
      intro u w' ι' φ' g1 g2 g3 g4
      obtain ⟨env'', he, hq⟩ := key u w' ι' φ' g1 g2 g3 g4
      cases he
      exact hq Q hQ
    have skip : ((skipR N o env).bind (opsR P cf N ops r)).run H n = some (res, H', n') → Region.wanted o (yielded ops a.tmps) = false →
        ∃ env', res = .ok env' ∧ ∀ (Q : Exit → Act → World → Prop), (∀ a' w', RdPost ι φ H w n H' n' N env' a.defers a' w' → Q .normal a' w') → wpOpsIn (FR (some l)) 0 P ops Q (i :: idx) a w := fun hrun hw => by
      unfold skipR at hrun
      rw [AM.run_bind] at hrun
      cases hd : dOk N o.dst with
      | false => rw [hd] at hrun; simp [AM.run] at hrun
      | true =>
      rw [hd] at hrun
      simp only [cond_true, AM.run] at hrun
      obtain ⟨p1, p2⟩ := push_env hE hN (ARel.v undef) hd
      obtain ⟨env', he, hq⟩ := ih idx _ (a.put o.dst undef) w ι φ H n res H' n' hl p1 p2 hS hrun hfr
      refine ⟨env', he, fun Q hQ => ?_⟩
      simp only [wpOpsIn, ho, hw, if_false, Bool.false_eq_true]
      refine ⟨fun _ _ => trivial, hq Q fun a' w'' hp => hQ a' w'' ?_⟩
      rw [put_defers] at hp
      exact hp
    simp only [opsR] at hrun
    cases hg : o.guard with
    | none => rw [hg] at hrun; exact step hrun (by simp [Region.wanted, hg])
    | some g =>
      obtain ⟨j, want⟩ := g
      rw [hg] at hrun
      simp only [] at hrun
      cases hy : yieldA ops env j with
      | none => rw [hy] at hrun; simp [AM.run] at hrun
      | some y =>
        have hyy := yieldA_rel hE hy
        rw [hy] at hrun
        cases y with
        | none => exact skip hrun (by simp [Region.wanted, hg, hyy])
        | some b =>
          cases want <;> cases b <;> simp only [AM.run, if_true, if_false, Bool.false_eq_true, replG_same hy] at hrun <;>
            first
              | exact step hrun (by simp [Region.wanted, hg, hyy])
              | exact skip hrun (by simp [Region.wanted, hg, hyy])

theorem codeR_nopn {cf : CallF} {N : Nat} : ∀ (c : Code) (env : Env), (codeR P cf N c env).nopn := by
  intro c
  induction c with
  | skip => exact fun env => AM.nopn_ret _
  | label => exact fun env => AM.nopn_ret _
  | region id ops draw =>
    intro env
    cases draw
    · exact opsR_nopn _ _
    · exact AM.nopn_fail
  | seq a b iha ihb => exact fun env => AM.nopn_bind (iha env) ihb
  | block id c ih => exact fun env => ih env
  | cond c a b iha ihb =>
    intro env
    simp only [codeR]
    split
    · exact AM.nopn_br (iha _) (ihb _)
    · exact AM.nopn_fail
  | _ => exact fun env => AM.nopn_fail

theorem codeR_sound {cf : CallF} (hcf : CallSound P cf) {l : Nat} {N : Nat} : ∀ (c : Code) (env : Env) (a : Act) (w : World) (ι : Iota) (φ : Phi) (H : AH) (n : Nat) (env' : Env) (H' : AH) (n' : Nat),
    ERel ι φ a.tmps env → a.tmps.size = N → SRel ι φ H w → (codeR P cf N c env).run H n = some (.ok env', H', n') → (∀ i, n ≤ i → i < n' → φ i = .none) →
    c.wpIn (FR (some l)) 0 P (fun e a' w' => e = .normal ∧ RdPost ι φ H w n H' n' N env' a.defers a' w') a w := by
  intro c
  induction c with
  | skip =>
    intro env a w ι φ H n env' H' n' hE hN hS hrun hfr
    simp [codeR, AM.run] at hrun
    obtain ⟨rfl, rfl, rfl⟩ := hrun
    exact wpIn_skip ⟨rfl, ι, φ, Ext.refl _ _, hS, Frm.refl _ _ _ _, hE, hN, rfl⟩
  | label x =>
    intro env a w ι φ H n env' H' n' hE hN hS hrun hfr
    simp [codeR, AM.run] at hrun
    obtain ⟨rfl, rfl, rfl⟩ := hrun
    exact wpIn_label ⟨rfl, ι, φ, Ext.refl _ _, hS, Frm.refl _ _ _ _, hE, hN, rfl⟩
  | region id ops draw =>
    intro env a w ι φ H n env' H' n' hE hN hS hrun hfr
    cases draw with
    | true => simp [codeR, AM.run] at hrun
    | false =>
      simp only [codeR, cond_false] at hrun
      have hidx : (List.range ops.size).map (fun i => ops[i]?) = ops.toList.map some := by
        apply List.ext_getElem?
        intro i
        simp only [List.getElem?_map]
        by_cases h : i < ops.size
        · simp [h]
        · simp [List.getElem?_eq_none, h]
      obtain ⟨env'', he, hq⟩ := opsR_sound (l := l) hcf _ _ env a w ι φ H n _ H' n' hidx hE hN hS hrun hfr
      cases he
      exact wpIn_region (hq _ fun a' w' hp => ⟨rfl, hp⟩)
  | seq c1 c2 ih1 ih2 =>
    intro env a w ι φ H n env' H' n' hE hN hS hrun hfr
    simp only [codeR] at hrun
    rw [AM.run_bind] at hrun
    cases h1 : (codeR P cf N c1 env).run H n with
    | none => rw [h1] at hrun; cases hrun
    | some q =>
    obtain ⟨r1, H1, n1⟩ := q
    rw [h1] at hrun
    cases r1 with
    | pn x => exact absurd h1 (codeR_nopn _ _ _ _ _ _ _)
    | ok env1 =>
      simp only [] at hrun
      have hle := AM.run_le _ _ _ hrun
      refine wpIn_seq (wpIn_mono (ih1 env a w ι φ H n env1 H1 n1 hE hN hS h1 (fresh_left hfr hle)) fun e a1 w1 hq => ?_)
      obtain ⟨rfl, ι1, φ1, g1, g2, g3, g4, g5, g6⟩ := hq
      refine wpIn_mono (ih2 env1 a1 w1 ι1 φ1 H1 n1 env' H' n' g4 g5 g2 hrun (fresh_right hfr g1)) fun e a2 w2 hq => ?_
      obtain ⟨rfl, hp⟩ := hq
      rw [g6] at hp
      exact ⟨rfl, RdPost.trans g1 g3 hp⟩
  | block id c ih =>
    intro env a w ι φ H n env' H' n' hE hN hS hrun hfr
    refine wpIn_block (wpIn_mono (ih env a w ι φ H n env' H' n' hE hN hS hrun hfr) fun e a1 w1 hq => ?_)
    obtain ⟨rfl, hp⟩ := hq
    exact ⟨rfl, hp⟩
  | cond c c1 c2 ih1 ih2 =>
    intro env a w ι φ H n env' H' n' hE hN hS hrun hfr
    simp only [codeR] at hrun
    split at hrun
    case h_2 => simp [AM.run] at hrun
    rename_i t ht
    have hc := ev_rel hE c
    rw [ht] at hc
    generalize hv : a.eval c = v at hc
    cases hc
    cases t with
    | true =>
      rw [replC_same ht] at hrun
      exact wpIn_cond_true hv (ih1 env a w ι φ H n env' H' n' hE hN hS (by simpa [AM.run] using hrun) hfr)
    | false =>
      rw [replC_same ht] at hrun
      exact wpIn_cond_false hv (ih2 env a w ι φ H n env' H' n' hE hN hS (by simpa [AM.run] using hrun) hfr)
  | _ => intro env a w ι φ H n env' H' n' hE hN hS hrun hfr; simp [codeR, AM.run] at hrun

/-! ### One round -/
theorem setTmps_length : ∀ (ts : List Tmp) (caps xs : List AV), (setTmps caps ts xs).length = caps.length
  | [], caps, xs => by cases xs <;> rfl
  | t :: ts, caps, [] => rfl
  | t :: ts, caps, x :: xs => by simp [setTmps, setTmps_length ts]

theorem ARels.set {ι φ vs cs} (h : ARels ι φ vs cs) {u x} (hx : ARel ι φ u x) (t : Nat) : ARels ι φ (vs.set t u) (cs.set t x) :=
  ⟨by simp [h.1], fun i v c hv hc => by
    rw [List.getElem?_set] at hv hc
    by_cases ht : t = i
    · subst ht
      simp only [if_true] at hv hc
      split at hv
      · split at hc
        · cases hv; cases hc; exact hx
        · cases hc
      · cases hv
    · rw [if_neg ht] at hv hc
      exact h.2 i v c hv hc⟩

theorem setTmps_rel {ι φ} : ∀ (ts : List Tmp) (vs : List Value) (xs : List AV) (tmps : Array Value) (caps : List AV), ARels ι φ vs xs → ts.length = vs.length → ARels ι φ tmps.toList caps →
    ARels ι φ ((ts.zip vs).foldl (fun tmps (x : Tmp × Value) => tmps.setIfInBounds x.1 x.2) tmps).toList (setTmps caps ts xs)
  | [], vs, xs, tmps, caps, h, hl, hc => by simp [setTmps]; exact hc
  | t :: ts, [], xs, tmps, caps, h, hl, hc => by simp at hl
  | t :: ts, u :: vs, [], tmps, caps, h, hl, hc => by cases h.1
  | t :: ts, u :: vs, x :: xs, tmps, caps, h, hl, hc => by
    obtain ⟨u', us, he, h1, h2⟩ := h.uncons
    cases he
    simp only [List.zip_cons_cons, List.foldl_cons, setTmps]
    refine setTmps_rel ts vs xs _ _ h2 (by simpa using hl) ?_
    have := hc.set h1 t
    simpa using this

theorem argsE_look {ι φ} {tmps : Array Value} : ∀ {xs : List AV} {vs : List Value} {i : Nat}, ARels ι φ vs xs → (∀ k, k < vs.length → tmps.getD (i + k) undef = vs.getD k undef) → ERel ι φ tmps (argsE i xs)
  | [], vs, i, h, _ => fun t => .junk _
  | x :: xs, vs, i, h, hk => fun t => by
    obtain ⟨u, us, rfl, ha, hb⟩ := h.uncons
    simp only [argsE]
    rw [look_cons]
    split
    · rename_i e
      subst e
      have := hk 0 (by simp)
      simp only [Nat.add_zero, List.getD_cons_zero] at this
      rw [this]; exact ha
    · exact argsE_look hb (fun k hkl => by
        have := hk (k + 1) (by simpa using hkl)
        rw [show i + 1 + k = i + (k + 1) by omega, this]; simp) t
theorem argsE_rel {ι φ} {tmps : Array Value} {xs : List AV} (h : ARels ι φ tmps.toList xs) : ERel ι φ tmps (argsE 0 xs) :=
  argsE_look h fun k hk => by
    rw [Nat.zero_add, Array.getD_eq_getD_getElem?, List.getD_eq_getElem?_getD]
    simp

theorem lp_inv {ι φ H w} (hS : SRel ι φ H w) {id b off sz lim len : Nat} (hφ : φ id = some (.at b off sz lim len)) {busy : Bool} {k : Nat} {caps : List AV} (h : H.at id = some (.lp busy k caps)) :
    ∃ r, w.heap[b]? = some (.loop r) ∧ r.pending = none ∧ (∃ x, Sites.t k = some x ∧ r.params = x.1 ∧ r.assign = x.2.1 ∧ r.body = x.2.2) ∧ r.state = (if busy then .busy else .ready) ∧ ARels ι φ r.tmps.toList caps := by
  obtain ⟨loc, hl, hb⟩ := hS.blk id _ h
  rw [hφ] at hl; cases hl
  exact hb

theorem lp_set {ι φ H w} (hS : SRel ι φ H w) {id b off sz lim len : Nat} (hφ : φ id = some (.at b off sz lim len)) {busy : Bool} {k : Nat} {caps : List AV} (h : H.at id = some (.lp busy k caps))
    {r : Loop} (hr : w.heap[b]? = some (.loop r)) (busy' : Bool) : SRel ι φ (H.setAt id (some (.lp busy' k caps))) (w.putObj b (.loop { r with state := if busy' then .busy else .ready, pending := none })) ∧
      Frm ι H φ w ι (H.setAt id (some (.lp busy' k caps))) φ (w.putObj b (.loop { r with state := if busy' then .busy else .ready, pending := none })) := by
  obtain ⟨r', h1, h2, h3, h4, h5⟩ := lp_inv hS hφ h
  rw [hr] at h1; cases h1
  have hlt : b < w.heap.size := (Array.getElem?_eq_some_iff.1 hr).1
  have ho : ∀ k, k ≠ b → (w.putObj b (.loop { r with state := if busy' then .busy else .ready, pending := none })).heap[k]? = w.heap[k]? := fun k hk => World.putObj_heap_other hk
  exact ⟨hS.write h hφ ho ⟨_, World.putObj_heap_same hlt, rfl, h3, rfl, h5⟩, Frm.write hS h hφ ho rfl rfl rfl (by simp)⟩

theorem yield_sound {cf : CallF} (hcf : CallSound P cf) {ι φ H w n} {a : Act} {env : Env} {o : Oper} {c : Call} {f : Operand} {id : Nat} (ho : o.op = .call c) (hc : c.callee = .value f) (hid : ev env f = .yl id)
    (hE : ERel ι φ a.tmps env) (hS : SRel ι φ H w) {r H' n' next Q ro} (hrun : (yieldM P cf id (c.args.toList.map (ev env))).run H n = some (r, H', n')) (hfr : ∀ i, n ≤ i → i < n' → φ i = .none)
    (hp : OpPost P ι φ H w n r H' n' (fun u w' => next (a.put o.dst u) w') (fun u w' => Q (.panic [{ v := u, recovered := false }]) a w')) : o.wpIn (FR ro) 0 P a w next Q := by
  have hfv := ev_rel hE f
  rw [hid] at hfv
  generalize hfe : a.eval f = fv at hfv
  cases hfv with
  | yl _ b off sz lim len hφ =>
  have hargs := evs_rel hE c.args.toList
  unfold yieldM at hrun
  simp only [AM.run] at hrun
  split at hrun
  case h_2 => simp [AM.run] at hrun
  rename_i k caps hH
  split at hrun
  case h_2 => simp [AM.run] at hrun
  rename_i ps asg body hk
  split at hrun
  case isFalse => simp [AM.run] at hrun
  rename_i hlen
  obtain ⟨rc, r1, r2, ⟨x0, r3, r4, r5, r6⟩, r7, r8⟩ := lp_inv hS hφ hH
  rw [hk] at r3; cases r3
  simp only at r4 r5 r6
  -- the assignments
  rw [AM.run_bind] at hrun
  cases h1 : (codeR P cf caps.length asg (argsE 0 (setTmps caps ps.toList (c.args.toList.map (ev env))))).run H n with
  | none => rw [h1] at hrun; cases hrun
  | some q =>
  obtain ⟨q1, H1, n1⟩ := q
  rw [h1] at hrun
  cases q1 with
  | pn y => exact absurd h1 (codeR_nopn _ _ _ _ _ _ _)
  | ok env1 =>
  simp only [AM.run] at hrun
  split at hrun
  case h_2 => simp [AM.run] at hrun
  rename_i k1 caps1 hH1
  split at hrun
  case isFalse => simp [AM.run] at hrun
  rename_i hk1
  obtain ⟨rfl, hl1⟩ := hk1
  simp only [AM.run] at hrun
  rw [hH1] at hrun
  simp only [] at hrun
  rw [AM.run_bind] at hrun
  cases h2 : (codeR P cf caps.length body env1).run (H1.setAt id (some (.lp true k1 caps1))) n1 with
  | none => rw [h2] at hrun; cases hrun
  | some q =>
  obtain ⟨q2, H2, n2⟩ := q
  rw [h2] at hrun
  cases q2 with
  | pn y => exact absurd h2 (codeR_nopn _ _ _ _ _ _ _)
  | ok env2 =>
  simp only [AM.run] at hrun
  split at hrun
  case h_2 => simp [AM.run] at hrun
  rename_i k2 caps2 hH2
  simp only [AM.run] at hrun
  rw [hH2] at hrun
  simp only [Option.some.injEq, Prod.mk.injEq] at hrun
  obtain ⟨rfl, rfl, rfl⟩ := hrun
  have hle1 := AM.run_le _ _ _ h1
  have hle2 := AM.run_le _ _ _ h2
  -- the operation
  have hex : (o.semAt ro a.eval).run P w = .ok (.round b rc.fn ((rc.params.zip (c.args.map a.eval)).foldl (fun tmps (t, a) => tmps.setIfInBounds t a) rc.tmps) rc.assign rc.body) w := by
    rw [Oper.semAt_eq _ _ _ (fun c e => by rw [ho] at e; cases e)]
    have hy := run_yield (P := P) (args := c.args.map a.eval) r1 (by rw [r4]; simpa using hlen)
    simp only [execOp, ho, resolve, hc, hfe, Deferred.ofValue, invoke, Sem.run_bind, Sem.run_pure, Result.andThen_ok]
    simpa using hy
  refine ⟨fun _ _ => trivial, ?_⟩
  rw [show (FR ro).round = ro from rfl, hex]
  rw [Oper.uponIn_round]
  refine ⟨fun h => by simp [Fence.wide] at h, ?_⟩
  rw [r5, r6]
  have htm : ARels ι φ ((rc.params.zip (c.args.map a.eval)).foldl (fun tmps (t, a) => tmps.setIfInBounds t a) rc.tmps).toList (setTmps caps ps.toList (c.args.toList.map (ev env))) := by
    have := setTmps_rel ps.toList (c.args.toList.map a.eval) (c.args.toList.map (ev env)) rc.tmps caps hargs (by simp; rw [← hlen]; simp) r8
    rw [r4]
    have e : (ps.zip (c.args.map a.eval)).toList = ps.toList.zip (c.args.toList.map a.eval) := by simp
    rw [← Array.foldl_toList, e]
    exact this
  have hsz : ((rc.params.zip (c.args.map a.eval)).foldl (fun tmps (t, a) => tmps.setIfInBounds t a) rc.tmps).size = caps.length := by
    have := htm.1
    rw [setTmps_length] at this
    simpa using this
  refine roundIn_of_wpIn (F := FR ro) trivial ?_
  have hrel := codeR_sound (l := b) hcf asg _ { tmps := (rc.params.zip (c.args.map a.eval)).foldl (fun tmps (t, a) => tmps.setIfInBounds t a) rc.tmps, defers := [] } w ι φ H n env1 H1 n1 (argsE_rel htm) hsz hS h1 (fresh_left hfr hle2)
  refine wpIn_mono hrel fun e a1 w1 hq => ?_
  obtain ⟨rfl, ι1, φ1, g1, g2, g3, g4, g5, g6⟩ := hq
  have hφ1 := g1.mono _ _ hφ
  obtain ⟨rc1, s1, s2, ⟨x1, s3, s4, s5, s6⟩, s7, s8⟩ := lp_inv g2 hφ1 hH1
  refine ⟨_, run_beginRound s1 (by rw [s7]; rfl), ?_⟩
  obtain ⟨t1, t2⟩ := lp_set g2 hφ1 hH1 s1 true
  have eb : ({ rc1 with state := .busy } : Loop) = { rc1 with state := if true then .busy else .ready, pending := none } := by
    cases rc1; simp at s2 ⊢; exact s2
  rw [eb]
  have hrel2 := codeR_sound (l := b) hcf body env1 a1 _ ι1 φ1 _ n1 env2 H2 n2 g4 g5 t1 h2 (fresh_right hfr g1)
  refine wpIn_mono hrel2 fun e a2 w2 hq => ?_
  obtain ⟨rfl, ι2, φ2, k1', k2', k3', k4', k5', k6'⟩ := hq
  have hφ2 := k1'.mono _ _ hφ1
  obtain ⟨rc2, u1, u2, u3, u4, u5⟩ := lp_inv k2' hφ2 hH2
  refine ⟨_, _, run_endRound none u1, ?_⟩
  obtain ⟨v1, v2⟩ := lp_set k2' hφ2 hH2 u1 false
  exact hp (.bool true) _ ι2 φ2 (g1.trans k1') v1 (.v _) (((g3.trans t2).trans k3').trans v2)

/-- An operation, a call of what is yielded to among them. -/
theorem opA_sound {cf : CallF} (hcf : CallSound P cf) {ι φ H w n} {a : Act} {env : Env} {o : Oper} (hE : ERel ι φ a.tmps env) (hS : SRel ι φ H w) {r H' n' next Q ro}
    (hrun : (opA P cf env o).run H n = some (r, H', n')) (hfr : ∀ i, n ≤ i → i < n' → φ i = .none)
    (hp : OpPost P ι φ H w n r H' n' (fun u w' => next (a.put o.dst u) w') (fun u w' => Q (.panic [{ v := u, recovered := false }]) a w')) : o.wpIn (FR ro) 0 P a w next Q := by
  have plain : (opM P cf env o).run H n = some (r, H', n') → o.wpIn (FR ro) 0 P a w next Q := fun hrun => wpIn_of_op (Oper.semAt_eq _ _ _ (not_defer hrun)) (op_sound hcf hE hS hrun hfr hp)
  unfold opA at hrun
  split at hrun
  · rename_i c ho
    split at hrun
    · rename_i f hc
      split at hrun
      · rename_i id hid
        exact yield_sound hcf ho hc hid hE hS hrun hfr hp
      · exact plain hrun
    · exact plain hrun
  · exact plain hrun
end Go.AMach
