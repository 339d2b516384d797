/- Parts of the proof. -/
import Derived.Test.YtbkbifpjckippaaPb
/- law19: runs by picks; what is told of an end. -/
namespace Go.AMach
set_option linter.unusedVariables false
set_option linter.unusedSimpArgs false
set_option linter.unnecessarySimpa false
open Go
set_option linter.unusedVariables false
set_option linter.unusedSimpArgs false
namespace N19
set_option linter.unusedVariables false
set_option linter.unusedSimpArgs false
set_option linter.unnecessarySimpa false
open W19
/-- A run by picks, from a place on, s steps behind it. -/
inductive Run (pk : Nat → Bool) : List Nd → Nat → Int → Int → Int → Prop where
  | nil (s : Nat) : Run pk [] s 23 0 (s : Int)
  | fin (o n : Int) (r : List Nd) (s : Nat) : Run pk (.fin o n :: r) s o n ((s : Int) + 1)
  | step {r s o n t} (h : Run pk r (s + 1) o n t) : Run pk (.step :: r) s o n t
  | go {r s o n t} (k : Nat) (hp : pk s = false) (h : Run pk r (s + 1) o n t) : Run pk (.skip k :: r) s o n t
  | over {r s o n t} (k : Nat) (hp : pk s = true) (h : Run pk (r.drop k) (s + 1) o n t) : Run pk (.skip k :: r) s o n t
theorem Run.E {pk : Nat → Bool} {c : List Nd} {s : Nat} {o n t : Int} (h : Run pk c s o n t) : W19.E c o n (t - (s : Int)) := by
  induction h with
  | nil s => rw [Int.sub_self]; exact .nil
  | fin o n r s => rw [show (s : Int) + 1 - (s : Int) = 1 by omega]; exact .fin _ _ _
  | @step r s o n t h ih => rw [show t - (s : Int) = t - ((s + 1 : Nat) : Int) + 1 by omega]; exact .step ih
  | @go r s o n t k hp h ih => rw [show t - (s : Int) = t - ((s + 1 : Nat) : Int) + 1 by omega]; exact .go k ih
  | @over r s o n t k hp h ih => rw [show t - (s : Int) = t - ((s + 1 : Nat) : Int) + 1 by omega]; exact .over k ih
theorem Run.congr {pk pk' : Nat → Bool} {c : List Nd} {s : Nat} {o n t : Int} (h : Run pk c s o n t) (e : ∀ j, s ≤ j → pk j = pk' j) : Run pk' c s o n t := by
  induction h with
  | nil s => exact .nil s
  | fin o n r s => exact .fin o n r s
  | step h ih => exact .step (ih fun j hj => e j (by omega))
  | go k hp h ih => exact .go k (by rw [← e _ (Nat.le_refl _)]; exact hp) (ih fun j hj => e j (by omega))
  | over k hp h ih => exact .over k (by rw [← e _ (Nat.le_refl _)]; exact hp) (ih fun j hj => e j (by omega))
theorem E_run {c : List Nd} {o n t : Int} (h : W19.E c o n t) : ∀ s : Nat, ∃ pk, Run pk c s o n ((s : Int) + t) := by
  induction h with
  | nil => intro s; exact ⟨fun _ => false, by rw [Int.add_zero]; exact .nil s⟩
  | fin o n r => intro s; exact ⟨fun _ => false, .fin o n r s⟩
  | @step r o n t h ih =>
    intro s
    obtain ⟨pk, hp⟩ := ih (s + 1)
    refine ⟨pk, .step ?_⟩
    rwa [show ((s + 1 : Nat) : Int) + t = (s : Int) + (t + 1) by omega] at hp
  | @go r o n t k h ih =>
    intro s
    obtain ⟨pk, hp⟩ := ih (s + 1)
    refine ⟨fun j => if j = s then false else pk j, .go k (if_pos rfl) ?_⟩
    rw [show ((s + 1 : Nat) : Int) + t = (s : Int) + (t + 1) by omega] at hp
    exact hp.congr fun j hj => (if_neg (by omega)).symm
  | @over r o n t k h ih =>
    intro s
    obtain ⟨pk, hp⟩ := ih (s + 1)
    refine ⟨fun j => if j = s then true else pk j, .over k (if_pos rfl) ?_⟩
    rw [show ((s + 1 : Nat) : Int) + t = (s : Int) + (t + 1) by omega] at hp
    exact hp.congr fun j hj => (if_neg (by omega)).symm
theorem Run.one {pk : Nat → Bool} {c : List Nd} {s : Nat} {o n t : Int} (h : Run pk c s o n t) : ∀ {o' n' t'}, Run pk c s o' n' t' → o' = o ∧ n' = n ∧ t' = t := by
  induction h with
  | nil s => intro o' n' t' h; cases h; exact ⟨rfl, rfl, rfl⟩
  | fin o n r s => intro o' n' t' h; cases h; exact ⟨rfl, rfl, rfl⟩
  | step h ih => intro o' n' t' h; cases h with | step h => exact ih h
  | go k hp h ih =>
    intro o' n' t' h
    cases h with
    | go _ _ h => exact ih h
    | over _ hp' _ => rw [hp] at hp'; cases hp'
  | over k hp h ih =>
    intro o' n' t' h
    cases h with
    | over _ _ h => exact ih h
    | go _ hp' _ => rw [hp] at hp'; cases hp'

/-! ### The loop -/
abbrev pkL (p : List Bool) : Nat → Bool := fun j => p.getD j false
theorem L_run (K : Int → Int → Int → Option Res) (c : List InstrS) (hc : c.length ≤ 32) (hok : okAt c = true) (p : List Bool) (hp : p.length ≤ 1000) : ∀ (m i s : Nat), i ≤ c.length → c.length - i < m → s ≤ i →
    ∃ o n t, Run (pkL p) ((nds c).drop i) s o n t ∧ L_z0x_0 FUEL K (fun y => K 23 0 y) c p m (s : Int) (i : Int) = K o n t
  | 0, _, _, _, h, _ => by omega
  | m + 1, i, s, hi, hm, hs => by
    by_cases h : i < c.length
    case neg =>
      refine ⟨23, 0, s, ?_, ?_⟩
      · rw [List.drop_of_length_le (by simp; omega)]; exact .nil s
      · show F_z0x_0 FUEL K (fun y => K 23 0 y) c p (L_z0x_0 FUEL K (fun y => K 23 0 y) c p m) (s : Int) (i : Int) = _
        unfold F_z0x_0
        exact stepF (decide_eq_false (by omega)) rfl
    have hx := nds_at h
    obtain ⟨hma, hsk⟩ := okAt_at hok h
    rw [drop_at hx]
    have go : ∀ X, F_z0x_0 FUEL K (fun y => K 23 0 y) c p (L_z0x_0 FUEL K (fun y => K 23 0 y) c p m) (s : Int) (i : Int) = X → L_z0x_0 FUEL K (fun y => K 23 0 y) c p (m + 1) (s : Int) (i : Int) = X := fun X h => h
    have e1 : IntKind.wrap .i64 ((IntKind.wrap .i64 ((s : Int) + 1)) - 1) = (s : Int) := by rw [i64_succ (by omega), i64_id (by omega)]; omega
    have op : ∀ X, (cond (endIs (rdd zInstrS c i)) (K (endW (rdd zInstrS c i)).1 (endW (rdd zInstrS c i)).2.1 ((s + 1 : Nat) : Int))
       (cond ((rdd zInstrS c i).1 == (12 : Int))
        (cond (decide ((s : Int) < ((p.length : Nat) : Int)))
         (cond (rdd false p s)
          (L_z0x_0 FUEL K (fun y => K 23 0 y) c p m ((s + 1 : Nat) : Int) (IntKind.wrap .i64 (((i + 1 : Nat) : Int) + (rdd zInstrS c i).2.2.2.2.1)))
          (L_z0x_0 FUEL K (fun y => K 23 0 y) c p m ((s + 1 : Nat) : Int) ((i + 1 : Nat) : Int)))
         (L_z0x_0 FUEL K (fun y => K 23 0 y) c p m ((s + 1 : Nat) : Int) ((i + 1 : Nat) : Int)))
        (L_z0x_0 FUEL K (fun y => K 23 0 y) c p m ((s + 1 : Nat) : Int) ((i + 1 : Nat) : Int)))) = X →
        F_z0x_0 FUEL K (fun y => K 23 0 y) c p (L_z0x_0 FUEL K (fun y => K 23 0 y) c p m) (s : Int) (i : Int) = X := by
      intro X hX
      rw [← hX]
      unfold F_z0x_0
      refine stepT (decide_eq_true (by omega)) ?_
      refine stepT (decide_eq_true (by omega)) ?_
      simp only [toNat_cast, ok_ends, q_ends, cond_true, e1]
      rw [i64_succ (by omega), i64_succ (by omega)]
      cases hd1 : endIs (rdd zInstrS c i) with
      | true => rfl
      | false =>
        simp only [cond_false]
        cases hd2 : ((rdd zInstrS c i).1 == 12) with
        | false => rfl
        | true =>
          simp only [cond_true]
          by_cases hsp : (s : Int) < ((p.length : Nat) : Int)
          · rw [decide_eq_true hsp]
            simp only [cond_true]
            exact stepT (decide_eq_true (by omega)) rfl
          · rw [decide_eq_false hsp]; rfl
    rcases end_cases (rdd zInstrS c i) with ⟨e2, o, n, e3, e4⟩ | ⟨e2, e3, e4⟩ | ⟨e2, e3, e4⟩
    · refine ⟨o, n, (s : Int) + 1, by rw [e3]; exact .fin o n _ s, go _ (op _ ?_)⟩
      refine stepT e2 ?_
      rw [e4]; rfl
    · obtain ⟨hN1, hN2⟩ := skip_N hma hsk e3
      rw [e4]
      generalize hN : (rdd zInstrS c i).2.2.2.2.1 = N at *
      have eN : IntKind.wrap .i64 (((i + 1 : Nat) : Int) + N) = ((i + 1 + N.toNat : Nat) : Int) := by rw [i64_id (by omega)]; omega
      cases hpk : pkL p s with
      | true =>
        obtain ⟨o, n, t, h1, h2⟩ := L_run K c hc hok p hp m (i + 1 + N.toNat) (s + 1) (by omega) (by omega) (by omega)
        refine ⟨o, n, t, .over N.toNat hpk (by rw [List.drop_drop]; exact h1), go _ (op _ ?_)⟩
        have hsp : s < p.length := by
          by_cases hh : s < p.length
          · exact hh
          · have : p.getD s false = true := hpk
            rw [List.getD_eq_getElem?_getD, List.getElem?_eq_none (by omega)] at this
            cases this
        refine stepF e2 (stepT (beqT e3) (stepT (decide_eq_true (by omega)) (stepT hpk ?_)))
        rw [eN]
        exact h2
      | false =>
        obtain ⟨o, n, t, h1, h2⟩ := L_run K c hc hok p hp m (i + 1) (s + 1) (by omega) (by omega) (by omega)
        refine ⟨o, n, t, .go N.toNat hpk h1, go _ (op _ ?_)⟩
        refine stepF e2 (stepT (beqT e3) ?_)
        have e5 : rdd false p s = false := hpk
        rw [e5]
        rw [← h2]
        cases decide ((s : Int) < ((p.length : Nat) : Int)) <;> rfl
    · obtain ⟨o, n, t, h1, h2⟩ := L_run K c hc hok p hp m (i + 1) (s + 1) (by omega) (by omega) (by omega)
      refine ⟨o, n, t, by rw [e4]; exact .step h1, go _ (op _ ?_)⟩
      exact stepF e2 (stepF (beqF e3) h2)
theorem Q_run (c : List InstrS) (hc : c.length ≤ 32) (hok : okAt c = true) (p : List Bool) (hp : p.length ≤ 1000) : ∃ o n t, Run (pkL p) (nds c) 0 o n t ∧ Q_z0x c p = some ((o, (n, (t, ()))), ()) := by
  obtain ⟨o, n, t, h1, h2⟩ := L_run (fun y3 y4 y5 => some (encRes ro_z0x rh_z0x ((y3, (y4, (y5, ()))), ()))) c hc hok p hp FUEL 0 0 (by omega) (fuel_big (by omega)) (Nat.le_refl _)
  exact ⟨o, n, t, h1, fin h2⟩

/-! ### What is told of an end -/
def toldV : List WayS → Int → Int → Int
  | [], _, _ => -1
  | x :: l, o, n => if x.1 = o ∧ x.2.1 = n then x.2.2.1 else toldV l o n
theorem L_told (kr : Int → Option Res) (kt : Unit → Option Res) (hk : kt () = kr (-1)) (l : List WayS) (hl : l.length ≤ 1000) (o n : Int) : ∀ (m i : Nat), i ≤ l.length → l.length - i < m →
    L_z0y_0 FUEL kr kt l o n m (i : Int) = kr (toldV (l.drop i) o n)
  | 0, _, _, h => by omega
  | m + 1, i, hi, hm => by
    show F_z0y_0 FUEL kr kt l o n (L_z0y_0 FUEL kr kt l o n m) (i : Int) = _
    unfold F_z0y_0
    by_cases h : i < l.length
    · have hb : decide ((0 : Int) ≤ (i : Int) ∧ (i : Int) < ((l.length : Nat) : Int)) = true := decide_eq_true (by omega)
      have ih := L_told kr kt hk l hl o n m (i + 1) (by omega) (by omega)
      simp only [hb, cond_true, toNat_cast]
      refine stepT (decide_eq_true (by omega)) ?_
      rw [i64_succ (by omega), drop_rdd zWayS h]
      unfold toldV
      by_cases h1 : (rdd zWayS l i).1 = o
      · refine stepT (beqT h1) ?_
        by_cases h2 : (rdd zWayS l i).2.1 = n
        · rw [if_pos ⟨h1, h2⟩]
          exact stepT (beqT h2) rfl
        · rw [if_neg (fun e => h2 e.2)]
          exact stepF (beqF h2) ih
      · rw [if_neg (fun e => h1 e.1)]
        exact stepF (beqF h1) ih
    · refine stepF (decide_eq_false (by omega)) ?_
      rw [List.drop_of_length_le (by omega)]
      exact hk
theorem Q_told (l : List WayS) (hl : l.length ≤ 1000) (o n : Int) : Q_z0y l o n = some ((toldV l o n, ()), ()) := by
  refine fin ?_
  refine (L_told _ _ rfl l hl o n FUEL 0 (by omega) (fuel_big (by omega))).trans ?_
  rw [List.drop_zero]
theorem q_told (l : List WayS) (hl : l.length ≤ 1000) (o n : Int) : ok_z0y l o n = true ∧ q_z0y l o n = ((toldV l o n, ()), ()) :=
  ⟨by unfold ok_z0y; rw [Q_told l hl]; rfl, by unfold q_z0y; rw [Q_told l hl]; rfl⟩
theorem told_mem {l : List WayS} (h : l.Pairwise wlt) {o n s : Int} (hm : wy o n s ∈ l) : toldV l o n = s := by
  induction l with
  | nil => cases hm
  | cons x l ih =>
    obtain ⟨h1, h2⟩ := List.pairwise_cons.1 h
    unfold toldV
    rcases List.mem_cons.1 hm with e | e
    · subst e; rw [if_pos ⟨rfl, rfl⟩]
    · have := h1 _ e
      rw [if_neg (fun e => by unfold wlt at this; simp only at this; omega)]
      exact ih h2 e
end N19
end Go.AMach

/- law19: InstrSkips. -/
namespace Go.AMach
set_option linter.unusedVariables false
set_option linter.unusedSimpArgs false
set_option linter.unnecessarySimpa false
open Go
set_option linter.unusedVariables false
set_option linter.unusedSimpArgs false
namespace N19
set_option linter.unusedVariables false
set_option linter.unusedSimpArgs false
set_option linter.unnecessarySimpa false
open W19
def FreeI (l : List InstrS) : Prop := ∀ i ∈ l, i.1 ≠ 12
def FreeN (l : List Nd) : Prop := ∀ x ∈ l, ∀ k, x ≠ .skip k
theorem free_nds {l : List InstrS} (h : FreeI l) : FreeN (nds l) := fun x hx k e => by
  obtain ⟨i, hi, rfl⟩ := List.mem_map.1 hx
  rcases end_cases i with ⟨_, o, n, e3, _⟩ | ⟨_, e3, _⟩ | ⟨_, _, e3⟩
  · rw [e3] at e; cases e
  · exact h i hi e3
  · rw [e3] at e; cases e
theorem Run.pick {pk pk' : Nat → Bool} {q : Nat} {post : List Nd} (hq : FreeN post) : ∀ {pre : List Nd} {s : Nat} {o n t : Int}, FreeN pre → Run pk (pre ++ .skip q :: post) s o n t → pk (s + pre.length) = pk' (s + pre.length) → Run pk' (pre ++ .skip q :: post) s o n t := by
  have free : ∀ {l : List Nd} {s : Nat} {o n t : Int}, FreeN l → Run pk l s o n t → Run pk' l s o n t := by
    intro l
    induction l with
    | nil => intro s o n t _ h; cases h; exact .nil _
    | cons x l ih =>
      intro s o n t hf h
      have hf' : FreeN l := fun y hy => hf y (List.mem_cons_of_mem _ hy)
      cases h with
      | fin => exact .fin _ _ _ _
      | step h => exact .step (ih hf' h)
      | go k _ h => exact absurd rfl (hf _ List.mem_cons_self k)
      | over k _ h => exact absurd rfl (hf _ List.mem_cons_self k)
  intro pre
  induction pre with
  | nil =>
    intro s o n t _ h e
    have e : pk s = pk' s := e
    cases h with
    | go _ hp h => exact .go q (by rw [← e]; exact hp) (free hq h)
    | over _ hp h => exact .over q (by rw [← e]; exact hp) (free (fun y hy => hq y (List.mem_of_mem_drop hy)) h)
  | cons x l ih =>
    intro s o n t hf h e
    have hf' : FreeN l := fun y hy => hf y (List.mem_cons_of_mem _ hy)
    simp only [List.length_cons] at e
    cases h with
    | fin => exact .fin _ _ _ _
    | step h => exact .step (ih hf' h (by rw [show s + 1 + l.length = s + (l.length + 1) by omega]; exact e))
    | go k _ h => exact absurd rfl (hf _ List.mem_cons_self k)
    | over k _ h => exact absurd rfl (hf _ List.mem_cons_self k)
theorem okAt_app : ∀ {pre rest : List InstrS}, FreeI pre → okAt (pre ++ rest) = (pre.all mayB && okAt rest)
  | [], rest, _ => by simp
  | i :: pre, rest, h => by
    have ih := okAt_app (pre := pre) (rest := rest) fun j hj => h j (List.mem_cons_of_mem _ hj)
    show (mayB i && (skOk i (pre ++ rest).length && okAt (pre ++ rest))) = _
    unfold skOk
    rw [beqF (h i List.mem_cons_self), ih]
    simp [Bool.and_assoc]
def sk12 (n : Int) : InstrS := (12, (1, ((1, (5, ())), ((4, (0, ())), (n, ())))))
theorem skips_may {b : BlockS} {n : Int} {k : Nat} (hb : mayBlk b = true) (hf : FreeI b.2.1) (hl : b.2.1.length < 32) (hk : k ≤ b.2.1.length) :
    mayBlk (b.1, ((b.2.1.take k ++ [sk12 n]) ++ b.2.1.drop k, ())) = (decide (1 ≤ n) && decide (n ≤ (b.2.1.length : Int) - (k : Int))) := by
  obtain ⟨h1, h2, h3⟩ := blk_parts hb
  have hall : b.2.1.all mayB = true := by
    have := okAt_app (pre := b.2.1) (rest := []) hf
    rw [List.append_nil, h3] at this
    simp only [okAt, Bool.and_true] at this
    exact this.symm
  have ft : FreeI (b.2.1.take k) := fun i hi => hf i (List.mem_of_mem_take hi)
  have fd : FreeI (b.2.1.drop k) := fun i hi => hf i (List.mem_of_mem_drop hi)
  have a1 : (b.2.1.take k).all mayB = true := List.all_eq_true.2 fun i hi => List.all_eq_true.1 hall i (List.mem_of_mem_take hi)
  have a2 : (b.2.1.drop k).all mayB = true := List.all_eq_true.2 fun i hi => List.all_eq_true.1 hall i (List.mem_of_mem_drop hi)
  have a3 : okAt (b.2.1.drop k) = true := by
    have := okAt_app (pre := b.2.1.drop k) (rest := []) fd
    rw [List.append_nil, a2] at this
    exact this
  unfold mayBlk
  have e1 : okAt ((b.2.1.take k ++ [sk12 n]) ++ b.2.1.drop k) = (mayB (sk12 n) && skOk (sk12 n) (b.2.1.drop k).length) := by
    rw [List.append_assoc, okAt_app ft, a1]
    show (true && (mayB (sk12 n) && (skOk (sk12 n) (b.2.1.drop k).length && okAt (b.2.1.drop k)))) = _
    rw [a3]; simp
  have e2 : mayB (sk12 n) = (decide (1 ≤ n) && decide (n ≤ 32)) := by
    show cond _ false _ = _
    rfl
  have e3 : skOk (sk12 n) (b.2.1.drop k).length = !decide (n > (((b.2.1.drop k).length : Nat) : Int)) := rfl
  simp only [e1, e2, e3, h1, Bool.true_and]
  have hlen : ((b.2.1.take k ++ [sk12 n]) ++ b.2.1.drop k).length ≤ 32 := by simp; omega
  rw [decide_eq_true hlen, Bool.true_and, List.length_drop]
  by_cases c1 : 1 ≤ n
  · by_cases c2 : n ≤ (b.2.1.length : Int) - (k : Int)
    · rw [decide_eq_true c1, decide_eq_true c2, decide_eq_true (show n ≤ 32 by omega), decide_eq_false (by omega)]; rfl
    · rw [decide_eq_true c1, decide_eq_false c2, decide_eq_true (show n > ((b.2.1.length - k : Nat) : Int) by omega)]; simp
  · rw [decide_eq_false c1]; rfl
/-- The ways of a block with one skip. -/
theorem skip_ways {pre post : List Nd} {q : Nat} (h1 : FreeN pre) (h2 : FreeN post) {yes : Nat → Bool} (hy : yes pre.length = true) {no : Nat → Bool} (hn : no pre.length = false) {oA nA sA oB nB sB : Int}
    (hA : Run yes (pre ++ .skip q :: post) 0 oA nA sA) (hB : Run no (pre ++ .skip q :: post) 0 oB nB sB) : waysB (pre ++ .skip q :: post) = withL (wy oB nB sB) [wy oA nA sA] := by
  refine (waysB_ok _ _ (Nat.le_refl _)).one (WaysP.congr (withL_ways (one_ways oA nA sA)) fun o n s => ?_)
  constructor
  · rintro (⟨rfl, rfl, rfl⟩ | e)
    · have := hA.E; simpa using this
    · unfold wy at e; simp only [Prod.mk.injEq] at e
      obtain ⟨rfl, rfl, rfl, _⟩ := e
      have := hB.E; simpa using this
  · intro h
    obtain ⟨pk, hr⟩ := E_run h 0
    have hr : Run pk (pre ++ .skip q :: post) 0 o n s := by simpa using hr
    cases hp : pk pre.length with
    | true =>
      obtain ⟨a, b, c⟩ := hA.one (hr.pick (pk' := yes) h2 h1 (by rw [Nat.zero_add, hp, hy]))
      exact .inl ⟨a, b, c⟩
    | false =>
      obtain ⟨a, b, c⟩ := hB.one (hr.pick (pk' := no) h2 h1 (by rw [Nat.zero_add, hp, hn]))
      right; rw [a, b, c]
theorem L_Skips (kr : Bool → Option Res) (kt : Unit → Option Res) (b : BlockS) (hb : b.2.1.length ≤ 32) : ∀ (m i : Nat), i ≤ b.2.1.length → b.2.1.length - i < m →
    (FreeI (b.2.1.drop i) ∧ L_z12_0 FUEL kr kt b m (i : Int) = kt ()) ∨ L_z12_0 FUEL kr kt b m (i : Int) = kr true
  | 0, _, _, h => by omega
  | m + 1, i, hi, hm => by
    by_cases h : i < b.2.1.length
    · by_cases hx : (rdd zInstrS b.2.1 i).1 = 12
      · right
        show F_z12_0 FUEL kr kt b (L_z12_0 FUEL kr kt b m) (i : Int) = _
        unfold F_z12_0
        rw [toNat_cast]
        exact stepT (decide_eq_true (by omega)) (stepT (decide_eq_true (by omega)) (stepT (beqT hx) rfl))
      · have e : L_z12_0 FUEL kr kt b (m + 1) (i : Int) = L_z12_0 FUEL kr kt b m ((i + 1 : Nat) : Int) := by
          show F_z12_0 FUEL kr kt b (L_z12_0 FUEL kr kt b m) (i : Int) = _
          unfold F_z12_0
          rw [toNat_cast, i64_succ (by omega)]
          exact stepT (decide_eq_true (by omega)) (stepT (decide_eq_true (by omega)) (stepF (beqF hx) rfl))
        rw [e]
        rcases L_Skips kr kt b hb m (i + 1) (by omega) (by omega) with ⟨a, c⟩ | c
        · refine .inl ⟨?_, c⟩
          rw [drop_rdd zInstrS h]
          intro x hx'
          rcases List.mem_cons.1 hx' with rfl | hx'
          · exact hx
          · exact a x hx'
        · exact .inr c
    · left
      rw [List.drop_of_length_le (by omega)]
      refine ⟨fun x hx => (by cases hx), ?_⟩
      show F_z12_0 FUEL kr kt b (L_z12_0 FUEL kr kt b m) (i : Int) = _
      unfold F_z12_0
      exact stepF (decide_eq_false (by omega)) rfl
theorem cutL_app {α : Type} (d : α) (l m : List α) (n : Nat) (h : n = l.length + m.length) : cutL d (l ++ m) 0 n = l ++ m := by subst h; rw [← List.length_append, cutL_all]
theorem tmodK (a : Int) {n : Nat} (hn : 0 < n) (hb : n ≤ 1000) : ∃ k : Nat, k < n ∧ IntKind.wrap .i64 (Int.tmod (IntKind.wrap .u64 a) (IntKind.wrap .u64 (n : Int))) = (k : Int) := by
  have h0 : 0 ≤ IntKind.wrap .u64 a := by simp [IntKind.wrap, IntKind.bits, IntKind.signed]; omega
  rw [u64_in (n : Int) (by omega)]
  have h1 := Int.emod_nonneg (IntKind.wrap .u64 a) (show (n : Int) ≠ 0 by omega)
  have h2 := Int.emod_lt_of_pos (IntKind.wrap .u64 a) (show (0 : Int) < n by omega)
  refine ⟨(IntKind.wrap .u64 a % (n : Int)).toNat, by omega, ?_⟩
  rw [Int.tmod_eq_emod_of_nonneg h0, i64_id (by omega)]; omega
end N19
end Go.AMach

/- law19: InstrSkips, the whole. -/
namespace Go.AMach
set_option linter.unusedVariables false
set_option linter.unusedSimpArgs false
set_option linter.unnecessarySimpa false
open Go
set_option linter.unusedVariables false
set_option linter.unusedSimpArgs false
open N19 W19
theorem Pure.InstrSkips (b : BlockS) (hb : BlockT.good b) (a1 : Int) (h1 : (Ty.int .i64).good a1) (a2 : Int) (h2 : (Ty.int .i64).good a2) : Q_z12 b a1 a2 = some ((true, ()), ()) := by
  refine fin ?_
  unfold M_z12
  by_cases hl : (b.2.1.length : Int) > 300
  · refine stepT (decide_eq_true hl) ?_
    refine stepC Q_awake ?_
    rw [q_awake]
  refine stepF (decide_eq_false hl) ?_
  refine stepC Q_awake ?_
  refine stepF (by rw [q_awake]; rfl) ?_
  refine stepC (Q_MayBlock b) ?_
  rw [q_MayBlock]
  cases hm : mayBlk b with
  | false => rfl
  | true =>
  refine stepF rfl ?_
  by_cases h32 : (b.2.1.length : Int) ≥ 32
  · exact stepT (decide_eq_true h32) rfl
  refine stepF (decide_eq_false h32) ?_
  refine Eq.trans ?_ (rfl : (fun _ : Unit => some (encRes ro_z12 rh_z12 ((true, ()), ()))) () = _)
  have hL := fun kr kt => L_Skips kr kt b (by omega) FUEL 0 (by omega) (fuel_big (by omega))
  refine Or.elim (hL _ _) (fun h => ?_) (fun h => h.trans rfl)
  refine h.2.trans ?_
  have hfree : FreeI b.2.1 := by have := h.1; rw [List.drop_zero] at this; exact this
  clear hL h
  have e0 : IntKind.wrap .i64 (((b.2.1.length : Nat) : Int) + (1 : Int)) = ((b.2.1.length + 1 : Nat) : Int) := by rw [i64_id (by omega)]; omega
  obtain ⟨k, hk, ek⟩ := tmodK a1 (n := b.2.1.length + 1) (by omega) (by omega)
  rw [e0]
  refine stepT (bneT ?_) ?_
  · rw [u64_in _ (by omega)]; omega
  extract_lets -merge +onlyGivenNames y6
  have e6 : IntKind.wrap .i64 y6 = (k : Int) := ek
  clear_value y6
  have eone : q_z0j (12 : Int) = (((12, (1, ((1, (5, ())), ((4, (0, ())), (1, ()))))), ()), ()) := by kernel_rfl
  have ook : ok_z0j (12 : Int) = true := by kernel_rfl
  have c1 : cutL zInstrS b.2.1 0 k = b.2.1.take k := by rw [cutL_eq (by omega), List.drop_zero]
  have c2 : cutL zInstrS b.2.1 k (b.2.1.length - k) = b.2.1.drop k := by rw [cutL_eq (by omega), List.take_of_length_le (by simp)]
  simp only [e6, eone, ook, cond_true, toNat_cast, show Int.toNat (0 : Int) = 0 from rfl, Nat.sub_zero, Nat.zero_add, c1, c2, cutL_all]
  have c3 : ∀ x : InstrS, cutL zInstrS (b.2.1.take k ++ [x]) 0 ((b.2.1.take k).length + 1) = b.2.1.take k ++ [x] := fun x => cutL_app _ _ _ _ rfl
  have c4 : ∀ x : InstrS, cutL zInstrS ((b.2.1.take k ++ [x]) ++ b.2.1.drop k) 0 ((b.2.1.take k ++ [x]).length + (b.2.1.drop k).length) = (b.2.1.take k ++ [x]) ++ b.2.1.drop k := fun x => cutL_app _ _ _ _ rfl
  simp only [c3, c4, ok_MayBlock, q_MayBlock, ok_Ways, q_Ways, cond_true, cutL_all]
  have hsm := skips_may (n := a2) hm hfree (by omega) (show k ≤ b.2.1.length by omega)
  have hlt : (b.2.1.take k).length = k := by simp; omega
  have hld : (b.2.1.drop k).length = b.2.1.length - k := by simp
  have hlx : (b.2.1.take k ++ [(((12 : Int), ((1 : Int), (((1 : Int), ((5 : Int), ())), (((4 : Int), ((0 : Int), ())), (a2, ()))))) : InstrS)]).length = k + 1 := by rw [List.length_append, hlt]; rfl
  clear c3 c4
  refine stepT (decide_eq_true (by omega)) ?_
  refine stepT (decide_eq_true (by omega)) ?_
  refine stepT (decide_eq_true (by omega)) ?_
  refine stepT (decide_eq_true (by omega)) ?_
  refine stepT (decide_eq_true (by omega)) ?_
  have ew : IntKind.wrap .i64 (((b.2.1.length : Nat) : Int) - (k : Int)) = ((b.2.1.length : Nat) : Int) - (k : Int) := i64_id (by omega)
  have ew1 : IntKind.wrap .i64 ((k : Int) + 1) = ((k + 1 : Nat) : Int) := i64_succ (by omega)
  rw [ew, ew1]
  change mayBlk (b.1, ((b.2.1.take k ++ [(((12 : Int), ((1 : Int), (((1 : Int), ((5 : Int), ())), (((4 : Int), ((0 : Int), ())), (a2, ()))))) : InstrS)]) ++ b.2.1.drop k, ())) = _ at hsm
  have hnds : nds ((b.2.1.take k ++ [(((12 : Int), ((1 : Int), (((1 : Int), ((5 : Int), ())), (((4 : Int), ((0 : Int), ())), (a2, ()))))) : InstrS)]) ++ b.2.1.drop k) = nds (b.2.1.take k) ++ .skip a2.toNat :: nds (b.2.1.drop k) := by
    simp [nds, nd]
  have hXl : ((b.2.1.take k ++ [(((12 : Int), ((1 : Int), (((1 : Int), ((5 : Int), ())), (((4 : Int), ((0 : Int), ())), (a2, ()))))) : InstrS)]) ++ b.2.1.drop k).length ≤ 32 := by
    rw [List.length_append, hlx, hld]; omega
  generalize hX : (b.2.1.take k ++ [(((12 : Int), ((1 : Int), (((1 : Int), ((5 : Int), ())), (((4 : Int), ((0 : Int), ())), (a2, ()))))) : InstrS)]) ++ b.2.1.drop k = X at *
  have hval : mayBlk (b.1, (X, ())) = false → waysL (b.1, (X, ())) = [] := fun h => by unfold waysL; rw [h]; rfl
  by_cases ha : a2 ≥ 1
  case neg =>
    refine stepF (decide_eq_false ha) ?_
    have hf : mayBlk (b.1, (X, ())) = false := by rw [hsm, decide_eq_false (show ¬ 1 ≤ a2 by omega)]; rfl
    rw [hf, hval hf]
    rfl
  refine stepT (decide_eq_true ha) ?_
  have hsm2 : mayBlk (b.1, (X, ())) = decide (a2 ≤ ((b.2.1.length : Nat) : Int) - (k : Int)) := by rw [hsm, decide_eq_true (show 1 ≤ a2 by omega)]; rfl
  rw [← hsm2]
  refine stepF (by simp) ?_
  cases hv : mayBlk (b.1, (X, ())) with
  | false =>
    refine stepT rfl ?_
    rw [hval hv]; rfl
  | true =>
  refine stepF rfl ?_
  refine stepT (decide_eq_true (by omega)) ?_
  refine stepT (decide_eq_true (by omega)) ?_
  obtain ⟨_, _, hokX⟩ := blk_parts hv
  have hyl : (mkL (Int.toNat ((k + 1 : Nat) : Int)) fun i => if i = k then true else false).length = k + 1 := mkL_length _ _
  obtain ⟨oA, nA, sA, hA, eA⟩ := Q_run X hXl hokX (mkL (Int.toNat ((k + 1 : Nat) : Int)) fun i => if i = k then true else false) (by omega)
  obtain ⟨oB, nB, sB, hB, eB⟩ := Q_run X hXl hokX [] (by simp)
  rw [hnds] at hA hB
  have hpl : (nds (b.2.1.take k)).length = k := by simp; omega
  have hW : waysL (b.1, (X, ())) = withL (wy oB nB sB) [wy oA nA sA] := by
    unfold waysL
    rw [hv]
    show waysB (nds X) = _
    rw [hnds]
    refine skip_ways (free_nds fun i hi => hfree i (List.mem_of_mem_take hi)) (free_nds fun i hi => hfree i (List.mem_of_mem_drop hi)) ?_ ?_ hA hB
    · rw [hpl]
      show List.getD _ k false = true
      rw [List.getD_eq_getElem?_getD, mkL_get (by omega), if_pos rfl]; rfl
    · rfl
  rw [hW]
  have hlW : (withL (wy oB nB sB) [wy oA nA sA]).length ≤ 2 := by
    unfold withL withL; split
    · simp
    · split <;> simp
  have hsB : sB ≤ 33 ∧ sA ≤ 33 := by
    have h1 := E_le hB.E
    have h2 := E_le hA.E
    simp at h1 h2
    omega
  have tA := fun o n => q_told (withL (wy oB nB sB) [wy oA nA sA]) (by omega) o n
  have rA : ok_z0x X (mkL (Int.toNat ((k + 1 : Nat) : Int)) fun i => if i = k then true else false) = true ∧ q_z0x X (mkL (Int.toNat ((k + 1 : Nat) : Int)) fun i => if i = k then true else false) = ((oA, (nA, (sA, ()))), ()) :=
    ⟨by unfold ok_z0x; rw [eA]; rfl, by unfold q_z0x; rw [eA]; rfl⟩
  have rB : ok_z0x X [] = true ∧ q_z0x X [] = ((oB, (nB, (sB, ()))), ()) :=
    ⟨by unfold ok_z0x; rw [eB]; rfl, by unfold q_z0x; rw [eB]; rfl⟩
  simp only [rA.1, rA.2, rB.1, rB.2, cond_true, (tA _ _).1, (tA _ _).2]
  clear tA rA rB hA hB eA eB hW
  have two : ¬ (oA = oB ∧ nA = nB) → toldV (withL (wy oB nB sB) [wy oA nA sA]) oA nA = sA ∧ toldV (withL (wy oB nB sB) [wy oA nA sA]) oB nB = sB ∧ (withL (wy oB nB sB) [wy oA nA sA]).length = 2 := by
    intro h
    have h' : ¬ (oB = oA ∧ nB = nA) := fun e => h ⟨e.1.symm, e.2.symm⟩
    unfold withL
    rw [if_neg h]
    split
    · refine ⟨?_, ?_, rfl⟩
      · unfold toldV; rw [if_neg h']; unfold toldV; rw [if_pos ⟨rfl, rfl⟩]
      · unfold toldV; rw [if_pos ⟨rfl, rfl⟩]
    · unfold withL
      refine ⟨?_, ?_, rfl⟩
      · unfold toldV; rw [if_pos ⟨rfl, rfl⟩]
      · unfold toldV; rw [if_neg h]; unfold toldV; rw [if_pos ⟨rfl, rfl⟩]
  by_cases hk1 : oA = oB
  · by_cases hk2 : nA = nB
    · subst hk1; subst hk2
      have e : withL (wy oA nA sB) [wy oA nA sA] = [wy oA nA (max sA sB)] := by unfold withL; rw [if_pos ⟨rfl, rfl⟩]
      rw [e]
      have et : toldV [wy oA nA (max sA sB)] oA nA = max sA sB := by unfold toldV; rw [if_pos ⟨rfl, rfl⟩]
      rw [et]
      refine stepF (decide_eq_false (by omega)) ?_
      refine stepF (decide_eq_false (by omega)) ?_
      refine stepF (decide_eq_false (show ¬ ((1 : Nat) : Int) > 2 by decide)) ?_
      refine stepT (beqT rfl) ?_
      refine stepT (beqT rfl) ?_
      refine stepT rfl ?_
      refine stepT rfl ?_
      refine stepT (beqT ?_) rfl
      show max sA sB = if sB > sA then sB else sA
      split <;> omega
    · obtain ⟨x1, x2, x3⟩ := two (fun e => hk2 e.2)
      refine stepF (decide_eq_false (by rw [x1]; omega)) ?_
      refine stepF (decide_eq_false (by rw [x2]; omega)) ?_
      refine stepF (decide_eq_false (by rw [x3]; decide)) ?_
      refine stepT (beqT hk1) ?_
      refine stepF (beqF hk2) ?_
      refine stepF (bneF hk1) ?_
      refine stepT (bneT hk2) ?_
      refine stepT (by rw [x3]; rfl) ?_
      refine stepT (beqT x1) ?_
      rw [x2, beqT rfl]
  · obtain ⟨x1, x2, x3⟩ := two (fun e => hk1 e.1)
    refine stepF (decide_eq_false (by rw [x1]; omega)) ?_
    refine stepF (decide_eq_false (by rw [x2]; omega)) ?_
    refine stepF (decide_eq_false (by rw [x3]; decide)) ?_
    refine stepF (beqF hk1) ?_
    refine stepT (bneT hk1) ?_
    refine stepT (by rw [x3]; rfl) ?_
    refine stepT (beqT x1) ?_
    rw [x2, beqT rfl]
end Go.AMach
