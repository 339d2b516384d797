/- Parts of the proof. -/
import Derived.Test.YtbkbifpjckippaaPa
/- law19: instr.Ways: its loops, and what it tells. -/
namespace Go.AMach
set_option linter.unusedVariables false
set_option linter.unusedSimpArgs false
set_option linter.unnecessarySimpa false
open Go
set_option linter.unusedVariables false
set_option linter.unusedSimpArgs false
namespace N19
set_option linter.unusedVariables false
set_option linter.unusedSimpArgs false
set_option linter.unnecessarySimpa false
open W19
theorem rdd_set' {α : Type} {d x : α} {l : List α} {i j : Nat} : rdd d (l.set i x) j = if i = j ∧ i < l.length then x else rdd d l j := by
  unfold rdd
  rw [List.getD_eq_getElem?_getD, List.getD_eq_getElem?_getD, List.getElem?_set]
  by_cases h : i = j
  · subst h
    by_cases h2 : i < l.length
    · simp [h2]
    · simp [h2]
  · simp [h]
theorem i64_id {n : Int} (h : -9223372036854775808 ≤ n ∧ n ≤ 9223372036854775807) : IntKind.wrap .i64 n = n := by simp [IntKind.wrap, IntKind.bits, IntKind.signed]; omega
theorem L_W0 (k : List Int → Option Res) (n : Nat) (hn : n ≤ 32) : ∀ (m i : Nat) (l : List Int), i ≤ n → n - i < m → l.length = n + 1 → rdd 0 l 0 = 0 → (∀ j, j < i → rdd 0 l (j + 1) = -1) →
    ∃ y : List Int, y.length = n + 1 ∧ rdd 0 y 0 = 0 ∧ (∀ j, j < n → rdd 0 y (j + 1) = -1) ∧ L_z0e_0 FUEL k (n + 1) (n : Int) m (i : Int) l = k y
  | 0, _, _, _, h, _, _, _ => by omega
  | m + 1, i, l, hi, hm, hl, h0, hj => by
    by_cases h : i < n
    · obtain ⟨y, a, b, c, e⟩ := L_W0 k n hn m (i + 1) (l.set (i + 1) (-1)) (by omega) (by omega) (by simpa using hl) (by rw [rdd_set', if_neg (by omega)]; exact h0) (fun j hj' => by
        rw [rdd_set']
        by_cases hji : j = i
        · subst hji; rw [if_pos ⟨rfl, by omega⟩]
        · rw [if_neg (by omega)]; exact hj j (by omega))
      refine ⟨y, a, b, c, ?_⟩
      rw [← e]
      show F_z0e_0 FUEL k (n + 1) (n : Int) (L_z0e_0 FUEL k (n + 1) (n : Int) m) (i : Int) l = _
      unfold F_z0e_0
      refine stepT (decide_eq_true (by omega)) ?_
      rw [i64_succ (by omega)]
      refine stepT (decide_eq_true (by omega)) ?_
      rw [toNat_cast]
    · refine ⟨l, hl, h0, fun j hjn => hj j (by omega), ?_⟩
      show F_z0e_0 FUEL k (n + 1) (n : Int) (L_z0e_0 FUEL k (n + 1) (n : Int) m) (i : Int) l = _
      unfold F_z0e_0
      exact stepF (decide_eq_false (by omega)) rfl

/-- What `come` tells. -/
def CI (c : List Nd) (p : Nat) (y : List Int) : Prop := ∀ j, j ≤ c.length → Best (fun s => RP c p j s) (rdd 0 y j)
theorem CI.stay {c : List Nd} {p : Nat} {y : List Int} {x : Nd} (h : CI c p y) (hx : c[p]? = some x) (hn : (∀ s, ¬ RP c p p s) ∨ x.isFin = true) : CI c (p + 1) y := fun j hj => (h j hj).congr fun s => by
  rw [RP_succ hx]
  constructor
  · rintro (h | ⟨t, ht, _, hh⟩)
    · exact h
    · rcases hn with hn | hn
      · exact absurd ht (hn t)
      · rcases hh with ⟨hf, _⟩ | ⟨k, rfl, _⟩
        · rw [hf] at hn; cases hn
        · cases hn
  · exact .inl
theorem mapI_stay {c : List Nd} {p : Nat} {g : WayS → Option Int} {x : Nd} (h : MapI (PE c p) g) (hx : c[p]? = some x) (hn : (∀ s, ¬ RP c p p s) ∨ x.isFin = false) : MapI (PE c (p + 1)) g := h.congr fun o n s => by
  rw [PE_succ hx]
  constructor
  · rintro (h | ⟨t, ht, e, _⟩)
    · exact h
    · rcases hn with hn | hn
      · exact absurd ht (hn t)
      · subst e; cases hn
  · exact .inl
abbrev mx (w v : Int) : Int := if w > v then w else v
theorem CI.step {c : List Nd} {p : Nat} {y : List Int} {v : Int} (h : CI c p y) (hp : p < c.length) (hl : y.length = c.length + 1) (hx : c[p]? = some .step) (hv : RP c p p v) (hm : ∀ s, RP c p p s → s ≤ v) :
    CI c (p + 1) (y.set (p + 1) (mx (v + 1) (rdd 0 y (p + 1)))) := fun j hj => by
  rw [rdd_set']
  by_cases e : p + 1 = j
  · subst e
    rw [if_pos ⟨rfl, by omega⟩]
    refine (h (p + 1) hj).add (R := fun s => ∃ t, RP c p p t ∧ s = t + 1) (by have := hv.le; omega) ⟨v, hv, rfl⟩ (fun s ⟨t, ht, e⟩ => by have := hm t ht; omega) fun s => ?_
    rw [RP_succ hx]
    constructor
    · rintro (h | ⟨t, ht, e, _⟩)
      · exact .inl h
      · exact .inr ⟨t, ht, e⟩
    · rintro (h | ⟨t, ht, e⟩)
      · exact .inl h
      · exact .inr ⟨t, ht, e, .inl ⟨rfl, rfl⟩⟩
  · rw [if_neg (by omega)]
    refine (h j hj).congr fun s => ?_
    rw [RP_succ hx]
    constructor
    · rintro (h | ⟨t, ht, _, ⟨_, hh⟩ | ⟨k, hk, _⟩⟩)
      · exact h
      · omega
      · cases hk
    · exact .inl
theorem CI.skip {c : List Nd} {p k : Nat} {y : List Int} {v : Int} (h : CI c p y) (hk : 1 ≤ k) (hp : p + 1 + k ≤ c.length) (hl : y.length = c.length + 1) (hx : c[p]? = some (.skip k)) (hv : RP c p p v) (hm : ∀ s, RP c p p s → s ≤ v) :
    CI c (p + 1) ((y.set (p + 1) (mx (v + 1) (rdd 0 y (p + 1)))).set (p + 1 + k) (mx (v + 1) (rdd 0 (y.set (p + 1) (mx (v + 1) (rdd 0 y (p + 1)))) (p + 1 + k)))) := fun j hj => by
  have add : ∀ j', j' = p + 1 ∨ j' = p + 1 + k → Best (fun s => RP c (p + 1) j' s) (mx (v + 1) (rdd 0 y j')) := fun j' hj' => by
    refine (h j' (by omega)).add (R := fun s => ∃ t, RP c p p t ∧ s = t + 1) (by have := hv.le; omega) ⟨v, hv, rfl⟩ (fun s ⟨t, ht, e⟩ => by have := hm t ht; omega) fun s => ?_
    rw [RP_succ hx]
    constructor
    · rintro (h | ⟨t, ht, e, _⟩)
      · exact .inl h
      · exact .inr ⟨t, ht, e⟩
    · rintro (h | ⟨t, ht, e⟩)
      · exact .inl h
      · rcases hj' with rfl | rfl
        · exact .inr ⟨t, ht, e, .inl ⟨rfl, rfl⟩⟩
        · exact .inr ⟨t, ht, e, .inr ⟨k, rfl, rfl⟩⟩
  rw [rdd_set', rdd_set', rdd_set', List.length_set]
  by_cases e : p + 1 + k = j
  · subst e
    rw [if_pos ⟨rfl, by omega⟩, if_neg (by omega)]
    exact add _ (.inr rfl)
  · rw [if_neg (by omega)]
    by_cases e2 : p + 1 = j
    · subst e2
      rw [if_pos ⟨rfl, by omega⟩]
      exact add _ (.inl rfl)
    · rw [if_neg (by omega)]
      refine (h j hj).congr fun s => ?_
      rw [RP_succ hx]
      constructor
      · rintro (h | ⟨t, ht, _, ⟨_, hh⟩ | ⟨k', hk', hh⟩⟩)
        · exact h
        · omega
        · cases hk'; omega
      · exact .inl
theorem nds_at {c : List InstrS} {p : Nat} (h : p < c.length) : (nds c)[p]? = some (nd (rdd zInstrS c p)) := by
  rw [List.getElem?_map, List.getElem?_eq_getElem h, rdd_lt h]; rfl

theorem Q_W1 (w : WayS) (s : Int) (g : WayS → Option Int) : Q_z0d w s g = some ((), (((), ()), ((fun i => cond (Ty.keq WayT i w) (some (if s > (Option.getD (g w) (0 : Int)) then s else (Option.getD (g w) (0 : Int)))) (g i)), ()))) := fin rfl
theorem L_W2 (k : (WayS → Option Int) → List Int → Option Res) (c : List InstrS) (hc : c.length ≤ 32) (hok : okAt c = true) : ∀ (m p : Nat) (g : WayS → Option Int) (y : List Int), p ≤ c.length → c.length - p < m → y.length = c.length + 1 →
    CI (nds c) p y → MapI (PE (nds c) p) g → ∃ g' y', y'.length = c.length + 1 ∧ CI (nds c) c.length y' ∧ MapI (PE (nds c) c.length) g' ∧ L_z0e_2 FUEL k (c.length + 1) c (c.length : Int) m (p : Int) g y = k g' y'
  | 0, _, _, _, _, h, _, _, _ => by omega
  | m + 1, p, g, y, hp, hm, hl, hC, hM => by
    by_cases h : p < c.length
    case neg =>
      have : p = c.length := by omega
      subst this
      refine ⟨g, y, hl, hC, hM, ?_⟩
      show F_z0e_2 FUEL k (c.length + 1) c (c.length : Int) (L_z0e_2 FUEL k (c.length + 1) c (c.length : Int) m) (c.length : Int) g y = _
      unfold F_z0e_2
      exact stepF (decide_eq_false (by omega)) rfl
    have hx := nds_at h
    have hnl : (nds c).length = c.length := by simp
    obtain ⟨hma, hsk⟩ := okAt_at hok h
    have go : ∀ g1 y1, y1.length = c.length + 1 → CI (nds c) (p + 1) y1 → MapI (PE (nds c) (p + 1)) g1 → F_z0e_2 FUEL k (c.length + 1) c (c.length : Int) (L_z0e_2 FUEL k (c.length + 1) c (c.length : Int) m) (p : Int) g y = L_z0e_2 FUEL k (c.length + 1) c (c.length : Int) m ((p + 1 : Nat) : Int) g1 y1 →
        ∃ g' y', y'.length = c.length + 1 ∧ CI (nds c) c.length y' ∧ MapI (PE (nds c) c.length) g' ∧ L_z0e_2 FUEL k (c.length + 1) c (c.length : Int) (m + 1) (p : Int) g y = k g' y' := by
      intro g1 y1 a1 a2 a3 e
      obtain ⟨g', y', b1, b2, b3, b4⟩ := L_W2 k c hc hok m (p + 1) g1 y1 (by omega) (by omega) a1 a2 a3
      exact ⟨g', y', b1, b2, b3, by rw [← b4, ← e]; rfl⟩
    have hB := hC p (by rw [hnl]; omega)
    have hv1 : -1 ≤ rdd 0 y p ∧ rdd 0 y p ≤ 32 := by
      rcases hB with ⟨a, _⟩ | ⟨a, _, _⟩
      · omega
      · have := a.le; omega
    have ew : IntKind.wrap .i64 (rdd 0 y p + 1) = rdd 0 y p + 1 := i64_id (by omega)
    have open_ : ∀ X, (cond (decide ((rdd 0 y p + 1) < (1 : Int)))
        (L_z0e_2 FUEL k (c.length + 1) c (c.length : Int) m ((p + 1 : Nat) : Int) g y)
        (cond (endIs (rdd zInstrS c p))
          (L_z0e_2 FUEL k (c.length + 1) c (c.length : Int) m ((p + 1 : Nat) : Int) (fun i => cond (Ty.keq WayT i (endW (rdd zInstrS c p))) (some (if rdd 0 y p + 1 > (Option.getD (g (endW (rdd zInstrS c p))) (0 : Int)) then rdd 0 y p + 1 else (Option.getD (g (endW (rdd zInstrS c p))) (0 : Int)))) (g i)) y)
          (cond ((rdd zInstrS c p).1 == (12 : Int))
            (cond (decide ((0 : Int) ≤ IntKind.wrap .i64 (((p + 1 : Nat) : Int) + (rdd zInstrS c p).2.2.2.2.1) ∧ IntKind.wrap .i64 (((p + 1 : Nat) : Int) + (rdd zInstrS c p).2.2.2.2.1) < ((c.length + 1 : Nat) : Int)))
              (L_z0e_2 FUEL k (c.length + 1) c (c.length : Int) m ((p + 1 : Nat) : Int) g ((y.set (p + 1) (mx (rdd 0 y p + 1) (rdd 0 y (p + 1)))).set (Int.toNat (IntKind.wrap .i64 (((p + 1 : Nat) : Int) + (rdd zInstrS c p).2.2.2.2.1))) (mx (rdd 0 y p + 1) (rdd 0 (y.set (p + 1) (mx (rdd 0 y p + 1) (rdd 0 y (p + 1)))) (Int.toNat (IntKind.wrap .i64 (((p + 1 : Nat) : Int) + (rdd zInstrS c p).2.2.2.2.1)))))))
              none)
            (L_z0e_2 FUEL k (c.length + 1) c (c.length : Int) m ((p + 1 : Nat) : Int) g (y.set (p + 1) (mx (rdd 0 y p + 1) (rdd 0 y (p + 1)))))))) = X →
        F_z0e_2 FUEL k (c.length + 1) c (c.length : Int) (L_z0e_2 FUEL k (c.length + 1) c (c.length : Int) m) (p : Int) g y = X := by
      intro X hX
      rw [← hX]
      unfold F_z0e_2
      refine stepT (decide_eq_true (by omega)) ?_
      refine stepT (decide_eq_true (by omega)) ?_
      refine stepT (decide_eq_true (by omega)) ?_
      rw [i64_succ (by omega)]
      simp only [toNat_cast, ew, ok_end, q_end, cond_true]
      cases hd1 : decide (rdd 0 y p + 1 < 1) with
      | true => rfl
      | false =>
        simp only [cond_false]
        cases hd2 : endIs (rdd zInstrS c p) with
        | true => 
          simp only [cond_true]
          refine stepC (Q_W1 _ _ _) ?_
          have : q_z0d (endW (rdd zInstrS c p)) (rdd 0 y p + 1) g = _ := (congrArg RS.get (Q_W1 _ _ _)).trans (get_some _)
          rw [this]
        | false =>
          simp only [cond_false]
          refine stepT (decide_eq_true (by omega)) ?_
          refine stepT (decide_eq_true (by omega)) ?_
          cases hd3 : ((rdd zInstrS c p).1 == 12) with
          | false => rfl
          | true =>
            simp only [cond_true]
            cases hd4 : decide ((0 : Int) ≤ IntKind.wrap .i64 (((p + 1 : Nat) : Int) + (rdd zInstrS c p).2.2.2.2.1) ∧ IntKind.wrap .i64 (((p + 1 : Nat) : Int) + (rdd zInstrS c p).2.2.2.2.1) < ((c.length + 1 : Nat) : Int)) with
            | true => rfl
            | false => rfl
    rcases hB with ⟨hv, hno⟩ | ⟨hv, hv0, hmost⟩
    · refine go g y hl (hC.stay hx (.inl hno)) (mapI_stay hM hx (.inl hno)) (open_ _ ?_)
      exact stepT (decide_eq_true (by omega)) rfl
    · rcases end_cases (rdd zInstrS c p) with ⟨e1, o, n, e2, e3⟩ | ⟨e1, e2, e3⟩ | ⟨e1, e2, e3⟩
      · refine go (fun i => cond (Ty.keq WayT i (wy o n 0)) (some (if rdd 0 y p + 1 > (Option.getD (g (wy o n 0)) (0 : Int)) then rdd 0 y p + 1 else (Option.getD (g (wy o n 0)) (0 : Int)))) (g i)) y hl (hC.stay hx (.inr (by rw [e2]; rfl))) ?_ (open_ _ ?_)
        rotate_left
        · refine stepF (decide_eq_false (by omega)) ?_
          refine stepT e1 ?_
          rw [e3]
        · refine hM.add (R := fun s => ∃ t, RP (nds c) p p t ∧ s = t + 1) (by omega) ⟨_, hv, rfl⟩ (fun s ⟨t, ht, e⟩ => by have := hmost t ht; omega) fun o' n' s => ?_
          rw [PE_succ hx, e2]
          constructor
          · rintro (h | ⟨t, ht, e, es⟩)
            · exact .inl h
            · cases e; exact .inr ⟨rfl, rfl, t, ht, es⟩
          · rintro (h | ⟨rfl, rfl, t, ht, es⟩)
            · exact .inl h
            · exact .inr ⟨t, ht, rfl, es⟩
      · obtain ⟨hN1, hN2⟩ := skip_N hma hsk e2
        generalize hN : (rdd zInstrS c p).2.2.2.2.1 = N at *
        have eN : IntKind.wrap .i64 (((p + 1 : Nat) : Int) + N) = ((p + 1 + N.toNat : Nat) : Int) := by rw [i64_id (by omega)]; omega
        refine go g _ (by simp [hl]) (hC.skip (k := N.toNat) (v := rdd 0 y p) (by omega) (by rw [hnl]; omega) (by rw [hnl]; exact hl) (by rw [hx, e3]) hv hmost) (mapI_stay hM hx (.inr (by rw [e3]; rfl))) (open_ _ ?_)
        refine stepF (decide_eq_false (by omega)) ?_
        refine stepF e1 ?_
        refine stepT (beqT e2) ?_
        rw [eN, toNat_cast]
        exact stepT (decide_eq_true (by omega)) rfl
      · refine go g _ (by simp [hl]) (hC.step (v := rdd 0 y p) (by rw [hnl]; omega) (by rw [hnl]; exact hl) (by rw [hx, e3]) hv hmost) (mapI_stay hM hx (.inr (by rw [e3]; rfl))) (open_ _ ?_)
        refine stepF (decide_eq_false (by omega)) ?_
        refine stepF e1 ?_
        exact stepF (beqF e2) rfl
end N19
end Go.AMach

/- law19: instr.Ways and instr.Steps. -/
namespace Go.AMach
set_option linter.unusedVariables false
set_option linter.unusedSimpArgs false
set_option linter.unnecessarySimpa false
open Go
set_option linter.unusedVariables false
set_option linter.unusedSimpArgs false
namespace N19
set_option linter.unusedVariables false
set_option linter.unusedSimpArgs false
set_option linter.unnecessarySimpa false
open W19
theorem mapI_ways {c : List Nd} {g : WayS → Option Int} (h : MapI (W19.Ends c) g) : WaysOf g (waysB c) := by
  have hb := (waysB_ok _ c (Nat.le_refl _)).congr fun o n s => E_iff
  refine ⟨hb.srt, fun x hx => ?_, fun k v hk => ?_⟩
  · obtain ⟨v, hv⟩ := h.all _ _ _ (hb.mem x hx)
    obtain ⟨_, a, b⟩ := h.has _ _ hv
    obtain ⟨s', h1, h2⟩ := hb.most _ _ _ a
    have e := key_one hb.srt hx h2 rfl rfl
    have e2 : x.2.2.1 = s' := by rw [e]
    have := b _ (hb.mem x hx)
    have e3 : v = x.2.2.1 := by
      have : x.2.2.1 ≤ v := this
      omega
    rw [hv, e3]
  · obtain ⟨a, b, c⟩ := h.has _ _ hk
    obtain ⟨s', h1, h2⟩ := hb.most _ _ _ b
    have := c s' (hb.mem (wy k.1 k.2.1 s') h2)
    have e : s' = v := by
      have : s' ≤ v := this
      omega
    subst e
    exact ⟨a, h2⟩
theorem nodup_le' {α : Type} [DecidableEq α] : ∀ {l m : List α}, l.Nodup → (∀ x ∈ l, x ∈ m) → l.length ≤ m.length
  | [], _, _, _ => by simp
  | a :: t, m, h, hs => by
    rw [List.nodup_cons] at h
    have ha := hs a (by simp)
    have := nodup_le' (m := m.erase a) h.2 fun x hx => (List.mem_erase_of_ne (fun e => h.1 (by rw [← e]; exact hx))).2 (hs x (by simp [hx]))
    rw [List.length_erase_of_mem ha] at this
    have := List.length_pos_of_mem ha
    simp only [List.length_cons]; omega
def keyN : Nd → Int × Int
  | .fin o n => (o, n)
  | _ => (23, 0)
theorem waysB_len (c : List Nd) : 0 < (waysB c).length ∧ (waysB c).length ≤ c.length + 1 := by
  have hb := waysB_ok _ c (Nat.le_refl _)
  constructor
  · obtain ⟨o, n, s, h⟩ := E_some _ c (Nat.le_refl _)
    obtain ⟨s', _, h2⟩ := hb.most _ _ _ h
    exact List.length_pos_of_mem h2
  · have hn : ((waysB c).map fun x => (x.1, x.2.1)).Nodup := by
      rw [List.Nodup, List.pairwise_map]
      refine hb.srt.imp fun {a b} h e => ?_
      simp only [Prod.mk.injEq] at e
      unfold wlt at h; omega
    have := nodup_le' (m := (23, 0) :: c.map keyN) hn fun x hx => by
      obtain ⟨y, hy, rfl⟩ := List.mem_map.1 hx
      have hE := E_iff.1 (hb.mem y hy)
      rcases hE with ⟨i, t, _, hi, _⟩ | ⟨i, _, e1, e2, _⟩
      · refine List.mem_cons_of_mem _ (List.mem_map.2 ⟨_, List.mem_of_getElem? hi, rfl⟩)
      · show (y.1, y.2.1) ∈ _
        rw [e1, e2]; simp
    simpa using this
theorem RP_len {c : List InstrS} (hok : okAt c = true) {p j : Nat} {s : Int} (h : RP (nds c) p j s) : j ≤ c.length := by
  cases h with
  | zero => omega
  | next h hi hx hf => have := (List.getElem?_eq_some_iff.1 hx).1; simp at this; omega
  | @skip i t k h hi hx =>
    have hl := (List.getElem?_eq_some_iff.1 hx).1
    simp at hl
    rw [nds_at hl] at hx
    obtain ⟨hma, hsk⟩ := okAt_at hok hl
    rcases end_cases (rdd zInstrS c i) with ⟨e1, o, n, e2, e3⟩ | ⟨e1, e2, e3⟩ | ⟨e1, e2, e3⟩
    · rw [e2] at hx; cases hx
    · rw [e3] at hx; cases hx
      have := skip_N hma hsk e2
      omega
    · rw [e3] at hx; cases hx
noncomputable def waysL (b : BlockS) : List WayS := cond (mayBlk b) (waysB (nds b.2.1)) []
theorem waysL_len (b : BlockS) (h : b.2.1.length ≤ 300) : (waysL b).length ≤ 301 := by
  unfold waysL
  cases mayBlk b with
  | false => simp
  | true => have := (waysB_len (nds b.2.1)).2; simp at this; simp; omega
theorem Q_end_ {g : WayS → Option Int} {c : List Nd} (h : MapI (W19.Ends c) g) (hc : c.length ≤ 300) : Q_z00 g = some (((waysB c).length, ()), ((), ((), ((waysB c), ())))) := by
  unfold Q_z00
  rw [tailV_eq (mapI_ways h)]
  obtain ⟨h1, h2⟩ := waysB_len c
  generalize waysB c = l at *
  cases l with
  | nil => simp at h1
  | cons x l =>
    simp only
    rw [decide_eq_true (show (x :: l).length ≤ 1000 by omega)]; rfl
theorem blk_parts {b : BlockS} (h : mayBlk b = true) : idV b.1 = true ∧ b.2.1.length ≤ 32 ∧ okAt b.2.1 = true := by
  unfold mayBlk at h
  simp only [Bool.and_eq_true, decide_eq_true_eq] at h
  exact h
theorem Q_Ways (b : BlockS) : Q_z0e b = some (((waysL b).length, ()), (waysL b, ())) := by
  refine fin ?_
  unfold M_z0e waysL
  simp only [ok_MayBlock, q_MayBlock, cond_true]
  cases hm : mayBlk b with
  | false => rfl
  | true =>
    obtain ⟨_, hl, hok⟩ := blk_parts hm
    simp only [Bool.not_true, cond_false, cond_true]
    generalize hc : b.2.1 = c at *
    have e1 : Int.toNat (IntKind.wrap .i64 (((c.length : Nat) : Int) + (1 : Int))) = c.length + 1 := by rw [i64_id (by omega)]; omega
    have e2 : IntKind.wrap .i64 (((c.length : Nat) : Int) + (1 : Int)) = ((c.length + 1 : Nat) : Int) := by rw [i64_id (by omega)]; omega
    have e3 : Int.toNat (((c.length + 1 : Nat) : Int)) = c.length + 1 := rfl
    simp only [e2, e3]
    refine stepT (decide_eq_true (by omega)) ?_
    refine stepT (decide_eq_true (by omega)) ?_
    have e4 : ((Int.toNat (((c.length + 1 : Nat) : Int) - Int.toNat (1 : Int)) : Nat) : Int) = ((c.length : Nat) : Int) := by
      show ((Int.toNat (((c.length + 1 : Nat) : Int) - ((1 : Nat) : Int)) : Nat) : Int) = _
      omega
    obtain ⟨y0, a1, a2, a3, a4⟩ := L_W0 (fun y3 => L_z0e_2 FUEL
      (fun y11 y12 => cond (decide ((0 : Int) ≤ (((List.length c) : Nat) : Int) ∧ (((List.length c) : Nat) : Int) < (((c.length + 1) : Nat) : Int)))
       (cond (decide ((rdd (0 : Int) y12 (Int.toNat (((List.length c) : Nat) : Int))) ≥ (0 : Int)))
       (let y13 : (Unit × ((Unit × Unit) × ((WayS → Option (Int)) × Unit))) := (q_z0d ((23 : Int), ((0 : Int), ((0 : Int), ()))) (rdd (0 : Int) y12 (Int.toNat (((List.length c) : Nat) : Int))) y11)
       cond (ok_z0d ((23 : Int), ((0 : Int), ((0 : Int), ()))) (rdd (0 : Int) y12 (Int.toNat (((List.length c) : Nat) : Int))) y11)
       (let y14 : RS ro_z00 rh_z00 := RS.get (Q_z00 y13.2.2.1)
       cond (Option.isSome (Q_z00 y13.2.2.1))
       (some (encRes ro_z0e rh_z0e ((y14.1.1, ()), (y14.2.2.2.1, ()))))
       (none))
       (none))
       (let y15 : RS ro_z00 rh_z00 := RS.get (Q_z00 y11)
       cond (Option.isSome (Q_z00 y11))
       (some (encRes ro_z0e rh_z0e ((y15.1.1, ()), (y15.2.2.2.1, ()))))
       (none)))
       (none)) (c.length + 1) c (((List.length c) : Nat) : Int) FUEL (0 : Int) (fun _ => none) y3) c.length hl FUEL 0 (List.replicate (c.length + 1) (0 : Int)) (by omega) (fuel_big (by omega)) (by simp) (by simp [rdd]) (fun j hj => by omega)
    refine Eq.trans ?_ (a4.trans ?_)
    · rfl
    have hC0 : CI (nds c) 0 y0 := fun j hj => by
      have hn : ∀ {q j s}, RP (nds c) q j s → q = 0 → j = 0 ∧ s = 0 := fun {q j s} h e => by
        cases h with
        | zero => exact ⟨rfl, rfl⟩
        | next h hi _ _ => omega
        | skip h hi _ => omega
      cases j with
      | zero => rw [a2]; exact .inr ⟨.zero, Int.le_refl _, fun s hs => by have := hn hs rfl; omega⟩
      | succ j => rw [a3 j (by simp at hj; omega)]; exact .inl ⟨rfl, fun s hs => by have := hn hs rfl; omega⟩
    have hM0 : MapI (PE (nds c) 0) (fun _ => none) := ⟨fun k v h => (by cases h), fun o n s ⟨i, t, hi, _⟩ => by omega⟩
    obtain ⟨g, y, b1, b2, b3, b4⟩ := L_W2 (fun y11 y12 => cond (decide ((0 : Int) ≤ (((List.length c) : Nat) : Int) ∧ (((List.length c) : Nat) : Int) < (((c.length + 1) : Nat) : Int)))
       (cond (decide ((rdd (0 : Int) y12 (Int.toNat (((List.length c) : Nat) : Int))) ≥ (0 : Int)))
       (let y13 : (Unit × ((Unit × Unit) × ((WayS → Option (Int)) × Unit))) := (q_z0d ((23 : Int), ((0 : Int), ((0 : Int), ()))) (rdd (0 : Int) y12 (Int.toNat (((List.length c) : Nat) : Int))) y11)
       cond (ok_z0d ((23 : Int), ((0 : Int), ((0 : Int), ()))) (rdd (0 : Int) y12 (Int.toNat (((List.length c) : Nat) : Int))) y11)
       (let y14 : RS ro_z00 rh_z00 := RS.get (Q_z00 y13.2.2.1)
       cond (Option.isSome (Q_z00 y13.2.2.1))
       (some (encRes ro_z0e rh_z0e ((y14.1.1, ()), (y14.2.2.2.1, ()))))
       (none))
       (none))
       (let y15 : RS ro_z00 rh_z00 := RS.get (Q_z00 y11)
       cond (Option.isSome (Q_z00 y11))
       (some (encRes ro_z0e rh_z0e ((y15.1.1, ()), (y15.2.2.2.1, ()))))
       (none)))
       (none)) c hl hok FUEL 0 (fun _ => none) y0 (by omega) (fuel_big (by omega)) a1 hC0 hM0
    refine b4.trans ?_
    have hcl : (nds c).length = c.length := by simp
    refine stepT (decide_eq_true (by omega)) ?_
    rw [toNat_cast]
    have hB := b2 c.length (by omega)
    rcases hB with ⟨hv, hno⟩ | ⟨hv, hv0, hmost⟩
    · refine stepF (decide_eq_false (by omega)) ?_
      have hM : MapI (W19.Ends (nds c)) g := b3.congr fun o n s => by
        rw [ends_PE, hcl]
        constructor
        · rintro (h | ⟨j, hj, _, _, h⟩)
          · exact h
          · have := RP_len hok h
            have e : j = c.length := by omega
            subst e
            exact absurd h (hno s)
        · exact .inl
      refine stepC (Q_end_ hM (by omega)) ?_
      have := (congrArg RS.get (Q_end_ hM (by omega))).trans (get_some _)
      rw [this]
    · refine stepT (decide_eq_true (by omega)) ?_
      refine stepC (Q_W1 _ _ _) ?_
      have e := (congrArg RS.get (Q_W1 (wy 23 0 0) (rdd (0 : Int) y c.length) g)).trans (get_some _)
      have hM : MapI (W19.Ends (nds c)) (fun i => cond (Ty.keq WayT i (wy 23 0 0)) (some (if rdd (0 : Int) y c.length > (Option.getD (g (wy 23 0 0)) (0 : Int)) then rdd (0 : Int) y c.length else (Option.getD (g (wy 23 0 0)) (0 : Int)))) (g i)) := b3.add (R := fun s => RP (nds c) c.length c.length s) hv0 hv hmost fun o n s => by
        rw [ends_PE, hcl]
        constructor
        · rintro (h | ⟨j, hj, a, b, h⟩)
          · exact .inl h
          · have : j = c.length := by have := RP_len hok h; omega
            subst this
            exact .inr ⟨a, b, h⟩
        · rintro (h | ⟨a, b, h⟩)
          · exact .inl h
          · exact .inr ⟨_, Nat.le_refl _, a, b, h⟩
      have e' : (q_z0d ((23 : Int), ((0 : Int), ((0 : Int), ()))) (rdd (0 : Int) y c.length) g).2.2.1 = _ := congrArg (fun r : RS ro_z0d rh_z0d => r.2.2.1) e
      simp only [e']
      refine stepC (Q_end_ hM (by omega)) ?_
      have := (congrArg RS.get (Q_end_ hM (by omega))).trans (get_some _)
      rw [this]
end N19
end Go.AMach

/- law19: instr.Steps; the examples; InstrForms. -/
namespace Go.AMach
set_option linter.unusedVariables false
set_option linter.unusedSimpArgs false
set_option linter.unnecessarySimpa false
open Go
set_option linter.unusedVariables false
set_option linter.unusedSimpArgs false
namespace N19
set_option linter.unusedVariables false
set_option linter.unusedSimpArgs false
set_option linter.unnecessarySimpa false
open W19
theorem waysL_len' (b : BlockS) : (waysL b).length ≤ 33 := by
  unfold waysL
  cases hm : mayBlk b with
  | false => simp
  | true =>
    have h1 := (waysB_len (nds b.2.1)).2
    have h2 := (blk_parts hm).2.1
    simp at h1; simp; omega
theorem ok_Ways (b : BlockS) : ok_z0e b = true := by unfold ok_z0e; rw [Q_Ways]; rfl
theorem q_Ways (b : BlockS) : q_z0e b = (((waysL b).length, ()), (waysL b, ())) := by unfold q_z0e; rw [Q_Ways]; rfl
def stepsL (l : List WayS) : Int := l.foldl (fun n x => mx x.2.2.1 n) 0
theorem L_Steps (k : Int → Option Res) (l : List WayS) (hl : l.length ≤ 100000) : ∀ (m i : Nat) (n : Int), i ≤ l.length → l.length - i < m →
    L_z0g_0 FUEL k l.length (l.length : Int) l m n (i : Int) = k ((l.drop i).foldl (fun n x => mx x.2.2.1 n) n)
  | 0, _, _, _, h => by omega
  | m + 1, i, n, hi, hm => by
    show F_z0g_0 FUEL k l.length (l.length : Int) l (L_z0g_0 FUEL k l.length (l.length : Int) l m) n (i : Int) = _
    unfold F_z0g_0
    by_cases h : i < l.length
    · refine stepT (decide_eq_true (by omega)) ?_
      refine stepT (decide_eq_true (by omega)) ?_
      simp only [toNat_cast]
      rw [i64_succ (by omega), L_Steps k l hl m (i + 1) _ (by omega) (by omega), drop_rdd zWayS h]
      rfl
    · refine stepF (decide_eq_false (by omega)) ?_
      rw [List.drop_of_length_le (by omega)]; rfl
theorem Q_Steps (b : BlockS) : Q_z0g b = some ((stepsL (waysL b), ()), ()) := by
  refine fin ?_
  unfold M_z0g
  simp only [ok_Ways, q_Ways, cond_true]
  have := waysL_len' b
  refine (L_Steps _ (waysL b) (by omega) FUEL 0 0 (by omega) (fuel_big (by omega))).trans ?_
  rw [List.drop_zero]; rfl
theorem ok_Steps (b : BlockS) : ok_z0g b = true := by unfold ok_z0g; rw [Q_Steps]; rfl
theorem q_Steps (b : BlockS) : q_z0g b = ((stepsL (waysL b), ()), ()) := by unfold q_z0g; rw [Q_Steps]; rfl
theorem ok_num (n : Int) : ok_z02 n = true := rfl
theorem q_num (n : Int) : q_z02 n = (((1, (n, ())), ()), ()) := rfl
theorem ok_field (n : Int) : ok_z0i n = true := rfl
theorem q_field (n : Int) : q_z0i n = (((2, (n, ())), ()), ()) := rfl
theorem waysC (l : List WayS) (h : l.length ≤ 100000) : ok_z0f l l = true ∧ q_z0f l l = ((true, ()), ()) :=
  ⟨by unfold ok_z0f; rw [Q_ways l h]; rfl, by unfold q_z0f; rw [Q_ways l h]; rfl⟩
theorem namesC (l : List NameS) (h : l.length ≤ 100000) : ok_z09 l l = true ∧ q_z09 l l = ((true, ()), ()) :=
  ⟨by unfold ok_z09; rw [Q_namesE l h]; rfl, by unfold q_z09; rw [Q_namesE l h]; rfl⟩
theorem q_rNames (i : InstrS) : ok_z0o i = true ∧ q_z0o i = (((namesL i).length, ()), (namesL i, ())) := by
  obtain ⟨l, h, rfl⟩ := Q_rNames i
  exact ⟨by unfold ok_z0o; rw [h]; rfl, by unfold q_z0o; rw [h]; rfl⟩

theorem Q_awake : Q_z0h = some ((true, ()), ()) := by
  refine fin ?_
  unfold M_z0h
  simp only [ok_num, q_num, ok_May, q_May, (q_Names _).1, (q_Names _).2, ok_MayBlock, q_MayBlock, ok_Ways, q_Ways, ok_Steps, q_Steps, cond_true, cutL_all]
  have e1 : mayB (1, 3, (1, 5, ()), (0, 0, ()), 0, ()) = true := by rfl
  have e2 : namesL (1, 3, (1, 5, ()), (0, 0, ()), 0, ()) = [(1, 3, ())] := by rfl
  have e3 : mayB (1, 3, (1, 5, ()), (0, 0, ()), 1, ()) = false := by rfl
  have e4 : mayBlk (1, [(12, 1, (4, 0, ()), (1, 2, ()), 2, ()), (1, 3, (1, 5, ()), (0, 0, ()), 0, ())], ()) = false := by rfl
  have e5 : waysL (1, [], ()) = [(23, 0, 0, ())] := by
    unfold waysL
    rw [show mayBlk (1, [], ()) = true by rfl]
    show waysB [] = _
    rw [waysB]
  have e6 : waysL (1, [(12, 1, (4, 0, ()), (1, 2, ()), 1, ()), (13, 0, (0, 0, ()), (0, 0, ()), 7, ()), (23, 0, (0, 0, ()), (0, 0, ()), 0, ())], ()) = [(13, 7, 2, ()), (23, 0, 2, ())] := by
    unfold waysL
    rw [show mayBlk (1, [(12, 1, (4, 0, ()), (1, 2, ()), 1, ()), (13, 0, (0, 0, ()), (0, 0, ()), 7, ()), (23, 0, (0, 0, ()), (0, 0, ()), 0, ())], ()) = true by rfl]
    show waysB [.skip 1, .fin 13 7, .fin 23 0] = _
    rw [waysB, waysB]
    show (bothL _ (waysB [.fin 23 0])).map up = _
    rw [waysB]
    rfl
  simp only [e1, e2, e3, e4, e5, e6, (namesC _ (show ([(1, 3, ())] : List NameS).length ≤ 100000 by decide)).1, (namesC _ (show ([(1, 3, ())] : List NameS).length ≤ 100000 by decide)).2, (waysC _ (show ([(13, 7, 2, ()), (23, 0, 2, ())] : List WayS).length ≤ 100000 by decide)).1, (waysC _ (show ([(13, 7, 2, ()), (23, 0, 2, ())] : List WayS).length ≤ 100000 by decide)).2, (waysC _ (show ([(23, 0, 0, ())] : List WayS).length ≤ 100000 by decide)).1, (waysC _ (show ([(23, 0, 0, ())] : List WayS).length ≤ 100000 by decide)).2, cond_true, Bool.not_false]
  rfl
theorem ok_awake : ok_z0h = true := by unfold ok_z0h; rw [Q_awake]; rfl
theorem q_awake : q_z0h = ((true, ()), ()) := by unfold q_z0h; rw [Q_awake]; rfl
end N19
end Go.AMach

/- law19: InstrAhead. -/
namespace Go.AMach
set_option linter.unusedVariables false
set_option linter.unusedSimpArgs false
set_option linter.unnecessarySimpa false
open Go
set_option linter.unusedVariables false
set_option linter.unusedSimpArgs false
namespace N19
set_option linter.unusedVariables false
set_option linter.unusedSimpArgs false
set_option linter.unnecessarySimpa false
open W19
theorem Q_ends (i : InstrS) : Q_z0w i = some (((endW i).1, ((endW i).2.1, (endIs i, ()))), ()) := by
  refine fin ?_
  unfold M_z0w endW endIs
  simp only [int_beq, cond_dec]
  by_cases h1 : i.1 = 13
  · simp only [if_pos h1]
  by_cases h2 : i.1 = 14
  · simp only [if_neg h1, if_pos h2]
  by_cases h3 : i.1 = 23
  · simp only [if_neg h1, if_neg h2, if_pos h3]
  by_cases h4 : i.1 = 22
  · simp only [if_neg h1, if_neg h2, if_neg h3, if_pos h4]
  simp only [if_neg h1, if_neg h2, if_neg h3, if_neg h4]
theorem ok_ends (a : InstrS) : ok_z0w a = true := by unfold ok_z0w; rw [Q_ends]; rfl
theorem q_ends (a : InstrS) : q_z0w a = (((endW a).1, ((endW a).2.1, (endIs a, ()))), ()) := by unfold q_z0w; rw [Q_ends]; rfl

theorem steps_up (l : List WayS) : ∀ n, (l.map up).foldl (fun n x => mx x.2.2.1 n) (n + 1) = l.foldl (fun n x => mx x.2.2.1 n) n + 1 := by
  induction l with
  | nil => intro n; rfl
  | cons x l ih =>
    intro n
    show (l.map up).foldl _ (mx (x.2.2.1 + 1) (n + 1)) = l.foldl _ (mx x.2.2.1 n) + 1
    rw [← ih]
    congr 1
    unfold mx; split <;> split <;> omega
theorem stepsL_up (l : List WayS) (h : l ≠ []) (h0 : ∀ x ∈ l, 0 ≤ x.2.2.1) : stepsL (l.map up) = stepsL l + 1 := by
  cases l with
  | nil => exact absurd rfl h
  | cons x l =>
    have hx := h0 x (by simp)
    show (l.map up).foldl _ (mx (x.2.2.1 + 1) 0) = l.foldl _ (mx x.2.2.1 0) + 1
    rw [← steps_up]
    congr 1
    unfold mx; split <;> split <;> omega
theorem stepsL_le {M : Int} (l : List WayS) (h0 : 0 ≤ M) (h : ∀ x ∈ l, x.2.2.1 ≤ M) : 0 ≤ stepsL l ∧ stepsL l ≤ M := by
  have : ∀ (l : List WayS) (n : Int), 0 ≤ n → n ≤ M → (∀ x ∈ l, x.2.2.1 ≤ M) → 0 ≤ l.foldl (fun n x => mx x.2.2.1 n) n ∧ l.foldl (fun n x => mx x.2.2.1 n) n ≤ M := by
    intro l
    induction l with
    | nil => intro n h1 h2 _; exact ⟨h1, h2⟩
    | cons x r ih =>
      intro n h1 h2 hh
      have hx := hh x (by simp)
      refine ih _ ?_ ?_ fun a ha => hh a (List.mem_cons_of_mem _ ha)
      · show 0 ≤ mx x.2.2.1 n
        unfold mx; split <;> omega
      · show mx x.2.2.1 n ≤ M
        unfold mx; split <;> omega
  exact this l 0 (Int.le_refl _) h0 h
theorem waysB_steps (c : List Nd) : ∀ x ∈ waysB c, 0 ≤ x.2.2.1 ∧ x.2.2.1 ≤ (c.length : Int) := fun x hx => by
  have h := (waysB_ok _ c (Nat.le_refl _)).mem x hx
  exact ⟨E_pos h, E_le h⟩
theorem waysL_steps (b : BlockS) : ∀ x ∈ waysL b, 0 ≤ x.2.2.1 ∧ x.2.2.1 ≤ 32 := fun x hx => by
  unfold waysL at hx
  cases hm : mayBlk b with
  | false => rw [hm] at hx; cases hx
  | true =>
    rw [hm] at hx
    have h1 := waysB_steps _ x hx
    have h2 := (blk_parts hm).2.1
    simp at h1
    omega
theorem L_Ahead (kr : Bool → Option Res) (kt : Unit → Option Res) (l : List WayS) (hl : l.length ≤ 100000) (hs : ∀ x ∈ l, 0 ≤ x.2.2.1 ∧ x.2.2.1 ≤ 32) : ∀ (m i : Nat), i ≤ l.length → l.length - i < m →
    L_z10_0 FUEL kr kt l.length l.length l (l.map up) m (i : Int) = kt ()
  | 0, _, _, h => by omega
  | m + 1, i, hi, hm => by
    show F_z10_0 FUEL kr kt l.length l.length l (l.map up) (L_z10_0 FUEL kr kt l.length l.length l (l.map up) m) (i : Int) = _
    unfold F_z10_0
    by_cases h : i < l.length
    · have e : rdd zWayS (l.map up) i = up (rdd zWayS l i) := by rw [rdd_lt (by simpa using h), rdd_lt h]; simp
      have hx := hs _ (rdd_mem (d := zWayS) h)
      simp only [toNat_cast, e]
      refine stepT (decide_eq_true (by omega)) ?_
      refine stepT (decide_eq_true (by omega)) ?_
      refine stepT (decide_eq_true (by omega)) ?_
      refine stepF (bneF rfl) ?_
      refine stepT (decide_eq_true (by omega)) ?_
      refine stepT (decide_eq_true (by omega)) ?_
      refine stepF (bneF rfl) ?_
      refine stepT (decide_eq_true (by omega)) ?_
      refine stepT (decide_eq_true (by omega)) ?_
      refine stepF (bneF ?_) ?_
      · rw [i64_id (by omega)]; rfl
      rw [i64_succ (by omega)]
      exact L_Ahead kr kt l hl hs m (i + 1) (by omega) (by omega)
    · exact stepF (decide_eq_false (by omega)) rfl
theorem ahead_tail (b more : BlockS) (i : InstrS) (he : endIs i = false) (h12 : i.1 ≠ 12) (hi : mayB i = true) (hb : mayBlk b = true) (hmore : more = (b.1, (i :: b.2.1, ()))) (z : Int) (hz : z = (b.2.1.length : Int) + 1) :
    cond (decide (z > (32 : Int)))
     (cond (!mayBlk more) (some (encRes ro_z10 rh_z10 ((((((waysL more).length : Nat) : Int) == (0 : Int)), ()), ()))) (some (encRes ro_z10 rh_z10 ((false, ()), ()))))
     (cond (!mayBlk more) (some (encRes ro_z10 rh_z10 ((false, ()), ())))
      (cond ((((waysL b).length : Nat) : Int) != (((waysL more).length : Nat) : Int)) (some (encRes ro_z10 rh_z10 ((false, ()), ())))
       (cond (stepsL (waysL more) != (IntKind.wrap .i64 (stepsL (waysL b) + (1 : Int)))) (some (encRes ro_z10 rh_z10 ((false, ()), ())))
        (L_z10_0 FUEL (fun y13 => some (encRes ro_z10 rh_z10 ((y13, ()), ()))) (fun _ => some (encRes ro_z10 rh_z10 ((true, ()), ()))) (waysL b).length (waysL more).length (waysL b) (waysL more) FUEL (0 : Int)))))
    = some (encRes ro_z10 rh_z10 ((true, ()), ())) := by
  subst hmore hz
  obtain ⟨h1, h2, h3⟩ := blk_parts hb
  have eok : okAt (i :: b.2.1) = true := by
    show (mayB i && (skOk i b.2.1.length && okAt b.2.1)) = true
    unfold skOk
    rw [hi, h3, beqF h12]; rfl
  by_cases hz : (b.2.1.length : Int) + 1 > 32
  · have em : mayBlk (b.1, (i :: b.2.1, ())) = false := by
      unfold mayBlk
      simp only [List.length_cons]
      rw [decide_eq_false (by omega), Bool.false_and, Bool.and_false]
    have ew : waysL (b.1, (i :: b.2.1, ())) = [] := by unfold waysL; rw [em]; rfl
    rw [ew, em]
    exact stepT (decide_eq_true hz) rfl
  · have em : mayBlk (b.1, (i :: b.2.1, ())) = true := by
      unfold mayBlk
      simp only [List.length_cons]
      rw [h1, decide_eq_true (by omega), eok]; rfl
    have hnd : nd i = .step := by
      rcases end_cases i with ⟨e1, _⟩ | ⟨_, e1, _⟩ | ⟨_, _, e⟩
      · rw [he] at e1; cases e1
      · exact absurd e1 h12
      · exact e
    have ewb : waysL b = waysB (nds b.2.1) := by unfold waysL; rw [hb]; rfl
    have ew : waysL (b.1, (i :: b.2.1, ())) = (waysL b).map up := by
      rw [ewb]
      unfold waysL
      rw [em]
      show waysB (nd i :: nds b.2.1) = _
      rw [hnd, waysB]
    have hne : waysL b ≠ [] := by
      rw [ewb]
      have := (waysB_len (nds b.2.1)).1
      intro e; rw [e] at this; simp at this
    have hst := waysL_steps b
    have hsl := stepsL_le (waysL b) (M := 32) (by omega) fun x hx => (hst x hx).2
    rw [ew, em, List.length_map]
    refine stepF (decide_eq_false hz) ?_
    refine stepF rfl ?_
    refine stepF (bneF rfl) ?_
    refine stepF (bneF ?_) ?_
    · rw [stepsL_up _ hne fun x hx => (hst x hx).1, i64_id (by omega)]
    have := waysL_len' b
    exact L_Ahead _ _ (waysL b) (by omega) hst FUEL 0 (by omega) (fuel_big (by omega))
theorem mkL_cons (i : InstrS) (c : List InstrS) : mkL (1 + (List.length c)) (fun k => (if k < 1 then i else (rdd zInstrS c (k - 1)))) = i :: c := by
  apply List.ext_getElem?
  intro k
  by_cases hk : k < 1 + c.length
  · rw [mkL_get hk]
    cases k with
    | zero => rfl
    | succ k =>
      rw [if_neg (by omega), List.getElem?_cons_succ, Nat.add_sub_cancel, rdd_lt (by omega), List.getElem?_eq_getElem (by omega)]
  · rw [List.getElem?_eq_none (by rw [mkL_length]; omega), List.getElem?_eq_none (by simp; omega)]
end N19
open N19 W19
theorem Pure.InstrAhead (b : BlockS) (hb : BlockT.good b) (i : InstrS) (hi : InstrT.good i) : Q_z10 b i = some ((true, ()), ()) := by
  refine fin ?_
  unfold M_z10
  simp only [ok_awake, q_awake, ok_ends, q_ends, ok_May, q_May, ok_MayBlock, q_MayBlock, ok_Ways, q_Ways, ok_Steps, q_Steps, cond_true, Bool.not_true, cond_false, mkL_cons]
  by_cases hl : (b.2.1.length : Int) > 300
  · exact stepT (decide_eq_true hl) rfl
  refine stepF (decide_eq_false hl) ?_
  cases he : endIs i with
  | true => rfl
  | false =>
  refine stepF rfl ?_
  by_cases h12 : i.1 = 12
  · exact stepT (beqT h12) rfl
  refine stepF (beqF h12) ?_
  cases hm : mayB i with
  | false => rfl
  | true =>
  refine stepF rfl ?_
  cases hk : mayBlk b with
  | false => rfl
  | true =>
  refine stepF rfl ?_
  by_cases h0 : b.2.1.length = 0
  · refine stepT (by rw [h0]; rfl) ?_
    have e : b.2.1 = [] := List.length_eq_zero_iff.1 h0
    exact ahead_tail b (b.1, ([i], ())) i he h12 hm hk (by rw [e]) _ (by rw [h0]; rfl)
  · refine stepF (by simpa using h0) ?_
    have := (blk_parts hk).2.1
    refine stepT (decide_eq_true (by omega)) ?_
    exact ahead_tail b _ i he h12 hm hk rfl _ (by omega)
end Go.AMach
