/- law19: where runs end, plainly. -/
import Derived.Test.YtbkbifpjckippaaWa
namespace Go.AMach
set_option linter.unusedVariables false
set_option linter.unusedSimpArgs false
set_option linter.unnecessarySimpa false
set_option linter.unusedVariables false
set_option linter.unusedSimpArgs false
namespace W19
set_option linter.unusedVariables false
set_option linter.unusedSimpArgs false
set_option linter.unnecessarySimpa false

/-- What an instruction is to a run: an end, a step, or one that may skip. -/
inductive Nd where
  | fin (o n : Int)
  | step
  | skip (k : Nat)

def Nd.isFin : Nd → Bool
  | .fin _ _ => true
  | _ => false

/-- Ends of runs: which, by how many steps. -/
abbrev En := Int → Int → Int → Prop

/-- Where runs end. -/
inductive E : List Nd → Int → Int → Int → Prop where
  | nil : E [] 23 0 0
  | fin (o n : Int) (r : List Nd) : E (.fin o n :: r) o n 1
  | step {r o n s} (h : E r o n s) : E (.step :: r) o n (s + 1)
  | go {r o n s} (k : Nat) (h : E r o n s) : E (.skip k :: r) o n (s + 1)
  | over {r o n s} (k : Nat) (h : E (r.drop k) o n s) : E (.skip k :: r) o n (s + 1)

theorem E_nil {o n s} : E [] o n s ↔ o = 23 ∧ n = 0 ∧ s = 0 := ⟨fun h => by cases h; exact ⟨rfl, rfl, rfl⟩, fun ⟨a, b, c⟩ => by subst a; subst b; subst c; exact .nil⟩
theorem E_fin {o' n' r o n s} : E (.fin o' n' :: r) o n s ↔ o = o' ∧ n = n' ∧ s = 1 := ⟨fun h => by cases h; exact ⟨rfl, rfl, rfl⟩, fun ⟨a, b, c⟩ => by subst a; subst b; subst c; exact .fin _ _ _⟩
theorem E_step {r o n s} : E (.step :: r) o n s ↔ E r o n (s - 1) := ⟨fun h => by cases h with | step h => rw [Int.add_sub_cancel]; exact h, fun h => by have := E.step h; rwa [Int.sub_add_cancel] at this⟩
theorem E_skip {k r o n s} : E (.skip k :: r) o n s ↔ E r o n (s - 1) ∨ E (r.drop k) o n (s - 1) := ⟨fun h => by
    cases h with
    | go k h => left; rw [Int.add_sub_cancel]; exact h
    | over k h => right; rw [Int.add_sub_cancel]; exact h, fun h => by
    rcases h with h | h
    · have := E.go k h; rwa [Int.sub_add_cancel] at this
    · have := E.over k h; rwa [Int.sub_add_cancel] at this⟩
theorem E_pos {c o n s} (h : E c o n s) : 0 ≤ s := by
  induction h <;> omega
theorem E_le {c o n s} (h : E c o n s) : s ≤ c.length := by
  induction h with
  | nil => simp
  | fin => simp; omega
  | step h ih => simp only [List.length_cons, Int.natCast_add, Int.natCast_one]; omega
  | go k h ih => simp only [List.length_cons, Int.natCast_add, Int.natCast_one]; omega
  | @over r o n s k h ih =>
    have : (r.drop k).length ≤ r.length := by simp
    simp only [List.length_cons, Int.natCast_add, Int.natCast_one]; omega
theorem E_some : ∀ (m : Nat) (c : List Nd), c.length ≤ m → ∃ o n s, E c o n s
  | _, [], _ => ⟨_, _, _, .nil⟩
  | m + 1, .fin o n :: r, _ => ⟨_, _, _, .fin o n r⟩
  | m + 1, .step :: r, h => by
    obtain ⟨o, n, s, e⟩ := E_some m r (by simp at h; omega)
    exact ⟨_, _, _, .step e⟩
  | m + 1, .skip k :: r, h => by
    obtain ⟨o, n, s, e⟩ := E_some m r (by simp at h; omega)
    exact ⟨_, _, _, .go k e⟩

/-! ### Lists of ways -/
/-- A list tells some ends: sorted, of each the most steps. -/
structure WaysP (P : En) (l : List Wy) : Prop where
  srt : l.Pairwise wlt
  mem : ∀ x ∈ l, P x.1 x.2.1 x.2.2.1
  most : ∀ o n s, P o n s → ∃ s', s ≤ s' ∧ wy o n s' ∈ l

theorem key_one : ∀ {l : List Wy}, l.Pairwise wlt → ∀ {x y : Wy}, x ∈ l → y ∈ l → x.1 = y.1 → x.2.1 = y.2.1 → x = y
  | [], _, x, y, hx, _, _, _ => absurd hx (by simp)
  | z :: l, h, x, y, hx, hy, e1, e2 => by
    obtain ⟨h1, h2⟩ := List.pairwise_cons.1 h
    rcases List.mem_cons.1 hx with ex | hx' <;> rcases List.mem_cons.1 hy with ey | hy'
    · rw [ex, ey]
    · have := h1 y hy'; rw [← ex] at this; unfold wlt at this; omega
    · have := h1 x hx'; rw [← ey] at this; unfold wlt at this; omega
    · exact key_one h2 hx' hy' e1 e2

theorem WaysP.one {P : En} {l m : List Wy} (h : WaysP P l) (k : WaysP P m) : l = m := by
  have sub : ∀ {l m : List Wy}, WaysP P l → WaysP P m → ∀ x, x ∈ l → x ∈ m := fun {l m} h k x hx => by
    obtain ⟨s1, a1, b1⟩ := k.most _ _ _ (h.mem x hx)
    obtain ⟨s2, a2, b2⟩ := h.most _ _ _ (k.mem _ b1)
    have e := key_one h.srt hx b2 rfl rfl
    have : x.2.2.1 = s2 := by rw [e]
    have a2 : s1 ≤ s2 := a2
    have e1 : x = wy x.1 x.2.1 s1 := by
      obtain ⟨x1, x2, x3, x4⟩ := x
      simp only at *
      have : x3 = s1 := by omega
      subst this; rfl
    rw [e1]; exact b1
  exact sorted_one h.srt k.srt fun x => ⟨sub h k x, sub k h x⟩
theorem WaysP.congr {P Q : En} {l : List Wy} (h : WaysP P l) (e : ∀ o n s, P o n s ↔ Q o n s) : WaysP Q l :=
  ⟨h.srt, fun x hx => (e _ _ _).1 (h.mem x hx), fun o n s hq => h.most o n s ((e _ _ _).2 hq)⟩

/-- Ways, and one more. -/
def withL (w : Wy) : List Wy → List Wy
  | [] => [w]
  | x :: l => if x.1 = w.1 ∧ x.2.1 = w.2.1 then wy x.1 x.2.1 (max x.2.2.1 w.2.2.1) :: l else if wlt w x then w :: x :: l else x :: withL w l

theorem withL_mem {w y : Wy} : ∀ {l : List Wy}, y ∈ withL w l → y ∈ l ∨ y = w ∨ (y.1 = w.1 ∧ y.2.1 = w.2.1)
  | [], h => by simp [withL] at h; exact .inr (.inl h)
  | x :: l, h => by
    unfold withL at h
    split at h
    · rename_i e
      rcases List.mem_cons.1 h with rfl | h
      · exact .inr (.inr e)
      · exact .inl (by simp [h])
    · split at h
      · rcases List.mem_cons.1 h with rfl | h
        · exact .inr (.inl rfl)
        · exact .inl h
      · rcases List.mem_cons.1 h with rfl | h
        · exact .inl (by simp)
        · rcases withL_mem h with h | h
          · exact .inl (by simp [h])
          · exact .inr h
theorem withL_lt {w z : Wy} {l : List Wy} (hz : wlt z w) (hl : ∀ y ∈ l, wlt z y) : ∀ y ∈ withL w l, wlt z y := fun y hy => by
  rcases withL_mem hy with h | h | h
  · exact hl y h
  · subst h; exact hz
  · unfold wlt at *; omega

theorem withL_ways {P : En} {w : Wy} : ∀ {l : List Wy}, WaysP P l → WaysP (fun o n s => P o n s ∨ wy o n s = w) (withL w l) := by
  have key : ∀ {l : List Wy}, l.Pairwise wlt → (withL w l).Pairwise wlt ∧ (∀ x ∈ withL w l, x ∈ l ∨ x = w) ∧ (∀ x, x ∈ l → ∃ s, x.2.2.1 ≤ s ∧ wy x.1 x.2.1 s ∈ withL w l) ∧ ∃ s, w.2.2.1 ≤ s ∧ wy w.1 w.2.1 s ∈ withL w l := by
    intro l
    induction l with
    | nil => intro _; exact ⟨by simp [withL], by simp [withL], by simp, w.2.2.1, Int.le_refl _, by simp [withL]⟩
    | cons x l ih =>
      intro h
      obtain ⟨h1, h2⟩ := List.pairwise_cons.1 h
      unfold withL
      split
      · rename_i e
        refine ⟨List.pairwise_cons.2 ⟨fun y hy => h1 y hy, h2⟩, fun y hy => ?_, fun y hy => ?_, max x.2.2.1 w.2.2.1, by omega, by rw [← e.1, ← e.2]; simp⟩
        · rcases List.mem_cons.1 hy with rfl | hy
          · obtain ⟨x1, x2, x3, x4⟩ := x
            obtain ⟨w1, w2, w3, w4⟩ := w
            simp only at e ⊢
            obtain ⟨rfl, rfl⟩ := e
            rcases Int.le_total x3 w3 with hh | hh
            · right; rw [Int.max_eq_right hh]
            · left; rw [Int.max_eq_left hh]; simp
          · left; simp [hy]
        · rcases List.mem_cons.1 hy with rfl | hy
          · exact ⟨max y.2.2.1 w.2.2.1, by omega, by simp⟩
          · exact ⟨y.2.2.1, Int.le_refl _, by simp [hy]⟩
      · rename_i e
        split
        · rename_i hw
          refine ⟨List.pairwise_cons.2 ⟨fun y hy => ?_, h⟩, fun y hy => ?_, fun y hy => ⟨y.2.2.1, Int.le_refl _, List.mem_cons_of_mem _ hy⟩, w.2.2.1, Int.le_refl _, by simp⟩
          · rcases List.mem_cons.1 hy with rfl | hy
            · exact hw
            · exact wlt_trans hw (h1 y hy)
          · rcases List.mem_cons.1 hy with rfl | hy
            · exact .inr rfl
            · exact .inl hy
        · rename_i hw
          have hxw : wlt x w := by
            rcases wlt_total e with e | e
            · exact e
            · exact absurd e hw
          obtain ⟨i1, i2, i3, s, i4, i5⟩ := ih h2
          refine ⟨List.pairwise_cons.2 ⟨withL_lt hxw h1, i1⟩, fun y hy => ?_, fun y hy => ?_, s, i4, List.mem_cons_of_mem _ i5⟩
          · rcases List.mem_cons.1 hy with rfl | hy
            · exact .inl (by simp)
            · rcases i2 y hy with h | h
              · exact .inl (by simp [h])
              · exact .inr h
          · rcases List.mem_cons.1 hy with rfl | hy
            · exact ⟨y.2.2.1, Int.le_refl _, by simp⟩
            · obtain ⟨s, a, b⟩ := i3 y hy
              exact ⟨s, a, List.mem_cons_of_mem _ b⟩
  intro l h
  obtain ⟨k1, k2, k3, k4⟩ := key h.srt
  refine ⟨k1, fun x hx => ?_, fun o n s hp => ?_⟩
  · rcases k2 x hx with e | e
    · exact .inl (h.mem x e)
    · exact .inr e
  · rcases hp with hp | hp
    · obtain ⟨s1, a, b⟩ := h.most o n s hp
      obtain ⟨s2, a2, b2⟩ := k3 _ b
      have a2 : s1 ≤ s2 := a2
      exact ⟨s2, by omega, b2⟩
    · subst hp
      exact k4

def bothL : List Wy → List Wy → List Wy
  | a, [] => a
  | a, w :: b => bothL (withL w a) b
theorem bothL_ways {P : En} : ∀ {a b : List Wy}, WaysP P a → WaysP (fun o n s => P o n s ∨ wy o n s ∈ b) (bothL a b)
  | a, [], h => h.congr fun o n s => by simp
  | a, w :: b, h => (bothL_ways (b := b) (withL_ways (w := w) h)).congr fun o n s => by
    simp only [List.mem_cons]
    constructor
    · rintro ((h | h) | h) <;> simp [h]
    · rintro (h | h | h) <;> simp [h]
theorem bothL_two {P Q : En} {a b : List Wy} (h : WaysP P a) (k : WaysP Q b) : WaysP (fun o n s => P o n s ∨ Q o n s) (bothL a b) := by
  have hb := bothL_ways (b := b) h
  refine ⟨hb.srt, fun x hx => ?_, fun o n s hp => ?_⟩
  · rcases hb.mem x hx with e | e
    · exact .inl e
    · exact .inr (k.mem _ e)
  · rcases hp with hp | hp
    · exact hb.most _ _ _ (.inl hp)
    · obtain ⟨s1, a1, b1⟩ := k.most _ _ _ hp
      obtain ⟨s2, a2, b2⟩ := hb.most _ _ _ (.inr b1)
      exact ⟨s2, by omega, b2⟩

def up (x : Wy) : Wy := wy x.1 x.2.1 (x.2.2.1 + 1)
theorem up_ways {P : En} {l : List Wy} (h : WaysP P l) : WaysP (fun o n s => P o n (s - 1)) (l.map up) := by
  refine ⟨List.pairwise_map.2 (h.srt.imp fun {a b} hab => ?_), fun x hx => ?_, fun o n s hp => ?_⟩
  · unfold up wlt at *; simp only; exact hab
  · obtain ⟨y, hy, rfl⟩ := List.mem_map.1 hx
    unfold up
    simp only [Int.add_sub_cancel]
    exact h.mem y hy
  · obtain ⟨s1, a, b⟩ := h.most _ _ _ hp
    exact ⟨s1 + 1, by omega, List.mem_map.2 ⟨_, b, rfl⟩⟩

theorem one_ways (o n s : Int) : WaysP (fun o' n' s' => o' = o ∧ n' = n ∧ s' = s) [wy o n s] :=
  ⟨by simp, fun x hx => by simp at hx; subst hx; exact ⟨rfl, rfl, rfl⟩, fun o' n' s' ⟨a, b, c⟩ => by subst a; subst b; subst c; exact ⟨s', Int.le_refl _, by simp⟩⟩

/-- A list's ways, from the back. -/
noncomputable def waysB : List Nd → List Wy
  | [] => [wy 23 0 0]
  | .fin o n :: r => [wy o n 1]
  | .step :: r => (waysB r).map up
  | .skip k :: r => (bothL (waysB r) (waysB (r.drop k))).map up
termination_by c => c.length
decreasing_by all_goals (simp only [List.length_drop, List.length_cons]; omega)

theorem waysB_ok : ∀ (m : Nat) (c : List Nd), c.length ≤ m → WaysP (E c) (waysB c)
  | _, [], _ => by rw [waysB]; exact (one_ways 23 0 0).congr fun o n s => E_nil.symm
  | m + 1, .fin o' n' :: r, _ => by rw [waysB]; exact (one_ways o' n' 1).congr fun o n s => E_fin.symm
  | m + 1, .step :: r, h => by
    rw [waysB]
    exact (up_ways (waysB_ok m r (by simp at h; omega))).congr fun o n s => E_step.symm
  | m + 1, .skip k :: r, h => by
    rw [waysB]
    have hr : r.length ≤ m := by simp at h; omega
    exact (up_ways (bothL_two (waysB_ok m r hr) (waysB_ok m (r.drop k) (by simp; omega)))).congr fun o n s => E_skip.symm

/-! ### Coming to places -/
inductive Reach (c : List Nd) : Nat → Int → Prop where
  | zero : Reach c 0 0
  | next {i s x} (h : Reach c i s) (hx : c[i]? = some x) (hf : x.isFin = false) : Reach c (i + 1) (s + 1)
  | skip {i s k} (h : Reach c i s) (hx : c[i]? = some (.skip k)) : Reach c (i + 1 + k) (s + 1)

theorem drop_at {c : List Nd} {i : Nat} {x : Nd} (h : c[i]? = some x) : c.drop i = x :: c.drop (i + 1) := by
  obtain ⟨hi, e⟩ := List.getElem?_eq_some_iff.1 h
  rw [List.drop_eq_getElem_cons hi, e]

theorem Reach.ends {c : List Nd} {i : Nat} {t : Int} (h : Reach c i t) : ∀ {o n s}, E (c.drop i) o n s → E c o n (t + s) := by
  induction h with
  | zero => intro o n s he; simpa using he
  | @next i t x h hx hf ih =>
    intro o n s he
    have : E (c.drop i) o n (s + 1) := by
      rw [drop_at hx]
      cases x with
      | fin a b => cases hf
      | step => exact .step he
      | skip k => exact .go k he
    have := ih this
    rwa [show t + (s + 1) = t + 1 + s by omega] at this
  | @skip i t k h hx ih =>
    intro o n s he
    have : E (c.drop i) o n (s + 1) := by
      rw [drop_at hx]
      refine .over k ?_
      rwa [List.drop_drop]
    have := ih this
    rwa [show t + (s + 1) = t + 1 + s by omega] at this

/-- An end that is come to. -/
def Ends (c : List Nd) (o n s : Int) : Prop := (∃ i t, Reach c i t ∧ c[i]? = some (.fin o n) ∧ s = t + 1) ∨ (∃ i, c.length ≤ i ∧ o = 23 ∧ n = 0 ∧ Reach c i s)

theorem ends_E {c : List Nd} {o n s : Int} (h : Ends c o n s) : E c o n s := by
  rcases h with ⟨i, t, h, hx, rfl⟩ | ⟨i, hi, rfl, rfl, h⟩
  · exact h.ends (by rw [drop_at hx]; exact .fin _ _ _)
  · have := h.ends (s := 0) (o := 23) (n := 0) (by rw [List.drop_eq_nil_of_le hi]; exact .nil)
    rwa [Int.add_zero] at this

theorem E_ends {c : List Nd} {o n : Int} : ∀ (m : Nat) {i : Nat} {t s : Int}, c.length - i ≤ m → Reach c i t → E (c.drop i) o n s → Ends c o n (t + s)
  | m, i, t, s, hm, hr, he => by
    cases hx : c[i]? with
    | none =>
      have hl := List.getElem?_eq_none_iff.1 hx
      rw [List.drop_eq_nil_of_le hl] at he
      obtain ⟨rfl, rfl, rfl⟩ := E_nil.1 he
      exact .inr ⟨i, hl, rfl, rfl, by rw [Int.add_zero]; exact hr⟩
    | some x =>
      obtain ⟨hi, _⟩ := List.getElem?_eq_some_iff.1 hx
      cases m with
      | zero => omega
      | succ m =>
        rw [drop_at hx] at he
        cases x with
        | fin a b =>
          obtain ⟨rfl, rfl, rfl⟩ := E_fin.1 he
          exact .inl ⟨i, t, hr, hx, rfl⟩
        | step =>
          have := E_ends m (by omega) (hr.next hx rfl) (E_step.1 he)
          rwa [show t + 1 + (s - 1) = t + s by omega] at this
        | skip k =>
          rcases E_skip.1 he with h | h
          · have := E_ends m (by omega) (hr.next hx rfl) h
            rwa [show t + 1 + (s - 1) = t + s by omega] at this
          · rw [List.drop_drop] at h
            have := E_ends m (by omega) (hr.skip hx) h
            rwa [show t + 1 + (s - 1) = t + s by omega] at this

theorem E_iff {c : List Nd} {o n s : Int} : E c o n s ↔ Ends c o n s := ⟨fun h => by
  have := E_ends (c := c) _ (i := 0) (Nat.le_refl _) .zero (by simpa using h)
  rwa [Int.zero_add] at this, ends_E⟩
end W19
end Go.AMach
