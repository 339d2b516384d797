/- law19: ways, plainly: what a map of ends comes to, sorted. -/
import Derived.Test.YtbkbifpjckippaaAm23
namespace Go.AMach
set_option linter.unusedVariables false
set_option linter.unusedSimpArgs false
set_option linter.unnecessarySimpa false
set_option linter.unusedVariables false
set_option linter.unusedSimpArgs false
namespace W19
set_option linter.unusedVariables false
set_option linter.unusedSimpArgs false
set_option linter.unnecessarySimpa false

/-- Op, N, Steps. -/
abbrev Wy := Int × (Int × (Int × Unit))
abbrev wy (o n s : Int) : Wy := (o, (n, (s, ())))
def wlt (a b : Wy) : Prop := a.1 < b.1 ∨ a.1 = b.1 ∧ a.2.1 < b.2.1

theorem wlt_irrefl (a : Wy) : ¬ wlt a a := fun h => by
  unfold wlt at h; omega
theorem wlt_trans {a b c : Wy} (h : wlt a b) (k : wlt b c) : wlt a c := by
  unfold wlt at *; omega
theorem wlt_total {a b : Wy} (h : ¬ (a.1 = b.1 ∧ a.2.1 = b.2.1)) : wlt a b ∨ wlt b a := by
  unfold wlt; omega

/-- Two lists, sorted, of the same things: one. -/
theorem sorted_one : ∀ {l m : List Wy}, l.Pairwise wlt → m.Pairwise wlt → (∀ x, x ∈ l ↔ x ∈ m) → l = m
  | [], [], _, _, _ => rfl
  | [], y :: m, _, _, h => absurd ((h y).2 (by simp)) (by simp)
  | x :: l, [], _, _, h => absurd ((h x).1 (by simp)) (by simp)
  | x :: l, y :: m, hl, hm, h => by
    obtain ⟨h1, h2⟩ := List.pairwise_cons.1 hl
    obtain ⟨k1, k2⟩ := List.pairwise_cons.1 hm
    have hxy : x = y := by
      rcases List.mem_cons.1 ((h x).1 (by simp)) with e | e
      · exact e
      rcases List.mem_cons.1 ((h y).2 (by simp)) with e' | e'
      · exact e'.symm
      · exact absurd (wlt_trans (h1 y e') (k1 x e)) (wlt_irrefl x)
    subst hxy
    rw [sorted_one h2 k2 fun z => ?_]
    constructor
    · intro hz
      rcases List.mem_cons.1 ((h z).1 (by simp [hz])) with e | e
      · subst e; exact absurd (h1 z hz) (wlt_irrefl z)
      · exact e
    · intro hz
      rcases List.mem_cons.1 ((h z).2 (by simp [hz])) with e | e
      · subst e; exact absurd (k1 z hz) (wlt_irrefl z)
      · exact e

/-- The ends that a map tells, sorted. -/
def WaysOf (g : Wy → Option Int) (l : List Wy) : Prop :=
  l.Pairwise wlt ∧ (∀ x ∈ l, g (wy x.1 x.2.1 0) = some x.2.2.1) ∧ ∀ k v, g k = some v → k.2.2.1 = 0 ∧ wy k.1 k.2.1 v ∈ l

theorem WaysOf.one {g : Wy → Option Int} {l m : List Wy} (h : WaysOf g l) (k : WaysOf g m) : l = m := by
  refine sorted_one h.1 k.1 fun x => ⟨fun hx => ?_, fun hx => ?_⟩
  · exact (k.2.2 _ _ (h.2.1 x hx)).2
  · exact (h.2.2 _ _ (k.2.1 x hx)).2

noncomputable def tailV (g : Wy → Option Int) : Option (List Wy) := by
  classical exact if h : ∃ l, WaysOf g l then some h.choose else none

theorem tailV_eq {g : Wy → Option Int} {l : List Wy} (h : WaysOf g l) : tailV g = some l := by
  have hx : ∃ l, WaysOf g l := ⟨l, h⟩
  unfold tailV
  rw [dif_pos hx, hx.choose_spec.one h]
theorem tailV_some {g : Wy → Option Int} {l : List Wy} (h : tailV g = some l) : WaysOf g l := by
  unfold tailV at h
  split at h
  case isFalse => cases h
  rename_i hx
  cases h
  exact hx.choose_spec

instance (a b : Wy) : Decidable (wlt a b) := by unfold wlt; infer_instance
/-- Insertion of one of which there is none. -/
def ins (w : Wy) : List Wy → List Wy
  | [] => [w]
  | x :: l => if wlt w x then w :: x :: l else x :: ins w l
theorem mem_ins {w x : Wy} : ∀ {l : List Wy}, x ∈ ins w l ↔ x = w ∨ x ∈ l
  | [] => by simp [ins]
  | y :: l => by
    unfold ins
    split
    · simp
    · simp only [List.mem_cons, mem_ins (l := l)]
      constructor
      · rintro (h | h | h) <;> simp [h]
      · rintro (h | h | h) <;> simp [h]
theorem sorted_ins {w : Wy} : ∀ {l : List Wy}, l.Pairwise wlt → (∀ x ∈ l, ¬ (x.1 = w.1 ∧ x.2.1 = w.2.1)) → (ins w l).Pairwise wlt
  | [], _, _ => by simp [ins]
  | y :: l, h, hn => by
    obtain ⟨h1, h2⟩ := List.pairwise_cons.1 h
    unfold ins
    split
    · rename_i hw
      refine List.pairwise_cons.2 ⟨fun q hq => ?_, h⟩
      rcases List.mem_cons.1 hq with rfl | hq
      · exact hw
      · exact wlt_trans hw (h1 q hq)
    · rename_i hw
      have hyw : wlt y w := by
        rcases wlt_total (hn y (by simp)) with e | e
        · exact e
        · exact absurd e hw
      refine List.pairwise_cons.2 ⟨fun q hq => ?_, sorted_ins h2 fun x hx => hn x (by simp [hx])⟩
      rcases mem_ins.1 hq with rfl | hq
      · exact hyw
      · exact h1 q hq

/-- A map of which all keys lie in a list has its ends sorted. -/
theorem waysOf_some : ∀ (ks : List (Int × Int)) (g : Wy → Option Int), (∀ k v, g k = some v → k.2.2.1 = 0 ∧ (k.1, k.2.1) ∈ ks) → ∃ l, WaysOf g l
  | [], g, h => ⟨[], by simp, by simp, fun k v hk => absurd (h k v hk).2 (by simp)⟩
  | p :: ks, g, h => by
    by_cases hp : p ∈ ks
    · exact waysOf_some ks g fun k v hk => ⟨(h k v hk).1, by
        rcases List.mem_cons.1 (h k v hk).2 with e | e
        · rw [e]; exact hp
        · exact e⟩
    obtain ⟨l, h1, h2, h3⟩ := waysOf_some ks (fun k => if k.1 = p.1 ∧ k.2.1 = p.2 then none else g k) (fun k v hk => by
      split at hk
      · cases hk
      · rename_i hn
        refine ⟨(h k v hk).1, ?_⟩
        rcases List.mem_cons.1 (h k v hk).2 with e | e
        · exact absurd ⟨by rw [← e], by rw [← e]⟩ hn
        · exact e)
    have hl : ∀ x ∈ l, ¬ (x.1 = p.1 ∧ x.2.1 = p.2) := fun x hx he => by
      have := h2 x hx
      replace this : (if _ ∧ _ then none else g _) = _ := this
      rw [if_pos ⟨he.1, he.2⟩] at this
      cases this
    cases hg : g (wy p.1 p.2 0) with
    | none =>
      refine ⟨l, h1, fun x hx => ?_, fun k v hk => ?_⟩
      · have := h2 x hx
        replace this : (if _ ∧ _ then none else g _) = _ := this
        rw [if_neg (fun e => hl x hx ⟨e.1, e.2⟩)] at this
        exact this
      · have hz := (h k v hk).1
        refine h3 k v ?_
        show (if _ ∧ _ then none else g _) = _
        rw [if_neg (fun e => ?_)]
        · exact hk
        · obtain ⟨k1, k2, k3, k4⟩ := k
          simp only at e hz
          rw [e.1, e.2, hz] at hk
          rw [hg] at hk
          cases hk
    | some s =>
      refine ⟨ins (wy p.1 p.2 s) l, sorted_ins h1 fun x hx => hl x hx, fun x hx => ?_, fun k v hk => ?_⟩
      · rcases mem_ins.1 hx with rfl | hx
        · exact hg
        · have := h2 x hx
          replace this : (if _ ∧ _ then none else g _) = _ := this
          rw [if_neg (fun e => hl x hx ⟨e.1, e.2⟩)] at this
          exact this
      · have hz := (h k v hk).1
        refine ⟨hz, mem_ins.2 ?_⟩
        by_cases e : k.1 = p.1 ∧ k.2.1 = p.2
        · left
          obtain ⟨k1, k2, k3, k4⟩ := k
          simp only at e hz
          rw [e.1, e.2, hz] at hk
          rw [hg] at hk
          cases hk
          rw [e.1, e.2]
        · right
          exact (h3 k v (by show (if _ ∧ _ then none else g _) = _; rw [if_neg e]; exact hk)).2
end W19
end Go.AMach
