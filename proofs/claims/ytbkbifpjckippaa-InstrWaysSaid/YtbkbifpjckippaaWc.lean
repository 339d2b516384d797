/- law19: how many ways there are. -/
import Derived.Test.YtbkbifpjckippaaWb
namespace Go.AMach
set_option linter.unusedVariables false
set_option linter.unusedSimpArgs false
set_option linter.unnecessarySimpa false
set_option linter.unusedVariables false
set_option linter.unusedSimpArgs false
namespace W19
set_option linter.unusedVariables false
set_option linter.unusedSimpArgs false
set_option linter.unnecessarySimpa false
theorem nodup_leW {α : Type} [DecidableEq α] : ∀ {l m : List α}, l.Nodup → (∀ x ∈ l, x ∈ m) → l.length ≤ m.length
  | [], _, _, _ => by simp
  | a :: t, m, h, hs => by
    rw [List.nodup_cons] at h
    have ha := hs a (by simp)
    have := nodup_leW (m := m.erase a) h.2 fun x hx => (List.mem_erase_of_ne (fun e => h.1 (by rw [← e]; exact hx))).2 (hs x (by simp [hx]))
    rw [List.length_erase_of_mem ha] at this
    have := List.length_pos_of_mem ha
    simp only [List.length_cons]; omega
def keyN : Nd → Int × Int
  | .fin o n => (o, n)
  | _ => (23, 0)
theorem waysB_len (c : List Nd) : 0 < (waysB c).length ∧ (waysB c).length ≤ c.length + 1 := by
  have hb := waysB_ok _ c (Nat.le_refl _)
  constructor
  · obtain ⟨o, n, s, h⟩ := E_some _ c (Nat.le_refl _)
    obtain ⟨s', _, h2⟩ := hb.most _ _ _ h
    exact List.length_pos_of_mem h2
  · have hn : ((waysB c).map fun x => (x.1, x.2.1)).Nodup := by
      rw [List.Nodup, List.pairwise_map]
      refine hb.srt.imp fun {a b} h e => ?_
      simp only [Prod.mk.injEq] at e
      unfold wlt at h; omega
    have := nodup_leW (m := (23, 0) :: c.map keyN) hn fun x hx => by
      obtain ⟨y, hy, rfl⟩ := List.mem_map.1 hx
      have hE := E_iff.1 (hb.mem y hy)
      rcases hE with ⟨i, t, _, hi, _⟩ | ⟨i, _, e1, e2, _⟩
      · refine List.mem_cons_of_mem _ (List.mem_map.2 ⟨_, List.mem_of_getElem? hi, rfl⟩)
      · show (y.1, y.2.1) ∈ _
        rw [e1, e2]; simp
    simpa using this
end W19
end Go.AMach
