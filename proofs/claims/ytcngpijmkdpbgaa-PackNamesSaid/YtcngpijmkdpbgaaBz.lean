/- Parts of the proof. -/
import Derived.Test.YtcngpijmkdpbgaaBv
/- Layer 17: a walked packet's headers are of unlike nodes. -/
namespace Go.AMach
set_option linter.unusedVariables false
set_option linter.unusedSimpArgs false
set_option linter.unnecessarySimpa false
open Go
set_option linter.unusedVariables false

theorem W_low {l : List NodeS} (hl : Nodes l) {h : Int → Int} (H : Hgt l h) (s : ByteArray) : ∀ (f : Nat) (at_ : Int) (x : NodeS), findP l x.1 = some x → (∀ y ∈ (W l s f at_ x).1, h y.1 ≤ h x.1) ∧ (W l s f at_ x).1.Pairwise fun a b => a.1 ≠ b.1
  | 0, at_, x, hf => by simp [W]
  | f + 1, at_, x, hf => by
    simp only [W]
    by_cases c1 : (sizeV x s at_).2 ≠ 0
    · rw [if_pos c1]; simp
    rw [if_neg c1]
    by_cases c2 : (nextV l x s at_).2 ≠ 0
    · rw [if_pos c2]; simp
    rw [if_neg c2]
    cases hy : findP l (nextV l x s at_).1 with
    | none => simp
    | some y =>
      have hid := (findP_some hy).2
      have hlt := H.lt hf (nextV_mem hl hf s at_ (Classical.byContradiction fun k => c2 k))
      rw [← hid] at hlt
      obtain ⟨i1, i2⟩ := W_low hl H s f (IntKind.wrap .i64 (at_ + (sizeV x s at_).1)) y (by rw [hid]; exact hy)
      refine ⟨fun z hz => ?_, ?_⟩
      · rcases List.mem_cons.1 hz with rfl | hz
        · exact Int.le_refl _
        · have := i1 z hz; omega
      · refine List.pairwise_cons.2 ⟨fun z hz e => ?_, i2⟩
        have := i1 z hz
        rw [← e] at this
        simp only at this
        omega
theorem walkV_apart (l : List NodeS) (hl : Nodes l) (s : ByteArray) : (walkV l s).1.Pairwise fun a b => a.1 ≠ b.1 := by
  unfold walkV
  split
  · rename_i hm
    obtain ⟨h, H⟩ := hm.2.2.2
    split
    · rename_i x hf
      exact (W_low hl H s 64 0 x (by rw [(findP_some hf).2]; exact hf)).2
    · simp
  · simp
theorem of_nodes {s : ByteArray} {l : List NodeS} (h : (Ty.slice NodeT).good l) (h0 : Q_z0z s l = none) : Nodes l := by
  obtain ⟨b, hb, hb2⟩ := Q_Long l (good_len h)
  cases b with
  | false => exact nodes_of h (hb2 rfl)
  | true =>
    have : Q_z0z s l = some (((), ()), ()) := by
      refine fin ?_
      unfold M_z0z
      rw [cond_dec]
      refine ite_eq (fun _ => rfl) fun c => ?_
      simp only [ok_z00, q_z00, hb, RS.get, Option.getD_some, Option.isSome_some, cond_true]
    rw [this] at h0; cases h0
end Go.AMach

/- Layer 17: what is got behind an Insert. -/
namespace Go.AMach
set_option linter.unusedVariables false
set_option linter.unusedSimpArgs false
set_option linter.unnecessarySimpa false
open Go
set_option linter.unusedVariables false

theorem insB_low {b : List Int} {k m i : Nat} (hk : k ≤ b.length) (hi : i < k) : rdd 0 (insB b k m) i = rdd 0 b i := by
  have hl := insB_length b k m hk
  rw [rdd_lt (by omega), rdd_lt (l := b) (by omega)]
  unfold insB
  rw [List.getElem_append_left (by simp only [List.length_append, List.length_take]; omega), List.getElem_append_left (by rw [List.length_take]; omega), List.getElem_take]
theorem insB_high {b : List Int} {k m i : Nat} (hk : k ≤ b.length) (hi : k ≤ i) (hb : i < b.length) : rdd 0 (insB b k m) (i + m) = rdd 0 b i := by
  have hl := insB_length b k m hk
  rw [rdd_lt (by omega), rdd_lt (l := b) (by omega)]
  unfold insB
  rw [List.getElem_append_right (by simp only [List.length_append, List.length_take, mkL_length]; omega), List.getElem_drop]
  congr 1
  simp only [List.length_append, List.length_take, mkL_length]; omega
/-- A field that ends ahead of the place. -/
theorem getB_ahead {b : List Int} {k m : Nat} (hk : k ≤ b.length) {off w : Int} {v : Nat} (h : getB b off w = some v) (he : off + w ≤ 8 * (k : Int)) : getB (insB b k m) off w = some v := by
  obtain ⟨c, rfl⟩ := getB_of h
  unfold getB
  rw [if_pos (by rw [insB_length b k m hk]; omega)]
  congr 1
  refine bv_congr _ fun i h1 h2 => bitOf_congr ?_
  unfold bl
  rw [insB_low hk (by omega)]
/-- A field that begins at the place, or behind. -/
theorem getB_behind {b : List Int} {k m : Nat} (hk : k ≤ b.length) {off w : Int} {v : Nat} (h : getB b off w = some v) (he : 8 * (k : Int) ≤ off) : getB (insB b k m) (off + 8 * (m : Int)) w = some v := by
  obtain ⟨c, rfl⟩ := getB_of h
  unfold getB
  rw [if_pos (by rw [insB_length b k m hk]; omega)]
  congr 1
  have e : (off + 8 * (m : Int)).toNat = 8 * m + off.toNat := by omega
  rw [e, ← bv_shift]
  refine bv_congr _ fun i h1 h2 => bitOf_congr ?_
  unfold bl
  rw [show m + i / 8 = i / 8 + m by omega, insB_high hk (by omega) (by omega)]
theorem mvH_id (k d : Int) (h : HeadS) : (mvH k d h).1 = h.1 := by unfold mvH; split <;> rfl
theorem mvH_at (k d : Int) (h : HeadS) : (mvH k d h).2.1 = if h.2.1 ≥ k then h.2.1 + d else h.2.1 := by unfold mvH; split <;> rfl
theorem atOf_map (k d id : Int) : ∀ hs : List HeadS, atOf (hs.map (mvH k d)) id = (atOf hs id).map fun a => if a ≥ k then a + d else a
  | [] => rfl
  | x :: r => by
    have ih := atOf_map k d id r
    unfold atOf at ih ⊢
    rw [List.map_cons, List.find?_cons, List.find?_cons, mvH_id]
    by_cases e : x.1 = id
    · rw [decide_eq_true e]
      show some ((mvH k d x).2.1) = some _
      rw [mvH_at]
    · rw [decide_eq_false e]; exact ih
/-- A field behind an Insert. -/
theorem getF_ins {hs : List HeadS} {b mt : List Int} (N : PkN hs b mt) {f : FieldS} {v : Nat} (h : getF hs b mt f = .ok v) (k m : Nat) (hk : k ≤ b.length) (hm : m ≤ 9216)
    (hc : f.2.1 = 3 ∨ (∃ a, f.2.1 = 2 ∧ atOf hs f.2.2.1 = some a ∧ (k : Int) ≤ a) ∨ (∀ a, whereF hs b mt f = some (b, a) → (f.2.1 = 2 → a < (k : Int)) ∧ 8 * a + f.2.2.2.1 + f.2.2.2.2.1 ≤ 8 * (k : Int))) :
    getF (hs.map (mvH (k : Int) (m : Int))) (insB b k m) mt f = .ok v := by
  cases hw : whereF hs b mt f with
  | none => unfold getF at h; rw [hw] at h; cases h
  | some ca =>
    obtain ⟨c, a⟩ := ca
    have hg : getB c (bitV a f.2.2.2.1) f.2.2.2.2.1 = some v := by
      unfold getF at h
      rw [hw] at h
      simp only at h
      cases hg : getB c (bitV a f.2.2.2.1) f.2.2.2.2.1 with
      | none => rw [hg] at h; cases h
      | some y => rw [hg] at h; cases h; rfl
    obtain ⟨cc, _⟩ := getB_of hg
    have hlong := N.long
    by_cases c3 : f.2.1 = 3
    · have hw' : whereF (hs.map (mvH (k : Int) (m : Int))) (insB b k m) mt f = some (mt, 0) := by unfold whereF; rw [if_neg (by omega), if_pos c3]
      have hw2 : whereF hs b mt f = some (mt, 0) := by unfold whereF; rw [if_neg (by omega), if_pos c3]
      rw [hw2] at hw
      cases hw
      unfold getF
      rw [hw']
      simp only
      rw [hg]
    have hcb : c = b := by
      rcases where_in hw with ⟨h', _⟩ | ⟨_, h', _⟩
      · exact absurd h' c3
      · exact h'
    subst hcb
    have ha0 : 0 ≤ a ∧ a ≤ 1000000 := by
      rcases where_in hw with ⟨h', _⟩ | ⟨_, _, h' | h'⟩
      · exact absurd h' c3
      · omega
      · exact atOf_ok N.ok h'
    have hoff : 0 ≤ f.2.2.2.1 := Classical.byContradiction fun k' => by
      have : bitV a f.2.2.2.1 = -1 := by unfold bitV; rw [if_pos (by omega)]
      omega
    have hbit : ∀ x : Int, bitV x f.2.2.2.1 = 8 * x + min f.2.2.2.1 147456 := fun x => by unfold bitV; rw [if_neg (by omega)]
    rw [hbit] at hg cc
    rcases hc with h' | ⟨a', h2, h3, h4⟩ | h'
    · exact absurd h' c3
    · have haa : a = a' := by
        unfold whereF at hw
        rw [if_neg (by omega), if_neg c3, if_pos h2, h3] at hw
        cases hw; rfl
      subst haa
      have hw' : whereF (hs.map (mvH (k : Int) (m : Int))) (insB c k m) mt f = some (insB c k m, a + m) := by
        unfold whereF
        rw [if_neg (by omega), if_neg c3, if_pos h2, atOf_map, h3]
        show some (insB c k m, if a ≥ (k : Int) then a + (m : Int) else a) = _
        rw [if_pos h4]
      unfold getF
      rw [hw']
      simp only
      rw [hbit, show 8 * (a + (m : Int)) + min f.2.2.2.1 147456 = 8 * a + min f.2.2.2.1 147456 + 8 * (m : Int) by omega, getB_behind hk hg (by omega)]
    · obtain ⟨h1, h2⟩ := h' a hw
      have hw' : whereF (hs.map (mvH (k : Int) (m : Int))) (insB c k m) mt f = some (insB c k m, a) := by
        unfold whereF at hw ⊢
        by_cases c1 : f.2.1 = 1
        · rw [if_pos c1] at hw ⊢; cases hw; rfl
        rw [if_neg c1, if_neg c3] at hw ⊢
        by_cases c2 : f.2.1 = 2
        · rw [if_pos c2] at hw ⊢
          rw [atOf_map]
          cases ht : atOf hs f.2.2.1 with
          | none => rw [ht] at hw; cases hw
          | some x =>
            rw [ht] at hw; cases hw
            show some (insB c k m, if a ≥ (k : Int) then a + (m : Int) else a) = _
            rw [if_neg (by have := h1 c2; omega)]
        · rw [if_neg c2] at hw; cases hw
      unfold getF
      rw [hw']
      simp only
      rw [hbit, getB_ahead hk hg (by omega)]
end Go.AMach
