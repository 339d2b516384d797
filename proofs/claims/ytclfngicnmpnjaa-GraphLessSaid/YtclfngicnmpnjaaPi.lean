/- Layer 15: GraphLess. -/
import Derived.Test.YtclfngicnmpnjaaPh
import Derived.Test.YtclfngicnmpnjaaPf
namespace Go.AMach
set_option linter.unusedVariables false
set_option linter.unusedSimpArgs false
set_option linter.unnecessarySimpa false
set_option linter.unusedVariables false
set_option linter.unusedSimpArgs false

def wo (l : List NodeS) (k : Nat) : List NodeS := l.take k ++ l.drop (k + 1)
theorem mem_wo {l : List NodeS} {k : Nat} {x : NodeS} (h : x ∈ wo l k) : x ∈ l := by
  unfold wo at h
  rcases List.mem_append.1 h with h | h
  · exact List.mem_of_mem_take h
  · exact List.mem_of_mem_drop h
theorem wo_len {l : List NodeS} {k : Nat} (h : k < l.length) : (wo l k).length = l.length - 1 := by
  unfold wo; simp; omega

theorem Q_without (l : List NodeS) (hl : l.length ≤ 1000) (k : Nat) (hk : k < l.length) : Q_turnoutlaw15_without l (k : Int) = some (((wo l k).length, ()), (wo l k, ())) := by
  refine fin ?_
  unfold M_turnoutlaw15_without
  simp only [toNat_cast, Int.toNat_zero, Nat.sub_zero, cutL_length', Nat.zero_add]
  have c1 : cutL zNodeS l 0 k = l.take k := by rw [cutL_eq (by omega), List.drop_zero]
  have c1l : (l.take k).length = k := by simp; omega
  have c2 : cutL zNodeS (l.take k) 0 k = l.take k := by
    have := cutL_all zNodeS (l.take k)
    rw [c1l] at this; exact this
  have c3 : cutL zNodeS l (k + 1) (l.length - (k + 1)) = l.drop (k + 1) := by rw [cutL_eq (by omega), List.take_of_length_le (by simp)]
  rw [i64_succ (by omega)]
  simp only [toNat_cast]
  rw [c1, c2, c3, cond_dec, if_pos (by omega), cond_dec, if_pos (by omega), cond_dec, if_pos (by omega), cond_dec, if_pos (by omega)]
  have := wo_len hk
  rw [this, show k + (l.length - (k + 1)) = l.length - 1 by omega]
  rfl

theorem L_named2 (kr : Bool → Option Res) (kt : Unit → Option Res) (l : List NodeS) (id i0 : Int) (g : List Int) (hg : g.length < 9223372036854775807) : ∀ (m i : Nat), i ≤ g.length → g.length - i < m →
    L_turnoutlaw15_named_2 FUEL kr kt l id i0 g.length g m (i : Int) = if id ∈ g.drop i then kr true else kt ()
  | 0, _, _, h => by omega
  | m + 1, i, hi, hm => by
    show F_turnoutlaw15_named_2 FUEL kr kt l id i0 g.length g (L_turnoutlaw15_named_2 FUEL kr kt l id i0 g.length g m) (i : Int) = _
    unfold F_turnoutlaw15_named_2
    simp only [cond_dec, int_beq, toNat_cast]
    by_cases h : i < g.length
    · rw [if_pos (by omega), if_pos (by omega), i64_succ (by omega), drop_rdd (0 : Int) h, L_named2 kr kt l id i0 g hg m (i + 1) (by omega) (by omega)]
      by_cases he : rdd (0 : Int) g i = id
      · rw [if_pos he, if_pos (by rw [he]; exact List.mem_cons_self)]
      · rw [if_neg he]
        by_cases h2 : id ∈ g.drop (i + 1)
        · rw [if_pos h2, if_pos (List.mem_cons_of_mem _ h2)]
        · rw [if_neg h2, if_neg (fun h3 => by rcases List.mem_cons.1 h3 with h3 | h3; exact he h3.symm; exact h2 h3)]
    · rw [if_neg (by omega), List.drop_of_length_le (by omega), if_neg (by simp)]

theorem L_named (kr : Bool → Option Res) (kt : Unit → Option Res) (l : List NodeS) (hl : Nodes l) (id : Int) : ∀ (m i : Nat), i ≤ l.length → l.length - i < m →
    L_turnoutlaw15_named_0 FUEL kr kt l id m (i : Int) = if ∃ x ∈ l.drop i, id ∈ goesP x then kr true else kt ()
  | 0, _, _, h => by omega
  | m + 1, i, hi, hm => by
    show F_turnoutlaw15_named_0 FUEL kr kt l id (L_turnoutlaw15_named_0 FUEL kr kt l id m) (i : Int) = _
    have hlen := hl.len
    unfold F_turnoutlaw15_named_0
    simp only [cond_dec, toNat_cast]
    by_cases h : i < l.length
    · have harm := hl.arms _ (rdd_mem (d := zNodeS) h)
      have hgl : (goesR (rdd zNodeS l i)).length < 9223372036854775807 := by simp [goesR]; omega
      simp only [ok_turnoutref15_Goes, q_turnoutref15_Goes, Q_refGoes _ harm, RS.get, Option.getD_some, Option.isSome_some, cond_true]
      rw [if_pos (by omega), if_pos (by omega), i64_succ (by omega), drop_rdd zNodeS h, L_named kr kt l hl id m (i + 1) (by omega) (by omega)]
      refine Eq.trans (L_named2 _ _ l id (i : Int) _ hgl FUEL 0 (by omega) (by unfold FUEL; omega)) ?_
      rw [List.drop_zero]
      generalize rdd zNodeS l i = x at *
      by_cases h1 : id ∈ goesR x
      · rw [if_pos h1, if_pos ⟨x, List.mem_cons_self, mem_goesR.1 h1⟩]
      · rw [if_neg h1]
        by_cases h2 : ∃ y ∈ l.drop (i + 1), id ∈ goesP y
        · rw [if_pos h2, if_pos (by obtain ⟨y, hy, h3⟩ := h2; exact ⟨y, List.mem_cons_of_mem _ hy, h3⟩)]
        · rw [if_neg h2, if_neg (fun h3 => by
            obtain ⟨y, hy, h4⟩ := h3
            rcases List.mem_cons.1 hy with rfl | hy
            · exact h1 (mem_goesR.2 h4)
            · exact h2 ⟨y, hy, h4⟩)]
    · rw [if_neg (by omega), List.drop_of_length_le (by omega), if_neg (by rintro ⟨x, hx, _⟩; cases hx)]

open Classical in
theorem Q_named (l : List NodeS) (hl : Nodes l) (id : Int) : Q_turnoutlaw15_named l id = some ((decide (∃ x ∈ l, id ∈ goesP x), ()), ()) := by
  refine fin ?_
  refine Eq.trans (L_named _ _ l hl id FUEL 0 (by omega) (by have := hl.len; unfold FUEL; omega)) ?_
  rw [List.drop_zero]
  by_cases h : ∃ x ∈ l, id ∈ goesP x
  · rw [if_pos h, decide_eq_true h]
  · rw [if_neg h, decide_eq_false h]

theorem formsOk_le {p q : Int} (h : q ≤ p) : ∀ {l : List NodeS}, formsOk p l → formsOk q l
  | [], _ => trivial
  | x :: r, ⟨h1, h2, h3⟩ => ⟨h1, by omega, h3⟩
theorem formsOk_wo : ∀ {l : List NodeS} {p : Int} (k : Nat), formsOk p l → formsOk p (wo l k)
  | [], p, k, _ => by simp [wo, formsOk]
  | x :: r, p, 0, ⟨h1, h2, h3⟩ => by
    show formsOk p r
    exact formsOk_le (by omega) h3
  | x :: r, p, k + 1, ⟨h1, h2, h3⟩ => ⟨h1, h2, formsOk_wo k h3⟩

theorem findP_uniq {l : List NodeS} {p : Int} (h : formsOk p l) {x : NodeS} (hx : x ∈ l) {k : Int} (hk : x.1 = k) : findP l k = some x := hk ▸ findP_self h x hx

theorem mem_wo_of {l : List NodeS} {k : Nat} (hk : k < l.length) {x : NodeS} (hx : x ∈ l) (hne : x.1 ≠ (rdd zNodeS l k).1) : x ∈ wo l k := by
  have : l = l.take k ++ rdd zNodeS l k :: l.drop (k + 1) := by
    rw [← drop_rdd zNodeS hk, List.take_append_drop]
  rw [this] at hx
  rcases List.mem_append.1 hx with h | h
  · exact List.mem_append_left _ h
  · rcases List.mem_cons.1 h with h | h
    · exact absurd (by rw [h]) hne
    · exact List.mem_append_right _ h
theorem not_mem_wo {l : List NodeS} {k : Nat} (hk : k < l.length) : ∀ {p : Int}, formsOk p l → ∀ x ∈ wo l k, x.1 ≠ (rdd zNodeS l k).1 := by
  intro p hf x hx
  induction l generalizing k p with
  | nil => simp at hk
  | cons y r ih =>
    obtain ⟨h1, h2, h3⟩ := hf
    cases k with
    | zero =>
      have := (formsOk_mem h3 x hx).2
      show x.1 ≠ y.1
      omega
    | succ k =>
      have hk' : k < r.length := by simpa using hk
      have e : rdd zNodeS (y :: r) (k + 1) = rdd zNodeS r k := by rw [rdd_lt hk', rdd_lt hk]; rfl
      rw [e]
      have hx' : x ∈ y :: wo r k := hx
      rcases List.mem_cons.1 hx' with rfl | hx'
      · have := (formsOk_mem h3 _ (rdd_mem (d := zNodeS) hk')).2
        omega
      · exact ih hk' h3 hx'

theorem less_find {l : List NodeS} (hm : formsOk 0 l) {k : Nat} (hk : k < l.length) (t : Int) : findP (wo l k) t = if t = (rdd zNodeS l k).1 then none else findP l t := by
  have hw := formsOk_wo k hm
  by_cases h : t = (rdd zNodeS l k).1
  · rw [if_pos h]
    exact findP_none.2 fun x hx => by rw [h]; exact not_mem_wo hk hm x hx
  · rw [if_neg h]
    cases hf : findP l t with
    | none => exact findP_none.2 fun x hx => findP_none.1 hf x (mem_wo hx)
    | some x =>
      obtain ⟨hx, hxt⟩ := findP_some hf
      exact findP_uniq hw (mem_wo_of hk hx (by rw [hxt]; exact h)) hxt

theorem less_nodes {l : List NodeS} (hl : Nodes l) {k : Nat} (hk : k < l.length) : Nodes (wo l k) :=
  ⟨by rw [wo_len hk]; have := hl.len; omega, fun x hx => hl.arms x (mem_wo hx), fun x hx => hl.g x (mem_wo hx)⟩

theorem less_named {l : List NodeS} (hm : mayP l) {k : Nat} (hk : k < l.length) (h : ∃ x ∈ wo l k, (rdd zNodeS l k).1 ∈ goesP x) : mayN (wo l k) = 8 := by
  have hw := formsOk_wo k hm.1
  have hlen := wo_len hk
  have h32 := hm.2.1
  have hno : ¬ refsOk (wo l k) := fun hr => by
    obtain ⟨x, hx, ht⟩ := h
    have := hr x hx _ ht
    unfold refOk at this
    rw [less_find hm.1 hk, if_pos rfl] at this
    have hid := id_range hm.1 (findP_self hm.1 _ (rdd_mem (d := zNodeS) hk))
    simp at this
    omega
  unfold mayN
  rw [if_neg (by simp [hw]), if_neg (by omega), if_pos hno]

theorem less_ok {l : List NodeS} (hm : mayP l) {h : Int → Int} (H : Hgt l h) {k : Nat} (hk : k < l.length) (hn : ¬ ∃ x ∈ wo l k, (rdd zNodeS l k).1 ∈ goesP x) :
    mayP (wo l k) ∧ Hgt (wo l k) fun t => if t = (rdd zNodeS l k).1 then 0 else h t := by
  have hw := formsOk_wo k hm.1
  have hlen := wo_len hk
  have h32 := hm.2.1
  have hH : Hgt (wo l k) fun t => if t = (rdd zNodeS l k).1 then 0 else h t := by
    refine ⟨fun t ht => ?_, fun t x hx => ?_⟩
    · rw [less_find hm.1 hk] at ht
      by_cases h1 : t = (rdd zNodeS l k).1
      · simp [h1]
      · rw [if_neg h1] at ht; simp only [h1, if_false]; exact H.no t ht
    · have hx0 := hx
      rw [less_find hm.1 hk] at hx
      by_cases h1 : t = (rdd zNodeS l k).1
      · rw [if_pos h1] at hx; cases hx
      · rw [if_neg h1] at hx
        simp only [h1, if_false]
        rw [H.is t x hx]
        congr 1
        exact hmax_congr fun u hu => by
          have : u ≠ (rdd zNodeS l k).1 := fun e => hn ⟨x, (findP_some hx0).1, e ▸ hu⟩
          simp only [this, if_false]
  refine ⟨⟨hw, by omega, fun x hx t ht => ?_, _, hH⟩, hH⟩
  have := hm.2.2.1 x (mem_wo hx) t ht
  unfold refOk at this ⊢
  rw [less_find hm.1 hk, if_neg (fun e : t = (rdd zNodeS l k).1 => hn ⟨x, hx, e ▸ ht⟩)]
  exact this

theorem L_Less (kt : Int → Option Res) (l0 : List NodeS) (l : List NodeS) (hl : Nodes l) (hm : mayP l) {h : Int → Int} (H : Hgt l h) (g : List Int) (hg : g.length < 1000000) : ∀ (m i : Nat) (most : Int), i ≤ g.length → g.length - i < m →
    L_turnoutlaw15_GraphLess_0 FUEL kt l0 l.length g.length l g m most (i : Int) = kt (hmax h (g.drop i) most)
  | 0, _, _, _, h => by omega
  | m + 1, i, most, hi, hmm => by
    show F_turnoutlaw15_GraphLess_0 FUEL kt l0 l.length g.length l g (L_turnoutlaw15_GraphLess_0 FUEL kt l0 l.length g.length l g m) most (i : Int) = _
    unfold F_turnoutlaw15_GraphLess_0
    simp only [cond_dec, toNat_cast, cutL_all, ok_turnoutlaw15_from, q_turnoutlaw15_from, Q_from l hl hm H, RS.get, Option.getD_some, Option.isSome_some, cond_true]
    by_cases hil : i < g.length
    · rw [if_pos (by omega), if_pos (by omega), i64_succ (by omega), drop_rdd (0 : Int) hil, hmax_cons]
      exact L_Less kt l0 l hl hm H g hg m (i + 1) _ (by omega) (by omega)
    · rw [if_neg (by omega), List.drop_of_length_le (by omega)]; rfl

theorem Pure.GraphLess (l : List NodeS) (h : (Ty.slice NodeT).good l) (w : Int) (hw : (Ty.int .i64).good w) : Q_turnoutlaw15_GraphLess l w = some ((true, ()), ()) := by
  refine fin ?_
  obtain ⟨b, hb, hlong⟩ := Q_Long l (good_len h)
  unfold M_turnoutlaw15_GraphLess
  simp only [ok_turnoutlaw15_Long, q_turnoutlaw15_Long, hb, ok_turnoutlaw15_awake, q_turnoutlaw15_awake, Q_awake, RS.get, Option.getD_some, Option.isSome_some, cond_true]
  cases b with
  | true => rfl
  | false =>
  obtain ⟨hl1, hl2⟩ := hlong rfl
  have hl := good_nodes h hl2
  simp only [cond_false, cond_dec, Bool.not_true, ok_graph_May, q_graph_May, Q_May l hl, RS.get, Option.getD_some, Option.isSome_some, cond_true, int_bne, int_beq, Bool.cond_not]
  refine ite_eq (fun _ => rfl) fun h0 => ite_eq (fun hmay => ?_) fun _ => rfl
  have hm := mayN_zero.1 hmay
  obtain ⟨hg, H⟩ := hm.2.2.2
  have h32 := hm.2.1
  obtain ⟨k, hk, _, hk2⟩ := umod (wf_i64 hw) (n := l.length) (by omega) (by omega)
  rw [hk2, u64_in (l.length : Int) (by omega), if_neg h0]
  have hln := less_nodes hl hk
  have hlenw := wo_len hk
  simp only [ok_turnoutlaw15_without, q_turnoutlaw15_without, Q_without l (by omega) k hk, RS.get, Option.getD_some, Option.isSome_some, cond_true, toNat_cast, cutL_all]
  rw [if_pos (by omega)]
  simp only [ok_turnoutlaw15_named, q_turnoutlaw15_named, Q_named _ hln, RS.get, Option.getD_some, Option.isSome_some, cond_true]
  by_cases hn : ∃ x ∈ wo l k, (rdd zNodeS l k).1 ∈ goesP x
  · rw [decide_eq_true hn, cond_true]
    have h8 := less_named hm hk hn
    have hq := Q_May _ hln
    rw [h8] at hq
    simp only [hq, Q_Longest_no _ hln (fun k => by rw [mayN_zero.2 k] at h8; omega), ok_graph_Longest, q_graph_Longest, RS.get, Option.getD_some, Option.isSome_some, cond_true]
    rfl
  · rw [decide_eq_false hn, cond_false]
    obtain ⟨hm2, H2⟩ := less_ok hm H hk hn
    have hq := Q_May _ hln
    rw [mayN_zero.2 hm2] at hq
    simp only [hq, ok_graph_Longest, q_graph_Longest, Q_Longest _ hln hm2 H2, Q_Longest _ hl hm H, RS.get, Option.getD_some, Option.isSome_some, cond_true]
    rw [if_pos trivial, if_pos (by omega)]
    have hkm := rdd_mem (d := zNodeS) hk
    have harm := hl.arms _ hkm
    have hfk := findP_self hm.1 _ hkm
    generalize hX : rdd zNodeS l k = x at *
    by_cases h1 : x.1 = 1
    · rw [if_pos h1, if_pos (by omega)]
      simp only [ok_turnoutref15_Goes, q_turnoutref15_Goes, Q_refGoes _ harm, RS.get, Option.getD_some, Option.isSome_some, cond_true]
      have hgl : (goesR x).length < 1000000 := by simp [goesR]; omega
      have e := fun kt => L_Less kt l (wo l k) hln hm2 H2 (goesR x) hgl FUEL 0 0 (by omega) (by unfold FUEL; omega)
      simp only [List.drop_zero, Int.natCast_zero] at e
      refine Eq.trans (e _) ?_
      rw [if_pos h1.symm, if_pos rfl]
      have e1 := H.is x.1 x hfk
      have e2 : hmax (fun t => if t = x.1 then 0 else hg t) (goesR x) 0 = hmax hg (goesP x) 0 := by
        rw [hmax_same _ (fun t => mem_goesR (x := x) (t := t)) 0]
        exact hmax_congr fun t ht => by
          have := H.lt hfk ht
          rw [if_neg (fun e => by rw [e] at this; omega)]
      have e3 := H.le h32 hl.arms x.1
      have e4 := hmax_ge0 hg (goesP x) 0
      rw [e2, IntWalk.i64_in _ (by omega), ← h1, decide_eq_true (by omega)]
    · rw [if_neg h1]
      rw [if_neg (fun e => h1 e.symm), decide_eq_true rfl]
end Go.AMach
