/- Layer 15: the longest ways, May and Longest. -/
import Derived.Test.YtcakaagbhngkhaaPb

namespace Go.AMach
set_option linter.unusedVariables false
set_option linter.unusedSimpArgs false
set_option linter.unnecessarySimpa false
set_option linter.unusedVariables false
set_option linter.unusedSimpArgs false

abbrev MapI := Int → Option Int
def gv (f : MapI) (k : Int) : Int := (f k).getD 0
def setM (f : MapI) (a : Int) (v : Int) : MapI := fun i => if i = a then some v else f i
theorem gv_set (f : MapI) (a v k : Int) : gv (setM f a v) k = if k = a then v else gv f k := by
  unfold gv setM
  by_cases h : k = a <;> simp [h]

def free (l : List NodeS) (on : MapI) : Nat := l.countP fun x => decide (gv on x.1 = 0)
def cnt (l : List NodeS) (dn : MapI) : Nat := l.countP fun x => decide (0 < gv dn x.1)
def hmax (f : Int → Int) (g : List Int) (m0 : Int) : Int := g.foldl (fun m t => if f t > m then f t else m) m0

theorem hmax_cons (f : Int → Int) (t : Int) (g : List Int) (m0 : Int) : hmax f (t :: g) m0 = hmax f g (if f t > m0 then f t else m0) := rfl
theorem hmax_ge0 (f : Int → Int) : ∀ (g : List Int) (m0 : Int), m0 ≤ hmax f g m0
  | [], m0 => Int.le_refl _
  | t :: g, m0 => by
    rw [hmax_cons]
    refine Int.le_trans ?_ (hmax_ge0 f g _)
    split <;> omega
theorem hmax_ge (f : Int → Int) : ∀ (g : List Int) (m0 : Int) (t : Int), t ∈ g → f t ≤ hmax f g m0
  | t :: g, m0, t', h => by
    rw [hmax_cons]
    rcases List.mem_cons.1 h with rfl | h
    · refine Int.le_trans ?_ (hmax_ge0 f g _)
      split <;> omega
    · exact hmax_ge f g _ t' h
theorem hmax_mem (f : Int → Int) : ∀ (g : List Int) (m0 : Int), hmax f g m0 = m0 ∨ ∃ t ∈ g, hmax f g m0 = f t
  | [], m0 => .inl rfl
  | t :: g, m0 => by
    rw [hmax_cons]
    rcases hmax_mem f g (if f t > m0 then f t else m0) with h | ⟨u, hu, h⟩
    · rw [h]
      split
      · exact .inr ⟨t, List.mem_cons_self, rfl⟩
      · exact .inl rfl
    · exact .inr ⟨u, List.mem_cons_of_mem _ hu, h⟩
theorem hmax_congr {f g : Int → Int} : ∀ {l : List Int} {m0 : Int}, (∀ t ∈ l, f t = g t) → hmax f l m0 = hmax g l m0
  | [], m0, _ => rfl
  | t :: l, m0, h => by
    rw [hmax_cons, hmax_cons, h t List.mem_cons_self]
    exact hmax_congr fun u hu => h u (List.mem_cons_of_mem _ hu)

theorem findP_some {l : List NodeS} {id : Int} {x : NodeS} (h : findP l id = some x) : x ∈ l ∧ x.1 = id := by
  unfold findP at h
  exact ⟨List.mem_of_find?_eq_some h, by simpa using List.find?_some h⟩
theorem findP_of_mem {l : List NodeS} {x : NodeS} (h : x ∈ l) : (findP l x.1).isSome = true := by
  unfold findP
  rw [List.find?_isSome]
  exact ⟨x, h, by simp⟩

def OnOk (on : MapI) : Prop := ∀ k, gv on k = 0 ∨ gv on k = 1
def DnOk (l : List NodeS) (dn : MapI) : Prop := ∀ k, 0 ≤ gv dn k ∧ gv dn k ≤ cnt l dn ∧ (0 < gv dn k → (findP l k).isSome = true)
def Grow (dn dn' : MapI) : Prop := ∀ k, 0 < gv dn k → gv dn' k = gv dn k
def Good (l : List NodeS) (dn : MapI) : Prop := ∀ k, 0 < gv dn k → ∃ x, findP l k = some x ∧ gv dn k = 1 + hmax (gv dn) (goesP x) 0 ∧ ∀ t ∈ goesP x, (findP l t).isSome = true → 0 < gv dn t
def IsRank (l : List NodeS) (rank : Int → Nat) : Prop := ∀ k x, findP l k = some x → ∀ t ∈ goesP x, (findP l t).isSome = true → rank t < rank k

theorem Grow.refl (dn : MapI) : Grow dn dn := fun _ _ => rfl
theorem Grow.trans {a b c : MapI} (h : Grow a b) (k : Grow b c) : Grow a c := fun i hi => (k i (by rw [h i hi]; exact hi)).trans (h i hi)
theorem Grow.cnt {l : List NodeS} {a b : MapI} (h : Grow a b) : cnt l a ≤ cnt l b := by
  unfold Go.AMach.cnt
  refine List.countP_mono_left fun x _ hx => ?_
  simp only [decide_eq_true_eq] at hx ⊢
  rw [h _ hx]; exact hx
theorem cnt_le (l : List NodeS) (dn : MapI) : cnt l dn ≤ l.length := List.countP_le_length
theorem free_congr {l : List NodeS} {a b : MapI} (h : ∀ k, gv a k = gv b k) : free l a = free l b := by
  unfold free
  exact List.countP_congr fun x _ => by rw [h]

theorem countP_lt {α : Type} {p q : α → Bool} : ∀ {l : List α}, (∀ x ∈ l, p x = true → q x = true) → (∃ x ∈ l, q x = true ∧ p x = false) → l.countP p < l.countP q
  | [], _, h => by obtain ⟨x, hx, _⟩ := h; cases hx
  | y :: l, h1, h2 => by
    have hle : l.countP p ≤ l.countP q := List.countP_mono_left fun x hx => h1 x (List.mem_cons_of_mem _ hx)
    obtain ⟨x, hx, hq, hp⟩ := h2
    rcases List.mem_cons.1 hx with rfl | hx
    · rw [List.countP_cons_of_neg (by simp [hp]), List.countP_cons_of_pos hq]; omega
    · have ih := countP_lt (l := l) (fun x hx => h1 x (List.mem_cons_of_mem _ hx)) ⟨x, hx, hq, hp⟩
      have hy := h1 y List.mem_cons_self
      rw [List.countP_cons, List.countP_cons]
      cases hpy : p y
      · simp; split <;> omega
      · rw [hy hpy]; simp; exact ih

abbrev wres (r : Int) (l : List NodeS) (on : MapI) (w : Bool) (dn : MapI) : RS ro_graph_longest_walk rh_graph_longest_walk := ((r, ()), ((l, ()), (((), ()), (on, ((w, ()), (((), ()), (dn, (((), ()), ()))))))))

structure WalkPost (l : List NodeS) (id : Int) (on : MapI) (w : Bool) (dn : MapI) (r : Int) (on' : MapI) (w' : Bool) (dn' : MapI) : Prop where
  onS : ∀ k, gv on' k = gv on k
  dnOk : DnOk l dn'
  grow : Grow dn dn'
  keep : ∀ s, 0 < gv on s → gv dn' s = gv dn s
  r0 : 0 ≤ r
  r1 : r ≤ cnt l dn'
  wt : w' = true → w = true
  good : w' = true → Good l dn → Good l dn' ∧ r = gv dn' id ∧ ((findP l id).isSome = true → 0 < r)
  rank : ∀ rank, IsRank l rank → ((findP l id).isSome = true → ∀ s, 0 < gv on s → rank id < rank s) → w' = w

def WalkOk (l : List NodeS) (q : Int → List NodeS → MapI → Bool → MapI → Option (RS ro_graph_longest_walk rh_graph_longest_walk)) (F : Nat) : Prop :=
  ∀ id on w dn, free l on < F → OnOk on → DnOk l dn → ∃ r on' w' dn', q id l on w dn = some (wres r l on' w' dn') ∧ WalkPost l id on w dn r on' w' dn'

structure LoopPost (l : List NodeS) (g : List Int) (most : Int) (on : MapI) (w : Bool) (dn : MapI) (most' : Int) (on' : MapI) (w' : Bool) (dn' : MapI) : Prop where
  onS : ∀ k, gv on' k = gv on k
  dnOk : DnOk l dn'
  grow : Grow dn dn'
  keep : ∀ s, 0 < gv on s → gv dn' s = gv dn s
  m0 : most ≤ most'
  m1 : most ≤ cnt l dn → most' ≤ cnt l dn'
  wt : w' = true → w = true
  good : w' = true → Good l dn → Good l dn' ∧ most' = hmax (gv dn') g most ∧ (∀ t ∈ g, (findP l t).isSome = true → 0 < gv dn' t)
  rank : ∀ rank, IsRank l rank → (∀ t ∈ g, (findP l t).isSome = true → ∀ s, 0 < gv on s → rank t < rank s) → w' = w

theorem L_walk {l : List NodeS} {q : Int → List NodeS → MapI → Bool → MapI → Option (RS ro_graph_longest_walk rh_graph_longest_walk)} {F : Nat} (hq : WalkOk l q F) (k : Int → List NodeS → MapI → Bool → MapI → Option Res) (a : Int) (g : List Int) (hg : g.length < 9223372036854775807) :
    ∀ (m i : Nat) (most : Int) (on : MapI) (w : Bool) (dn : MapI), i ≤ g.length → g.length - i < m → free l on < F → OnOk on → DnOk l dn → 
    ∃ most' on' w' dn', L_graph_longest_walk_1 FUEL q k a g.length (g.length : Int) g m most (i : Int) l on w dn = k most' l on' w' dn' ∧ LoopPost l (g.drop i) most on w dn most' on' w' dn'
  | 0, _, _, _, _, _, _, h, _, _, _ => by omega
  | m + 1, i, most, on, w, dn, hi, hm, hf, ho, hd => by
    show ∃ most' on' w' dn', F_graph_longest_walk_1 FUEL q k a g.length (g.length : Int) g (L_graph_longest_walk_1 FUEL q k a g.length (g.length : Int) g m) most (i : Int) l on w dn = k most' l on' w' dn' ∧ _
    unfold F_graph_longest_walk_1
    by_cases h : i < g.length
    · simp only [cond_dec, toNat_cast]
      rw [if_pos (by omega), if_pos (by omega), drop_rdd (0 : Int) h, i64_succ (by omega)]
      generalize rdd (0 : Int) g i = t
      obtain ⟨r, on1, w1, dn1, hr, hp⟩ := hq t on w dn hf ho hd
      simp only [hr, RS.get, Option.getD_some, Option.isSome_some, cond_true]
      obtain ⟨most', on', w', dn', h1, h2⟩ := L_walk hq k a g hg m (i + 1) (if r > most then r else most) on1 w1 dn1 (by omega) (by omega) (by rw [free_congr hp.onS]; exact hf) (fun k => by rw [hp.onS]; exact ho k) hp.dnOk
      refine ⟨most', on', w', dn', h1, ?_⟩
      have hcnt : cnt l dn1 ≤ cnt l dn' := h2.grow.cnt
      exact {
        onS := fun k => (h2.onS k).trans (hp.onS k)
        dnOk := h2.dnOk
        grow := hp.grow.trans h2.grow
        keep := fun s hs => (h2.keep s (by rw [hp.onS]; exact hs)).trans (hp.keep s hs)
        m0 := by have := h2.m0; split at this <;> omega
        m1 := fun hm => h2.m1 (by
          have := hp.grow.cnt (l := l)
          have := hp.r1
          split <;> omega)
        wt := fun hw => hp.wt (h2.wt hw)
        good := fun hw hgd => by
          obtain ⟨g1, g2, g3⟩ := hp.good (h2.wt hw) hgd
          obtain ⟨k1, k2, k3⟩ := h2.good hw g1
          have hv : gv dn' t = r := by
            by_cases hft : (findP l t).isSome = true
            · have := g3 hft
              rw [g2] at this ⊢
              exact h2.grow t this
            · have e1 : ∀ d, DnOk l d → gv d t = 0 := fun d hd => by
                have := hd t
                have h3 := this.2.2
                by_cases hpos : 0 < gv d t
                · exact absurd (h3 hpos) hft
                · omega
              rw [e1 dn' h2.dnOk, g2, e1 dn1 hp.dnOk]
          refine ⟨k1, ?_, ?_⟩
          · rw [hmax_cons, hv]; exact k2
          · intro u hu hfu
            rcases List.mem_cons.1 hu with rfl | hu
            · rw [hv]; exact g3 hfu
            · exact k3 u hu hfu
        rank := fun rank hr hs => by
          rw [h2.rank rank hr fun u hu hfu s hs' => hs u (List.mem_cons_of_mem _ hu) hfu s (by rw [← hp.onS]; exact hs')]
          exact hp.rank rank hr fun hft s hs' => hs t List.mem_cons_self hft s hs' }
    · simp only [cond_dec]
      rw [if_neg (by omega), List.drop_of_length_le (by omega)]
      exact ⟨most, on, w, dn, rfl, ⟨fun _ => rfl, hd, Grow.refl _, fun _ _ => rfl, Int.le_refl _, fun h => h, fun h => h, fun _ hgd => ⟨hgd, rfl, fun t ht => by cases ht⟩, fun _ _ _ => rfl⟩⟩

theorem walk_ok (l : List NodeS) (hl : l.length ≤ 32) (ha : ∀ x ∈ l, (nArms x).length < 100000) : ∀ dp, WalkOk l (Qd_graph_longest_walk dp) dp
  | 0 => fun id on w dn hf => by omega
  | dp + 1 => fun id on w dn hf ho hd => by
    have ih := walk_ok l hl ha dp
    show ∃ r on' w' dn', decRes ro_graph_longest_walk rh_graph_longest_walk (M_graph_longest_walk FUEL (Qd_graph_longest_walk dp) id l on w dn) = some (wres r l on' w' dn') ∧ _
    unfold M_graph_longest_walk
    simp only [ok_graph_Find, q_graph_Find, Q_Find l id (by omega), RS.get, Option.getD_some, Option.isSome_some, cond_true]
    have hb0 : (0 : Int) ≤ cnt l dn := by omega
    cases hfd : findP l id with
    | none =>
      simp only [findV, Bool.not_false, cond_true]
      refine ⟨0, on, w, dn, fin rfl, ⟨fun _ => rfl, hd, Grow.refl _, fun _ _ => rfl, Int.le_refl _, hb0, fun h => h, fun _ hgd => ⟨hgd, ?_, fun h => (by rw [hfd] at h; cases h)⟩, fun _ _ _ => rfl⟩⟩
      have := hd id
      by_cases hp : 0 < gv dn id
      · have := this.2.2 hp; rw [hfd] at this; cases this
      · omega
    | some x =>
      obtain ⟨hxm, hxid⟩ := findP_some hfd
      simp only [findV, Bool.not_true, cond_false, cond_dec, ok_graph_goes, q_graph_goes, Q_goes x (ha x hxm), RS.get, Option.getD_some, Option.isSome_some, cond_true]
      rw [show (on id).getD 0 = gv on id from rfl, show (dn id).getD 0 = gv dn id from rfl]
      by_cases hon : gv on id > 0
      · rw [if_pos hon]
        refine ⟨0, on, false, dn, fin rfl, ⟨fun _ => rfl, hd, Grow.refl _, fun _ _ => rfl, Int.le_refl _, hb0, fun h => (by cases h), fun h => (by cases h), fun rank hr hs => ?_⟩⟩
        exact absurd (hs (by rw [hfd]; rfl) id hon) (by omega)
      rw [if_neg hon]
      have hon0 : gv on id = 0 := by rcases ho id with h | h <;> omega
      by_cases hdn : gv dn id > 0
      · rw [if_pos hdn]
        refine ⟨gv dn id, on, w, dn, fin rfl, ⟨fun _ => rfl, hd, Grow.refl _, fun _ _ => rfl, by omega, (hd id).2.1, fun h => h, fun _ hgd => ⟨hgd, rfl, fun _ => hdn⟩, fun _ _ _ => rfl⟩⟩
      rw [if_neg hdn]
      have hdn0 : gv dn id = 0 := by have := (hd id).1; omega
      -- the loop
      have hgl : (goesP x).length < 9223372036854775807 := by have := ha x hxm; simp [goesP]; omega
      rw [hon0, show IntKind.wrap .i64 ((0 : Int) + 1) = 1 from by rw [IntWalk.i64_in _ (by omega)]; rfl]
      have hon1 : ∀ k, gv (setM on id 1) k = if k = id then 1 else gv on k := gv_set on id 1
      have hfree : free l (setM on id 1) < free l on := by
        unfold free
        refine countP_lt (fun y _ hy => ?_) ⟨x, hxm, ?_, ?_⟩
        · simp only [decide_eq_true_eq] at hy ⊢
          rw [hon1] at hy
          split at hy
          · omega
          · exact hy
        · simp [hxid, hon0]
        · simp [hxid, hon1]
      obtain ⟨most, on1, w1, dn1, h1, hp⟩ := L_walk ih (fun y4 y5 y6 y7 y8 => some (encRes ro_graph_longest_walk rh_graph_longest_walk (((IntKind.wrap .i64 (y4 + (1 : Int))), ()), ((y5, ()), (((), ()), ((fun i => if i = id then some (IntKind.wrap .i64 ((Option.getD (y6 id) (0 : Int)) - (1 : Int))) else y6 i), ((y7, ()), (((), ()), ((fun i => if i = id then some (IntKind.wrap .i64 (y4 + (1 : Int))) else y8 i), (((), ()), ())))))))))) id (goesP x) hgl FUEL 0 0 (setM on id 1) w dn (by omega) (by unfold FUEL; omega) (by omega)
        (fun k => by rw [hon1]; split; exact .inr rfl; exact ho k) hd
      rw [List.drop_zero] at hp
      have hmost1 : most ≤ cnt l dn1 := hp.m1 (by omega)
      have hcl := cnt_le l dn1
      have hmost0 := hp.m0
      have hw1 : IntKind.wrap .i64 (most + 1) = most + 1 := IntWalk.i64_in _ (by omega)
      have hon2 : gv on1 id = 1 := by rw [hp.onS, hon1, if_pos rfl]
      have hdn1 : gv dn1 id = 0 := by rw [hp.keep id (by rw [hon1, if_pos rfl]; omega)]; exact hdn0
      refine ⟨most + 1, setM on1 id 0, w1, setM dn1 id (most + 1), ?_, ?_⟩
      · refine fin ?_
        refine Eq.trans h1 ?_
        have e1 : IntKind.wrap .i64 ((on1 id).getD 0 - 1) = 0 := by
          rw [show (on1 id).getD 0 = gv on1 id from rfl, hon2, IntWalk.i64_in _ (by omega)]; rfl
        rw [e1, hw1]
        rfl
      have hd2 : ∀ k, gv (setM dn1 id (most + 1)) k = if k = id then most + 1 else gv dn1 k := gv_set dn1 id (most + 1)
      have hcnt2 : cnt l dn1 < cnt l (setM dn1 id (most + 1)) := by
        unfold cnt
        refine countP_lt (fun y _ hy => ?_) ⟨x, hxm, ?_, ?_⟩
        · simp only [decide_eq_true_eq] at hy ⊢
          rw [hd2]
          split
          · omega
          · exact hy
        · simp [hxid, hd2]; omega
        · simp [hxid, hdn1]
      have hnot : w1 = true → Good l dn → ∀ y k, findP l k = some y → (0 < gv dn1 k ∨ k = id) → id ∉ goesP y := fun hw hgd y k hy hk hmem => by
        obtain ⟨k1, _, k3⟩ := hp.good hw hgd
        rcases hk with hk | rfl
        · obtain ⟨y', hy', _, h3⟩ := k1 k hk
          rw [hy] at hy'; cases hy'
          have := h3 id hmem (by rw [hfd]; rfl)
          omega
        · rw [hfd] at hy; cases hy
          have := k3 k hmem (by rw [hfd]; rfl)
          omega
      exact {
        onS := fun k => by
          rw [gv_set]
          by_cases hk : k = id
          · rw [if_pos hk, hk, hon0]
          · rw [if_neg hk, hp.onS, hon1, if_neg hk]
        dnOk := fun k => by
          rw [hd2]
          by_cases hk : k = id
          · rw [if_pos hk]
            exact ⟨by omega, by omega, fun _ => by rw [hk, hfd]; rfl⟩
          · rw [if_neg hk]
            have := hp.dnOk k
            exact ⟨this.1, by omega, this.2.2⟩
        grow := fun k hk => by
          have hk' : k ≠ id := fun e => by rw [e] at hk; omega
          rw [hd2, if_neg hk']; exact hp.grow k hk
        keep := fun s hs => by
          have hs' : s ≠ id := fun e => by rw [e] at hs; omega
          rw [hd2, if_neg hs']; exact hp.keep s (by rw [hon1, if_neg hs']; exact hs)
        r0 := by omega
        r1 := by omega
        wt := hp.wt
        good := fun hw hgd => by
          obtain ⟨k1, k2, k3⟩ := hp.good hw hgd
          refine ⟨fun k hk => ?_, by rw [hd2, if_pos rfl], fun _ => by omega⟩
          rw [hd2] at hk ⊢
          by_cases hki : k = id
          · subst hki
            rw [if_pos rfl]
            refine ⟨x, hfd, ?_, fun t ht hft => ?_⟩
            · have e := hmax_congr (f := gv (setM dn1 k (most + 1))) (g := gv dn1) (l := goesP x) (m0 := 0) fun t ht => by
                rw [hd2, if_neg (fun e : t = k => hnot hw hgd x k hfd (.inr rfl) (e ▸ ht))]
              omega
            · rw [hd2, if_neg (fun e : t = k => hnot hw hgd x k hfd (.inr rfl) (e ▸ ht))]
              exact k3 t ht hft
          · rw [if_neg hki] at hk ⊢
            obtain ⟨y, hy, h4, h5⟩ := k1 k hk
            refine ⟨y, hy, ?_, fun t ht hft => ?_⟩
            · have e := hmax_congr (f := gv (setM dn1 id (most + 1))) (g := gv dn1) (l := goesP y) (m0 := 0) fun t ht => by
                rw [hd2, if_neg (fun e : t = id => hnot hw hgd y k hy (.inl hk) (e ▸ ht))]
              omega
            · rw [hd2, if_neg (fun e : t = id => hnot hw hgd y k hy (.inl hk) (e ▸ ht))]
              exact h5 t ht hft
        rank := fun rank hr hs => hp.rank rank hr fun t ht hft s hs' => by
          have h6 := hr id x hfd t ht hft
          rw [hon1] at hs'
          by_cases hsi : s = id
          · rw [hsi]; exact h6
          · rw [if_neg hsi] at hs'
            exact Nat.lt_trans h6 (hs (by rw [hfd]; rfl) s hs') }
end Go.AMach
