/- Layer 15: May and Longest. -/
import Derived.Test.YtcakaagbhngkhaaPc

namespace Go.AMach
set_option linter.unusedVariables false
set_option linter.unusedSimpArgs false
set_option linter.unnecessarySimpa false
set_option linter.unusedVariables false
set_option linter.unusedSimpArgs false

abbrev lres (l : List NodeS) (on : MapI) (w : Bool) (dn : MapI) : RS ro_graph_longest rh_graph_longest := (((), (w, ())), ((l, ()), (((), ()), (on, ((w, ()), (((), ()), (dn, (((), ()), ()))))))))

structure AllPost (l r : List NodeS) (w : Bool) (dn : MapI) (on' : MapI) (w' : Bool) (dn' : MapI) : Prop where
  onS : ∀ k, gv on' k = 0
  dnOk : DnOk l dn'
  grow : Grow dn dn'
  wt : w' = true → w = true
  good : w' = true → Good l dn → Good l dn' ∧ ∀ x ∈ r, 0 < gv dn' x.1
  rank : ∀ rank, IsRank l rank → w' = w

theorem free_le (l : List NodeS) (on : MapI) : free l on ≤ l.length := List.countP_le_length

theorem L_longest (k : Bool → List NodeS → MapI → MapI → Option Res) (l : List NodeS) (hl : l.length ≤ 32) (ha : ∀ x ∈ l, (nArms x).length < 100000) : ∀ (m i : Nat) (w : Bool) (on dn : MapI), i ≤ l.length → l.length - i < m → (∀ k, gv on k = 0) → DnOk l dn →
    ∃ w' on' dn', L_graph_longest_0 FUEL k l (l.length : Int) m (i : Int) w l on dn = k w' l on' dn' ∧ AllPost l (l.drop i) w dn on' w' dn'
  | 0, _, _, _, _, _, h, _, _ => by omega
  | m + 1, i, w, on, dn, hi, hm, ho, hd => by
    show ∃ w' on' dn', F_graph_longest_0 FUEL k l (l.length : Int) (L_graph_longest_0 FUEL k l (l.length : Int) m) (i : Int) w l on dn = k w' l on' dn' ∧ _
    unfold F_graph_longest_0
    by_cases h : i < l.length
    · simp only [cond_dec, toNat_cast]
      have hxm := rdd_mem (d := zNodeS) h
      rw [if_pos (by omega), if_pos (by omega), drop_rdd zNodeS h, i64_succ (by omega)]
      generalize rdd zNodeS l i = x at *
      have hfr := free_le l on
      obtain ⟨r, on1, w1, dn1, hr, hp⟩ := walk_ok l hl ha FUEL x.1 on w dn (by unfold FUEL; omega) (fun k => .inl (ho k)) hd
      have hr' : Q_graph_longest_walk x.1 l on w dn = some (wres r l on1 w1 dn1) := hr
      simp only [ok_graph_longest_walk, q_graph_longest_walk, hr', RS.get, Option.getD_some, Option.isSome_some, cond_true]
      obtain ⟨w', on', dn', h1, h2⟩ := L_longest k l hl ha m (i + 1) w1 on1 dn1 (by omega) (by omega) (fun k => by rw [hp.onS]; exact ho k) hp.dnOk
      refine ⟨w', on', dn', h1, ⟨h2.onS, h2.dnOk, hp.grow.trans h2.grow, fun hw => hp.wt (h2.wt hw), fun hw hgd => ?_, fun rank hr => ?_⟩⟩
      · obtain ⟨g1, g2, g3⟩ := hp.good (h2.wt hw) hgd
        obtain ⟨k1, k2⟩ := h2.good hw g1
        refine ⟨k1, fun y hy => ?_⟩
        rcases List.mem_cons.1 hy with rfl | hy
        · have := g3 (findP_of_mem hxm)
          rw [g2] at this
          rw [h2.grow _ this]; exact this
        · exact k2 y hy
      · rw [h2.rank rank hr]
        exact hp.rank rank hr fun _ s hs => by rw [ho] at hs; omega
    · simp only [cond_dec]
      rw [if_neg (by omega), List.drop_of_length_le (by omega)]
      exact ⟨w, on, dn, rfl, ⟨ho, hd, Grow.refl _, fun h => h, fun _ hgd => ⟨hgd, fun x hx => by cases hx⟩, fun _ _ => rfl⟩⟩

theorem Q_longest (l : List NodeS) (hl : l.length ≤ 32) (ha : ∀ x ∈ l, (nArms x).length < 100000) :
    ∃ w on dn, Q_graph_longest l = some (lres l on w dn) ∧ (∀ k, gv on k = 0) ∧ DnOk l dn ∧ (w = true → Good l dn ∧ ∀ x ∈ l, 0 < gv dn x.1) ∧ (∀ rank, IsRank l rank → w = true) := by
  obtain ⟨w, on, dn, h1, h2⟩ := L_longest (fun y2 y3 y4 y5 => some (encRes ro_graph_longest rh_graph_longest (((), (y2, ())), ((y3, ()), (((), ()), (y4, ((y2, ()), (((), ()), (y5, (((), ()), ())))))))))) l hl ha FUEL 0 true (fun _ => none) (fun _ => none) (by omega) (by unfold FUEL; omega) (fun k => rfl) (fun k => ⟨Int.le_refl _, by show (0 : Int) ≤ _; omega, fun h => by cases h⟩)
  rw [List.drop_zero] at h2
  exact ⟨w, on, dn, fin h1, h2.onS, h2.dnOk, fun hw => h2.good hw (fun k hk => by cases hk), fun rank hr => h2.rank rank hr⟩

/-! ### Heights -/
/-- How many nodes a longest way from each ID on has. -/
structure Hgt (l : List NodeS) (h : Int → Int) : Prop where
  no : ∀ k, findP l k = none → h k = 0
  is : ∀ k x, findP l k = some x → h k = 1 + hmax h (goesP x) 0

theorem Hgt.nonneg {l : List NodeS} {h : Int → Int} (H : Hgt l h) (k : Int) : 0 ≤ h k := by
  cases hf : findP l k with
  | none => rw [H.no k hf]; omega
  | some x => rw [H.is k x hf]; have := hmax_ge0 h (goesP x) 0; omega
theorem Hgt.pos {l : List NodeS} {h : Int → Int} (H : Hgt l h) (k : Int) : 0 < h k ↔ (findP l k).isSome = true := by
  cases hf : findP l k with
  | none => rw [H.no k hf]; simp
  | some x => rw [H.is k x hf]; have := hmax_ge0 h (goesP x) 0; simp; omega
theorem Hgt.lt {l : List NodeS} {h : Int → Int} (H : Hgt l h) {k : Int} {x : NodeS} (hf : findP l k = some x) {t : Int} (ht : t ∈ goesP x) : h t < h k := by
  rw [H.is k x hf]; have := hmax_ge h (goesP x) 0 t ht; omega
theorem Hgt.rank {l : List NodeS} {h : Int → Int} (H : Hgt l h) : IsRank l fun k => (h k).toNat := fun k x hf t ht _ => by
  have := H.lt hf ht
  have := H.nonneg t
  show (h t).toNat < (h k).toNat
  omega
theorem Hgt.unique {l : List NodeS} {h h' : Int → Int} (H : Hgt l h) (H' : Hgt l h') : ∀ k, h k = h' k := by
  have key : ∀ (n : Nat) (k : Int), h k < n → h k = h' k := by
    intro n
    induction n with
    | zero => intro k hk; have := H.nonneg k; omega
    | succ n ih =>
      intro k hk
      cases hf : findP l k with
      | none => rw [H.no k hf, H'.no k hf]
      | some x =>
        rw [H.is k x hf, H'.is k x hf]
        congr 1
        exact hmax_congr fun t ht => ih t (by have := H.lt hf ht; omega)
  exact fun k => key ((h k).toNat + 1) k (by omega)
theorem Hgt.of_good {l : List NodeS} {dn : MapI} (hd : DnOk l dn) (hg : Good l dn) (ha : ∀ x ∈ l, 0 < gv dn x.1) : Hgt l (gv dn) where
  no k hf := by
    have := hd k
    by_cases hp : 0 < gv dn k
    · have := this.2.2 hp; rw [hf] at this; cases this
    · omega
  is k x hf := by
    obtain ⟨hx, rfl⟩ := findP_some hf
    obtain ⟨y, hy, h1, _⟩ := hg x.1 (ha x hx)
    rw [hf] at hy; cases hy
    exact h1

/-- May a graph be? -/
def mayP (l : List NodeS) : Prop := formsOk 0 l ∧ l.length ≤ 32 ∧ refsOk l ∧ ∃ h, Hgt l h

theorem longest_whole {l : List NodeS} (hl : l.length ≤ 32) (ha : ∀ x ∈ l, (nArms x).length < 100000) : ∃ w on dn, Q_graph_longest l = some (lres l on w dn) ∧ (∀ k, gv on k = 0) ∧ DnOk l dn ∧ (w = true → Good l dn ∧ ∀ x ∈ l, 0 < gv dn x.1) ∧ (w = true ↔ ∃ h, Hgt l h) := by
  obtain ⟨w, on, dn, h1, h2, h3, h4, h5⟩ := Q_longest l hl ha
  exact ⟨w, on, dn, h1, h2, h3, h4, fun hw => ⟨gv dn, Hgt.of_good h3 (h4 hw).1 (h4 hw).2⟩, fun ⟨h, H⟩ => h5 _ H.rank⟩

open Classical in
noncomputable def mayN (l : List NodeS) : Int := if ¬ formsOk 0 l then 3 else if ¬ l.length ≤ 32 then 12 else if ¬ refsOk l then 8 else if ¬ ∃ h, Hgt l h then 10 else 0

theorem mayN_zero {l : List NodeS} : mayN l = 0 ↔ mayP l := by
  unfold mayN mayP
  by_cases h1 : formsOk 0 l
  · by_cases h2 : l.length ≤ 32
    · by_cases h3 : refsOk l
      · by_cases h4 : ∃ h, Hgt l h
        · rw [if_neg (by simp [h1]), if_neg (by simp [h2]), if_neg (by simp [h3]), if_neg (by simp [h4])]
          exact ⟨fun _ => ⟨h1, h2, h3, h4⟩, fun _ => rfl⟩
        · rw [if_neg (by simp [h1]), if_neg (by simp [h2]), if_neg (by simp [h3]), if_pos h4]
          exact ⟨fun h => by omega, fun h => absurd h.2.2.2 h4⟩
      · rw [if_neg (by simp [h1]), if_neg (by simp [h2]), if_pos h3]
        exact ⟨fun h => by omega, fun h => absurd h.2.2.1 h3⟩
    · rw [if_neg (by simp [h1]), if_pos h2]
      exact ⟨fun h => by omega, fun h => absurd h.2.1 h2⟩
  · rw [if_pos h1]
    exact ⟨fun h => by omega, fun h => absurd h.1 h1⟩

/-- What is asked of what comes in. -/
structure Nodes (l : List NodeS) : Prop where
  len : l.length < 9223372036854775807
  arms : ∀ x ∈ l, (nArms x).length < 100000
  g : ∀ x ∈ l, nodeG x

theorem Q_May (l : List NodeS) (hl : Nodes l) : Q_graph_May l = some ((mayN l, ()), ()) := by
  refine fin ?_
  unfold M_graph_May mayN
  simp only [ok_graph_form, q_graph_form, Q_form l hl.len hl.g, ok_graph_refs, q_graph_refs, Q_refs l hl.len hl.arms, RS.get, Option.getD_some, Option.isSome_some, cond_true]
  by_cases h1 : formsOk 0 l
  · rw [decide_eq_true h1, Bool.not_true, cond_false, if_neg (by simp [h1])]
    by_cases h2 : l.length ≤ 32
    · rw [cond_dec, if_neg (by omega), if_neg (by simp [h2])]
      by_cases h3 : refsOk l
      · rw [decide_eq_true h3, Bool.not_true, cond_false, if_neg (by simp [h3])]
        obtain ⟨w, on, dn, g1, g2, g3, g4, g5⟩ := longest_whole h2 hl.arms
        simp only [ok_graph_longest, q_graph_longest, g1, RS.get, Option.getD_some, Option.isSome_some, cond_true]
        cases w with
        | true => rw [Bool.not_true, cond_false, if_neg (by simp only [Classical.not_not]; exact g5.1 rfl)]
        | false => rw [Bool.not_false, cond_true, if_pos (fun h => by have := g5.2 h; cases this)]
      · rw [decide_eq_false h3, Bool.not_false, cond_true, if_pos h3]
    · rw [cond_dec, if_pos (by omega), if_pos h2]
  · rw [decide_eq_false h1, Bool.not_false, cond_true, if_pos h1]

theorem Q_Longest_no (l : List NodeS) (hl : Nodes l) (h : ¬ mayP l) : Q_graph_Longest l = some ((0, ()), ()) := by
  refine fin ?_
  unfold M_graph_Longest
  simp only [ok_graph_May, q_graph_May, Q_May l hl, RS.get, Option.getD_some, Option.isSome_some, cond_true, int_bne]
  have : ¬ mayN l = 0 := fun e => h (mayN_zero.1 e)
  rw [decide_eq_false this]
  rfl

theorem Hgt.le {l : List NodeS} {h : Int → Int} (hl : l.length ≤ 32) (ha : ∀ x ∈ l, (nArms x).length < 100000) (H : Hgt l h) (k : Int) : h k ≤ l.length := by
  obtain ⟨w, on, dn, g1, g2, g3, g4, g5⟩ := longest_whole hl ha
  have hw := g5.2 ⟨h, H⟩
  have H2 := Hgt.of_good g3 (g4 hw).1 (g4 hw).2
  rw [H.unique H2 k]
  have := (g3 k).2.1
  have := cnt_le l dn
  omega

theorem Q_Longest (l : List NodeS) (hl : Nodes l) (h : mayP l) {hg : Int → Int} (H : Hgt l hg) : Q_graph_Longest l = some ((hg 1, ()), ()) := by
  refine fin ?_
  unfold M_graph_Longest
  simp only [ok_graph_May, q_graph_May, Q_May l hl, RS.get, Option.getD_some, Option.isSome_some, cond_true, int_bne]
  rw [decide_eq_true (mayN_zero.2 h), Bool.not_true, cond_false]
  obtain ⟨w, on, dn, g1, g2, g3, g4, g5⟩ := longest_whole h.2.1 hl.arms
  have hw := g5.2 h.2.2.2
  have H2 := Hgt.of_good g3 (g4 hw).1 (g4 hw).2
  simp only [ok_graph_longest, q_graph_longest, g1, RS.get, Option.getD_some, Option.isSome_some, cond_true]
  have hfr := free_le l on
  have h32 := h.2.1
  obtain ⟨r, on1, w1, dn1, hr, hp⟩ := walk_ok l h.2.1 hl.arms FUEL 1 on w dn (by unfold FUEL; omega) (fun k => .inl (g2 k)) g3
  have hr' : Q_graph_longest_walk 1 l on w dn = some (wres r l on1 w1 dn1) := hr
  simp only [ok_graph_longest_walk, q_graph_longest_walk, hr', RS.get, Option.getD_some, Option.isSome_some, cond_true]
  have hw1 : w1 = true := by rw [hp.rank _ H2.rank (fun _ s hs => by rw [g2] at hs; omega)]; exact hw
  obtain ⟨k1, k2, k3⟩ := hp.good hw1 (g4 hw).1
  have : r = hg 1 := by
    rw [H.unique H2 1, k2]
    by_cases hpos : 0 < gv dn 1
    · exact hp.grow 1 hpos
    · have h0 := (g3 1).1
      have hn : ¬ (findP l 1).isSome = true := fun h => hpos ((H2.pos 1).2 h)
      have := hp.dnOk 1
      by_cases hp1 : 0 < gv dn1 1
      · exact absurd (this.2.2 hp1) hn
      · omega
  rw [this]
end Go.AMach
