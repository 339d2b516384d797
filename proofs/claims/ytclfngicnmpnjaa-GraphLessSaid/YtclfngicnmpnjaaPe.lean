/- Layer 15: ways; GraphEnds; GraphRing. -/
import Derived.Test.YtclfngicnmpnjaaPd
namespace Go.AMach
set_option linter.unusedVariables false
set_option linter.unusedSimpArgs false
set_option linter.unnecessarySimpa false
set_option linter.unusedVariables false
set_option linter.unusedSimpArgs false

theorem find_lt {l : List NodeS} (hm : mayP l) {h : Int → Int} (H : Hgt l h) {k : Int} {x : NodeS} (hf : findP l k = some x) {t : Int} (ht : t ∈ goesP x) : h t < h k ∧ (findP l t ≠ none ∨ t = 0 ∨ t = 65535) := by
  refine ⟨H.lt hf ht, ?_⟩
  have := hm.2.2.1 x (findP_some hf).1 t ht
  unfold refOk at this
  simp only [Bool.or_eq_true, decide_eq_true_eq] at this
  rcases this with (h | h) | h
  · left; intro e; rw [e] at h; cases h
  · exact .inr (.inl h)
  · exact .inr (.inr h)
theorem formsOk_mem : ∀ {p : Int} {l : List NodeS}, formsOk p l → ∀ x ∈ l, formP x ∧ p < x.1
  | p, y :: r, h, x, hx => by
    obtain ⟨h1, h2, h3⟩ := h
    rcases List.mem_cons.1 hx with rfl | hx
    · exact ⟨h1, h2⟩
    · have := formsOk_mem h3 x hx
      exact ⟨this.1, by omega⟩
theorem id_range {l : List NodeS} (hm : formsOk 0 l) {k : Int} {x : NodeS} (hf : findP l k = some x) : 1 ≤ k ∧ k ≤ 65534 := by
  obtain ⟨hx, rfl⟩ := findP_some hf
  have := (formsOk_mem hm x hx).1.1
  unfold formL at this
  exact ⟨this.1, this.2.1⟩

/-! ### Next -/
theorem L_Next (kr : Int → Option Res) (kt : Unit → Option Res) (v : Int) (l : List ArmS) (z : NodeS) (hl : l.length < 9223372036854775807) : ∀ (m i : Nat), i ≤ l.length → l.length - i < m →
    (∃ a ∈ l, L_graph_Next_0 FUEL kr kt v l (l.length : Int) z m (i : Int) = kr a.2.1) ∨ L_graph_Next_0 FUEL kr kt v l (l.length : Int) z m (i : Int) = kt ()
  | 0, _, _, h => by omega
  | m + 1, i, hi, hm => by
    show (∃ a ∈ l, F_graph_Next_0 FUEL kr kt v l (l.length : Int) z (L_graph_Next_0 FUEL kr kt v l (l.length : Int) z m) (i : Int) = kr a.2.1) ∨ F_graph_Next_0 FUEL kr kt v l (l.length : Int) z (L_graph_Next_0 FUEL kr kt v l (l.length : Int) z m) (i : Int) = kt ()
    unfold F_graph_Next_0
    simp only [cond_dec, int_beq, toNat_cast]
    by_cases h : i < l.length
    · rw [if_pos (by omega), if_pos (by omega), i64_succ (by omega)]
      by_cases he : (rdd zArmS l i).1 = v
      · rw [if_pos he]; exact .inl ⟨_, rdd_mem h, rfl⟩
      · rw [if_neg he]; exact L_Next kr kt v l z hl m (i + 1) (by omega) (by omega)
    · rw [if_neg (by omega)]; exact .inr rfl

theorem Q_Next (l : List NodeS) (hl : Nodes l) {id : Int} {x : NodeS} (hf : findP l id = some x) (v : Int) : ∃ t ∈ goesP x, Q_graph_Next l id v = some ((t, ()), ()) := by
  have hlen := hl.len
  have harm := hl.arms x (findP_some hf).1
  unfold Q_graph_Next M_graph_Next
  simp only [ok_graph_Find, q_graph_Find, Q_Find l id (by omega), RS.get, Option.getD_some, Option.isSome_some, cond_true, hf, findV]
  rcases L_Next (fun y2 => some (encRes ro_graph_Next rh_graph_Next ((y2, ()), ()))) (fun _ => some (encRes ro_graph_Next rh_graph_Next ((x.2.2.2.2.2.2.2.2.1, ()), ()))) v (nArms x) x (by omega) FUEL 0 (by omega) (by unfold FUEL; omega) with ⟨a, ha, h⟩ | h
  · exact ⟨a.2.1, List.mem_cons_of_mem _ (List.mem_map.2 ⟨a, ha, rfl⟩), fin h⟩
  · exact ⟨nOther x, List.mem_cons_self, fin h⟩

/-! ### Ways -/
theorem L_way2 (kr : Int → Option Res) (kt : Unit → Option Res) (l : List NodeS) (ps : List Int) (at_ n : Int) (seen : List Int) (z : NodeS) (hs : seen.length < 9223372036854775807) (hn : at_ ∉ seen) : ∀ (m i : Nat), i ≤ seen.length → seen.length - i < m →
    L_turnoutlaw15_way_2 FUEL kr kt l ps seen.length at_ n seen z m (i : Int) = kt ()
  | 0, _, _, h => by omega
  | m + 1, i, hi, hm => by
    show F_turnoutlaw15_way_2 FUEL kr kt l ps seen.length at_ n seen z (L_turnoutlaw15_way_2 FUEL kr kt l ps seen.length at_ n seen z m) (i : Int) = kt ()
    unfold F_turnoutlaw15_way_2
    simp only [cond_dec, int_beq, toNat_cast]
    by_cases h : i < seen.length
    · rw [if_pos (by omega), if_pos (by omega), i64_succ (by omega)]
      have := rdd_mem (d := (0 : Int)) h
      rw [if_neg (fun e : rdd 0 seen i = at_ => hn (e ▸ this))]
      exact L_way2 kr kt l ps at_ n seen z hs hn m (i + 1) (by omega) (by omega)
    · rw [if_neg (by omega)]

theorem pick_ok {p : Int} {g : List Int} (hp : 0 ≤ p ∧ p ≤ 255) (hg : 0 < g.length) (hg2 : g.length < 9223372036854775807) :
    (0 : Int) ≤ Int.tmod p (g.length : Int) ∧ Int.tmod p (g.length : Int) < (g.length : Int) ∧ rdd (0 : Int) g (Int.toNat (Int.tmod p (g.length : Int))) ∈ g := by
  have h1 := Int.tmod_nonneg (g.length : Int) hp.1
  have h2 := Int.tmod_lt_of_pos p (show (0 : Int) < (g.length : Int) by omega)
  exact ⟨h1, h2, rdd_mem (by omega)⟩

theorem L_way (kr : Int → Int → Option Res) (kt : Int → Option Res) (l : List NodeS) (hl : Nodes l) (hm : mayP l) {h : Int → Int} (H : Hgt l h) (ps : List Int) (hps : ∀ p ∈ ps, 0 ≤ p ∧ p ≤ 255) (hpl : ps.length ≤ 100) :
    ∀ (m : Nat) (at_ : Int) (seen : List Int), (∀ s ∈ seen, h at_ < h s) → seen.length + h at_ ≤ l.length → (findP l at_ ≠ none ∨ at_ = 0 ∨ at_ = 65535 ∨ at_ = 1) → (h at_).toNat < m →
    ∃ n a, L_turnoutlaw15_way_0 FUEL kr kt l ps m seen.length at_ (seen.length : Int) seen = kr n a ∧ 0 ≤ n ∧ n ≤ seen.length + h at_ ∧ (a = 0 ∨ a = 65535 ∨ a = 1)
  | 0, _, _, _, _, _, h => by omega
  | m + 1, at_, seen, hs, hn, hat, hf => by
    show ∃ n a, F_turnoutlaw15_way_0 FUEL kr kt l ps (L_turnoutlaw15_way_0 FUEL kr kt l ps m) seen.length at_ (seen.length : Int) seen = kr n a ∧ _
    have h0 := H.nonneg at_
    have h32 := hm.2.1
    unfold F_turnoutlaw15_way_0
    simp only [ok_graph_Find, q_graph_Find, Q_Find l _ hl.len, RS.get, Option.getD_some, Option.isSome_some, cond_true, cutL_all]
    rw [cond_dec, if_pos (by omega)]
    cases hfd : findP l at_ with
    | none =>
      simp only [findV, Bool.not_false, cond_true]
      refine ⟨_, _, rfl, by omega, by omega, ?_⟩
      rcases hat with h | h | h | h
      · exact absurd hfd h
      · exact .inl h
      · exact .inr (.inl h)
      · exact .inr (.inr h)
    | some x =>
      simp only [findV, Bool.not_true, cond_false]
      have hxm := (findP_some hfd).1
      have harm := hl.arms x hxm
      have hgl : (goesR x).length < 9223372036854775807 := by simp [goesR]; omega
      have hg0 : 0 < (goesR x).length := by simp [goesR]
      have hnot : at_ ∉ seen := fun hmem => by have := hs _ hmem; omega
      have go : ∀ t, t ∈ goesR x → ∃ n a, L_turnoutlaw15_way_0 FUEL kr kt l ps m (seen ++ [at_]).length t ((seen.length + 1 : Nat) : Int) (seen ++ [at_]) = kr n a ∧ 0 ≤ n ∧ n ≤ seen.length + h at_ ∧ (a = 0 ∨ a = 65535 ∨ a = 1) := fun t ht => by
        obtain ⟨h1, h2⟩ := find_lt hm H hfd (mem_goesR.1 ht)
        have ht0 := H.nonneg t
        obtain ⟨n, a, e1, e2, e3, e4⟩ := L_way kr kt l hl hm H ps hps hpl m t (seen ++ [at_]) (fun s hs' => by
          rcases List.mem_append.1 hs' with h' | h'
          · have := hs s h'; omega
          · simp at h'; subst h'; exact h1) (by simp; omega) (by rcases h2 with h | h | h; exact .inl h; exact .inr (.inl h); exact .inr (.inr (.inl h))) (by omega)
        refine ⟨n, a, ?_, e2, by simp at e3; omega, e4⟩
        rw [← e1]; simp
      have hgo := Q_refGoes x harm
      have e2 := fun k1 k2 z => L_way2 k1 k2 l ps at_ (seen.length : Int) seen z (by omega) hnot FUEL 0 (by omega) (by unfold FUEL; omega)
      simp only [Int.natCast_zero] at e2
      rw [e2]
      simp only [ok_turnoutref15_Goes, q_turnoutref15_Goes, hgo, RS.get, Option.getD_some, Option.isSome_some, cond_true]
      rw [cond_dec, if_pos (by omega), cond_dec]
      simp only [List.length_append, List.length_cons, List.length_nil] at go
      by_cases hp : (seen.length : Int) < (ps.length : Int)
      · rw [if_pos hp, cond_dec, if_pos (by omega)]
        simp only [toNat_cast]
        have hpm := hps (rdd 0 ps seen.length) (rdd_mem (by omega))
        rw [IntWalk.i64_in _ (by omega)]
        obtain ⟨p1, p2, p3⟩ := pick_ok hpm hg0 hgl
        rw [int_bne, decide_eq_false (by omega), Bool.not_false, cond_true, cond_dec, if_pos ⟨p1, p2⟩, i64_succ (by omega)]
        exact go _ p3
      · rw [if_neg hp]
        obtain ⟨p1, p2, p3⟩ := pick_ok (p := 0) (g := goesR x) (by omega) hg0 hgl
        rw [int_bne, decide_eq_false (by omega), Bool.not_false, cond_true, cond_dec, if_pos ⟨p1, p2⟩, i64_succ (by omega)]
        exact go _ p3

theorem Q_way (l : List NodeS) (hl : Nodes l) (hm : mayP l) {h : Int → Int} (H : Hgt l h) (ps : List Int) (hps : ∀ p ∈ ps, 0 ≤ p ∧ p ≤ 255) (hpl : ps.length ≤ 100) :
    ∃ (n a : Int), Q_turnoutlaw15_way l ps = some ((n, (a, ())), ()) ∧ 0 ≤ n ∧ n ≤ h 1 ∧ (a = 0 ∨ a = 65535 ∨ a = 1) := by
  have hle := H.le hm.2.1 hl.arms 1
  obtain ⟨n, a, e1, e2, e3, e4⟩ := L_way (fun y5 y6 => some (encRes ro_turnoutlaw15_way rh_turnoutlaw15_way ((y5, (y6, ())), ()))) (fun y7 => some (encRes ro_turnoutlaw15_way rh_turnoutlaw15_way (((-1 : Int), (y7, ())), ()))) l hl hm H ps hps hpl FUEL 1 [] (fun s hs => by cases hs) (by simpa using hle) (.inr (.inr (.inr rfl))) (by have := hm.2.1; unfold FUEL; omega)
  exact ⟨n, a, fin e1, e2, by simpa using e3, e4⟩

/-! ### What comes in -/
theorem good_nodes {l : List NodeS} (h : (Ty.slice NodeT).good l) (ha : ∀ x ∈ l, armsN x < 1500) : Nodes l where
  len := by
    have h1 := h.1
    have : NodeT.minb = 88 := rfl
    rw [this] at h1
    omega
  arms x hx := by have := ha x hx; unfold armsN at this; unfold nArms; omega
  g x hx := good_node (h.2 x hx)
theorem good_len {l : List NodeS} (h : (Ty.slice NodeT).good l) : l.length < 9223372036854775807 := by
  have h1 := h.1
  have : NodeT.minb = 88 := rfl
  rw [this] at h1
  omega
theorem good_u8 {l : List Int} (h : (Ty.slice (.int .u8)).good l) : ∀ p ∈ l, 0 ≤ p ∧ p ≤ 255 := fun p hp => wf_u8 (h.2 p hp)

/-! ### GraphEnds -/
theorem L_Ends2 (k : Int → Option Res) (l : List NodeS) (hl : Nodes l) (hm : mayP l) {h : Int → Int} (H : Hgt l h) (vs : List Int) (hv : vs.length ≤ 100) (i0 : Int) : ∀ (m i : Nat) (at_ : Int), i ≤ l.length → l.length - i < m → i + h at_ ≤ l.length → (findP l at_ ≠ none ∨ at_ = 0 ∨ at_ = 65535) →
    ∃ a, L_turnoutlaw15_GraphEnds_2 FUEL k l vs i0 m at_ (i : Int) = k a ∧ (a = 0 ∨ a = 65535)
  | 0, _, _, _, h, _, _ => by omega
  | m + 1, i, at_, hi, hmm, hh, hat => by
    show ∃ a, F_turnoutlaw15_GraphEnds_2 FUEL k l vs i0 (L_turnoutlaw15_GraphEnds_2 FUEL k l vs i0 m) at_ (i : Int) = k a ∧ _
    have h32 := hm.2.1
    unfold F_turnoutlaw15_GraphEnds_2
    simp only [cond_dec, int_bne, Bool.cond_not, toNat_cast]
    by_cases hil : i < l.length
    · rw [if_pos (by omega)]
      by_cases h0 : at_ = 0
      · rw [if_pos h0]; exact ⟨_, rfl, .inl h0⟩
      rw [if_neg h0]
      by_cases h1 : at_ = 65535
      · rw [if_pos h1]; exact ⟨_, rfl, .inr h1⟩
      rw [if_neg h1]
      have hfd : findP l at_ ≠ none := by rcases hat with h | h | h; exact h; exact absurd h h0; exact absurd h h1
      obtain ⟨x, hx⟩ := Option.ne_none_iff_exists'.1 hfd
      have step : ∀ v, ∃ t, Q_graph_Next l at_ v = some ((t, ()), ()) ∧ ∃ a, L_turnoutlaw15_GraphEnds_2 FUEL k l vs i0 m t ((i + 1 : Nat) : Int) = k a ∧ (a = 0 ∨ a = 65535) := fun v => by
        obtain ⟨t, ht, hq⟩ := Q_Next l hl hx v
        obtain ⟨g1, g2⟩ := find_lt hm H hx ht
        exact ⟨t, hq, L_Ends2 k l hl hm H vs hv i0 m (i + 1) t (by omega) (by omega) (by omega) g2⟩
      rw [i64_succ (by omega)]
      by_cases hv2 : (i : Int) < (vs.length : Int)
      · rw [if_pos hv2, if_pos (by omega)]
        obtain ⟨t, hq, hr⟩ := step (rdd 0 vs i)
        simp only [ok_graph_Next, q_graph_Next, hq, RS.get, Option.getD_some, Option.isSome_some, cond_true]
        exact hr
      · rw [if_neg hv2]
        obtain ⟨t, hq, hr⟩ := step 0
        simp only [ok_graph_Next, q_graph_Next, hq, RS.get, Option.getD_some, Option.isSome_some, cond_true]
        exact hr
    · rw [if_neg (by omega)]
      refine ⟨_, rfl, ?_⟩
      have h0 := H.nonneg at_
      rcases hat with h | h | h
      · obtain ⟨x, hx⟩ := Option.ne_none_iff_exists'.1 h
        have := (H.pos at_).2 (by rw [hx]; rfl)
        omega
      · exact .inl h
      · exact .inr h

theorem L_Ends (kr : Bool → Option Res) (kt : Unit → Option Res) (l : List NodeS) (hl : Nodes l) (hm : mayP l) {h : Int → Int} (H : Hgt l h) (vs : List Int) (hv : vs.length ≤ 100) : ∀ (m i : Nat), i ≤ l.length → l.length - i < m →
    L_turnoutlaw15_GraphEnds_0 FUEL kr kt l vs m (i : Int) = kt ()
  | 0, _, _, h => by omega
  | m + 1, i, hi, hmm => by
    show F_turnoutlaw15_GraphEnds_0 FUEL kr kt l vs (L_turnoutlaw15_GraphEnds_0 FUEL kr kt l vs m) (i : Int) = kt ()
    have h32 := hm.2.1
    unfold F_turnoutlaw15_GraphEnds_0
    simp only [cond_dec, int_bne, Bool.cond_not, toNat_cast]
    by_cases hil : i < l.length
    · rw [if_pos (by omega), if_pos (by omega), i64_succ (by omega), L_Ends kr kt l hl hm H vs hv m (i + 1) (by omega) (by omega)]
      have hx := rdd_mem (d := zNodeS) hil
      have hfd := findP_of_mem hx
      obtain ⟨a, e1, e2⟩ := L_Ends2 (fun y11 => if y11 = 0 then kt () else if y11 = 65535 then kt () else kr false) l hl hm H vs hv (i : Int) FUEL 0 (rdd zNodeS l i).1 (by omega) (by unfold FUEL; omega) (by have := H.le h32 hl.arms (rdd zNodeS l i).1; omega) (.inl (fun e => by rw [e] at hfd; cases hfd))
      refine Eq.trans e1 ?_
      rcases e2 with rfl | rfl
      · simp
      · simp
    · rw [if_neg (by omega)]

theorem Pure.GraphEnds (l : List NodeS) (h : (Ty.slice NodeT).good l) (ps : List Int) (hp : (Ty.slice (.int .u8)).good ps) (vs : List Int) (hv : (Ty.slice (.int .u32)).good vs) : Q_turnoutlaw15_GraphEnds l ps vs = some ((true, ()), ()) := by
  refine fin ?_
  obtain ⟨b, hb, hlong⟩ := Q_Long l (good_len h)
  unfold M_turnoutlaw15_GraphEnds
  simp only [ok_turnoutlaw15_Long, q_turnoutlaw15_Long, hb, ok_turnoutlaw15_awake, q_turnoutlaw15_awake, Q_awake, RS.get, Option.getD_some, Option.isSome_some, cond_true]
  cases b with
  | true => rfl
  | false =>
  obtain ⟨hl1, hl2⟩ := hlong rfl
  have hl := good_nodes h hl2
  simp only [cond_false, cond_dec, Bool.not_true, ok_graph_May, q_graph_May, Q_May l hl, RS.get, Option.getD_some, Option.isSome_some, cond_true, int_bne, Bool.cond_not]
  refine ite_eq (fun _ => rfl) fun hpl => ite_eq (fun _ => rfl) fun hvl => ite_eq (fun hmay => ?_) fun _ => rfl
  have hm := mayN_zero.1 hmay
  obtain ⟨hg, H⟩ := hm.2.2.2
  obtain ⟨n, a, e1, e2, e3, e4⟩ := Q_way l hl hm H ps (good_u8 hp) (by omega)
  simp only [ok_turnoutlaw15_way, q_turnoutlaw15_way, e1, RS.get, Option.getD_some, Option.isSome_some, cond_true]
  have e := fun kr kt => L_Ends kr kt l hl hm H vs (by omega) FUEL 0 (by omega) (by unfold FUEL; omega)
  simp only [Int.natCast_zero] at e
  rw [if_neg (by omega), e]
  rcases e4 with rfl | rfl | rfl <;> rfl
end Go.AMach
