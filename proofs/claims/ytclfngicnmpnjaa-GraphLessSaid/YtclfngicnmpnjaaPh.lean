/- Layer 15: 'from' is the height; GraphLongest; GraphLess. -/
import Derived.Test.YtclfngicnmpnjaaPg
namespace Go.AMach
set_option linter.unusedVariables false
set_option linter.unusedSimpArgs false
set_option linter.unnecessarySimpa false
set_option linter.unusedVariables false
set_option linter.unusedSimpArgs false

theorem fromL_cons (id : Int) (x : NodeS) (l out : List NodeS) : fromL id (x :: l) out = fromL id l (insN (turnN id x) out) := rfl
theorem fromL_len (id : Int) : ∀ (l out : List NodeS), (fromL id l out).length = out.length + l.length
  | [], out => rfl
  | x :: l, out => by rw [fromL_cons, fromL_len id l, insN_len]; simp; omega
theorem fromL_mem (id : Int) {y : NodeS} : ∀ {l out : List NodeS}, y ∈ fromL id l out ↔ y ∈ out ∨ ∃ x ∈ l, y = turnN id x
  | [], out => by simp [fromL]
  | x :: l, out => by
    rw [fromL_cons, fromL_mem id (l := l), insN_mem]
    simp only [List.mem_cons, exists_eq_or_imp]
    constructor
    · rintro ((h | h) | h)
      · exact .inr (.inl h)
      · exact .inl h
      · exact .inr (.inr h)
    · rintro (h | h | h)
      · exact .inl (.inr h)
      · exact .inl (.inl h)
      · exact .inr h
theorem fromL_forms (id : Int) : ∀ {l out : List NodeS} {p : Int}, formsOk p l → formsOk 0 out → (∀ y ∈ out, ∃ k, k ≤ p ∧ y.1 = turn id k) → (∀ x ∈ l, formP (turnN id x) ∧ 0 < turn id x.1) → formsOk 0 (fromL id l out)
  | [], out, p, _, ho, _, _ => ho
  | x :: l, out, p, ⟨h1, h2, h3⟩, ho, hk, hf => by
    rw [fromL_cons]
    refine fromL_forms id h3 (insN_forms (hf x List.mem_cons_self).1 ho (hf x List.mem_cons_self).2 fun y hy he => ?_) (fun y hy => ?_) fun z hz => hf z (List.mem_cons_of_mem _ hz)
    · obtain ⟨k, hk1, hk2⟩ := hk y hy
      have : turn id k = turn id x.1 := hk2.symm.trans he
      have := turn_inj this
      omega
    · rcases insN_mem.1 hy with rfl | hy
      · exact ⟨x.1, Int.le_refl _, rfl⟩
      · obtain ⟨k, hk1, hk2⟩ := hk y hy
        exact ⟨k, by omega, hk2⟩

theorem findP_self : ∀ {l : List NodeS} {p : Int}, formsOk p l → ∀ x ∈ l, findP l x.1 = some x
  | y :: r, p, ⟨h1, h2, h3⟩, x, hx => by
    unfold findP
    rw [List.find?_cons]
    rcases List.mem_cons.1 hx with rfl | hx
    · simp
    · have := (formsOk_mem h3 x hx).2
      rw [decide_eq_false (by omega)]
      exact findP_self h3 x hx
theorem findP_none {l : List NodeS} {k : Int} : findP l k = none ↔ ∀ x ∈ l, x.1 ≠ k := by
  unfold findP; simp

theorem goes_turn (id : Int) (x : NodeS) : goesP (turnN id x) = (goesP x).map (turn id) := by
  simp [goesP, turnN, nOther, nArms, turnA]
theorem hmax_map (f : Int → Int) (t : Int → Int) : ∀ (g : List Int) (m0 : Int), hmax f (g.map t) m0 = hmax (fun k => f (t k)) g m0
  | [], m0 => rfl
  | u :: g, m0 => by rw [List.map_cons, hmax_cons, hmax_cons, hmax_map f t g]
theorem armsOk_turn (id : Int) (hid : 1 ≤ id ∧ id ≤ 65534) (s : Nat) : ∀ (p : Int) (l : List ArmS), armsOk s p l = true → armsOk s p (l.map (turnA id)) = true
  | _, [], _ => rfl
  | p, a :: r, h => by
    simp only [List.map_cons, armsOk, armOk, Bool.and_eq_true, decide_eq_true_eq] at h ⊢
    obtain ⟨⟨⟨⟨h1, h2⟩, h3⟩, h4⟩, h5⟩ := h
    refine ⟨⟨⟨⟨h1, ?_⟩, ?_⟩, h4⟩, armsOk_turn id hid s a.1 r h5⟩ <;>
    · simp only [turnA, turn]
      split
      · omega
      · split <;> omega
theorem formP_turn {id : Int} (hid : 1 ≤ id ∧ id ≤ 65534) {x : NodeS} (h : formP x) : formP (turnN id x) ∧ 0 < turn id x.1 := by
  obtain ⟨h1, h2⟩ := h
  have ht : ∀ k, (0 ≤ k ∧ k ≤ 65535 → 0 ≤ turn id k ∧ turn id k ≤ 65535) ∧ (1 ≤ k ∧ k ≤ 65534 → 1 ≤ turn id k ∧ turn id k ≤ 65534) := fun k => by
    unfold turn
    constructor <;> intro hk <;> split <;> first | omega | (split <;> omega)
  refine ⟨⟨?_, armsOk_turn id hid _ _ _ h2⟩, ?_⟩
  · unfold formL at h1 ⊢
    have t1 := (ht x.1).2 (by omega)
    have t2 := (ht (nOther x)).1 (by unfold nOther; omega)
    simp only [turnN, List.length_map]
    unfold nArms
    unfold nOther at t2 ⊢
    omega
  · unfold formL at h1
    have t1 := (ht x.1).2 (by omega)
    omega

theorem from_ok (l : List NodeS) (hl : Nodes l) (hm : mayP l) {h : Int → Int} (H : Hgt l h) {id : Int} {x0 : NodeS} (hid : findP l id = some x0) :
    Nodes (fromL id l []) ∧ mayP (fromL id l []) ∧ Hgt (fromL id l []) fun k => h (turn id k) := by
  have hr := id_range hm.1 hid
  have h32 := hm.2.1
  generalize ho : fromL id l [] = out
  have hlen : out.length = l.length := by rw [← ho, fromL_len]; simp
  have hmem : ∀ y, y ∈ out ↔ ∃ x ∈ l, y = turnN id x := fun y => by rw [← ho, fromL_mem]; simp
  have hforms : formsOk 0 out := by
    rw [← ho]
    exact fromL_forms id hm.1 trivial (fun y hy => by cases hy) fun x hx => formP_turn hr (formsOk_mem hm.1 x hx).1
  have hfind : ∀ k, findP out k = (findP l (turn id k)).map (turnN id) := fun k => by
    cases hf : findP l (turn id k) with
    | none =>
      refine findP_none.2 fun y hy he => ?_
      obtain ⟨x, hx, rfl⟩ := (hmem y).1 hy
      refine findP_none.1 hf x hx ?_
      rw [← he]; show x.1 = turn id (turn id x.1); rw [turn_turn]
    | some x =>
      obtain ⟨hx, hxk⟩ := findP_some hf
      have := findP_self hforms (turnN id x) ((hmem _).2 ⟨x, hx, rfl⟩)
      have e : (turnN id x).1 = k := by show turn id x.1 = k; rw [hxk, turn_turn]
      rw [e] at this
      exact this
  have hH : Hgt out fun k => h (turn id k) := ⟨fun k hk => by
      rw [hfind] at hk
      exact H.no _ (by simpa using hk), fun k y hy => by
      rw [hfind] at hy
      cases hf : findP l (turn id k) with
      | none => rw [hf] at hy; cases hy
      | some x =>
        rw [hf] at hy; cases hy
        show h (turn id k) = _
        rw [H.is _ x hf, goes_turn, hmax_map]
        congr 1
        exact hmax_congr fun t _ => by show h t = h (turn id (turn id t)); rw [turn_turn]⟩
  refine ⟨⟨by omega, fun y hy => ?_, fun y hy => ?_⟩, ⟨hforms, by omega, ?_, _, hH⟩, hH⟩
  · obtain ⟨x, hx, rfl⟩ := (hmem y).1 hy
    have := hl.arms x hx
    show ((nArms x).map (turnA id)).length < _
    rw [List.length_map]; exact this
  · obtain ⟨x, hx, rfl⟩ := (hmem y).1 hy
    have := hl.g x hx
    intro a ha
    have ha' : a ∈ (nArms x).map (turnA id) := ha
    obtain ⟨b, hb, rfl⟩ := List.mem_map.1 ha'
    exact this b hb
  · intro y hy t ht
    obtain ⟨x, hx, rfl⟩ := (hmem y).1 hy
    rw [goes_turn] at ht
    obtain ⟨u, hu, rfl⟩ := List.mem_map.1 ht
    have := hm.2.2.1 x hx u hu
    unfold refOk at this ⊢
    rw [hfind, turn_turn]
    simp only [Bool.or_eq_true, decide_eq_true_eq, Option.isSome_map] at this ⊢
    rcases this with (h | h) | h
    · exact .inl (.inl h)
    · left; right; subst h; unfold turn; rw [if_neg (by omega), if_neg (by omega)]
    · right; subst h; unfold turn; rw [if_neg (by omega), if_neg (by omega)]

theorem Q_from (l : List NodeS) (hl : Nodes l) (hm : mayP l) {h : Int → Int} (H : Hgt l h) (id : Int) : Q_turnoutlaw15_from l id = some ((h id, ()), ()) := by
  refine fin ?_
  have h32 := hm.2.1
  unfold M_turnoutlaw15_from
  simp only [ok_graph_Find, q_graph_Find, Q_Find l _ hl.len, RS.get, Option.getD_some, Option.isSome_some, cond_true]
  cases hfd : findP l id with
  | none => simp only [findV, Bool.not_false, cond_true]; rw [H.no id hfd]
  | some x0 =>
    simp only [findV, Bool.not_true, cond_false]
    have e := fun k => L_from k l id (by omega) hl.arms FUEL 0 [] (by omega) (by simp) (by unfold FUEL; omega)
    simp only [List.drop_zero, List.length_nil, Int.natCast_zero] at e
    refine Eq.trans (e _) ?_
    obtain ⟨g1, g2, g3⟩ := from_ok l hl hm H hfd
    have hq := Q_Longest _ g1 g2 g3
    rw [cutL_all]
    simp only [ok_graph_Longest, q_graph_Longest, hq, RS.get, Option.getD_some, Option.isSome_some, cond_true]
    rfl

/-! ### GraphLongest -/
theorem hmax_same (f : Int → Int) {g g' : List Int} (hg : ∀ t, t ∈ g ↔ t ∈ g') (m0 : Int) : hmax f g m0 = hmax f g' m0 := by
  have one : ∀ {g g' : List Int}, (∀ t, t ∈ g ↔ t ∈ g') → hmax f g m0 ≤ hmax f g' m0 := fun {g g'} hg => by
    rcases hmax_mem f g m0 with h | ⟨t, ht, h⟩
    · rw [h]; exact hmax_ge0 f g' m0
    · rw [h]; exact hmax_ge f g' m0 t ((hg t).1 ht)
  exact Int.le_antisymm (one hg) (one fun t => (hg t).symm)

theorem L_Longest2 (k : Int → Option Res) (l : List NodeS) (hl : Nodes l) (hm : mayP l) {h : Int → Int} (H : Hgt l h) (most left : Int) (hleft : 1 ≤ left ∧ left ≤ 32) (g : List Int) (hg : g.length < 1000000) : ∀ (m i : Nat) (at_ : Int), i ≤ g.length → g.length - i < m →
    ((∃ t ∈ g.drop i, h t = left - 1) ∨ h at_ = left - 1) → ∃ a, L_turnoutlaw15_GraphLongest_2 FUEL k l most left g.length g m at_ (i : Int) = k a ∧ h a = left - 1
  | 0, _, _, _, h, _ => by omega
  | m + 1, i, at_, hi, hmm, hh => by
    show ∃ a, F_turnoutlaw15_GraphLongest_2 FUEL k l most left g.length g (L_turnoutlaw15_GraphLongest_2 FUEL k l most left g.length g m) at_ (i : Int) = k a ∧ _
    unfold F_turnoutlaw15_GraphLongest_2
    simp only [cond_dec, int_beq, toNat_cast, ok_turnoutlaw15_from, q_turnoutlaw15_from, Q_from l hl hm H, RS.get, Option.getD_some, Option.isSome_some, cond_true]
    by_cases hil : i < g.length
    · have a1 : i + 1 ≤ g.length ∧ g.length - (i + 1) < m := by clear hh; omega
      have a2 : (0 : Int) ≤ (i : Int) ∧ (i : Int) < (g.length : Int) := by clear hh; omega
      rw [if_pos a2.2, if_pos a2, IntWalk.i64_in (left - 1) (by clear hh; omega), i64_succ (by clear hh; omega)]
      rw [drop_rdd (0 : Int) hil] at hh
      generalize rdd (0 : Int) g i = t at *
      by_cases he : h t = left - 1
      · rw [if_pos he, if_pos a2]
        exact L_Longest2 k l hl hm H most left hleft g hg m (i + 1) t a1.1 a1.2 (.inr he)
      · rw [if_neg he]
        refine L_Longest2 k l hl hm H most left hleft g hg m (i + 1) at_ a1.1 a1.2 ?_
        rcases hh with ⟨u, hu, hu2⟩ | hh
        · rcases List.mem_cons.1 hu with rfl | hu
          · exact absurd hu2 he
          · exact .inl ⟨u, hu, hu2⟩
        · exact .inr hh
    · rw [if_neg (by clear hh; omega)]
      rw [List.drop_of_length_le (by clear hh; omega)] at hh
      rcases hh with ⟨u, hu, _⟩ | hh
      · cases hu
      · exact ⟨_, rfl, hh⟩

theorem L_Longest (kr : Bool → Option Res) (kt : Int → Option Res) (l : List NodeS) (hl : Nodes l) (hm : mayP l) {h : Int → Int} (H : Hgt l h) (most : Int) : ∀ (m : Nat) (at_ left : Int), h at_ = left → left ≤ 32 → left.toNat < m →
    ∃ a, L_turnoutlaw15_GraphLongest_0 FUEL kr kt l most m at_ left = kt a ∧ h a = 0
  | 0, _, _, _, _, h => by omega
  | m + 1, at_, left, hh, h32, hmm => by
    show ∃ a, F_turnoutlaw15_GraphLongest_0 FUEL kr kt l most (L_turnoutlaw15_GraphLongest_0 FUEL kr kt l most m) at_ left = kt a ∧ _
    have h0 := H.nonneg at_
    unfold F_turnoutlaw15_GraphLongest_0
    rw [cond_dec]
    by_cases hp : left > 0
    · rw [if_pos hp]
      have hfs : (findP l at_).isSome = true := (H.pos at_).1 (by omega)
      obtain ⟨x, hx⟩ := Option.isSome_iff_exists.1 hfs
      have harm := hl.arms x (findP_some hx).1
      have hgl : (goesR x).length < 1000000 := by simp [goesR]; omega
      simp only [ok_graph_Find, q_graph_Find, Q_Find l _ hl.len, hx, findV, ok_turnoutlaw15_from, q_turnoutlaw15_from, Q_from l hl hm H, RS.get, Option.getD_some, Option.isSome_some, cond_true, Bool.not_true, cond_false, int_bne, ok_turnoutref15_Goes, q_turnoutref15_Goes, Q_refGoes x harm]
      rw [decide_eq_true hh, Bool.not_true, cond_false]
      have hex : ∃ t ∈ goesR x, h t = left - 1 := by
        have e := H.is at_ x hx
        rw [hh, hmax_same h (fun t => (mem_goesR (x := x) (t := t)).symm) 0] at e
        rcases hmax_mem h (goesR x) 0 with e2 | ⟨t, ht, e2⟩
        · refine ⟨nOther x, by simp [goesR], ?_⟩
          have h1 := hmax_ge h (goesR x) 0 (nOther x) (by simp [goesR])
          have h2 := H.nonneg (nOther x)
          omega
        · exact ⟨t, ht, by omega⟩
      have e := fun k => L_Longest2 k l hl hm H most left (by omega) (goesR x) hgl FUEL 0 at_ (by omega) (by unfold FUEL; omega) (.inl (by rw [List.drop_zero]; exact hex))
      simp only [Int.natCast_zero] at e
      obtain ⟨a, e1, e2⟩ := e fun y14 => L_turnoutlaw15_GraphLongest_0 FUEL kr kt l most m y14 (IntKind.wrap .i64 (left - (1 : Int)))
      obtain ⟨b, e3, e4⟩ := L_Longest kr kt l hl hm H most m a (left - 1) e2 (by omega) (by omega)
      rw [IntWalk.i64_in (left - 1) (by omega)] at e1
      exact ⟨b, (by rw [IntWalk.i64_in (left - 1) (by omega)]; exact e1.trans e3), e4⟩
    · rw [if_neg hp]
      exact ⟨_, rfl, by omega⟩

theorem Pure.GraphLongest (l : List NodeS) (h : (Ty.slice NodeT).good l) (ps : List Int) (hp : (Ty.slice (.int .u8)).good ps) : Q_turnoutlaw15_GraphLongest l ps = some ((true, ()), ()) := by
  refine fin ?_
  obtain ⟨b, hb, hlong⟩ := Q_Long l (good_len h)
  unfold M_turnoutlaw15_GraphLongest
  simp only [ok_turnoutlaw15_Long, q_turnoutlaw15_Long, hb, ok_turnoutlaw15_awake, q_turnoutlaw15_awake, Q_awake, RS.get, Option.getD_some, Option.isSome_some, cond_true]
  cases b with
  | true => rfl
  | false =>
  obtain ⟨hl1, hl2⟩ := hlong rfl
  have hl := good_nodes h hl2
  simp only [cond_false, cond_dec, Bool.not_true, ok_graph_May, q_graph_May, Q_May l hl, RS.get, Option.getD_some, Option.isSome_some, cond_true, int_bne, int_beq, Bool.cond_not]
  refine ite_eq (fun _ => rfl) fun hpl => ite_eq (fun hmay => ?_) fun hmay => ?_
  · have hm := mayN_zero.1 hmay
    obtain ⟨hg, H⟩ := hm.2.2.2
    obtain ⟨n, a, e1, e2, e3, e4⟩ := Q_way l hl hm H ps (good_u8 hp) (by omega)
    have hle := H.le hm.2.1 hl.arms 1
    have h32 := hm.2.1
    simp only [ok_turnoutlaw15_way, q_turnoutlaw15_way, e1, ok_graph_Longest, q_graph_Longest, Q_Longest l hl hm H, RS.get, Option.getD_some, Option.isSome_some, cond_true]
    rw [if_neg (by omega), if_neg (by omega)]
    obtain ⟨c, e5, e6⟩ := L_Longest _ _ l hl hm H (hg 1) FUEL 1 (hg 1) rfl (by omega) (by unfold FUEL; omega)
    refine Eq.trans e5 ?_
    simp only [ok_turnoutlaw15_from, q_turnoutlaw15_from, Q_from l hl hm H, RS.get, Option.getD_some, Option.isSome_some, cond_true]
    rw [if_pos e6]
  · simp only [ok_graph_Longest, q_graph_Longest, Q_Longest_no l hl (fun k => hmay (mayN_zero.2 k)), RS.get, Option.getD_some, Option.isSome_some, cond_true]
    rfl
end Go.AMach
