/- Layer 15: GraphRing. -/
import Derived.Test.YtclfngicnmpnjaaPe
namespace Go.AMach
set_option linter.unusedVariables false
set_option linter.unusedSimpArgs false
set_option linter.unnecessarySimpa false
set_option linter.unusedVariables false
set_option linter.unusedSimpArgs false

/-- IDs of a way: each one's node goes on to the next one. -/
def chain (l : List NodeS) : List Int → Int → Prop
  | [], _ => True
  | [s], a => ∃ x, findP l s = some x ∧ a ∈ goesP x
  | s :: t :: r, a => (∃ x, findP l s = some x ∧ t ∈ goesP x) ∧ chain l (t :: r) a
theorem chain_snoc {l : List NodeS} {t : Int} (x : NodeS) : ∀ {seen : List Int} {a : Int}, chain l seen a → findP l a = some x → t ∈ goesP x → chain l (seen ++ [a]) t
  | [], a, _, hx, ht => ⟨x, hx, ht⟩
  | [s], a, h, hx, ht => ⟨h, x, hx, ht⟩
  | s :: u :: r, a, h, hx, ht => ⟨h.1, chain_snoc (seen := u :: r) x h.2 hx ht⟩
theorem chain_get {l : List NodeS} : ∀ {seen : List Int} {a : Int}, chain l seen a → ∀ i, i + 1 < seen.length → ∃ x, findP l (rdd 0 seen i) = some x ∧ rdd 0 seen (i + 1) ∈ goesP x
  | [], _, _, i, hi => by simp at hi
  | [s], _, _, i, hi => by simp at hi
  | s :: t :: r, a, h, 0, hi => h.1
  | s :: t :: r, a, h, i + 1, hi => chain_get (seen := t :: r) h.2 i (by simpa using hi)

theorem L_Ring (k : Nat → List Int → Option Res) (l : List NodeS) (hl : Nodes l) (hm : mayP l) {h : Int → Int} (H : Hgt l h) (ps : List Int) (hps : ∀ p ∈ ps, 0 ≤ p ∧ p ≤ 255) (hpl : ps.length ≤ 100) (f b : Int) :
    ∀ (m : Nat) (at_ : Int) (seen : List Int), (∀ s ∈ seen, h at_ < h s ∧ findP l s ≠ none) → chain l seen at_ → seen.length + h at_ ≤ l.length → (h at_).toNat < m →
    ∃ seen' : List Int, L_turnoutlaw15_GraphRing_0 FUEL k l ps f b m seen.length at_ (seen.length : Int) seen = k seen'.length seen' ∧ seen'.length ≤ l.length ∧ (∀ s ∈ seen', findP l s ≠ none) ∧ ∃ a, chain l seen' a
  | 0, _, _, _, _, _, h => by omega
  | m + 1, at_, seen, hs, hc, hn, hf => by
    show ∃ seen' : List Int, F_turnoutlaw15_GraphRing_0 FUEL k l ps f b (L_turnoutlaw15_GraphRing_0 FUEL k l ps f b m) seen.length at_ (seen.length : Int) seen = k seen'.length seen' ∧ _
    have h0 := H.nonneg at_
    have h32 := hm.2.1
    unfold F_turnoutlaw15_GraphRing_0
    simp only [ok_graph_Find, q_graph_Find, Q_Find l _ hl.len, RS.get, Option.getD_some, Option.isSome_some, cond_true, cutL_all]
    rw [cond_dec, if_pos (by omega)]
    cases hfd : findP l at_ with
    | none =>
      simp only [findV, Bool.not_false, cond_true]
      exact ⟨seen, rfl, by omega, fun s hs' => (hs s hs').2, at_, hc⟩
    | some x =>
      simp only [findV, Bool.not_true, cond_false]
      have hxm := (findP_some hfd).1
      have harm := hl.arms x hxm
      have hgl : (goesR x).length < 9223372036854775807 := by simp [goesR]; omega
      have hg0 : 0 < (goesR x).length := by simp [goesR]
      have go : ∀ t, t ∈ goesR x → ∃ seen' : List Int, L_turnoutlaw15_GraphRing_0 FUEL k l ps f b m (seen ++ [at_]).length t ((seen.length + 1 : Nat) : Int) (seen ++ [at_]) = k seen'.length seen' ∧ seen'.length ≤ l.length ∧ (∀ s ∈ seen', findP l s ≠ none) ∧ ∃ a, chain l seen' a := fun t ht => by
        obtain ⟨h1, h2⟩ := find_lt hm H hfd (mem_goesR.1 ht)
        have ht0 := H.nonneg t
        obtain ⟨s', e1, e2⟩ := L_Ring k l hl hm H ps hps hpl f b m t (seen ++ [at_]) (fun s hs' => by
          rcases List.mem_append.1 hs' with h' | h'
          · have := hs s h'; exact ⟨by omega, this.2⟩
          · simp at h'; subst h'; exact ⟨h1, by rw [hfd]; simp⟩) (chain_snoc x hc hfd (mem_goesR.1 ht)) (by simp; omega) (by omega)
        refine ⟨s', ?_, e2⟩
        rw [← e1]; simp
      have hgo := Q_refGoes x harm
      simp only [ok_turnoutref15_Goes, q_turnoutref15_Goes, hgo, RS.get, Option.getD_some, Option.isSome_some, cond_true]
      rw [cond_dec, if_pos (by omega), cond_dec]
      simp only [List.length_append, List.length_cons, List.length_nil] at go
      by_cases hp : (seen.length : Int) < (ps.length : Int)
      · rw [if_pos hp, cond_dec, if_pos (by omega)]
        simp only [toNat_cast]
        have hpm := hps (rdd 0 ps seen.length) (rdd_mem (by omega))
        rw [IntWalk.i64_in _ (by omega)]
        obtain ⟨p1, p2, p3⟩ := pick_ok hpm hg0 hgl
        rw [int_bne, decide_eq_false (by omega), Bool.not_false, cond_true, cond_dec, if_pos ⟨p1, p2⟩, i64_succ (by omega)]
        exact go _ p3
      · rw [if_neg hp]
        obtain ⟨p1, p2, p3⟩ := pick_ok (p := 0) (g := goesR x) (by omega) hg0 hgl
        rw [int_bne, decide_eq_false (by omega), Bool.not_false, cond_true, cond_dec, if_pos ⟨p1, p2⟩, i64_succ (by omega)]
        exact go _ p3

/-! ### The ring -/
def setO (x : NodeS) (b : Int) : NodeS := (x.1, (x.2.1, (x.2.2.1, (x.2.2.2.1, (x.2.2.2.2.1, (x.2.2.2.2.2.1, (x.2.2.2.2.2.2.1, (x.2.2.2.2.2.2.2.1, (b, ())))))))))
def updO (a b : Int) (x : NodeS) : NodeS := if x.1 = a then setO x b else x
theorem updO_id (a b : Int) (x : NodeS) : (updO a b x).1 = x.1 := by unfold updO; split <;> rfl
theorem updO_arms (a b : Int) (x : NodeS) : nArms (updO a b x) = nArms x := by unfold updO; split <;> rfl

theorem L_Ring2 (k : List NodeS → Option Res) (seen : List Int) (i1 i2 : Nat) (h1 : i1 < seen.length) (h2 : i2 < seen.length) (l : List NodeS) (hl : l.length < 1000) : ∀ (m i : Nat), i ≤ l.length → l.length - i < m →
    L_turnoutlaw15_GraphRing_2 FUEL k seen.length (i1 : Int) (i2 : Int) l.length seen m (i : Int) ((l.take i).map (updO (rdd 0 seen i1) (rdd 0 seen i2)) ++ l.drop i) = k (l.map (updO (rdd 0 seen i1) (rdd 0 seen i2)))
  | 0, _, _, h => by omega
  | m + 1, i, hi, hm => by
    generalize hcur : (l.take i).map (updO (rdd 0 seen i1) (rdd 0 seen i2)) ++ l.drop i = cur
    show F_turnoutlaw15_GraphRing_2 FUEL k seen.length (i1 : Int) (i2 : Int) l.length seen (L_turnoutlaw15_GraphRing_2 FUEL k seen.length (i1 : Int) (i2 : Int) l.length seen m) (i : Int) cur = _
    unfold F_turnoutlaw15_GraphRing_2
    simp only [cond_dec, int_beq, toNat_cast]
    by_cases h : i < l.length
    · have hx : rdd zNodeS cur i = rdd zNodeS l i := by
        rw [← hcur, rdd_lt (by simp; omega), rdd_lt h, List.getElem_append_right (by simp; omega)]
        simp
        congr 1
        omega
      have ih := L_Ring2 k seen i1 i2 h1 h2 l hl m (i + 1) (by omega) (by omega)
      rw [take_rdd zNodeS h, List.map_append] at ih
      rw [if_pos (by omega), if_pos (by omega), if_pos (by omega), hx, i64_succ (by omega)]
      have hlen : ((l.take i).map (updO (rdd 0 seen i1) (rdd 0 seen i2))).length = i := by simp; omega
      by_cases he : (rdd zNodeS l i).1 = rdd 0 seen i1
      · rw [if_pos he, if_pos (by omega), if_pos (by omega), ← ih]
        congr 1
        rw [← hcur, drop_rdd zNodeS h]
        refine (set_mid _ _ _ hlen).trans ?_
        simp [updO, he, setO]
      · rw [if_neg he, ← ih]
        congr 1
        rw [← hcur, drop_rdd zNodeS h]
        simp [updO, he]
    · rw [if_neg (by omega), ← hcur, List.take_of_length_le (by omega), List.drop_of_length_le (by omega), List.append_nil]

theorem formsOk_map {f : NodeS → NodeS} (hf : ∀ x, (f x).1 = x.1) : ∀ {p : Int} {l : List NodeS}, (∀ x ∈ l, formP x → formP (f x)) → formsOk p l → formsOk p (l.map f)
  | p, [], _, _ => trivial
  | p, x :: r, h, ⟨h1, h2, h3⟩ => by
    refine ⟨h x List.mem_cons_self h1, by rw [hf]; exact h2, ?_⟩
    rw [hf]
    exact formsOk_map hf (fun y hy => h y (List.mem_cons_of_mem _ hy)) h3
theorem findP_map {f : NodeS → NodeS} (hf : ∀ x, (f x).1 = x.1) (k : Int) : ∀ (l : List NodeS), findP (l.map f) k = (findP l k).map f
  | [] => rfl
  | x :: r => by
    have ih := findP_map hf k r
    unfold findP at ih ⊢
    simp only [List.map_cons, List.find?_cons, hf]
    cases decide (x.1 = k)
    · exact ih
    · rfl
theorem formP_setO {x : NodeS} (h : formP x) {b : Int} (hb : 0 ≤ b ∧ b ≤ 65535) : formP (setO x b) := by
  obtain ⟨h1, h2⟩ := h
  refine ⟨?_, h2⟩
  unfold formL at h1 ⊢
  simp only [setO]
  omega

theorem ring_cycle (l : List NodeS) (hm : mayP l) {h : Int → Int} (H : Hgt l h) (seen : List Int) (hs : ∀ s ∈ seen, findP l s ≠ none) {a : Int} (hc : chain l seen a) (k m : Nat) (hk : k < seen.length) (hmk : m ≤ k) :
    mayN (l.map (updO (rdd 0 seen k) (rdd 0 seen m))) = 10 := by
  generalize hA : rdd 0 seen k = A
  generalize hB : rdd 0 seen m = B
  have hBm : B ∈ seen := by rw [← hB]; exact rdd_mem (by omega)
  have hAm : A ∈ seen := by rw [← hA]; exact rdd_mem (by omega)
  obtain ⟨xb, hxb⟩ := Option.ne_none_iff_exists'.1 (hs B hBm)
  have hbr := id_range hm.1 hxb
  have hid := updO_id A B
  have hfm := findP_map hid
  have hforms : formsOk 0 (l.map (updO A B)) := formsOk_map hid (fun x _ hx => by
    unfold updO; split
    · exact formP_setO hx (by omega)
    · exact hx) hm.1
  have hrefs : refsOk (l.map (updO A B)) := by
    intro y hy t ht
    obtain ⟨x, hx, rfl⟩ := List.mem_map.1 hy
    have hsome : ∀ t, (findP (l.map (updO A B)) t).isSome = (findP l t).isSome := fun t => by rw [hfm]; simp
    unfold refOk
    rw [hsome]
    have h2 := hm.2.2.1 x hx
    have : t ∈ goesP x ∨ t = B := by
      unfold updO at ht
      split at ht
      · simp only [goesP, setO, nOther, nArms, List.mem_cons] at ht
        rcases ht with rfl | ht
        · exact .inr rfl
        · exact .inl (List.mem_cons_of_mem _ ht)
      · exact .inl ht
    rcases this with ht | rfl
    · exact h2 t ht
    · rw [hxb]; rfl
  -- heights fall along the way
  have hdec : ∀ i j, i < j → j < seen.length → h (rdd 0 seen j) < h (rdd 0 seen i) := by
    intro i j hij
    induction j with
    | zero => omega
    | succ j ih =>
      intro hj
      obtain ⟨x, hx, ht⟩ := chain_get hc j (by omega)
      have h1 := H.lt hx ht
      by_cases e : i = j
      · subst e; exact h1
      · have := ih (by omega) (by omega); omega
  have hno : ¬ ∃ h', Hgt (l.map (updO A B)) h' := by
    rintro ⟨h', H'⟩
    have hback : h' B < h' A := by
      obtain ⟨xa, hxa⟩ := Option.ne_none_iff_exists'.1 (hs A hAm)
      have : findP (l.map (updO A B)) A = some (updO A B xa) := by rw [hfm, hxa]; rfl
      refine H'.lt this ?_
      have hid := (findP_some hxa).2
      unfold updO
      rw [if_pos hid]
      exact List.mem_cons_self
    have hfwd : ∀ d, m + d ≤ k → h' (rdd 0 seen (m + d)) ≤ h' B := by
      intro d
      induction d with
      | zero => intro _; rw [Nat.add_zero, hB]; omega
      | succ d ih =>
        intro hd
        have h1 := ih (by omega)
        obtain ⟨x, hx, ht⟩ := chain_get hc (m + d) (by omega)
        have hne : rdd 0 seen (m + d) ≠ A := fun e => by
          have := hdec (m + d) k (by omega) hk
          rw [hA, e] at this; omega
        have : findP (l.map (updO A B)) (rdd 0 seen (m + d)) = some x := by
          rw [hfm, hx]
          have hid := (findP_some hx).2
          simp only [Option.map_some, updO]
          rw [if_neg (by rw [hid]; exact hne)]
        have := H'.lt this ht
        rw [show m + (d + 1) = m + d + 1 by omega]
        omega
    have := hfwd (k - m) (by omega)
    rw [show m + (k - m) = k by omega, hA] at this
    omega
  unfold mayN
  rw [if_neg (by simp [hforms]), if_neg (by simp [hm.2.1]), if_neg (by simp [hrefs]), if_pos hno]

theorem umod {f : Int} (hf : -9223372036854775808 ≤ f ∧ f ≤ 9223372036854775807) {n : Nat} (h0 : 0 < n) (h1 : n < 1000) : ∃ r : Nat, r < n ∧ Int.tmod (IntKind.wrap .u64 f) (IntKind.wrap .u64 (n : Int)) = (r : Int) ∧ IntKind.wrap .i64 (Int.tmod (IntKind.wrap .u64 f) (IntKind.wrap .u64 (n : Int))) = (r : Int) := by
  rw [u64_in (n : Int) (by omega)]
  have h2 : 0 ≤ IntKind.wrap .u64 f := by simp [IntKind.wrap, IntKind.bits, IntKind.signed]; omega
  have h3 := Int.tmod_nonneg (n : Int) h2
  have h4 := Int.tmod_lt_of_pos (IntKind.wrap .u64 f) (show (0 : Int) < (n : Int) by omega)
  refine ⟨(Int.tmod (IntKind.wrap .u64 f) (n : Int)).toNat, by omega, by omega, ?_⟩
  rw [IntWalk.i64_in _ (by omega)]; omega

theorem Pure.GraphRing (l : List NodeS) (h : (Ty.slice NodeT).good l) (ps : List Int) (hp : (Ty.slice (.int .u8)).good ps) (f : Int) (hf : (Ty.int .i64).good f) (b : Int) (hb : (Ty.int .i64).good b) : Q_turnoutlaw15_GraphRing l ps f b = some ((true, ()), ()) := by
  refine fin ?_
  obtain ⟨bb, hbb, hlong⟩ := Q_Long l (good_len h)
  unfold M_turnoutlaw15_GraphRing
  simp only [ok_turnoutlaw15_Long, q_turnoutlaw15_Long, hbb, ok_turnoutlaw15_awake, q_turnoutlaw15_awake, Q_awake, RS.get, Option.getD_some, Option.isSome_some, cond_true]
  cases bb with
  | true => rfl
  | false =>
  obtain ⟨hl1, hl2⟩ := hlong rfl
  have hl := good_nodes h hl2
  simp only [cond_false, cond_dec, Bool.not_true, ok_graph_May, q_graph_May, Q_May l hl, RS.get, Option.getD_some, Option.isSome_some, cond_true, int_bne, int_beq, Bool.cond_not]
  refine ite_eq (fun _ => rfl) fun hpl => ite_eq (fun hmay => ?_) fun _ => rfl
  have hm := mayN_zero.1 hmay
  obtain ⟨hg, H⟩ := hm.2.2.2
  have h32 := hm.2.1
  have hle := H.le h32 hl.arms 1
  obtain ⟨seen, e1, e2, e3, a, e4⟩ := L_Ring _ l hl hm H ps (good_u8 hp) (by omega) f b FUEL 1 [] (fun s hs => by cases hs) trivial (by simpa using hle) (by unfold FUEL; omega)
  refine Eq.trans e1 ?_
  by_cases h0 : (seen.length : Int) = 0
  · rw [if_pos h0, decide_eq_true h0]
  rw [if_neg h0, if_neg (by omega)]
  obtain ⟨k, hk1, _, hk2⟩ := umod (wf_i64 hf) (n := seen.length) (by omega) (by omega)
  rw [hk2, i64_succ (by omega)]
  obtain ⟨m, hm1, hm2, hm3⟩ := umod (wf_i64 hb) (n := k + 1) (by omega) (by omega)
  rw [hm3, u64_in (seen.length : Int) (by omega), u64_in ((k + 1 : Nat) : Int) (by omega), if_neg h0, if_neg (by omega), if_pos (by omega), Nat.zero_add]
  have hr := fun kt => L_Ring2 kt seen k m hk1 (by omega) l (by omega) FUEL 0 (by omega) (by unfold FUEL; omega)
  simp only [List.take_zero, List.map_nil, List.nil_append, List.drop_zero, Int.natCast_zero] at hr
  refine Eq.trans (hr _) ?_
  have hc := ring_cycle l hm H seen e3 e4 k m hk1 (by omega)
  generalize hring : l.map (updO (rdd 0 seen k) (rdd 0 seen m)) = ring at hc
  have hlen : ring.length = l.length := by rw [← hring]; simp
  have hrn : Nodes ring := ⟨by omega, fun x hx => by
      rw [← hring] at hx
      obtain ⟨y, hy, rfl⟩ := List.mem_map.1 hx
      rw [updO_arms]; exact hl.arms y hy, fun x hx => by
      rw [← hring] at hx
      obtain ⟨y, hy, rfl⟩ := List.mem_map.1 hx
      have := hl.g y hy
      unfold nodeG at this ⊢
      rw [show (updO (rdd 0 seen k) (rdd 0 seen m) y).2.2.2.2.2.2.2.1 = nArms (updO (rdd 0 seen k) (rdd 0 seen m) y) from rfl, updO_arms]
      exact this⟩
  have hno := Q_Longest_no ring hrn (fun h => by rw [mayN_zero.2 h] at hc; omega)
  have hmay := Q_May ring hrn
  rw [hc] at hmay
  rw [← hlen, cutL_all]
  simp only [ok_graph_May, q_graph_May, hmay, ok_graph_Longest, q_graph_Longest, hno, RS.get, Option.getD_some, Option.isSome_some, cond_true]
  rfl
end Go.AMach
