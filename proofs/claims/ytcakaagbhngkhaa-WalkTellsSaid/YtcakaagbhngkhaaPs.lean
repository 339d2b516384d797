/- Layer 16: the document's walk. -/
import Derived.Test.YtcakaagbhngkhaaPr
namespace Go.AMach
set_option linter.unusedVariables false
set_option linter.unusedSimpArgs false
set_option linter.unnecessarySimpa false
open Go
set_option linter.unusedVariables false

def armOf (l : List ArmS) (v : Int) : Option ArmS := l.find? fun a => decide (a.1 = v)
def armV (o : Option ArmS) (d : Int) : Int := match o with
  | some a => a.2.1
  | none => d

theorem L_Next2 (kr : Int → Option Res) (kt : Unit → Option Res) (v : Int) (l : List ArmS) (z : NodeS) (hl : l.length < 9223372036854775807) : ∀ (m i : Nat), i ≤ l.length → l.length - i < m →
    L_graph_Next_0 FUEL kr kt v l (l.length : Int) z m (i : Int) = match armOf (l.drop i) v with | some a => kr a.2.1 | none => kt ()
  | 0, _, _, h => by omega
  | m + 1, i, hi, hm => by
    show F_graph_Next_0 FUEL kr kt v l (l.length : Int) z (L_graph_Next_0 FUEL kr kt v l (l.length : Int) z m) (i : Int) = _
    unfold F_graph_Next_0
    simp only [cond_dec, int_beq, toNat_cast]
    by_cases h : i < l.length
    · rw [if_pos (by omega), if_pos (by omega), i64_succ (by omega), drop_rdd zArmS h]
      simp only [armOf, List.find?_cons]
      by_cases he : (rdd zArmS l i).1 = v
      · simp [he]
      · rw [if_neg he, L_Next2 kr kt v l z hl m (i + 1) (by omega) (by omega)]
        simp [he, armOf]
    · rw [if_neg (by omega), List.drop_of_length_le (by omega)]
      rfl
theorem nextT_eq (l : List NodeS) (hl : Nodes l) {x : NodeS} (hf : findP l x.1 = some x) (v : Int) : nextT l x v = armV (armOf (nArms x) v) (nOther x) := by
  have harm := hl.arms x (findP_some hf).1
  have hq : Q_graph_Next l x.1 v = some ((armV (armOf (nArms x) v) (nOther x), ()), ()) := by
    refine fin ?_
    unfold M_graph_Next
    simp only [ok_graph_Find, q_graph_Find, Q_Find l x.1 hl.len, RS.get, Option.getD_some, Option.isSome_some, cond_true, hf, findV]
    refine Eq.trans (L_Next2 _ _ v (nArms x) x (by omega) FUEL 0 (by omega) (by unfold FUEL; omega)) ?_
    rw [List.drop_zero]
    cases armOf (nArms x) v <;> rfl
  unfold nextT q_graph_Next
  rw [hq]; rfl

theorem arms_none {sel : Nat} : ∀ {p : Int} {l : List ArmS}, armsOk sel p l = true → ∀ v, v ≤ p → armOf l v = none
  | p, [], _, v, _ => rfl
  | p, a :: r, h, v, hv => by
    simp only [armsOk, Bool.and_eq_true, decide_eq_true_eq] at h
    unfold armOf
    rw [List.find?_cons]
    have : ¬ a.1 = v := by omega
    simp only [this, decide_false]
    exact arms_none h.2 v (by omega)

theorem L_rArms (kt : Int → Option Res) (l : List NodeS) (s : ByteArray) (N : Nat) (a3 a4 a5 v : Int) (hd : List HeadS) (x : NodeS) (hlen : (nArms x).length ≤ 32) (hg : ∀ a ∈ nArms x, 0 ≤ a.1 ∧ a.1 ≤ 4294967295) {sel : Nat} : ∀ (m i : Nat) (acc : Int), i ≤ (nArms x).length → (nArms x).length - i < m → (∃ p, armsOk sel p ((nArms x).drop i) = true) →
    L_turnoutref16_Walk_4 FUEL kt l s N a3 a4 a5 v hd x m acc (i : Int) = kt (armV (armOf ((nArms x).drop i) v) acc)
  | 0, _, _, _, h, _ => by omega
  | m + 1, i, acc, hi, hm, hp => by
    show F_turnoutref16_Walk_4 FUEL kt l s N a3 a4 a5 v hd x (L_turnoutref16_Walk_4 FUEL kt l s N a3 a4 a5 v hd x m) acc (i : Int) = _
    unfold F_turnoutref16_Walk_4
    have harm : x.2.2.2.2.2.2.2.1 = nArms x := rfl
    rw [harm]
    by_cases h : i < (nArms x).length
    · have hin : (0 : Int) ≤ (i : Int) ∧ (i : Int) < (((nArms x).length : Nat) : Int) := by omega
      simp only [cond_dec, int_beq, toNat_cast, if_pos hin]
      rw [if_pos (by omega), i64_succ (by omega)]
      have hgr := hg _ (rdd_mem (d := zArmS) h)
      rw [IntWalk.i64_in (rdd zArmS (nArms x) i).1 (by omega)]
      obtain ⟨p, hp⟩ := hp
      rw [drop_rdd zArmS h] at hp ⊢
      simp only [armsOk, Bool.and_eq_true, decide_eq_true_eq] at hp
      by_cases he : (rdd zArmS (nArms x) i).1 = v
      · rw [if_pos he, L_rArms kt l s N a3 a4 a5 v hd x hlen hg m (i + 1) _ (by omega) (by omega) ⟨_, hp.2⟩]
        rw [arms_none hp.2 v (by omega)]
        simp [armOf, armV, he]
      · rw [if_neg he, L_rArms kt l s N a3 a4 a5 v hd x hlen hg m (i + 1) _ (by omega) (by omega) ⟨_, hp.2⟩]
        simp [armOf, he]
    · simp only [cond_dec]
      rw [if_neg (by omega), List.drop_of_length_le (by omega)]
      rfl

theorem forms_none : ∀ {p : Int} {l : List NodeS}, formsOk p l → ∀ v, v ≤ p → findP l v = none
  | p, [], _, v, _ => rfl
  | p, a :: r, h, v, hv => by
    obtain ⟨h1, h2, h3⟩ := h
    unfold findP
    rw [List.find?_cons]
    have : ¬ a.1 = v := by omega
    simp only [this, decide_false]
    exact forms_none h3 v (by omega)

theorem L_rNode (kt : NodeS → Option Res) (l : List NodeS) (hl : l.length ≤ 32) (s : ByteArray) (N : Nat) (id a4 a5 : Int) (hd : List HeadS) : ∀ (m i : Nat) (acc : NodeS), i ≤ l.length → l.length - i < m → (∃ p, formsOk p (l.drop i)) →
    L_turnoutref16_Walk_2 FUEL kt l s N id a4 a5 hd m (i : Int) acc = kt ((findP (l.drop i) id).getD acc)
  | 0, _, _, _, h, _ => by omega
  | m + 1, i, acc, hi, hm, hp => by
    show F_turnoutref16_Walk_2 FUEL kt l s N id a4 a5 hd (L_turnoutref16_Walk_2 FUEL kt l s N id a4 a5 hd m) (i : Int) acc = _
    unfold F_turnoutref16_Walk_2
    by_cases h : i < l.length
    · have hin : (0 : Int) ≤ (i : Int) ∧ (i : Int) < ((l.length : Nat) : Int) := by omega
      simp only [cond_dec, int_beq, toNat_cast, if_pos hin]
      rw [if_pos (by omega), i64_succ (by omega)]
      obtain ⟨p, hp⟩ := hp
      rw [drop_rdd zNodeS h] at hp ⊢
      obtain ⟨_, _, h3⟩ := hp
      by_cases he : (rdd zNodeS l i).1 = id
      · rw [if_pos he, L_rNode kt l hl s N id a4 a5 hd m (i + 1) _ (by omega) (by omega) ⟨_, h3⟩]
        rw [forms_none h3 id (by omega)]
        simp [findP, he]
      · rw [if_neg he, L_rNode kt l hl s N id a4 a5 hd m (i + 1) _ (by omega) (by omega) ⟨_, h3⟩]
        simp [findP, he]
    · simp only [cond_dec]
      rw [if_neg (by omega), List.drop_of_length_le (by omega)]
      rfl

theorem L_rWalk (k : Nat → Int → Int → List HeadS → Option Res) (l : List NodeS) (hl : Nodes l) (hm : mayP l) {h : Int → Int} (H : Hgt l h) (s : ByteArray) (hs : s.size ≤ 10000) :
    ∀ (f m : Nat) (a : Nat) (cnt : Int) (hd : List HeadS) (x : NodeS), findP l x.1 = some x → (h x.1).toNat ≤ f → f ≤ 64 → f < m → a ≤ s.size → 0 ≤ cnt → cnt + f ≤ 100 → hd.length + f ≤ 100 →
    L_turnoutref16_Walk_0 FUEL k l s m hd.length x.1 (a : Int) cnt hd = k (hd ++ (W l s f (a : Int) x).1).length (cnt + (W l s f (a : Int) x).2.1) (W l s f (a : Int) x).2.2 (hd ++ (W l s f (a : Int) x).1)
  | 0, m, a, cnt, hd, x, hf, hh, _, _, _, _, _, _ => by
    have := (H.pos x.1).2 (by rw [hf]; rfl)
    omega
  | f + 1, 0, a, cnt, hd, x, hf, hh, h64, hmm, _, _, _, _ => by omega
  | f + 1, m + 1, a, cnt, hd, x, hf, hh, h64, hmm, ha, h1, h2, h3 => by
    have hid := id_range hm.1 hf
    have hml := mayL_of hm hf
    have hsel := mayP_sel hm hf
    have hfm := formsOk_mem hm.1 x (findP_some hf).1
    have hg := hl.g x (findP_some hf).1
    show F_turnoutref16_Walk_0 FUEL k l s (L_turnoutref16_Walk_0 FUEL k l s m) hd.length x.1 (a : Int) cnt hd = _
    unfold F_turnoutref16_Walk_0
    refine Eq.trans (L_rNode _ l hm.2.1 s hd.length x.1 (a : Int) cnt hd FUEL 0 _ (by omega) (by have := hm.2.1; unfold FUEL; omega) ⟨0, by rw [List.drop_zero]; exact hm.1⟩) ?_
    rw [List.drop_zero, hf, Option.getD_some]
    have hx0 : (x.1 == (0 : Int)) = false := by rw [int_beq]; exact decide_eq_false (by omega)
    have hc : IntKind.wrap .i64 (cnt + 1) = cnt + 1 := IntWalk.i64_in _ (by omega)
    have hroom : (decide ((hd.length + 1) * 16 ≤ 2 ^ 46 ∧ hd.length + 1 ≤ 2 ^ 46)) = true := by
      rw [decide_eq_true_eq]; omega
    simp only [hx0, cond_false, ok_turnoutref16_Size, q_turnoutref16_Size, Q_rSize x s (a : Int) (by omega), RS.get, Option.getD_some, Option.isSome_some, cond_true, hc, cutL_all, hroom]
    simp only [W]
    by_cases hz : (sizeV x s (a : Int)).2 = 0
    case neg =>
      rw [if_pos hz, int_bne, decide_eq_false hz]
      simp
    obtain ⟨z, ez, hz1, hz2⟩ := sizeV_fine hml hz
    have ewrap : IntKind.wrap .i64 ((a : Int) + (z : Int)) = ((a + z : Nat) : Int) := by rw [IntWalk.i64_in _ (by omega)]; omega
    rw [if_neg (by simp [hz]), int_bne, decide_eq_true hz]
    simp only [Bool.not_true, cond_false, ez, ewrap]
    -- where it goes on
    have next : ∀ v, nextV l x s (a : Int) = goV l x v →
        (cond (nextT l x v == (65535 : Int)) (k (hd.length + 1) (cnt + 1) 4 (hd ++ [(x.1, ((a : Int), ()))]))
          (cond (nextT l x v == (0 : Int)) (k (hd.length + 1) (cnt + 1) 0 (hd ++ [(x.1, ((a : Int), ()))]))
            (L_turnoutref16_Walk_0 FUEL k l s m (hd.length + 1) (nextT l x v) ((a + z : Nat) : Int) (cnt + 1) (hd ++ [(x.1, ((a : Int), ()))])))) =
        k (hd ++ (if (nextV l x s (a : Int)).2 ≠ 0 then ([(x.1, ((a : Int), ()))], (1, (nextV l x s (a : Int)).2)) else match findP l (nextV l x s (a : Int)).1 with
          | none => ([(x.1, ((a : Int), ()))], (1, 0))
          | some y => ((x.1, ((a : Int), ())) :: (W l s f ((a + z : Nat) : Int) y).1, (1 + (W l s f ((a + z : Nat) : Int) y).2.1, (W l s f ((a + z : Nat) : Int) y).2.2)) : List HeadS × (Int × Int)).1).length
          (cnt + (if (nextV l x s (a : Int)).2 ≠ 0 then ([(x.1, ((a : Int), ()))], (1, (nextV l x s (a : Int)).2)) else match findP l (nextV l x s (a : Int)).1 with
          | none => ([(x.1, ((a : Int), ()))], (1, 0))
          | some y => ((x.1, ((a : Int), ())) :: (W l s f ((a + z : Nat) : Int) y).1, (1 + (W l s f ((a + z : Nat) : Int) y).2.1, (W l s f ((a + z : Nat) : Int) y).2.2)) : List HeadS × (Int × Int)).2.1)
          (if (nextV l x s (a : Int)).2 ≠ 0 then ([(x.1, ((a : Int), ()))], (1, (nextV l x s (a : Int)).2)) else match findP l (nextV l x s (a : Int)).1 with
          | none => ([(x.1, ((a : Int), ()))], (1, 0))
          | some y => ((x.1, ((a : Int), ())) :: (W l s f ((a + z : Nat) : Int) y).1, (1 + (W l s f ((a + z : Nat) : Int) y).2.1, (W l s f ((a + z : Nat) : Int) y).2.2)) : List HeadS × (Int × Int)).2.2
          (hd ++ (if (nextV l x s (a : Int)).2 ≠ 0 then ([(x.1, ((a : Int), ()))], (1, (nextV l x s (a : Int)).2)) else match findP l (nextV l x s (a : Int)).1 with
          | none => ([(x.1, ((a : Int), ()))], (1, 0))
          | some y => ((x.1, ((a : Int), ())) :: (W l s f ((a + z : Nat) : Int) y).1, (1 + (W l s f ((a + z : Nat) : Int) y).2.1, (W l s f ((a + z : Nat) : Int) y).2.2)) : List HeadS × (Int × Int)).1) := fun v hv => by
      rw [hv]
      have hmem := (nextT_ok l hl hf v).1
      by_cases h65 : nextT l x v = 65535
      · have eg : goV l x v = (0, 4) := by unfold goV; rw [if_pos h65]
        rw [eg, int_beq, decide_eq_true h65]
        simp
      · have eg : goV l x v = (nextT l x v, 0) := by unfold goV; rw [if_neg h65]
        have hfl := find_lt hm H hf hmem
        rw [eg, int_beq, decide_eq_false h65, int_beq]
        simp only [cond_false, ne_eq, not_true, if_false]
        cases hfy : findP l (nextT l x v) with
        | none =>
          have h0 : nextT l x v = 0 := by
            rcases hfl.2 with h | h | h
            · exact absurd hfy h
            · exact h
            · exact absurd h h65
          rw [decide_eq_true h0]
          simp
        | some y =>
          obtain ⟨_, hy⟩ := findP_some hfy
          have hr := id_range hm.1 hfy
          rw [decide_eq_false (by omega)]
          simp only [cond_false]
          have hnn := H.nonneg y.1
          have hlt' : h y.1 < h x.1 := by rw [hy]; exact hfl.1
          have := L_rWalk k l hl hm H s hs f m (a + z) (cnt + 1) (hd ++ [(x.1, ((a : Int), ()))]) y (by rw [hy]; exact hfy) (by omega) (by omega) (by omega) hz1 (by omega) (by omega) (by simp; omega)
          rw [show (hd ++ [(x.1, ((a : Int), ()))]).length = hd.length + 1 by simp, hy] at this
          rw [this]
          simp only [List.append_assoc, List.singleton_append]
          rw [show cnt + 1 + (W l s f ((a + z : Nat) : Int) y).2.1 = cnt + (1 + (W l s f ((a + z : Nat) : Int) y).2.1) by omega]
    by_cases hw : x.2.2.2.2.2.2.1 > 0
    · have e1 : ((x.2.2.2.2.2.1.toNat : Nat) : Int) = x.2.2.2.2.2.1 := by omega
      have e2 : ((x.2.2.2.2.2.2.1.toNat : Nat) : Int) = x.2.2.2.2.2.2.1 := by omega
      have hQ := Q_rnumber s (a : Int) x.2.2.2.2.2.1.toNat x.2.2.2.2.2.2.1.toNat (by omega) (by omega) (by omega) (by omega)
      rw [e1, e2] at hQ
      have hn := numV_val s a x.2.2.2.2.2.1.toNat x.2.2.2.2.2.2.1.toNat (by omega) (by omega)
      have hnx : nextV l x s (a : Int) = if (numV s (a : Int) x.2.2.2.2.2.1.toNat x.2.2.2.2.2.2.1.toNat).2 = false then (0, 1) else goV l x (IntKind.wrap .u32 (numV s (a : Int) x.2.2.2.2.2.1.toNat x.2.2.2.2.2.2.1.toNat).1) := by
        unfold nextV
        rw [if_pos hw]
      simp only [hw, decide_true, cond_true, ok_turnoutref16_number, q_turnoutref16_number, hQ, RS.get, Option.getD_some, Option.isSome_some]
      by_cases hok : a ≤ s.size ∧ x.2.2.2.2.2.1.toNat + x.2.2.2.2.2.2.1.toNat ≤ 8 * (s.size - a)
      · rw [if_pos hok] at hn
        have hbl := bv_lt (bN s) (8 * a + x.2.2.2.2.2.1.toNat) x.2.2.2.2.2.2.1.toNat
        have h32 := two32 (show x.2.2.2.2.2.2.1.toNat ≤ 32 by omega)
        rw [hn] at hnx ⊢
        rw [if_neg (by simp), wrap32 _ (by omega)] at hnx
        simp only [Bool.not_true, cond_false]
        refine Eq.trans (L_rArms _ l s _ _ _ _ _ _ x (by have := hfm.1.1; unfold formL at this; exact this.2.2.2.2.2.2.1) hg (sel := x.2.2.2.2.2.2.1.toNat) FUEL 0 _ (by omega) (by have := hfm.1.1; unfold formL at this; have := this.2.2.2.2.2.2.1; unfold nArms; unfold FUEL; omega) ⟨-1, by rw [List.drop_zero]; exact hfm.1.2⟩) ?_
        rw [List.drop_zero]
        have ht := nextT_eq l hl hf ((bv (bN s) (8 * a + x.2.2.2.2.2.1.toNat) x.2.2.2.2.2.2.1.toNat : Nat) : Int)
        have ht' : armV (armOf (nArms x) ((bv (bN s) (8 * a + x.2.2.2.2.2.1.toNat) x.2.2.2.2.2.2.1.toNat : Nat) : Int)) x.2.2.2.2.2.2.2.2.1 = nextT l x ((bv (bN s) (8 * a + x.2.2.2.2.2.1.toNat) x.2.2.2.2.2.2.1.toNat : Nat) : Int) := ht.symm
        rw [ht']
        exact next _ hnx
      · rw [if_neg hok] at hn
        rw [hn] at hnx ⊢
        rw [if_pos rfl] at hnx
        simp only [Bool.not_false, cond_true, hnx]
        simp
    · have hnx : nextV l x s (a : Int) = goV l x 0 := by
        unfold nextV
        rw [if_neg hw]
        rfl
      simp only [hw, decide_false, cond_false]
      have harm : nArms x = [] := by
        have := hfm.1.1
        unfold formL at this
        have h8 := this.2.2.2.2.2.2.2.2
        have : x.2.2.2.2.2.2.2.1.length = 0 := by omega
        exact List.length_eq_zero_iff.1 this
      have ht : x.2.2.2.2.2.2.2.2.1 = nextT l x 0 := by
        rw [nextT_eq l hl hf, harm]; rfl
      rw [ht]
      exact next 0 hnx

theorem Q_rWalk (l : List NodeS) (hl : Nodes l) (s : ByteArray) (hs : s.size ≤ 10000) : Q_turnoutref16_Walk l s = some (((walkV l s).1.length, ((walkV l s).2.1, ((walkV l s).2.2, ()))), ((walkV l s).1, ())) := by
  refine fin ?_
  unfold M_turnoutref16_Walk
  obtain ⟨v, hv, hm0⟩ := Q_rMay l hl
  simp only [ok_turnoutref15_May, q_turnoutref15_May, hv, RS.get, Option.getD_some, Option.isSome_some, cond_true, int_bne]
  by_cases hm : mayP l
  · rw [decide_eq_true (hm0.2 hm)]
    simp only [Bool.not_true, cond_false]
    have hw : walkV l s = (match findP l 1 with | some x => W l s 64 0 x | none => ([], (0, 0))) := by unfold walkV; rw [if_pos hm]; rfl
    obtain ⟨h, H⟩ := hm.2.2.2
    cases hf : findP l 1 with
    | none =>
      rw [hf] at hw
      have hw' : walkV l s = ([], (0, 0)) := hw
      rw [hw']
      have h0 : ∀ (k : Nat → Int → Int → List HeadS → Option Res) m, 0 < m → L_turnoutref16_Walk_0 FUEL k l s m 0 1 0 0 [] = k 0 0 0 [] := fun k m hmm => by
        cases m with
        | zero => omega
        | succ m =>
          show F_turnoutref16_Walk_0 FUEL k l s (L_turnoutref16_Walk_0 FUEL k l s m) 0 1 0 0 [] = _
          unfold F_turnoutref16_Walk_0
          refine Eq.trans (L_rNode _ l hm.2.1 s 0 1 0 0 [] FUEL 0 _ (by omega) (by have := hm.2.1; unfold FUEL; omega) ⟨0, by rw [List.drop_zero]; exact hm.1⟩) ?_
          rw [List.drop_zero, hf, Option.getD_none]
          rfl
      exact h0 _ FUEL (by unfold FUEL; omega)
    | some x =>
      rw [hf] at hw
      have hw' : walkV l s = W l s 64 0 x := hw
      obtain ⟨_, hx⟩ := findP_some hf
      have hle := Hgt.le hm.2.1 hl.arms H x.1
      have h32 := hm.2.1
      have := L_rWalk (fun y6 y7 y8 y9 => some (encRes ro_turnoutref16_Walk rh_turnoutref16_Walk ((y6, (y7, (y8, ()))), (y9, ())))) l hl hm H s hs 64 FUEL 0 0 [] x (by rw [hx]; exact hf) (by omega) (by omega) (by unfold FUEL; omega) (by omega) (by omega) (by omega) (by simp)
      rw [hx] at this
      simp only [List.nil_append, List.length_nil, Int.zero_add] at this
      rw [hw']
      exact this
  · have hn : ¬ v = 0 := fun e => hm (hm0.1 e)
    rw [decide_eq_false hn]
    have hw : walkV l s = ([], (0, 0)) := by unfold walkV; rw [if_neg hm]
    rw [hw]; rfl
end Go.AMach
