/- Layer 16: WalkGraph. -/
import Derived.Test.YtcakaagbhngkhaaPm
namespace Go.AMach
set_option linter.unusedVariables false
set_option linter.unusedSimpArgs false
set_option linter.unnecessarySimpa false
open Go
set_option linter.unusedVariables false

theorem finV_fine {s : ByteArray} {at_ sz : Int} (h : (finV s at_ sz).2 = 0) : (finV s at_ sz).1 = sz ∧ sz ≤ 256 ∧ 0 ≤ at_ ∧ at_ ≤ (s.size : Int) ∧ sz ≤ (s.size : Int) - at_ := by
  unfold finV at h ⊢
  by_cases c1 : sz > 256
  · rw [if_pos c1] at h; simp at h
  rw [if_neg c1] at h ⊢
  by_cases c2 : at_ < 0
  · rw [if_pos c2] at h; simp at h
  rw [if_neg c2] at h ⊢
  by_cases c3 : at_ > (s.size : Int)
  · rw [if_pos c3] at h; simp at h
  rw [if_neg c3] at h ⊢
  by_cases c4 : sz > (s.size : Int) - at_
  · rw [if_pos c4] at h; simp at h
  rw [if_neg c4]
  exact ⟨rfl, by omega, by omega, by omega, by omega⟩

theorem two16 {w : Nat} (h : w ≤ 16) : 2 ^ w ≤ 65536 := Nat.le_trans (Nat.pow_le_pow_right (by decide) h) (by decide)

theorem sizeV_fine {x : NodeS} (hm : mayL x) {s : ByteArray} {a : Nat} (h : (sizeV x s (a : Int)).2 = 0) : ∃ z : Nat, (sizeV x s (a : Int)).1 = (z : Int) ∧ a + z ≤ s.size ∧ z ≤ 256 := by
  have go : ∀ sz : Int, 0 ≤ sz → (finV s (a : Int) sz).2 = 0 → ∃ z : Nat, (finV s (a : Int) sz).1 = (z : Int) ∧ a + z ≤ s.size ∧ z ≤ 256 := fun sz h0 hf => by
    obtain ⟨e, h1, h2, h3, h4⟩ := finV_fine hf
    exact ⟨sz.toNat, by rw [e]; omega, by omega, by omega⟩
  obtain ⟨m1, m2, m3, m4⟩ := hm
  unfold sizeV at h ⊢
  have hm' : ¬ ¬ mayL x := fun k => k ⟨m1, m2, m3, m4⟩
  rw [if_neg hm'] at h ⊢
  by_cases hw : x.2.2.2.1 > 0
  · rw [if_pos hw] at h ⊢
    by_cases hv : (numV s (a : Int) x.2.2.1.toNat x.2.2.2.1.toNat).2 = false
    · rw [if_pos hv] at h; simp at h
    rw [if_neg hv] at h ⊢
    have e := numV_val s a x.2.2.1.toNat x.2.2.2.1.toNat (by omega) (by omega)
    have hlt := bv_lt (bN s) (8 * a + x.2.2.1.toNat) x.2.2.2.1.toNat
    have h16 := two16 (show x.2.2.2.1.toNat ≤ 16 by omega)
    have hnum : 0 ≤ (numV s (a : Int) x.2.2.1.toNat x.2.2.2.1.toNat).1 ∧ (numV s (a : Int) x.2.2.1.toNat x.2.2.2.1.toNat).1 ≤ 65535 := by
      rw [e]
      split
      · simp only []; omega
      · simp only []; omega
    generalize (numV s (a : Int) x.2.2.1.toNat x.2.2.2.1.toNat).1 = v at h hnum ⊢
    rw [if_neg (show ¬ x.2.2.2.1 = 0 by omega)] at m4
    have hp0 : 0 ≤ x.2.2.2.2.1 * v := Int.mul_nonneg (by omega) hnum.1
    have hp1 : x.2.2.2.2.1 * v ≤ 256 * 65535 := Int.mul_le_mul m4.2 hnum.2 hnum.1 (by decide)
    have e1 : IntKind.wrap .i64 (x.2.1 + IntKind.wrap .i64 (x.2.2.2.2.1 * v)) = x.2.1 + x.2.2.2.2.1 * v := by
      rw [IntWalk.i64_in (x.2.2.2.2.1 * v) (by omega), IntWalk.i64_in _ (by omega)]
    rw [e1] at h ⊢
    exact go _ (by omega) h
  · rw [if_neg hw] at h ⊢
    exact go _ m1.1 h

theorem L_dup (kr : Bool → Option Res) (kt : Unit → Option Res) (l : List NodeS) (s : ByteArray) (N : Nat) (a3 a4 a5 a7 : Int) (i : Nat) (hd : List HeadS) (z : NodeS) (hN : i ≤ N) (hl : i ≤ hd.length) (hi : i < 1000000) (hno : ∀ k, k < i → (rdd zHeadS hd k).1 ≠ a4) : ∀ (m k : Nat), k ≤ i → i - k < m →
    L_turnoutlaw16_WalkGraph_2 FUEL kr kt l s N a3 a4 a5 (i : Int) a7 hd z m (k : Int) = kt ()
  | 0, _, _, h => by omega
  | m + 1, k, hk, hm => by
    show F_turnoutlaw16_WalkGraph_2 FUEL kr kt l s N a3 a4 a5 (i : Int) a7 hd z (L_turnoutlaw16_WalkGraph_2 FUEL kr kt l s N a3 a4 a5 (i : Int) a7 hd z m) (k : Int) = _
    unfold F_turnoutlaw16_WalkGraph_2
    simp only [cond_dec, int_beq, toNat_cast]
    by_cases h : k < i
    · rw [if_pos (by omega), if_pos (by omega), if_neg (hno k h), i64_succ (by omega)]
      exact L_dup kr kt l s N a3 a4 a5 a7 i hd z hN hl hi hno m (k + 1) (by omega) (by omega)
    · rw [if_neg (by omega)]

theorem rdd_mid {α : Type} {d : α} (pre : List α) (x : α) (r : List α) : rdd d (pre ++ x :: r) pre.length = x := by
  rw [rdd_lt (by simp)]; simp
theorem rdd_pre {α : Type} {d : α} (pre r : List α) {k : Nat} (h : k < pre.length) : rdd d (pre ++ r) k ∈ pre := by
  rw [rdd_lt (by simp; omega), List.getElem_append_left h]; exact List.getElem_mem h

/-- Where the law's loop over the headers may end. -/
def GEnd (l : List NodeS) (s : ByteArray) (why : Int) (id at_ : Int) : Prop :=
  (id = 65535 ∧ why = 4) ∨ (id = 0 ∧ findP l id = none ∧ why = 0) ∨ (id ≠ 65535 ∧ ∃ y, findP l id = some y ∧ (sizeV y s at_).2 = why ∧ why ≠ 0)

theorem L_graph (kr : Bool → Option Res) (kt : Int → Int → Option Res) (R : Option Res) (l : List NodeS) (hl : Nodes l) (hm : mayP l) {h : Int → Int} (H : Hgt l h) (s : ByteArray) (hs : s.size ≤ 10000) (why : Int) (hkr : kr true = R) (hkt : ∀ id at_, GEnd l s why id at_ → kt id at_ = R) :
    ∀ (f m : Nat) (pre hd : List HeadS) (a : Nat) (x : NodeS), findP l x.1 = some x → (h x.1).toNat ≤ f → f < m → a ≤ s.size → hd.length ≤ 100 → (∀ p ∈ pre, h x.1 < h p.1) → hd = pre ++ (W l s f (a : Int) x).1 → why = (W l s f (a : Int) x).2.2 →
    L_turnoutlaw16_WalkGraph_0 FUEL kr kt l s hd.length why hd m x.1 (a : Int) ((pre.length : Nat) : Int) = R
  | 0, m, pre, hd, a, x, hf, hh, _, _, _, _, _, _ => by
    have := (H.pos x.1).2 (by rw [hf]; rfl)
    omega
  | f + 1, 0, pre, hd, a, x, hf, hh, hmm, _, _, _, _, _ => by omega
  | f + 1, m + 1, pre, hd, a, x, hf, hh, hmm, ha, hlen, hpre, ehd, ewhy => by
    have hid := id_range hm.1 hf
    have hml := mayL_of hm hf
    have hsel := mayP_sel hm hf
    show F_turnoutlaw16_WalkGraph_0 FUEL kr kt l s hd.length why hd (L_turnoutlaw16_WalkGraph_0 FUEL kr kt l s hd.length why hd m) x.1 (a : Int) ((pre.length : Nat) : Int) = R
    unfold F_turnoutlaw16_WalkGraph_0
    simp only [cond_dec]
    by_cases hz : (sizeV x s (a : Int)).2 ≠ 0
    · have e : W l s (f + 1) (a : Int) x = ([], (1, (sizeV x s (a : Int)).2)) := by simp only [W]; rw [if_pos hz]
      rw [e] at ehd ewhy
      have : hd.length = pre.length := by rw [ehd]; simp
      rw [if_neg (by omega)]
      exact hkt _ _ (.inr (.inr ⟨by omega, x, hf, ewhy.symm, by rw [ewhy]; exact hz⟩))
    have hz0 : (sizeV x s (a : Int)).2 = 0 := by simpa using hz
    obtain ⟨z, ez, hz1, hz2⟩ := sizeV_fine hml hz0
    -- the head is there
    have hhead : ∃ r, (W l s (f + 1) (a : Int) x).1 = (x.1, ((a : Int), ())) :: r := by
      simp only [W]
      rw [if_neg hz]
      split
      · exact ⟨[], rfl⟩
      · split
        · exact ⟨[], rfl⟩
        · exact ⟨_, rfl⟩
    obtain ⟨r, hr⟩ := hhead
    have ehd' : hd = pre ++ (x.1, ((a : Int), ())) :: r := by rw [ehd, hr]
    have hlt : pre.length < hd.length := by rw [ehd']; simp
    have hrd : rdd zHeadS hd pre.length = (x.1, ((a : Int), ())) := by rw [ehd']; exact rdd_mid _ _ _
    rw [if_pos (by omega), if_pos (by omega)]
    simp only [toNat_cast, hrd, ok_graph_Find, q_graph_Find, Q_Find l _ hl.len, hf, findV, ok_walk_Size, q_walk_Size, Q_Size x s (a : Int) (by omega), RS.get, Option.getD_some, Option.isSome_some, cond_true, Bool.not_true, cond_false, hz0, ez, int_bne, decide_true, beq_self_eq_true, Bool.and_true]
    have ewrap : IntKind.wrap .i64 ((a : Int) + (z : Int)) = ((a + z : Nat) : Int) := by rw [IntWalk.i64_in _ (by omega)]; omega
    rw [if_pos (by omega), ewrap, if_neg (by omega)]
    refine Eq.trans (L_dup _ _ l s hd.length why x.1 (a : Int) (z : Int) pre.length hd x (by omega) (by omega) (by omega) (fun k hk => ?_) FUEL 0 (by omega) (by unfold FUEL; omega)) ?_
    · rw [ehd']
      have := hpre _ (rdd_pre (d := zHeadS) pre ((x.1, ((a : Int), ())) :: r) hk)
      intro e
      rw [e] at this
      omega
    -- what comes next
    have next : ∀ v, nextV l x s (a : Int) = goV l x v → L_turnoutlaw16_WalkGraph_0 FUEL kr kt l s hd.length why hd m (nextT l x v) ((a + z : Nat) : Int) (((pre.length + 1 : Nat)) : Int) = R := fun v hv => by
      have hmem := (nextT_ok l hl hf v).1
      have hW : W l s (f + 1) (a : Int) x = (if (goV l x v).2 ≠ 0 then ([(x.1, ((a : Int), ()))], (1, (goV l x v).2)) else match findP l (goV l x v).1 with
          | none => ([(x.1, ((a : Int), ()))], (1, 0))
          | some y => ((x.1, ((a : Int), ())) :: (W l s f ((a + z : Nat) : Int) y).1, (1 + (W l s f ((a + z : Nat) : Int) y).2.1, (W l s f ((a + z : Nat) : Int) y).2.2))) := by
        simp only [W]
        rw [if_neg hz, hv, ez, ewrap]
        rfl
      have stop : hd = pre ++ [(x.1, ((a : Int), ()))] → GEnd l s why (nextT l x v) ((a + z : Nat) : Int) → L_turnoutlaw16_WalkGraph_0 FUEL kr kt l s hd.length why hd m (nextT l x v) ((a + z : Nat) : Int) (((pre.length + 1 : Nat)) : Int) = R := fun e hg => by
        have hl2 : hd.length = pre.length + 1 := by rw [e]; simp
        cases m with
        | zero => omega
        | succ m =>
          show F_turnoutlaw16_WalkGraph_0 FUEL kr kt l s hd.length why hd (L_turnoutlaw16_WalkGraph_0 FUEL kr kt l s hd.length why hd m) (nextT l x v) ((a + z : Nat) : Int) (((pre.length + 1 : Nat)) : Int) = R
          unfold F_turnoutlaw16_WalkGraph_0
          simp only [cond_dec]
          rw [if_neg (by omega)]
          exact hkt _ _ hg
      by_cases h65 : nextT l x v = 65535
      · have eg : goV l x v = (0, 4) := by unfold goV; rw [if_pos h65]
        rw [hW, eg] at ehd ewhy
        exact stop ehd (.inl ⟨h65, ewhy⟩)
      · have eg : goV l x v = (nextT l x v, 0) := by unfold goV; rw [if_neg h65]
        rw [hW, eg, if_neg (by simp)] at ehd ewhy
        have hfl := find_lt hm H hf hmem
        cases hfy : findP l (nextT l x v) with
        | none =>
          simp only [hfy] at ehd ewhy
          refine stop ehd (.inr (.inl ⟨?_, hfy, ewhy⟩))
          rcases hfl.2 with h | h | h
          · exact absurd hfy h
          · exact h
          · exact absurd h h65
        | some y =>
          simp only [hfy] at ehd ewhy
          obtain ⟨_, hy⟩ := findP_some hfy
          have hnn := H.nonneg y.1
          have hlt' : h y.1 < h x.1 := by rw [hy]; exact hfl.1
          have := L_graph kr kt R l hl hm H s hs why hkr hkt f m (pre ++ [(x.1, ((a : Int), ()))]) hd (a + z) y (by rw [hy]; exact hfy) (by omega) (by omega) hz1 hlen (fun p hp => by
            rcases List.mem_append.1 hp with hp | hp
            · have := hpre p hp; omega
            · simp at hp; rw [hp]; exact hlt') (by rw [ehd]; simp) ewhy
          rw [show (pre ++ [(x.1, ((a : Int), ()))]).length = pre.length + 1 by simp, hy] at this
          exact this
    by_cases hw : x.2.2.2.2.2.2.1 > 0
    · rw [if_pos hw]
      have e1 : ((x.2.2.2.2.2.1.toNat : Nat) : Int) = x.2.2.2.2.2.1 := by omega
      have e2 : ((x.2.2.2.2.2.2.1.toNat : Nat) : Int) = x.2.2.2.2.2.2.1 := by omega
      generalize x.2.2.2.2.2.1.toNat = off at e1
      generalize x.2.2.2.2.2.2.1.toNat = wd at e2
      have eo : IntKind.wrap .i64 (IntKind.wrap .i64 (8 * (a : Int)) + x.2.2.2.2.2.1) = ((8 * a + off : Nat) : Int) := by
        rw [IntWalk.i64_in (8 * (a : Int)) (by omega), IntWalk.i64_in _ (by omega)]; omega
      have hn := numV_val s a off wd (by omega) (by omega)
      have hnx : nextV l x s (a : Int) = if (numV s (a : Int) off wd).2 = false then (0, 1) else goV l x (IntKind.wrap .u32 (numV s (a : Int) off wd).1) := by
        unfold nextV
        rw [if_pos hw, ← e1, ← e2]
        rfl
      rw [eo, ← e2]
      simp only [ok_turnoutlaw16_bits, q_turnoutlaw16_bits, Q_bits s (8 * a + off) wd (by omega) (by omega) (by omega), RS.get, Option.getD_some, Option.isSome_some, cond_true]
      by_cases hok : 8 * a + off + wd ≤ 8 * s.size
      · rw [if_pos (by omega)] at hn
        rw [if_pos hok]
        simp only [Bool.not_true, cond_false]
        rw [hn] at hnx
        have hbl := bv_lt (bN s) (8 * a + off) wd
        have h32 := two32 (show wd ≤ 32 by omega)
        simp only [] at hnx
        rw [if_neg (by simp), wrap32 _ (by omega)] at hnx
        simp only [ok_graph_Next, q_graph_Next, (nextT_ok l hl hf _).2, RS.get, Option.getD_some, Option.isSome_some, cond_true]
        rw [i64_succ (by omega)]
        exact next _ hnx
      · rw [if_neg (by omega)] at hn
        rw [if_neg hok]
        simp only [Bool.not_false, cond_true]
        rw [hn] at hnx
        simp only [] at hnx
        rw [if_pos trivial] at hnx
        have eW : W l s (f + 1) (a : Int) x = ([(x.1, ((a : Int), ()))], (1, 1)) := by
          simp only [W]
          rw [if_neg hz, hnx]
          simp
        rw [eW] at ehd ewhy
        have hl2 : hd.length = pre.length + 1 := by rw [ehd]; simp
        rw [ewhy, hl2]
        have ei : IntKind.wrap .i64 (((pre.length + 1 : Nat) : Int) - 1) = ((pre.length : Nat) : Int) := by rw [IntWalk.i64_in _ (by omega)]; omega
        rw [ei]
        simp only [beq_self_eq_true, cond_true]
        exact hkr
    · rw [if_neg hw]
      have hnx : nextV l x s (a : Int) = goV l x 0 := by
        unfold nextV
        rw [if_neg hw]
        rfl
      simp only [Bool.not_true, cond_false, ok_graph_Next, q_graph_Next, (nextT_ok l hl hf _).2, RS.get, Option.getD_some, Option.isSome_some, cond_true]
      rw [i64_succ (by omega)]
      exact next _ hnx

theorem L_graph' (kr : Bool → Option Res) (kt : Int → Int → Option Res) (R : Option Res) (l : List NodeS) (hl : Nodes l) (hm : mayP l) {h : Int → Int} (H : Hgt l h) (s : ByteArray) (hs : s.size ≤ 10000) (why : Int) (hd : List HeadS) (x : NodeS) (id : Int) (hx : x.1 = id) (hf : findP l id = some x) (hlen : hd.length ≤ 100)
    (ehd : hd = (W l s 64 0 x).1) (ewhy : why = (W l s 64 0 x).2.2) (hkr : kr true = R) (hkt : ∀ id at_, GEnd l s why id at_ → kt id at_ = R) :
    L_turnoutlaw16_WalkGraph_0 FUEL kr kt l s hd.length why hd FUEL id 0 0 = R := by
  subst hx
  have hle := Hgt.le hm.2.1 hl.arms H x.1
  have h32 := hm.2.1
  exact L_graph kr kt R l hl hm H s hs why hkr hkt 64 FUEL [] hd 0 x hf (by omega) (by unfold FUEL; omega) (by omega) hlen (fun p hp => by cases hp) (by rw [ehd]; rfl) (by rw [ewhy]; rfl)

theorem L_graph0 (kr : Bool → Option Res) (kt : Int → Int → Option Res) (l : List NodeS) (s : ByteArray) : ∀ m, 0 < m → L_turnoutlaw16_WalkGraph_0 FUEL kr kt l s 0 0 [] m 1 0 0 = kt 1 0
  | 0, h => by omega
  | m + 1, _ => rfl

theorem Pure.WalkGraph (l : List NodeS) (h : (Ty.slice NodeT).good l) (s : ByteArray) (hs : Ty.str.good s) : Q_turnoutlaw16_WalkGraph l s = some ((true, ()), ()) := by
  refine fin ?_
  unfold M_turnoutlaw16_WalkGraph
  obtain ⟨b, hb, hb2⟩ := Q_large l (good_len h)
  simp only [ok_turnoutlaw16_large, q_turnoutlaw16_large, hb, ok_turnoutlaw16_awake, q_turnoutlaw16_awake, awake_ok, RS.get, Option.getD_some, Option.isSome_some, cond_true, Bool.not_true, cond_false]
  cases b with
  | true => rfl
  | false =>
  obtain ⟨_, ha⟩ := hb2 rfl
  have hl := nodes_of h ha
  simp only [cond_false, cond_dec]
  refine ite_eq (fun _ => rfl) fun c1 => ?_
  simp only [ok_walk_Walk, q_walk_Walk, Q_Walk l hl s (by omega), ok_graph_May, q_graph_May, Q_May l hl, RS.get, Option.getD_some, Option.isSome_some, cond_true, int_bne]
  by_cases hm : mayP l
  · rw [decide_eq_true (mayN_zero.2 hm)]
    simp only [Bool.not_true, cond_false]
    obtain ⟨hh, H⟩ := hm.2.2.2
    have hw : walkV l s = (match findP l 1 with | some x => W l s 64 0 x | none => ([], (0, 0))) := by unfold walkV; rw [if_pos hm]; rfl
    have hbd := walkV_bound l s
    cases hf : findP l 1 with
    | none =>
      rw [hf] at hw
      have hw' : walkV l s = ([], (0, 0)) := hw
      rw [hw']
      refine Eq.trans (L_graph0 _ _ l s FUEL (by unfold FUEL; omega)) ?_
      simp only [ok_graph_Find, q_graph_Find, Q_Find l _ hl.len, hf, findV, RS.get, Option.getD_some, Option.isSome_some]
      rfl
    | some x =>
      rw [hf] at hw
      have hw' : walkV l s = W l s 64 0 x := hw
      obtain ⟨_, hx⟩ := findP_some hf
      refine L_graph' _ _ _ l hl hm H s (by omega) _ _ x 1 hx hf (by omega) (by rw [hw']) (by rw [hw']) rfl fun id at_ hg => ?_
      simp only [ok_graph_Find, q_graph_Find, Q_Find l _ hl.len, RS.get, Option.getD_some, Option.isSome_some, cond_true]
      rcases hg with ⟨h1, h2⟩ | ⟨h1, h2, h3⟩ | ⟨h1, y, h2, h3, h4⟩
      · rw [h1, h2]; rfl
      · rw [h3, h2, h1]; rfl
      · have e65 : (id == (65535 : Int)) = false := by rw [int_beq]; exact decide_eq_false h1
        rw [e65, h2]
        simp only [findV, cond_false, Bool.not_true, ok_walk_Size, q_walk_Size, Q_Size y s at_ (by omega), RS.get, Option.getD_some, Option.isSome_some, cond_true, h3, beq_self_eq_true, decide_eq_false h4, Bool.not_false]
  · have hn : ¬ mayN l = 0 := fun e => hm (mayN_zero.1 e)
    rw [decide_eq_false hn]
    have hw : walkV l s = ([], (0, 0)) := by unfold walkV; rw [if_neg hm]
    rw [hw]; rfl
end Go.AMach
