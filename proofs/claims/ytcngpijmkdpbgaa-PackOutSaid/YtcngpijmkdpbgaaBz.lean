/- Parts of the proof. -/
import Derived.Test.YtcngpijmkdpbgaaBv
/- Layer 17: a walked packet's headers are of unlike nodes. -/
namespace Go.AMach
set_option linter.unusedVariables false
set_option linter.unusedSimpArgs false
set_option linter.unnecessarySimpa false
open Go
set_option linter.unusedVariables false

theorem W_low {l : List NodeS} (hl : Nodes l) {h : Int → Int} (H : Hgt l h) (s : ByteArray) : ∀ (f : Nat) (at_ : Int) (x : NodeS), findP l x.1 = some x → (∀ y ∈ (W l s f at_ x).1, h y.1 ≤ h x.1) ∧ (W l s f at_ x).1.Pairwise fun a b => a.1 ≠ b.1
  | 0, at_, x, hf => by simp [W]
  | f + 1, at_, x, hf => by
    simp only [W]
    by_cases c1 : (sizeV x s at_).2 ≠ 0
    · rw [if_pos c1]; simp
    rw [if_neg c1]
    by_cases c2 : (nextV l x s at_).2 ≠ 0
    · rw [if_pos c2]; simp
    rw [if_neg c2]
    cases hy : findP l (nextV l x s at_).1 with
    | none => simp
    | some y =>
      have hid := (findP_some hy).2
      have hlt := H.lt hf (nextV_mem hl hf s at_ (Classical.byContradiction fun k => c2 k))
      rw [← hid] at hlt
      obtain ⟨i1, i2⟩ := W_low hl H s f (IntKind.wrap .i64 (at_ + (sizeV x s at_).1)) y (by rw [hid]; exact hy)
      refine ⟨fun z hz => ?_, ?_⟩
      · rcases List.mem_cons.1 hz with rfl | hz
        · exact Int.le_refl _
        · have := i1 z hz; omega
      · refine List.pairwise_cons.2 ⟨fun z hz e => ?_, i2⟩
        have := i1 z hz
        rw [← e] at this
        simp only at this
        omega
theorem walkV_apart (l : List NodeS) (hl : Nodes l) (s : ByteArray) : (walkV l s).1.Pairwise fun a b => a.1 ≠ b.1 := by
  unfold walkV
  split
  · rename_i hm
    obtain ⟨h, H⟩ := hm.2.2.2
    split
    · rename_i x hf
      exact (W_low hl H s 64 0 x (by rw [(findP_some hf).2]; exact hf)).2
    · simp
  · simp
theorem of_nodes {s : ByteArray} {l : List NodeS} (h : (Ty.slice NodeT).good l) (h0 : Q_z0z s l = none) : Nodes l := by
  obtain ⟨b, hb, hb2⟩ := Q_Long l (good_len h)
  cases b with
  | false => exact nodes_of h (hb2 rfl)
  | true =>
    have : Q_z0z s l = some (((), ()), ()) := by
      refine fin ?_
      unfold M_z0z
      rw [cond_dec]
      refine ite_eq (fun _ => rfl) fun c => ?_
      simp only [ok_z00, q_z00, hb, RS.get, Option.getD_some, Option.isSome_some, cond_true]
    rw [this] at h0; cases h0
end Go.AMach

/- Layer 17: what is got behind an Insert. -/
namespace Go.AMach
set_option linter.unusedVariables false
set_option linter.unusedSimpArgs false
set_option linter.unnecessarySimpa false
open Go
set_option linter.unusedVariables false

theorem insB_low {b : List Int} {k m i : Nat} (hk : k ≤ b.length) (hi : i < k) : rdd 0 (insB b k m) i = rdd 0 b i := by
  have hl := insB_length b k m hk
  rw [rdd_lt (by omega), rdd_lt (l := b) (by omega)]
  unfold insB
  rw [List.getElem_append_left (by simp only [List.length_append, List.length_take]; omega), List.getElem_append_left (by rw [List.length_take]; omega), List.getElem_take]
theorem insB_high {b : List Int} {k m i : Nat} (hk : k ≤ b.length) (hi : k ≤ i) (hb : i < b.length) : rdd 0 (insB b k m) (i + m) = rdd 0 b i := by
  have hl := insB_length b k m hk
  rw [rdd_lt (by omega), rdd_lt (l := b) (by omega)]
  unfold insB
  rw [List.getElem_append_right (by simp only [List.length_append, List.length_take, mkL_length]; omega), List.getElem_drop]
  congr 1
  simp only [List.length_append, List.length_take, mkL_length]; omega
/-- A field that ends ahead of the place. -/
theorem getB_ahead {b : List Int} {k m : Nat} (hk : k ≤ b.length) {off w : Int} {v : Nat} (h : getB b off w = some v) (he : off + w ≤ 8 * (k : Int)) : getB (insB b k m) off w = some v := by
  obtain ⟨c, rfl⟩ := getB_of h
  unfold getB
  rw [if_pos (by rw [insB_length b k m hk]; omega)]
  congr 1
  refine bv_congr _ fun i h1 h2 => bitOf_congr ?_
  unfold bl
  rw [insB_low hk (by omega)]
/-- A field that begins at the place, or behind. -/
theorem getB_behind {b : List Int} {k m : Nat} (hk : k ≤ b.length) {off w : Int} {v : Nat} (h : getB b off w = some v) (he : 8 * (k : Int) ≤ off) : getB (insB b k m) (off + 8 * (m : Int)) w = some v := by
  obtain ⟨c, rfl⟩ := getB_of h
  unfold getB
  rw [if_pos (by rw [insB_length b k m hk]; omega)]
  congr 1
  have e : (off + 8 * (m : Int)).toNat = 8 * m + off.toNat := by omega
  rw [e, ← bv_shift]
  refine bv_congr _ fun i h1 h2 => bitOf_congr ?_
  unfold bl
  rw [show m + i / 8 = i / 8 + m by omega, insB_high hk (by omega) (by omega)]
theorem mvH_id (k d : Int) (h : HeadS) : (mvH k d h).1 = h.1 := by unfold mvH; split <;> rfl
theorem mvH_at (k d : Int) (h : HeadS) : (mvH k d h).2.1 = if h.2.1 ≥ k then h.2.1 + d else h.2.1 := by unfold mvH; split <;> rfl
theorem atOf_map (k d id : Int) : ∀ hs : List HeadS, atOf (hs.map (mvH k d)) id = (atOf hs id).map fun a => if a ≥ k then a + d else a
  | [] => rfl
  | x :: r => by
    have ih := atOf_map k d id r
    unfold atOf at ih ⊢
    rw [List.map_cons, List.find?_cons, List.find?_cons, mvH_id]
    by_cases e : x.1 = id
    · rw [decide_eq_true e]
      show some ((mvH k d x).2.1) = some _
      rw [mvH_at]
    · rw [decide_eq_false e]; exact ih
/-- A field behind an Insert. -/
theorem getF_ins {hs : List HeadS} {b mt : List Int} (N : PkN hs b mt) {f : FieldS} {v : Nat} (h : getF hs b mt f = .ok v) (k m : Nat) (hk : k ≤ b.length) (hm : m ≤ 9216)
    (hc : f.2.1 = 3 ∨ (∃ a, f.2.1 = 2 ∧ atOf hs f.2.2.1 = some a ∧ (k : Int) ≤ a) ∨ (∀ a, whereF hs b mt f = some (b, a) → (f.2.1 = 2 → a < (k : Int)) ∧ 8 * a + f.2.2.2.1 + f.2.2.2.2.1 ≤ 8 * (k : Int))) :
    getF (hs.map (mvH (k : Int) (m : Int))) (insB b k m) mt f = .ok v := by
  cases hw : whereF hs b mt f with
  | none => unfold getF at h; rw [hw] at h; cases h
  | some ca =>
    obtain ⟨c, a⟩ := ca
    have hg : getB c (bitV a f.2.2.2.1) f.2.2.2.2.1 = some v := by
      unfold getF at h
      rw [hw] at h
      simp only at h
      cases hg : getB c (bitV a f.2.2.2.1) f.2.2.2.2.1 with
      | none => rw [hg] at h; cases h
      | some y => rw [hg] at h; cases h; rfl
    obtain ⟨cc, _⟩ := getB_of hg
    have hlong := N.long
    by_cases c3 : f.2.1 = 3
    · have hw' : whereF (hs.map (mvH (k : Int) (m : Int))) (insB b k m) mt f = some (mt, 0) := by unfold whereF; rw [if_neg (by omega), if_pos c3]
      have hw2 : whereF hs b mt f = some (mt, 0) := by unfold whereF; rw [if_neg (by omega), if_pos c3]
      rw [hw2] at hw
      cases hw
      unfold getF
      rw [hw']
      simp only
      rw [hg]
    have hcb : c = b := by
      rcases where_in hw with ⟨h', _⟩ | ⟨_, h', _⟩
      · exact absurd h' c3
      · exact h'
    subst hcb
    have ha0 : 0 ≤ a ∧ a ≤ 1000000 := by
      rcases where_in hw with ⟨h', _⟩ | ⟨_, _, h' | h'⟩
      · exact absurd h' c3
      · omega
      · exact atOf_ok N.ok h'
    have hoff : 0 ≤ f.2.2.2.1 := Classical.byContradiction fun k' => by
      have : bitV a f.2.2.2.1 = -1 := by unfold bitV; rw [if_pos (by omega)]
      omega
    have hbit : ∀ x : Int, bitV x f.2.2.2.1 = 8 * x + min f.2.2.2.1 147456 := fun x => by unfold bitV; rw [if_neg (by omega)]
    rw [hbit] at hg cc
    rcases hc with h' | ⟨a', h2, h3, h4⟩ | h'
    · exact absurd h' c3
    · have haa : a = a' := by
        unfold whereF at hw
        rw [if_neg (by omega), if_neg c3, if_pos h2, h3] at hw
        cases hw; rfl
      subst haa
      have hw' : whereF (hs.map (mvH (k : Int) (m : Int))) (insB c k m) mt f = some (insB c k m, a + m) := by
        unfold whereF
        rw [if_neg (by omega), if_neg c3, if_pos h2, atOf_map, h3]
        show some (insB c k m, if a ≥ (k : Int) then a + (m : Int) else a) = _
        rw [if_pos h4]
      unfold getF
      rw [hw']
      simp only
      rw [hbit, show 8 * (a + (m : Int)) + min f.2.2.2.1 147456 = 8 * a + min f.2.2.2.1 147456 + 8 * (m : Int) by omega, getB_behind hk hg (by omega)]
    · obtain ⟨h1, h2⟩ := h' a hw
      have hw' : whereF (hs.map (mvH (k : Int) (m : Int))) (insB c k m) mt f = some (insB c k m, a) := by
        unfold whereF at hw ⊢
        by_cases c1 : f.2.1 = 1
        · rw [if_pos c1] at hw ⊢; cases hw; rfl
        rw [if_neg c1, if_neg c3] at hw ⊢
        by_cases c2 : f.2.1 = 2
        · rw [if_pos c2] at hw ⊢
          rw [atOf_map]
          cases ht : atOf hs f.2.2.1 with
          | none => rw [ht] at hw; cases hw
          | some x =>
            rw [ht] at hw; cases hw
            show some (insB c k m, if a ≥ (k : Int) then a + (m : Int) else a) = _
            rw [if_neg (by have := h1 c2; omega)]
        · rw [if_neg c2] at hw; cases hw
      unfold getF
      rw [hw']
      simp only
      rw [hbit, getB_ahead hk hg (by omega)]
end Go.AMach

/- Layer 17: PackMoves, its loops. -/
namespace Go.AMach
set_option linter.unusedVariables false
set_option linter.unusedSimpArgs false
set_option linter.unnecessarySimpa false
open Go
set_option linter.unusedVariables false

theorem L_pm0 (kr : Bool → Option Res) (kk : Nat → Int → Nat → List Int → List HeadS → Nat → List Int → Option Res) {hn bn mn : Nat} {hrow : List HeadS} {brow mrow : List Int} {hs : List HeadS} {b mt : List Int} (k m : Int) (K : PkV hn bn mn hrow brow mrow (hs.map (mvH k m)) b mt) (pt : Int) (hat : ∀ h ∈ hs, 0 ≤ h.2.1 ∧ h.2.1 ≤ 1000000) (hm : 0 ≤ m ∧ m ≤ 1000000) (hl : hs.length ≤ 1000000) : ∀ (n i : Nat), i ≤ hs.length → hs.length - i < n →
    L_z1w_0 FUEL kr kk m k hs.length hs n (i : Int) hn pt bn brow hrow mn mrow = kk hn pt bn brow hrow mn mrow
  | 0, _, _, h => by omega
  | n + 1, i, hi, hn' => by
    show F_z1w_0 FUEL kr kk m k hs.length hs (L_z1w_0 FUEL kr kk m k hs.length hs n) (i : Int) hn pt bn brow hrow mn mrow = _
    unfold F_z1w_0
    simp only [cond_dec]
    by_cases h : i < hs.length
    · have hx := hat _ (rdd_mem (d := zHeadS) h)
      have hrd : rdd zHeadS (hs.map (mvH k m)) i = mvH k m (rdd zHeadS hs i) := by
        rw [rdd_lt (by simpa using h), rdd_lt h, List.getElem_map]
      have qh := Q_pHeadsV K pt
      rw [if_pos (by omega), if_pos ⟨by omega, by omega⟩]
      simp only [toNat_cast, ok_z13, q_z13, qh, RS.get, Option.getD_some, Option.isSome_some, cond_true, List.length_map, hrd, int_beq]
      rw [i64_succ (by omega)]
      have ih := L_pm0 kr kk k m K pt hat hm hl n (i + 1) (by omega) (by omega)
      by_cases hge : (rdd zHeadS hs i).2.1 ≥ k
      · have e : mvH k m (rdd zHeadS hs i) = ((rdd zHeadS hs i).1, ((rdd zHeadS hs i).2.1 + m, ())) := by unfold mvH; rw [if_pos hge]
        rw [if_pos hge, if_pos ⟨by omega, by omega⟩, e, IntWalk.i64_in _ (by omega)]
        simp only [decide_true, Bool.and_true, Bool.not_true, cond_false]
        exact ih
      · have e : mvH k m (rdd zHeadS hs i) = rdd zHeadS hs i := by unfold mvH; rw [if_neg hge]
        rw [if_neg hge, if_pos ⟨by omega, by omega⟩, e]
        simp only [decide_true, Bool.and_true, Bool.not_true, cond_false]
        exact ih
    · rw [if_neg (by omega)]
/-- Has a field's header moved? -/
def movedV (hs : List HeadS) (f : FieldS) (k : Int) : Bool := decide (f.2.1 = 2) && hs.any fun h => decide (h.1 = f.2.2.1) && decide (h.2.1 ≥ k)
theorem L_pm2 (kk : Bool → Option Res) (f : FieldS) (k : Int) (hs : List HeadS) (hl : hs.length ≤ 1000000) : ∀ (n i : Nat) (z : Bool), i ≤ hs.length → hs.length - i < n →
    L_z1w_2 FUEL kk k hs.length f hs n z (i : Int) = kk (z || movedV (hs.drop i) f k)
  | 0, _, _, _, h => by omega
  | n + 1, i, z, hi, hn => by
    show F_z1w_2 FUEL kk k hs.length f hs (L_z1w_2 FUEL kk k hs.length f hs n) z (i : Int) = _
    unfold F_z1w_2
    simp only [cond_dec]
    by_cases h : i < hs.length
    · rw [if_pos (by omega), i64_succ (by omega), L_pm2 kk f k hs hl n (i + 1) true (by omega) (by omega), L_pm2 kk f k hs hl n (i + 1) false (by omega) (by omega), toNat_cast, L_pm2 kk f k hs hl n (i + 1) _ (by omega) (by omega), drop_rdd zHeadS h]
      simp only [int_beq, cond_dec, movedV, List.any_cons]
      cases z with
      | true => simp
      | false =>
        rw [cond_false]
        by_cases c2 : f.2.1 = 2
        · have hr : (0 : Int) ≤ (i : Int) ∧ (i : Int) < ((hs.length : Nat) : Int) := by omega
          rw [if_pos c2, if_pos hr]
          by_cases e : (rdd zHeadS hs i).1 = f.2.2.1
          · rw [if_pos e, if_pos hr]; simp [c2, e]
          · rw [if_neg e]; simp [c2, e]
        · rw [if_neg c2]; simp [c2]
    · rw [if_neg (by omega), List.drop_of_length_le (by omega)]
      simp [movedV]
end Go.AMach

/- Layer 17: PackMoves. -/
namespace Go.AMach
set_option linter.unusedVariables false
set_option linter.unusedSimpArgs false
set_option linter.unnecessarySimpa false
open Go
set_option linter.unusedVariables false

/-! ### Steps over a printed function -/
theorem stepC {α β : Type} {o : Option α} {v : α} (h : o = some v) {A B X : β} (g : A = X) : cond o.isSome A B = X := by subst h; exact g
theorem stepN {α β : Type} {o : Option α} (h : o = none) {A B X : β} (g : B = X) : cond o.isSome A B = X := by subst h; exact g
theorem stepT {β : Type} {c : Bool} (h : c = true) {A B X : β} (g : A = X) : cond c A B = X := by subst h; exact g
theorem stepF {β : Type} {c : Bool} (h : c = false) {A B X : β} (g : B = X) : cond c A B = X := by subst h; exact g
theorem bne0 {x : Int} (h : x ≠ 0) : (x != (0 : Int)) = true := by rw [int_bne, decide_eq_false h]; rfl
theorem bne1 {x : Int} (h : x = 0) : (x != (0 : Int)) = false := by rw [int_bne, decide_eq_true h]; rfl
theorem beqT {x y : Int} (h : x = y) : (x == y) = true := by rw [int_beq, decide_eq_true h]
theorem beqF {x y : Int} (h : x ≠ y) : (x == y) = false := by rw [int_beq, decide_eq_false h]
theorem bneT {x y : Int} (h : x ≠ y) : (x != y) = true := by rw [int_bne, decide_eq_false h]; rfl
theorem bneF {x y : Int} (h : x = y) : (x != y) = false := by rw [int_bne, decide_eq_true h]; rfl
theorem nbT {a b : ByteArray} (h : a = b) : (!(ByteArray.toList a == ByteArray.toList b)) = false := by subst h; rw [toList_beq, decide_eq_true rfl]; rfl

theorem tmodV (x : Int) (d : Nat) (hd : 0 < d) : ∃ r : Nat, r < d ∧ Int.tmod (IntKind.wrap .u64 x) (d : Int) = (r : Int) := by
  have h0 : 0 ≤ IntKind.wrap .u64 x := by simp [IntKind.wrap, IntKind.bits, IntKind.signed]; omega
  have h1 := Int.emod_nonneg (IntKind.wrap .u64 x) (show (d : Int) ≠ 0 by omega)
  have h2 := Int.emod_lt_of_pos (IntKind.wrap .u64 x) (show (0 : Int) < d by omega)
  exact ⟨(IntKind.wrap .u64 x % (d : Int)).toNat, by omega, by rw [Int.tmod_eq_emod_of_nonneg h0]; omega⟩

theorem word_eqv (a b : Nat) : ((wN a).1 == (wN b).1 && ((wN a).2.1 == (wN b).2.1 && true)) = decide (a = b) := by
  unfold wN W2
  simp only [int_beq, Bool.and_true]
  by_cases e : a = b
  · subst e; simp
  · rw [decide_eq_false e]
    by_cases h1 : a / 18446744073709551616 = b / 18446744073709551616
    · have : a % 18446744073709551616 ≠ b % 18446744073709551616 := by omega
      rw [decide_eq_false (show ¬ ((a % 18446744073709551616 : Nat) : Int) = ((b % 18446744073709551616 : Nat) : Int) by omega), Bool.and_false]
    · rw [decide_eq_false (show ¬ ((a / 18446744073709551616 : Nat) : Int) = ((b / 18446744073709551616 : Nat) : Int) by omega), Bool.false_and]
/-- A walked packet as it is. -/
theorem pk_N (l : List NodeS) (s : ByteArray) (h : s.size ≤ 4000) : PkN (hdsV l s) (bytesL s) zeros where
  ok := pk_ok l s (by omega)
  long := by rw [bytesL_length]; omega
  at_ := fun x hx => by have := walkV_at l s x hx; rw [bytesL_length]; omega
theorem PkV.self {hs : List HeadS} {b mt : List Int} (P : PkOk hs b mt) : PkV hs.length b.length mt.length hs b mt hs b mt := ⟨Vw.self hs, Vw.self b, Vw.self mt, P⟩
theorem atOf_apart {hs : List HeadS} (hp : hs.Pairwise fun a b => a.1 ≠ b.1) {h : HeadS} (hm : h ∈ hs) : atOf hs h.1 = some h.2.1 := by
  induction hs with
  | nil => cases hm
  | cons x r ih =>
    unfold atOf at ih ⊢
    rw [List.find?_cons]
    obtain ⟨h1, h2⟩ := List.pairwise_cons.1 hp
    rcases List.mem_cons.1 hm with rfl | hm
    · rw [decide_eq_true rfl]; rfl
    · rw [decide_eq_false (h1 h hm)]; exact ih h2 hm
theorem atF_at {hs : List HeadS} {b mt : List Int} {f : FieldS} (h : (atF hs b mt f).2 = 0) : ∃ c a, whereF hs b mt f = some (c, a) ∧ 0 ≤ f.2.2.2.1 ∧ (atF hs b mt f).1 = a + f.2.2.2.1 / 8 := by
  unfold atF at h ⊢
  cases hw : whereF hs b mt f with
  | none => rw [hw] at h; simp at h
  | some ca =>
    obtain ⟨c, a⟩ := ca
    rw [hw] at h
    simp only at h ⊢
    refine ⟨c, a, rfl, ?_⟩
    unfold atV at h ⊢
    by_cases c1 : f.2.2.2.1 < 0
    · rw [if_pos c1] at h; simp at h
    rw [if_neg c1] at h ⊢
    by_cases c2 : f.2.2.2.1 / 8 > (c.length : Int) - a
    · rw [if_pos c2] at h; simp at h
    rw [if_neg c2]
    exact ⟨by omega, rfl⟩

theorem packMoves_core (s : ByteArray) (l : List NodeS) (h : (Ty.slice NodeT).good l) (at_ : FieldS) (hat : FieldT.good at_) (a3 : Int) (f : FieldS) (hf : FieldT.good f) : Q_z1w s l at_ a3 f = some ((true, ()), ()) := by
  refine fin ?_
  unfold M_z1w
  rcases of_cases s l h with h0 | ⟨h0, h1, h4⟩
  · extract_lets +onlyGivenNames y62
    have e_y62 : y62 = _ := (congrArg RS.get (h0)).trans (get_some _)
    clear_value y62; subst e_y62
    refine stepC (h0) ?_
    extract_lets +onlyGivenNames y63
    have e_y63 : y63 = _ := (congrArg RS.get (awake17)).trans (get_some _)
    clear_value y63; subst e_y63
    refine stepC (awake17) ?_
    rfl
  extract_lets +onlyGivenNames y62
  refine stepN (h0) ?_
  have N := pk_N l s h4
  have hap := walkV_apart l (of_nodes h h0) s
  have hbl := bytesL_length s
  have hbo := bytesOf_bytesL s
  have hap : (hdsV l s).Pairwise fun a b => a.1 ≠ b.1 := hap
  generalize hdsV l s = hd at h1 N hap
  generalize bytesL s = b at h1 N hbl hbo
  generalize zeros = mt at h1 N
  have P := N.ok
  have K0 := PkV.self P
  extract_lets +onlyGivenNames y1
  have e_y1 : y1 = _ := (congrArg RS.get (h1)).trans (get_some _)
  clear_value y1; subst e_y1
  refine stepC (h1) ?_
  extract_lets +onlyGivenNames y2
  have e_y2 : y2 = _ := (congrArg RS.get (awake17)).trans (get_some _)
  clear_value y2; subst e_y2
  refine stepC (awake17) ?_
  refine stepF (rfl) ?_
  extract_lets +onlyGivenNames y4
  have e_y4 : y4 = _ := (congrArg RS.get (Q_pAtV K0 1 at_ hat)).trans (get_some _)
  clear_value y4; subst e_y4
  refine stepC (Q_pAtV K0 1 at_ hat) ?_
  extract_lets +onlyGivenNames y5
  have e_y5 : y5 = _ := (congrArg RS.get (Q_pGetV K0 1 f hf)).trans (get_some _)
  clear_value y5; subst e_y5
  refine stepC (Q_pGetV K0 1 f hf) ?_
  extract_lets +onlyGivenNames y6
  have e_y6 : y6 = _ := (congrArg RS.get (Q_pAtV K0 1 f hf)).trans (get_some _)
  clear_value y6; subst e_y6
  refine stepC (Q_pAtV K0 1 f hf) ?_
  extract_lets +onlyGivenNames y7
  have e_y7 : y7 = _ := (congrArg RS.get (Q_pHeadsV K0 1)).trans (get_some _)
  clear_value y7; subst e_y7
  refine stepC (Q_pHeadsV K0 1) ?_
  refine stepT (rfl) ?_
  obtain ⟨m, hm, em⟩ := tmodV a3 300 (by omega)
  have em : IntKind.wrap .i64 (Int.tmod (IntKind.wrap .u64 a3) (300 : Int)) = (m : Int) := by
    have em : Int.tmod (IntKind.wrap .u64 a3) (300 : Int) = (m : Int) := em
    rw [em]; exact IntWalk.i64_in _ (by omega)
  rw [em]
  obtain ⟨i1, i2⟩ := Q_pIns K0 N 1 at_ hat (m : Int) (by omega)
  have hl4 : b.length ≤ 4000 := by omega
  by_cases hw : insWhy hd b mt at_ (m : Int) ≠ 0
  · have q := i1 hw
    extract_lets +onlyGivenNames y36
    have e_y36 : y36 = _ := (congrArg RS.get (q)).trans (get_some _)
    clear_value y36; subst e_y36
    refine stepC (q) ?_
    refine stepT (bne0 hw) ?_
    by_cases c3 : at_.2.1 = 3
    · refine stepT (beqT c3) ?_
      rfl
    · refine stepF (beqF c3) ?_
      have hne : (atF hd b mt at_).2 ≠ 0 := fun k => hw (by
        unfold insWhy
        have : spotF hd b mt at_ = atF hd b mt at_ := by unfold spotF; rw [if_neg c3]
        rw [this, if_neg (by omega), if_neg (by omega), if_neg (by omega)])
      show some (encRes ro_z1w rh_z1w ((((atF hd b mt at_).2 != (0 : Int)), ()), ())) = _
      rw [bne0 hne]
  have hw : insWhy hd b mt at_ (m : Int) = 0 := Classical.byContradiction hw
  obtain ⟨n', hrow', brow', K', q⟩ := i2 hw
  have hsp : (spotF hd b mt at_).2 = 0 := Classical.byContradiction fun k => by
    unfold insWhy at hw; rw [if_pos k] at hw; exact k hw
  have hk := spotF_ok N hsp
  have hc3 : at_.2.1 ≠ 3 := fun c => by unfold spotF at hsp; rw [if_pos c] at hsp; cases hsp
  have hsa : spotF hd b mt at_ = atF hd b mt at_ := by unfold spotF; rw [if_neg hc3]
  rw [hsa] at hsp hk K'
  have ha2 : (atF hd b mt at_).2 = 0 := hsp
  generalize (atF hd b mt at_).1 = k0 at hk K'
  generalize (atF hd b mt at_).2 = r0 at ha2
  obtain ⟨k, rfl⟩ : ∃ k : Nat, k0 = (k : Int) := ⟨k0.toNat, by omega⟩
  rw [toNat_cast, toNat_cast] at K'
  have hkl : k ≤ b.length := by omega
  have hil := insB_length b k m hkl
  have hn' := K'.vb.len
  have hs' : s = bytesOf b := hbo.symm
  have hsz : (bytesOf (insB b k m)).size = b.length + m := by rw [bytesOf_size, hil]
  have et : (bytesOf (insB b k m)).extract 0 k = s.extract 0 k := by
    rw [hs', bytesOf_extract, bytesOf_extract, List.drop_zero, List.drop_zero]
    congr 1
    unfold insB
    rw [List.append_assoc, List.take_append_of_le_length (by rw [List.length_take]; omega), List.take_of_length_le (by rw [List.length_take]; omega)]
  have ed : (bytesOf (insB b k m)).extract (k + m) (b.length + m) = s.extract k b.length := by
    rw [hs', bytesOf_extract, bytesOf_extract, List.take_of_length_le (by omega), List.take_of_length_le (by omega)]
    congr 1
    unfold insB
    have e1 : (b.take k ++ zerosL m).length = k + m := by rw [List.length_append, List.length_take, mkL_length]; omega
    rw [← e1, List.drop_left]
  have hpw : ∀ v, getF hd b mt f = .ok v → (atF hd b mt f).2 = 0 → (f.2.1 = 3 ∨ movedV hd f (k : Int) = true ∨ 8 * (atF hd b mt f).1 + f.2.2.2.1 % 8 + f.2.2.2.2.1 ≤ 8 * (k : Int)) → getF (hd.map (mvH (k : Int) (m : Int))) (insB b k m) mt f = .ok v := fun v hv ha hc => by
    refine getF_ins N hv k m hkl (by omega) ?_
    rcases hc with hc | hc | hc
    · exact .inl hc
    · right; left
      unfold movedV at hc
      rw [Bool.and_eq_true, decide_eq_true_eq, List.any_eq_true] at hc
      obtain ⟨c2, x, hx, hx2⟩ := hc
      rw [Bool.and_eq_true, decide_eq_true_eq, decide_eq_true_eq] at hx2
      exact ⟨x.2.1, c2, by rw [← hx2.1]; exact atOf_apart hap hx, hx2.2⟩
    · by_cases c3 : f.2.1 = 3
      · exact .inl c3
      right; right
      intro a hwa
      obtain ⟨c, a', hw', ho, e⟩ := atF_at ha
      rw [hwa] at hw'
      cases hw'
      have hg := hv
      unfold getF at hg
      rw [hwa] at hg
      simp only at hg
      cases hgb : getB b (bitV a f.2.2.2.1) f.2.2.2.2.1 with
      | none => rw [hgb] at hg; cases hg
      | some y =>
        obtain ⟨⟨_, w1, _, _⟩, _⟩ := getB_of hgb
        exact ⟨fun _ => by omega, by omega⟩
  have hlh : hd.length ≤ 1000000 := P.hl
  rcases q with q | ⟨q0, q⟩
  · extract_lets +onlyGivenNames y36
    have e_y36 : y36 = _ := (congrArg RS.get (q)).trans (get_some _)
    clear_value y36; subst e_y36
    refine stepC (q) ?_
    refine stepF (rfl) ?_
    refine stepF (bne1 ha2) ?_
    extract_lets +onlyGivenNames y9
    have e_y9 : y9 = _ := (congrArg RS.get (Q_pLenV _ _ _ _ _ _ 1)).trans (get_some _)
    clear_value y9; subst e_y9
    refine stepC (Q_pLenV _ _ _ _ _ _ 1) ?_
    extract_lets +onlyGivenNames y10
    have e_y10 : y10 = ((s.size + m : Nat) : Int) := (show IntKind.wrap .i64 ((s.size : Int) + (m : Int)) = _ by rw [IntWalk.i64_in _ (by omega)]; omega)
    clear_value y10; subst e_y10
    refine stepF (bneF (show ((n' : Nat) : Int) = ((s.size + m : Nat) : Int) by omega)) ?_
    extract_lets +onlyGivenNames y11
    have e_y11 : y11 = _ := (congrArg RS.get (Q_pTextV K' 1)).trans (get_some _)
    clear_value y11; subst e_y11
    refine stepC (Q_pTextV K' 1) ?_
    refine stepT (decide_eq_true (show (0 : Int) ≤ 0 ∧ (0 : Int) ≤ (k : Int) ∧ (k : Int) ≤ (((bytesOf (insB b k m)).size : Nat) : Int) by omega)) ?_
    extract_lets +onlyGivenNames y12
    have e_y12 : y12 = (s.extract 0 k) := et
    clear_value y12; subst e_y12
    refine stepT (decide_eq_true (show (0 : Int) ≤ 0 ∧ (0 : Int) ≤ (k : Int) ∧ (k : Int) ≤ ((s.size : Nat) : Int) by omega)) ?_
    extract_lets +onlyGivenNames y13
    refine stepF (nbT rfl) ?_
    extract_lets +onlyGivenNames y14
    have e_y14 : y14 = _ := (congrArg RS.get (Q_pTextV K' 1)).trans (get_some _)
    clear_value y14; subst e_y14
    refine stepC (Q_pTextV K' 1) ?_
    extract_lets +onlyGivenNames y15
    have e_y15 : y15 = ((k + m : Nat) : Int) := (show IntKind.wrap .i64 ((k : Int) + (m : Int)) = _ by rw [IntWalk.i64_in _ (by omega)]; omega)
    clear_value y15; subst e_y15
    refine stepT (decide_eq_true (show (0 : Int) ≤ ((k + m : Nat) : Int) ∧ ((k + m : Nat) : Int) ≤ (((bytesOf (insB b k m)).size : Nat) : Int) ∧ (((bytesOf (insB b k m)).size : Nat) : Int) ≤ (((bytesOf (insB b k m)).size : Nat) : Int) by omega)) ?_
    extract_lets +onlyGivenNames y16
    have e_y16 : y16 = (s.extract k s.size) := (by show (bytesOf (insB b k m)).extract (k + m) ((bytesOf (insB b k m)).size) = _; rw [hsz, ed, hbl])
    clear_value y16; subst e_y16
    refine stepT (decide_eq_true (show (0 : Int) ≤ (k : Int) ∧ (k : Int) ≤ ((s.size : Nat) : Int) ∧ ((s.size : Nat) : Int) ≤ ((s.size : Nat) : Int) by omega)) ?_
    extract_lets +onlyGivenNames y17
    refine stepF (nbT rfl) ?_
    extract_lets +onlyGivenNames y18
    have e_y18 : y18 = _ := (congrArg RS.get (Q_pHeadsV K' 1)).trans (get_some _)
    clear_value y18; subst e_y18
    refine stepC (Q_pHeadsV K' 1) ?_
    refine stepF (bneF (show (((hd.map (mvH (k : Int) (m : Int))).length : Nat) : Int) = ((hd.length : Nat) : Int) by rw [List.length_map])) ?_
    refine (L_pm0 _ _ (k : Int) (m : Int) K' 1 P.at_ (by omega) hlh FUEL 0 (by omega) (by unfold FUEL; omega)).trans ?_
    cases hv : getF hd b mt f with
    | error e =>
      have := getF_err hv
      refine stepT (bne0 (show e ≠ 0 by omega)) ?_
      rfl
    | ok v =>
      refine stepF (bne1 rfl) ?_
      by_cases hz : (atF hd b mt f).2 ≠ 0
      · refine stepT (bne0 hz) ?_
        rfl
      have hz : (atF hd b mt f).2 = 0 := Classical.byContradiction hz
      have hpw := hpw v hv hz
      obtain ⟨w1, w2, w3, w4⟩ := getF_ok hv
      obtain ⟨_, af, hwf, hof, eaf⟩ := atF_at hz
      refine stepF (bne1 hz) ?_
      refine (L_pm2 _ f (k : Int) hd hlh FUEL 0 false (by omega) (by unfold FUEL; omega)).trans ?_
      rw [List.drop_zero, Bool.false_or]
      have qG : ∀ _ : f.2.1 = 3 ∨ movedV hd f (k : Int) = true ∨ 8 * (atF hd b mt f).1 + f.2.2.2.1 % 8 + f.2.2.2.2.1 ≤ 8 * (k : Int), Q_z1c f hd.length 1 n' brow' hrow' mt.length mt = some (exW (.ok v), pkV hd.length n' mt.length hrow' brow' mt 1) := fun c => by
        have := Q_pGetV K' 1 f hf
        rw [hpw c] at this; exact this
      have hfin := congrArg (fun z => some (encRes ro_z1w rh_z1w ((z, ()), ()))) ((word_eqv v v).trans (decide_eq_true rfl))
      by_cases c3 : f.2.1 = 3
      · refine stepF (bneF c3) ?_
        generalize movedV hd f (k : Int) = mv at qG
        cases mv with
        | true =>
          refine stepF (rfl) ?_
          extract_lets +onlyGivenNames yG
          have e_yG : yG = _ := (congrArg RS.get (qG (.inl c3))).trans (get_some _)
          clear_value yG; subst e_yG
          refine stepC (qG (.inl c3)) ?_
          refine stepT (beqT rfl) ?_
          exact hfin
        | false =>
          refine stepT (rfl) ?_
          refine stepF (bneF c3) ?_
          extract_lets +onlyGivenNames yG
          have e_yG : yG = _ := (congrArg RS.get (qG (.inl c3))).trans (get_some _)
          clear_value yG; subst e_yG
          refine stepC (qG (.inl c3)) ?_
          refine stepT (beqT rfl) ?_
          exact hfin
      · refine stepT (bneT c3) ?_
        refine stepT (rfl) ?_
        have hsf : spotF hd b mt f = atF hd b mt f := by unfold spotF; rw [if_neg c3]
        have hfk := spotF_ok N (hsf ▸ hz)
        rw [hsf] at hfk
        extract_lets +onlyGivenNames y56
        have e_y56 : y56 = (8 * (atF hd b mt f).1 + f.2.2.2.1 % 8) := (by show IntKind.wrap .i64 (IntKind.wrap .i64 (8 * (atF hd b mt f).1) + Int.tmod f.2.2.2.1 8) = _; rw [Int.tmod_eq_emod_of_nonneg hof, IntWalk.i64_in (8 * (atF hd b mt f).1) (by omega), IntWalk.i64_in _ (by omega)])
        clear_value y56; subst e_y56
        have e57 : IntKind.wrap .i64 (8 * (atF hd b mt f).1 + f.2.2.2.1 % 8 + f.2.2.2.2.1) = 8 * (atF hd b mt f).1 + f.2.2.2.1 % 8 + f.2.2.2.2.1 := IntWalk.i64_in _ (by omega)
        have e58 : IntKind.wrap .i64 (8 * (k : Int)) = 8 * (k : Int) := IntWalk.i64_in _ (by omega)
        generalize movedV hd f (k : Int) = mv at qG
        cases mv with
        | true =>
          refine stepF (rfl) ?_
          extract_lets +onlyGivenNames yG
          have e_yG : yG = _ := (congrArg RS.get (qG (.inr (.inl rfl)))).trans (get_some _)
          clear_value yG; subst e_yG
          refine stepC (qG (.inr (.inl rfl))) ?_
          refine stepT (beqT rfl) ?_
          exact hfin
        | false =>
          refine stepT (rfl) ?_
          by_cases ca : 8 * (atF hd b mt f).1 + f.2.2.2.1 % 8 + f.2.2.2.2.1 ≤ 8 * (k : Int)
          · refine stepF (by rw [e57]; show (!decide (_ ≤ IntKind.wrap .i64 (8 * (k : Int)))) = false; rw [e58, decide_eq_true ca]; rfl) ?_
            extract_lets +onlyGivenNames yG
            have e_yG : yG = _ := (congrArg RS.get (qG (.inr (.inr ca)))).trans (get_some _)
            clear_value yG; subst e_yG
            refine stepC (qG (.inr (.inr ca))) ?_
            refine stepT (beqT rfl) ?_
            exact hfin
          · refine stepT (by rw [e57]; show (!decide (_ ≤ IntKind.wrap .i64 (8 * (k : Int)))) = true; rw [e58, decide_eq_false ca]; rfl) ?_
            refine stepT (bneT c3) ?_
            rfl
  · extract_lets +onlyGivenNames y36
    refine stepN (q0) ?_
    extract_lets +onlyGivenNames y8
    have e_y8 : y8 = _ := (congrArg RS.get (q)).trans (get_some _)
    clear_value y8; subst e_y8
    refine stepC (q) ?_
    refine stepF (rfl) ?_
    refine stepF (bne1 ha2) ?_
    extract_lets +onlyGivenNames y9
    have e_y9 : y9 = _ := (congrArg RS.get (Q_pLenV _ _ _ _ _ _ 1)).trans (get_some _)
    clear_value y9; subst e_y9
    refine stepC (Q_pLenV _ _ _ _ _ _ 1) ?_
    extract_lets +onlyGivenNames y10
    have e_y10 : y10 = ((s.size + m : Nat) : Int) := (show IntKind.wrap .i64 ((s.size : Int) + (m : Int)) = _ by rw [IntWalk.i64_in _ (by omega)]; omega)
    clear_value y10; subst e_y10
    refine stepF (bneF (show ((n' : Nat) : Int) = ((s.size + m : Nat) : Int) by omega)) ?_
    extract_lets +onlyGivenNames y11
    have e_y11 : y11 = _ := (congrArg RS.get (Q_pTextV K' 1)).trans (get_some _)
    clear_value y11; subst e_y11
    refine stepC (Q_pTextV K' 1) ?_
    refine stepT (decide_eq_true (show (0 : Int) ≤ 0 ∧ (0 : Int) ≤ (k : Int) ∧ (k : Int) ≤ (((bytesOf (insB b k m)).size : Nat) : Int) by omega)) ?_
    extract_lets +onlyGivenNames y12
    have e_y12 : y12 = (s.extract 0 k) := et
    clear_value y12; subst e_y12
    refine stepT (decide_eq_true (show (0 : Int) ≤ 0 ∧ (0 : Int) ≤ (k : Int) ∧ (k : Int) ≤ ((s.size : Nat) : Int) by omega)) ?_
    extract_lets +onlyGivenNames y13
    refine stepF (nbT rfl) ?_
    extract_lets +onlyGivenNames y14
    have e_y14 : y14 = _ := (congrArg RS.get (Q_pTextV K' 1)).trans (get_some _)
    clear_value y14; subst e_y14
    refine stepC (Q_pTextV K' 1) ?_
    extract_lets +onlyGivenNames y15
    have e_y15 : y15 = ((k + m : Nat) : Int) := (show IntKind.wrap .i64 ((k : Int) + (m : Int)) = _ by rw [IntWalk.i64_in _ (by omega)]; omega)
    clear_value y15; subst e_y15
    refine stepT (decide_eq_true (show (0 : Int) ≤ ((k + m : Nat) : Int) ∧ ((k + m : Nat) : Int) ≤ (((bytesOf (insB b k m)).size : Nat) : Int) ∧ (((bytesOf (insB b k m)).size : Nat) : Int) ≤ (((bytesOf (insB b k m)).size : Nat) : Int) by omega)) ?_
    extract_lets +onlyGivenNames y16
    have e_y16 : y16 = (s.extract k s.size) := (by show (bytesOf (insB b k m)).extract (k + m) ((bytesOf (insB b k m)).size) = _; rw [hsz, ed, hbl])
    clear_value y16; subst e_y16
    refine stepT (decide_eq_true (show (0 : Int) ≤ (k : Int) ∧ (k : Int) ≤ ((s.size : Nat) : Int) ∧ ((s.size : Nat) : Int) ≤ ((s.size : Nat) : Int) by omega)) ?_
    extract_lets +onlyGivenNames y17
    refine stepF (nbT rfl) ?_
    extract_lets +onlyGivenNames y18
    have e_y18 : y18 = _ := (congrArg RS.get (Q_pHeadsV K' 1)).trans (get_some _)
    clear_value y18; subst e_y18
    refine stepC (Q_pHeadsV K' 1) ?_
    refine stepF (bneF (show (((hd.map (mvH (k : Int) (m : Int))).length : Nat) : Int) = ((hd.length : Nat) : Int) by rw [List.length_map])) ?_
    refine (L_pm0 _ _ (k : Int) (m : Int) K' 1 P.at_ (by omega) hlh FUEL 0 (by omega) (by unfold FUEL; omega)).trans ?_
    cases hv : getF hd b mt f with
    | error e =>
      have := getF_err hv
      refine stepT (bne0 (show e ≠ 0 by omega)) ?_
      rfl
    | ok v =>
      refine stepF (bne1 rfl) ?_
      by_cases hz : (atF hd b mt f).2 ≠ 0
      · refine stepT (bne0 hz) ?_
        rfl
      have hz : (atF hd b mt f).2 = 0 := Classical.byContradiction hz
      have hpw := hpw v hv hz
      obtain ⟨w1, w2, w3, w4⟩ := getF_ok hv
      obtain ⟨_, af, hwf, hof, eaf⟩ := atF_at hz
      refine stepF (bne1 hz) ?_
      refine (L_pm2 _ f (k : Int) hd hlh FUEL 0 false (by omega) (by unfold FUEL; omega)).trans ?_
      rw [List.drop_zero, Bool.false_or]
      have qG : ∀ _ : f.2.1 = 3 ∨ movedV hd f (k : Int) = true ∨ 8 * (atF hd b mt f).1 + f.2.2.2.1 % 8 + f.2.2.2.2.1 ≤ 8 * (k : Int), Q_z1c f hd.length 1 n' brow' hrow' mt.length mt = some (exW (.ok v), pkV hd.length n' mt.length hrow' brow' mt 1) := fun c => by
        have := Q_pGetV K' 1 f hf
        rw [hpw c] at this; exact this
      have hfin := congrArg (fun z => some (encRes ro_z1w rh_z1w ((z, ()), ()))) ((word_eqv v v).trans (decide_eq_true rfl))
      by_cases c3 : f.2.1 = 3
      · refine stepF (bneF c3) ?_
        generalize movedV hd f (k : Int) = mv at qG
        cases mv with
        | true =>
          refine stepF (rfl) ?_
          extract_lets +onlyGivenNames yG
          have e_yG : yG = _ := (congrArg RS.get (qG (.inl c3))).trans (get_some _)
          clear_value yG; subst e_yG
          refine stepC (qG (.inl c3)) ?_
          refine stepT (beqT rfl) ?_
          exact hfin
        | false =>
          refine stepT (rfl) ?_
          refine stepF (bneF c3) ?_
          extract_lets +onlyGivenNames yG
          have e_yG : yG = _ := (congrArg RS.get (qG (.inl c3))).trans (get_some _)
          clear_value yG; subst e_yG
          refine stepC (qG (.inl c3)) ?_
          refine stepT (beqT rfl) ?_
          exact hfin
      · refine stepT (bneT c3) ?_
        refine stepT (rfl) ?_
        have hsf : spotF hd b mt f = atF hd b mt f := by unfold spotF; rw [if_neg c3]
        have hfk := spotF_ok N (hsf ▸ hz)
        rw [hsf] at hfk
        extract_lets +onlyGivenNames y56
        have e_y56 : y56 = (8 * (atF hd b mt f).1 + f.2.2.2.1 % 8) := (by show IntKind.wrap .i64 (IntKind.wrap .i64 (8 * (atF hd b mt f).1) + Int.tmod f.2.2.2.1 8) = _; rw [Int.tmod_eq_emod_of_nonneg hof, IntWalk.i64_in (8 * (atF hd b mt f).1) (by omega), IntWalk.i64_in _ (by omega)])
        clear_value y56; subst e_y56
        have e57 : IntKind.wrap .i64 (8 * (atF hd b mt f).1 + f.2.2.2.1 % 8 + f.2.2.2.2.1) = 8 * (atF hd b mt f).1 + f.2.2.2.1 % 8 + f.2.2.2.2.1 := IntWalk.i64_in _ (by omega)
        have e58 : IntKind.wrap .i64 (8 * (k : Int)) = 8 * (k : Int) := IntWalk.i64_in _ (by omega)
        generalize movedV hd f (k : Int) = mv at qG
        cases mv with
        | true =>
          refine stepF (rfl) ?_
          extract_lets +onlyGivenNames yG
          have e_yG : yG = _ := (congrArg RS.get (qG (.inr (.inl rfl)))).trans (get_some _)
          clear_value yG; subst e_yG
          refine stepC (qG (.inr (.inl rfl))) ?_
          refine stepT (beqT rfl) ?_
          exact hfin
        | false =>
          refine stepT (rfl) ?_
          by_cases ca : 8 * (atF hd b mt f).1 + f.2.2.2.1 % 8 + f.2.2.2.2.1 ≤ 8 * (k : Int)
          · refine stepF (by rw [e57]; show (!decide (_ ≤ IntKind.wrap .i64 (8 * (k : Int)))) = false; rw [e58, decide_eq_true ca]; rfl) ?_
            extract_lets +onlyGivenNames yG
            have e_yG : yG = _ := (congrArg RS.get (qG (.inr (.inr ca)))).trans (get_some _)
            clear_value yG; subst e_yG
            refine stepC (qG (.inr (.inr ca))) ?_
            refine stepT (beqT rfl) ?_
            exact hfin
          · refine stepT (by rw [e57]; show (!decide (_ ≤ IntKind.wrap .i64 (8 * (k : Int)))) = true; rw [e58, decide_eq_false ca]; rfl) ?_
            refine stepT (bneT c3) ?_
            rfl
theorem Pure.PackMoves (s : ByteArray) (hs : Ty.str.good s) (l : List NodeS) (h : (Ty.slice NodeT).good l) (a2 : FieldS) (h2 : FieldT.good a2) (a3 : Int) (h3 : (Ty.int .i64).good a3) (f : FieldS) (hf : FieldT.good f) : Q_z1w s l a2 a3 f = some ((true, ()), ()) := packMoves_core s l h a2 h2 a3 f hf
end Go.AMach
