/- Parts of the proof. -/
import Derived.Test.YtfmjdojndbpkhaaPg
import Derived.KernelRfl
/- Layer 24: the reference's numbers are the height. -/
namespace Go.AMach
set_option linter.unusedVariables false
set_option linter.unusedSimpArgs false
set_option linter.unnecessarySimpa false
open Go
set_option linter.unusedVariables false

structure Abs (c : jaa) (l : List jao) : Prop where
  t : ∀ id, jbI (cT c) id = none → jbE l 1 id = 0
  b : ∀ id, jbf (cB c) id = none → jbE l 2 id = 0
  g : ∀ id, jbS (cG c) id = none → jbE l 3 id = 0
theorem Zero.abs {c : jaa} {l : List jao} (h : Zero l) : Abs c l := by
  have : ∀ k id, jbE l k id = 0 := fun k id => by
    unfold jbE
    cases hf : jbg l k id with
    | none => rfl
    | some p => exact h _ (jbn (jcO hf).1)
  exact ⟨fun id _ => this _ _, fun id _ => this _ _, fun id _ => this _ _⟩
theorem jcR {c : jaa} {l : List jao} (h : Has c l) (k id : Int) : jbE (jeT c l) k id =
    if k = 3 then ((jbS (cG c) id).elim (jbE l k id) fun t => jcP (FL l) t.2.1 t.2.2.2.1)
    else if k = 2 then ((jbf (cB c) id).elim (jbE l k id) fun t => rdd 0 (jbb (FL l) t.2.1) 0)
    else if k = 1 then ((jbI (cT c) id).elim (jbE l k id) fun t => tabR l c t) else jbE l k id := by
  have f1 : ∀ k id, jbg (putT c l l) k id = jbg l k id := fun k id => jcM 1 (fun t : jbl => t.1) _ l k id (cT c)
  have f2 : ∀ k id, jbg (putB c l (putT c l l)) k id = jbg l k id := fun k id => (jcM 2 (fun t : jbB => t.1) _ _ k id (cB c)).trans (f1 k id)
  have e3 := jhb 3 (fun t : jal => t.1) (fun t => jcP (FL l) t.2.1 t.2.2.2.1) (o := putB c l (putT c l l)) k id (cG c) (fun t ht => by rw [f2]; exact h.g t ht)
  have e2 := jhb 2 (fun t : jbB => t.1) (fun t => rdd 0 (jbb (FL l) t.2.1) 0) (o := putT c l l) k id (cB c) (fun t ht => by rw [f1]; exact h.b t ht)
  have e1 := jhb 1 (fun t : jbl => t.1) (fun t => tabR l c t) (o := l) k id (cT c) (fun t ht => h.t t ht)
  refine Eq.trans e3 ?_
  by_cases c3 : k = 3
  · rw [if_pos c3, if_pos c3]
    show (jbS (cG c) id).elim (jbE (putB c l (putT c l l)) k id) (fun t => jcP (FL l) t.2.1 t.2.2.2.1) = _
    cases jbS (cG c) id with
    | some t => rfl
    | none =>
      refine Eq.trans e2 ?_
      rw [if_neg (by omega)]
      refine Eq.trans e1 ?_
      rw [if_neg (by omega)]; rfl
  · rw [if_neg c3, if_neg c3]
    refine Eq.trans e2 ?_
    by_cases c2 : k = 2
    · rw [if_pos c2, if_pos c2]
      show (jbf (cB c) id).elim (jbE (putT c l l) k id) (fun t => rdd 0 (jbb (FL l) t.2.1) 0) = _
      cases jbf (cB c) id with
      | some t => rfl
      | none =>
        refine Eq.trans e1 ?_
        rw [if_neg (by omega)]; rfl
    · rw [if_neg c2, if_neg c2]
      exact e1
theorem Abs.round {c : jaa} {l : List jao} (h : Has c l) (a : Abs c l) : Abs c (jeT c l) where
  t := fun id hf => by rw [jcR h, if_neg (by omega), if_neg (by omega), if_pos rfl, hf]; exact a.t id hf
  b := fun id hf => by rw [jcR h, if_neg (by omega), if_pos rfl, hf]; exact a.b id hf
  g := fun id hf => by rw [jcR h, if_pos rfl, hf]; exact a.g id hf
abbrev stepC (c : jaa) (f : ObjS → Int) (x : ObjS) : Int := jfd (jdb c) (jcf c) (jdt c) f x
theorem jCT {c : jaa} {l : List jao} (h : Has c l) (a : Abs c l) (hs : SpOk l) {x : ObjS} (hk : jkh x) : FL (jeT c l) x = stepC c (FL l) x := by
  unfold FL stepC jfd
  rcases hk with h0 | h1 | h2
  · rw [jcR h, if_neg (by omega), if_neg (by omega), if_pos (by omega), if_pos h0]
    unfold jdb
    cases hf : jbI (cT c) x.2.1 with
    | none =>
      have : x.1 + 1 = 1 := by omega
      show jbE l (x.1 + 1) x.2.1 = cut7 0
      rw [this, a.t _ hf]; rfl
    | some t =>
      have ht : t.1 = x.2.1 := by
        have := List.find?_some (p := fun t : jbl => decide (t.1 = x.2.1)) hf
        exact of_decide_eq_true this
      show tabR l c t = cut7 (jeZ (FL l) (tM t :: ((cE c).filter fun y => decide (y.1 = x.2.1)).map eB) + 1)
      unfold tabR jeZ
      rw [List.foldl_cons, List.foldl_map, Int.add_comm, ht]
      have h0 : mx 0 (FL l (1, (tM t, ()))) = FL l (1, (tM t, ())) := by
        have := jCK hs (1, (tM t, ()))
        unfold InR at this; unfold mx; split <;> omega
      rw [h0]
  · rw [jcR h, if_neg (by omega), if_pos (by omega), if_neg (by omega), if_pos h1]
    unfold jcf
    cases hf : jbf (cB c) x.2.1 with
    | none =>
      have : x.1 + 1 = 2 := by omega
      show jbE l (x.1 + 1) x.2.1 = cut7 (rdd 0 (jbb (FL l) []) 0)
      rw [this, a.b _ hf]; rfl
    | some t =>
      show rdd 0 (jbb (FL l) t.2.1) 0 = cut7 (rdd 0 (jbb (FL l) t.2.1) 0)
      exact (jrs (jfB (jcZ (jCK hs) _) 0)).symm
  · rw [jcR h, if_pos (by omega), if_neg (by omega), if_neg (by omega)]
    unfold jdt
    cases hf : jbS (cG c) x.2.1 with
    | none =>
      have : x.1 + 1 = 3 := by omega
      show jbE l (x.1 + 1) x.2.1 = cut7 (jcP (FL l) jak.2.1 [])
      rw [this, a.g _ hf]; rfl
    | some t =>
      show jcP (FL l) t.2.1 t.2.2.2.1 = cut7 (jcP (FL l) t.2.1 t.2.2.2.1)
      exact (jrs (jrq (jCK hs) _ _)).symm
theorem jvh (c : jaa) : ∀ (n : Nat) (l : List jao), jmd c (n + 1) l = jeT c (jmd c n l)
  | 0, _ => rfl
  | n + 1, l => by show jmd c (n + 1) (jeT c l) = _; rw [jvh c n]; rfl
theorem jyG {c : jaa} : ∀ (n : Nat) {l : List jao}, Has c l → Abs c l → SpOk l → Has c (jmd c n l) ∧ Abs c (jmd c n l) ∧ SpOk (jmd c n l)
  | 0, l, h, a, s => ⟨h, a, s⟩
  | n + 1, l, h, a, s => jyG n h.round (a.round h) (jyo s)
abbrev jww (c : jaa) : List ObjS := (jbC c).map fun s => (s.1 - 1, (s.2.1, ()))
theorem jnj {c : jaa} {x : ObjS} (hk : jkh x) (hne : jbH c x ≠ []) : x ∈ jww c := by
  have hh := jkk c
  have key : (jbg (jbC c) (x.1 + 1) x.2.1).isSome = true := by
    unfold jbH jaE at hne
    rcases hk with h0 | h1 | h2
    · rw [if_pos h0] at hne
      unfold jdb at hne
      cases hf : jbI (cT c) x.2.1 with
      | none => rw [hf] at hne; exact absurd rfl hne
      | some t =>
        have ht : t.1 = x.2.1 := of_decide_eq_true (List.find?_some (p := fun t : jbl => decide (t.1 = x.2.1)) hf)
        rw [show x.1 + 1 = 1 by omega, ← ht]
        exact hh.t t (List.mem_of_find?_eq_some hf)
    · rw [if_neg (by omega), if_pos h1] at hne
      unfold jcf at hne
      cases hf : jbf (cB c) x.2.1 with
      | none => rw [hf] at hne; exact absurd rfl hne
      | some t =>
        have ht : t.1 = x.2.1 := of_decide_eq_true (List.find?_some (p := fun t : jbB => decide (t.1 = x.2.1)) hf)
        rw [show x.1 + 1 = 2 by omega, ← ht]
        exact hh.b t (List.mem_of_find?_eq_some hf)
    · rw [if_neg (by omega), if_neg (by omega)] at hne
      unfold jdt at hne
      cases hf : jbS (cG c) x.2.1 with
      | none => rw [hf] at hne; exact absurd rfl hne
      | some t =>
        have ht : t.1 = x.2.1 := of_decide_eq_true (List.find?_some (p := fun t : jal => decide (t.1 = x.2.1)) hf)
        rw [show x.1 + 1 = 3 by omega, ← ht]
        exact hh.g t (List.mem_of_find?_eq_some hf)
  cases hf : jbg (jbC c) (x.1 + 1) x.2.1 with
  | none => rw [hf] at key; cases key
  | some p =>
    obtain ⟨hp, h1, h2⟩ := jcO hf
    refine List.mem_map.2 ⟨_, jbn (d := jaz) hp, ?_⟩
    obtain ⟨a, b, u⟩ := x
    simp only at h1 h2
    rw [h1, h2]
    show (a + 1 - 1, (b, ())) = (a, (b, u))
    rw [show a + 1 - 1 = a by omega]
theorem conv {c : jaa} {l : List jao} (h : Has c l) (a : Abs c l) (s : SpOk l) {x : ObjS} (hx : Ends (jbH c) x) : jkh x → ∀ n, (if jbH c x = [] then 1 else rk (jww c) (jbH c) x + 2) ≤ n → FL (jmd c n l) x = HC c x := by
  induction hx with
  | intro x hh ih =>
    intro hk n hn
    cases n with
    | zero => split at hn <;> omega
    | succ n =>
      obtain ⟨i1, i2, i3⟩ := jyG n h a s
      rw [jvh, jCT i1 i2 i3 hk]
      refine Eq.trans ?_ (H_eq (Acc.intro x hh : Ends (jbH c) x)).symm
      refine jeR fun y hy => ih y hy (jbZ hy) n ?_
      have hne : jbH c x ≠ [] := fun e => by
        have hy : y ∈ jbH c x := hy
        rw [e] at hy; cases hy
      rw [if_neg hne] at hn
      by_cases e : jbH c y = []
      · rw [if_pos e]; omega
      · rw [if_neg e]
        have := rk_lt (U := jww c) (Acc.intro x hh : Ends (jbH c) x) hy (jnj (jbZ hy) e)
        omega
/-- The reference's numbers. -/
theorem allR_H {c : jaa} (hc : Cfg c) (hn : ¬ jcx c) {x : ObjS} (hk : jkh x) : FL (allR c) x = HC c x := by
  have hx := hc.sol.ends hn x
  refine conv (jkk c) (jhN c).abs (jhN c).ok hx hk _ ?_
  by_cases e : jbH c x = []
  · rw [if_pos e]; omega
  · rw [if_neg e]
    have hm := jnj hk e
    have hlt : rk (jww c) (jbH c) x < (jww c).length := by
      have : rk (jww c) (jbH c) x < (jww c).countP (fun _ => true) := jhl (fun _ _ _ => rfl) ⟨x, hm, rfl, by simpa using Ends.noRing hx⟩
      rwa [List.countP_true] at this
    rw [List.length_map] at hlt
    omega
end Go.AMach

/- Layer 24: the reference's leads: tables and groups. -/
namespace Go.AMach
set_option linter.unusedVariables false
set_option linter.unusedSimpArgs false
set_option linter.unnecessarySimpa false
open Go
set_option linter.unusedVariables false

theorem L_rl7 (kr : Bool → Option Res) (kt : Unit → Option Res) {c : jaa} (hc : (cE c).length ≤ 1000) (a b : jao) : ∀ (m i : Nat), i ≤ (cE c).length → (cE c).length - i < m →
    jll FUEL kr kt c a b m (i : Int) = if (((cE c).drop i).any fun x => decide (x.1 = a.2.1 ∧ b.1 = 2 ∧ eB x = b.2.1)) = true then kr true else kt ()
  | 0, _, _, h => by omega
  | m + 1, i, hi, hm => by
    show jtg FUEL kr kt c a b (jll FUEL kr kt c a b m) (i : Int) = _
    unfold jtg
    by_cases hlt : i < (cE c).length
    · have ih := L_rl7 kr kt hc a b m (i + 1) (by omega) (by omega)
      refine jai (decide_eq_true (by show (i : Int) < ((cE c).length : Int); omega)) ?_
      refine jai (decide_eq_true (by show (0 : Int) ≤ (i : Int) ∧ (i : Int) < ((cE c).length : Int); omega)) ?_
      rw [jan, jaF jaT hlt, List.any_cons, jaA (by omega)]
      by_cases c1 : (rdd jaT (cE c) i).1 = a.2.1
      · refine jai (jbV c1) ?_
        by_cases c2 : b.1 = 2
        · refine jai (jbV c2) ?_
          refine jai (decide_eq_true (by show (0 : Int) ≤ (i : Int) ∧ (i : Int) < ((cE c).length : Int); omega)) ?_
          by_cases c3 : eB (rdd jaT (cE c) i) = b.2.1
          · refine jai (jbV c3) ?_
            rw [decide_eq_true ⟨c1, c2, c3⟩, Bool.true_or, if_pos rfl]
          · refine jaq (jbi c3) ?_
            rw [decide_eq_false (fun q => c3 q.2.2), Bool.false_or]
            exact ih
        · refine jaq (jbi c2) ?_
          rw [decide_eq_false (fun q => c2 q.2.1), Bool.false_or]
          exact ih
      · refine jaq (jbi c1) ?_
        rw [decide_eq_false (fun q => c1 q.1), Bool.false_or]
        exact ih
    · refine jaq (decide_eq_false (by show ¬ (i : Int) < ((cE c).length : Int); omega)) ?_
      rw [List.drop_of_length_le (by omega)]
      rfl
theorem L_rl5 (kr : Bool → Option Res) (kt : Unit → Option Res) {c : jaa} (hc : (cT c).length ≤ 1000) (a b : jao) : ∀ (m i : Nat), i ≤ (cT c).length → (cT c).length - i < m →
    jlm FUEL kr kt c a b m (i : Int) = if ((jbI ((cT c).drop i) a.2.1).elim false fun t => decide (b.1 = 2 ∧ tM t = b.2.1)) = true then kr true else kt ()
  | 0, _, _, h => by omega
  | m + 1, i, hi, hm => by
    show jth FUEL kr kt c a b (jlm FUEL kr kt c a b m) (i : Int) = _
    unfold jth
    by_cases hlt : i < (cT c).length
    · have ih := L_rl5 kr kt hc a b m (i + 1) (by omega) (by omega)
      refine jai (decide_eq_true (by show (i : Int) < ((cT c).length : Int); omega)) ?_
      refine jai (decide_eq_true (by show (0 : Int) ≤ (i : Int) ∧ (i : Int) < ((cT c).length : Int); omega)) ?_
      rw [jan, jaF jaD hlt]
      unfold jbI at ih ⊢
      rw [List.find?_cons]
      by_cases c1 : (rdd jaD (cT c) i).1 = a.2.1
      · refine jai (jbV c1) ?_
        rw [decide_eq_true c1]
        show _ = if decide (b.1 = 2 ∧ tM (rdd jaD (cT c) i) = b.2.1) = true then kr true else kt ()
        by_cases c2 : b.1 = 2
        · refine jai (jbV c2) ?_
          refine jai (decide_eq_true (by show (0 : Int) ≤ (i : Int) ∧ (i : Int) < ((cT c).length : Int); omega)) ?_
          by_cases c3 : tM (rdd jaD (cT c) i) = b.2.1
          · refine jai (jbV c3) ?_
            rw [if_pos (decide_eq_true ⟨c2, c3⟩)]
          · refine jaq (jbi c3) ?_
            rw [if_neg (by rw [decide_eq_false (fun q => c3 q.2)]; decide)]
        · refine jaq (jbi c2) ?_
          rw [if_neg (by rw [decide_eq_false (fun q => c2 q.1)]; decide)]
      · refine jaq (jbi c1) ?_
        rw [decide_eq_false c1, jaA (by omega)]
        exact ih
    · refine jaq (decide_eq_false (by show ¬ (i : Int) < ((cT c).length : Int); omega)) ?_
      rw [List.drop_of_length_le (by omega)]
      rfl
theorem L_rl3 (kr : Bool → Option Res) (kt : Unit → Option Res) {c : jaa} (h : Cfg c) (i : Nat) (hi : i < (cG c).length) (b : jao) : ∀ (m j : Nat), j ≤ (rdd jak (cG c) i).2.2.2.1.length → (rdd jak (cG c) i).2.2.2.1.length - j < m →
    jln FUEL kr kt (i : Int) c b m (j : Int) = if (((rdd jak (cG c) i).2.2.2.1.drop j).any fun x => decide (b.1 = 2 ∧ x.2.1 = b.2.1)) = true then kr true else kt ()
  | 0, _, _, h => by omega
  | m + 1, j, hj, hm => by
    have hb := h.buck _ (jbn (d := jak) hi)
    show jti FUEL kr kt (i : Int) c b (jln FUEL kr kt (i : Int) c b m) (j : Int) = _
    unfold jti
    refine jai (decide_eq_true (by show (0 : Int) ≤ (i : Int) ∧ (i : Int) < ((cG c).length : Int); omega)) ?_
    rw [jan]
    by_cases hlt : j < (rdd jak (cG c) i).2.2.2.1.length
    · have ih := L_rl3 kr kt h i hi b m (j + 1) (by omega) (by omega)
      refine jai (decide_eq_true (by show (j : Int) < ((rdd jak (cG c) i).2.2.2.1.length : Int); omega)) ?_
      rw [jaF jba hlt, List.any_cons, jaA (by omega)]
      by_cases c2 : b.1 = 2
      · refine jai (jbV c2) ?_
        refine jai (decide_eq_true (by show (0 : Int) ≤ (i : Int) ∧ (i : Int) < ((cG c).length : Int); omega)) ?_
        refine jai (decide_eq_true (by show (0 : Int) ≤ (j : Int) ∧ (j : Int) < ((rdd jak (cG c) i).2.2.2.1.length : Int); omega)) ?_
        rw [jan]
        extract_lets -merge +onlyGivenNames y9
        by_cases c3 : (rdd jba (rdd jak (cG c) i).2.2.2.1 j).2.1 = b.2.1
        · refine jai (jbV c3) ?_
          rw [decide_eq_true ⟨c2, c3⟩, Bool.true_or, if_pos rfl]
        · refine jaq (jbi c3) ?_
          rw [decide_eq_false (fun q => c3 q.2), Bool.false_or]
          exact ih
      · refine jaq (jbi c2) ?_
        rw [decide_eq_false (fun q => c2 q.1), Bool.false_or]
        exact ih
    · refine jaq (decide_eq_false (by show ¬ (j : Int) < ((rdd jak (cG c) i).2.2.2.1.length : Int); omega)) ?_
      rw [List.drop_of_length_le (by omega)]
      rfl
theorem L_rl1 (kr : Bool → Option Res) (kt : Unit → Option Res) {c : jaa} (h : Cfg c) (a b : jao) : ∀ (m i : Nat), i ≤ (cG c).length → (cG c).length - i < m →
    jlo FUEL kr kt c a b m (i : Int) = if ((jbS ((cG c).drop i) a.2.1).elim false fun t => t.2.2.2.1.any fun x => decide (b.1 = 2 ∧ x.2.1 = b.2.1)) = true then kr true else kt ()
  | 0, _, _, h => by omega
  | m + 1, i, hi, hm => by
    have hg := h.g
    show jtj FUEL kr kt c a b (jlo FUEL kr kt c a b m) (i : Int) = _
    unfold jtj
    by_cases hlt : i < (cG c).length
    · have ih := L_rl1 kr kt h a b m (i + 1) (by omega) (by omega)
      have hb := h.buck _ (jbn (d := jak) hlt)
      refine jai (decide_eq_true (by show (i : Int) < ((cG c).length : Int); omega)) ?_
      refine jai (decide_eq_true (by show (0 : Int) ≤ (i : Int) ∧ (i : Int) < ((cG c).length : Int); omega)) ?_
      rw [jan, jaF jak hlt]
      unfold jbS at ih ⊢
      rw [List.find?_cons]
      by_cases c1 : (rdd jak (cG c) i).1 = a.2.1
      · refine jaq (by show ((rdd jak (cG c) i).1 != a.2.1) = false; rw [jcs, decide_eq_true c1]; rfl) ?_
        rw [decide_eq_true c1]
        refine Eq.trans (L_rl3 _ _ h i hlt b FUEL 0 (by omega) (jaU (by omega))) ?_
        rfl
      · refine jai (by show ((rdd jak (cG c) i).1 != a.2.1) = true; rw [jcs, decide_eq_false c1]; rfl) ?_
        rw [decide_eq_false c1, jaA (by omega)]
        exact ih
    · refine jaq (decide_eq_false (by show ¬ (i : Int) < ((cG c).length : Int); omega)) ?_
      rw [List.drop_of_length_le (by omega)]
      rfl
end Go.AMach

/- Layer 24: the reference's leads. -/
namespace Go.AMach
set_option linter.unusedVariables false
set_option linter.unusedSimpArgs false
set_option linter.unnecessarySimpa false
open Go
set_option linter.unusedVariables false

abbrev iN (x : jaj) : Int := x.2.2.2.2.1
abbrev jnG (b : jao) (x : jaj) : Bool := decide ((x.1 = 13 ∧ b.1 = 1 ∧ iN x = b.2.1) ∨ (x.1 = 14 ∧ b.1 = 3 ∧ iN x = b.2.1))
theorem jGG (kr : Bool → Option Res) (kt : Unit → Option Res) {c : jaa} (h : Cfg c) (i : Nat) (hi : i < (cB c).length) (b : jao) : ∀ (m j : Nat), j ≤ (rdd jap (cB c) i).2.1.length → (rdd jap (cB c) i).2.1.length - j < m →
    jho FUEL kr kt (i : Int) c b m (j : Int) = if (((rdd jap (cB c) i).2.1.drop j).any (jnG b)) = true then kr true else kt ()
  | 0, _, _, h => by omega
  | m + 1, j, hj, hm => by
    have hb := h.code _ (jbn (d := jap) hi)
    show jmr FUEL kr kt (i : Int) c b (jho FUEL kr kt (i : Int) c b m) (j : Int) = _
    unfold jmr
    refine jai (decide_eq_true (by show (0 : Int) ≤ (i : Int) ∧ (i : Int) < ((cB c).length : Int); omega)) ?_
    rw [jan]
    by_cases hlt : j < (rdd jap (cB c) i).2.1.length
    · have ih := jGG kr kt h i hi b m (j + 1) (by omega) (by omega)
      refine jai (decide_eq_true (by show (j : Int) < ((rdd jap (cB c) i).2.1.length : Int); omega)) ?_
      refine jai (decide_eq_true (by show (0 : Int) ≤ (i : Int) ∧ (i : Int) < ((cB c).length : Int); omega)) ?_
      refine jai (decide_eq_true (by show (0 : Int) ≤ (j : Int) ∧ (j : Int) < ((rdd jap (cB c) i).2.1.length : Int); omega)) ?_
      rw [jan, jaF jae hlt, List.any_cons, jaA (by omega)]
      generalize rdd jae (rdd jap (cB c) i).2.1 j = x at *
      by_cases c13 : x.1 = 13
      · refine jai (jbV c13) ?_
        by_cases cb : b.1 = 1
        · refine jai (jbV cb) ?_
          extract_lets -merge +onlyGivenNames y3
          by_cases cn : iN x = b.2.1
          · refine jai (jbV cn) ?_
            rw [show jnG b x = true from decide_eq_true (.inl ⟨c13, cb, cn⟩), Bool.true_or, if_pos rfl]
          · refine jaq (jbi cn) ?_
            refine jaq (jbi (by omega)) ?_
            rw [show jnG b x = false from decide_eq_false (by rintro (q | q); exact cn q.2.2; exact cn q.2.2), Bool.false_or]
            exact ih
        · refine jaq (jbi cb) ?_
          refine jaq (jbi (by omega)) ?_
          rw [show jnG b x = false from decide_eq_false (by rintro (q | q); exact cb q.2.1; have := q.1; omega), Bool.false_or]
          exact ih
      · refine jaq (jbi c13) ?_
        by_cases c14 : x.1 = 14
        · refine jai (jbV c14) ?_
          by_cases cb : b.1 = 3
          · refine jai (jbV cb) ?_
            extract_lets -merge +onlyGivenNames y6
            by_cases cn : iN x = b.2.1
            · refine jai (jbV cn) ?_
              rw [show jnG b x = true from decide_eq_true (.inr ⟨c14, cb, cn⟩), Bool.true_or, if_pos rfl]
            · refine jaq (jbi cn) ?_
              rw [show jnG b x = false from decide_eq_false (by rintro (q | q); exact cn q.2.2; exact cn q.2.2), Bool.false_or]
              exact ih
          · refine jaq (jbi cb) ?_
            rw [show jnG b x = false from decide_eq_false (by rintro (q | q); exact c13 q.1; exact cb q.2.1), Bool.false_or]
            exact ih
        · refine jaq (jbi c14) ?_
          rw [show jnG b x = false from decide_eq_false (by rintro (q | q); exact c13 q.1; exact c14 q.1), Bool.false_or]
          exact ih
    · refine jaq (decide_eq_false (by show ¬ (j : Int) < ((rdd jap (cB c) i).2.1.length : Int); omega)) ?_
      rw [List.drop_of_length_le (by omega)]
      rfl
theorem L_rl9 (kr : Bool → Option Res) (kt : Unit → Option Res) {c : jaa} (h : Cfg c) (a b : jao) : ∀ (m i : Nat), i ≤ (cB c).length → (cB c).length - i < m →
    jlk FUEL kr kt c a b m (i : Int) = if ((jbf ((cB c).drop i) a.2.1).elim false fun t => t.2.1.any (jnG b)) = true then kr true else kt ()
  | 0, _, _, h => by omega
  | m + 1, i, hi, hm => by
    have hg := h.b
    show jtf FUEL kr kt c a b (jlk FUEL kr kt c a b m) (i : Int) = _
    unfold jtf
    by_cases hlt : i < (cB c).length
    · have ih := L_rl9 kr kt h a b m (i + 1) (by omega) (by omega)
      have hb := h.code _ (jbn (d := jap) hlt)
      refine jai (decide_eq_true (by show (i : Int) < ((cB c).length : Int); omega)) ?_
      refine jai (decide_eq_true (by show (0 : Int) ≤ (i : Int) ∧ (i : Int) < ((cB c).length : Int); omega)) ?_
      rw [jan, jaF jap hlt]
      unfold jbf at ih ⊢
      rw [List.find?_cons]
      by_cases c1 : (rdd jap (cB c) i).1 = a.2.1
      · refine jaq (by show ((rdd jap (cB c) i).1 != a.2.1) = false; rw [jcs, decide_eq_true c1]; rfl) ?_
        rw [decide_eq_true c1]
        refine Eq.trans (jGG _ _ h i hlt b FUEL 0 (by omega) (jaU (by omega))) ?_
        rfl
      · refine jai (by show ((rdd jap (cB c) i).1 != a.2.1) = true; rw [jcs, decide_eq_false c1]; rfl) ?_
        rw [decide_eq_false c1, jaA (by omega)]
        exact ih
    · refine jaq (decide_eq_false (by show ¬ (i : Int) < ((cB c).length : Int); omega)) ?_
      rw [List.drop_of_length_le (by omega)]
      rfl

/-- Does one object lead to another one? -/
def jgH (c : jaa) (a b : jao) : Bool :=
  if a.1 = 1 then ((jbI (cT c) a.2.1).elim false fun t => decide (b.1 = 2 ∧ tM t = b.2.1)) || ((cE c).any fun x => decide (x.1 = a.2.1 ∧ b.1 = 2 ∧ eB x = b.2.1))
  else if a.1 = 2 then (jbf (cB c) a.2.1).elim false fun t => t.2.1.any (jnG b)
  else (jbS (cG c) a.2.1).elim false fun t => t.2.2.2.1.any fun x => decide (b.1 = 2 ∧ x.2.1 = b.2.1)
theorem jEW {c : jaa} (h : Cfg c) (a b : jao) : jEz c a b = some ((jgH c a b, ()), ()) := by
  have t1 := h.t; have t2 := h.e; have t3 := h.b; have t4 := h.g
  refine fin ?_
  unfold jFs jgH
  by_cases c1 : a.1 = 1
  · rw [if_pos c1]
    refine jai (jbV c1) ?_
    refine Eq.trans (L_rl5 _ _ h.t a b FUEL 0 (by omega) (jaU (by omega))) ?_
    rw [List.drop_zero]
    cases h1 : (jbI (cT c) a.2.1).elim false fun t => decide (b.1 = 2 ∧ tM t = b.2.1) with
    | true => rw [if_pos rfl, Bool.true_or]
    | false =>
      rw [if_neg (by decide), Bool.false_or]
      refine Eq.trans (L_rl7 _ _ h.e a b FUEL 0 (by omega) (jaU (by omega))) ?_
      rw [List.drop_zero]
      cases (cE c).any fun x => decide (x.1 = a.2.1 ∧ b.1 = 2 ∧ eB x = b.2.1) <;> rfl
  · rw [if_neg c1]
    refine jaq (jbi c1) ?_
    by_cases c2 : a.1 = 2
    · rw [if_pos c2]
      refine jai (jbV c2) ?_
      refine Eq.trans (L_rl9 _ _ h a b FUEL 0 (by omega) (jaU (by omega))) ?_
      rw [List.drop_zero]
      cases (jbf (cB c) a.2.1).elim false fun t => t.2.1.any (jnG b) <;> rfl
    · rw [if_neg c2]
      refine jaq (jbi c2) ?_
      refine Eq.trans (L_rl1 _ _ h a b FUEL 0 (by omega) (jaU (by omega))) ?_
      rw [List.drop_zero]
      cases (jbS (cG c) a.2.1).elim false fun t => t.2.2.2.1.any fun x => decide (b.1 = 2 ∧ x.2.1 = b.2.1) <;> rfl
end Go.AMach

/- Layer 24: the reference's Cycle. -/
namespace Go.AMach
set_option linter.unusedVariables false
set_option linter.unusedSimpArgs false
set_option linter.unnecessarySimpa false
open Go
set_option linter.unusedVariables false

theorem L_rc4 (kt : Bool → Option Res) {c : jaa} (h : Cfg c) (l : List jao) (hl : l.length ≤ 3000) (i : Nat) (hi : i < l.length) : ∀ (m j : Nat) (f : Bool), j ≤ l.length → l.length - j < m →
    jli FUEL kt l.length (i : Int) c l m f (j : Int) = kt (f || (l.drop j).any (jgH c (rdd jaz l i)))
  | 0, _, _, _, h => by omega
  | m + 1, j, f, hj, hm => by
    show jtd FUEL kt l.length (i : Int) c l (jli FUEL kt l.length (i : Int) c l m) f (j : Int) = _
    unfold jtd
    by_cases hlt : j < l.length
    · refine jai (decide_eq_true (by omega)) ?_
      rw [jaF jaz hlt, List.any_cons, jaA (by omega)]
      cases f with
      | true =>
        refine jai rfl ?_
        refine Eq.trans (L_rc4 kt h l hl i hi m (j + 1) true (by omega) (by omega)) ?_
        rw [Bool.true_or, Bool.true_or]
      | false =>
        refine jaq rfl ?_
        refine jai (decide_eq_true (by omega)) ?_
        refine jai (decide_eq_true (by omega)) ?_
        rw [jan, jan]
        have e := jEW h (rdd jaz l i) (rdd jaz l j)
        extract_lets -merge +onlyGivenNames y2
        have e_y : y2 = _ := (congrArg RS.get e).trans (jaw _)
        clear_value y2; subst e_y
        refine jaL e ?_
        refine Eq.trans (L_rc4 kt h l hl i hi m (j + 1) (jgH c (rdd jaz l i) (rdd jaz l j)) (by omega) (by omega)) ?_
        rw [Bool.false_or]
    · refine jaq (decide_eq_false (by omega)) ?_
      rw [List.drop_of_length_le (by omega), List.any_nil, Bool.or_false]
def peel (c : jaa) (l : List jao) : List jao := l.filter fun a => l.any (jgH c a)
theorem L_rc2 (kt : Nat → List jao → Option Res) {c : jaa} (h : Cfg c) (l : List jao) (hl : l.length ≤ 3000) : ∀ (m i : Nat) (o : List jao), i ≤ l.length → l.length - i < m → o.length ≤ i →
    jlj FUEL kt l.length c l m o.length (i : Int) o = kt (o ++ (l.drop i).filter fun a => l.any (jgH c a)).length (o ++ (l.drop i).filter fun a => l.any (jgH c a))
  | 0, _, _, _, h, _ => by omega
  | m + 1, i, o, hi, hm, ho => by
    show jte FUEL kt l.length c l (jlj FUEL kt l.length c l m) o.length (i : Int) o = _
    unfold jte
    by_cases hlt : i < l.length
    · refine jai (decide_eq_true (by omega)) ?_
      refine Eq.trans (L_rc4 _ h l hl i hlt FUEL 0 false (by omega) (jaU (by omega))) ?_
      rw [List.drop_zero, Bool.false_or, jaF jaz hlt, List.filter_cons]
      cases hp : l.any (jgH c (rdd jaz l i)) with
      | true =>
        refine jai rfl ?_
        refine jai (decide_eq_true (by omega)) ?_
        rw [jby, jan, jaA (by omega)]
        refine jai (decide_eq_true (by omega)) ?_
        have ih := L_rc2 kt h l hl m (i + 1) (o ++ [rdd jaz l i]) (by omega) (by omega) (by rw [List.length_append]; simp; omega)
        rw [List.length_append] at ih
        refine Eq.trans ih ?_
        rw [if_pos rfl, List.append_assoc]
        rfl
      | false =>
        refine jaq rfl ?_
        rw [jaA (by omega), if_neg (by decide)]
        exact L_rc2 kt h l hl m (i + 1) o (by omega) (by omega) (by omega)
    · refine jaq (decide_eq_false (by omega)) ?_
      rw [List.drop_of_length_le (by omega), List.filter_nil, List.append_nil]
theorem L_rc0 (kr : Bool → Option Res) {c : jaa} (h : Cfg c) {P : List jao → Prop} (hP : ∀ l, P l → P (peel c l)) : ∀ (m : Nat) (l : List jao), l.length ≤ 3000 → l.length < m → P l →
    ∃ l', P l' ∧ (peel c l').length = l'.length ∧ jgW FUEL kr c m l.length l = kr (decide (0 < l'.length))
  | 0, _, _, h, _ => by omega
  | m + 1, l, hl, hm, hp => by
    have e := fun kt => L_rc2 kt h l hl FUEL 0 [] (by omega) (jaU (by omega)) (by simp)
    have hle : (peel c l).length ≤ l.length := List.length_filter_le _ _
    by_cases hq : (peel c l).length = l.length
    · refine ⟨l, hp, hq, ?_⟩
      show jlF FUEL kr c (jgW FUEL kr c m) l.length l = _
      unfold jlF
      refine Eq.trans (e _) ?_
      rw [List.nil_append, List.drop_zero]
      show cond ((((peel c l).length : Nat) : Int) == ((l.length : Nat) : Int)) (kr (decide (((l.length : Nat) : Int) > (0 : Int)))) _ = _
      refine jai (jbV (by rw [hq])) ?_
      have : decide (((l.length : Nat) : Int) > (0 : Int)) = decide (0 < l.length) := by
        by_cases h0 : 0 < l.length
        · rw [decide_eq_true h0, decide_eq_true (by omega)]
        · rw [decide_eq_false h0, decide_eq_false (by omega)]
      rw [this]
    · obtain ⟨l', h1, h2, h3⟩ := L_rc0 kr h hP m (peel c l) (by omega) (by omega) (hP l hp)
      refine ⟨l', h1, h2, ?_⟩
      show jlF FUEL kr c (jgW FUEL kr c m) l.length l = _
      unfold jlF
      refine Eq.trans (e _) ?_
      rw [List.nil_append, List.drop_zero]
      show cond ((((peel c l).length : Nat) : Int) == ((l.length : Nat) : Int)) _ (jgW FUEL kr c m (peel c l).length (peel c l)) = _
      exact jaq (jbi (by omega)) h3
end Go.AMach

/- Layer 24: the reference's Cycle is the ring. -/
namespace Go.AMach
set_option linter.unusedVariables false
set_option linter.unusedSimpArgs false
set_option linter.unnecessarySimpa false
open Go
set_option linter.unusedVariables false

abbrev objS (s : jao) : ObjS := (s.1 - 1, (s.2.1, ()))
/-- Where a thing is from. -/
def From (c : jaa) (s : jao) : Prop := (s.1 = 1 ∧ ∃ t ∈ cT c, t.1 = s.2.1) ∨ (s.1 = 2 ∧ ∃ t ∈ cB c, t.1 = s.2.1) ∨ (s.1 = 3 ∧ ∃ t ∈ cG c, t.1 = s.2.1)
theorem jkb {α : Type} {Q : jao → Prop} (K : Int) (f : α → Int) : ∀ (L : List α) (o : List jao), (∀ s ∈ o, Q s) → (∀ t ∈ L, Q (K, (f t, (0, ())))) → ∀ s ∈ L.foldl (fun o t => addT K o (f t)) o, Q s
  | [], o, h, _ => h
  | x :: r, o, h, hq => jkb K f r _ (fun s hs => by
      have hs : s ∈ addT K o (f x) := hs
      unfold addT at hs
      split at hs
      · exact h s hs
      · rcases List.mem_append.1 hs with hs | hs
        · exact h s hs
        · rw [List.mem_singleton.1 hs]; exact hq x List.mem_cons_self) fun t ht => hq t (List.mem_cons_of_mem _ ht)
theorem jmz (c : jaa) : ∀ s ∈ jbC c, From c s := by
  unfold jbC
  exact jkb 3 (fun t : jal => t.1) _ _ (jkb 2 (fun t : jbB => t.1) _ _ (jkb 1 (fun t : jbl => t.1) _ [] (fun s h => by cases h) fun t ht => .inl ⟨rfl, t, ht, rfl⟩) fun t ht => .inr (.inl ⟨rfl, t, ht, rfl⟩)) fun t ht => .inr (.inr ⟨rfl, t, ht, rfl⟩)
theorem jjT {k : Int} {b : jao} {i : Int × Unit} : ((k, i) : ObjS) = objS b ↔ b.1 = k + 1 ∧ i.1 = b.2.1 := by
  obtain ⟨i, u⟩ := i
  constructor
  · intro h
    have h1 : k = b.1 - 1 := congrArg (fun x : ObjS => x.1) h
    have h2 : i = b.2.1 := congrArg (fun x : ObjS => x.2.1) h
    exact ⟨by omega, h2⟩
  · rintro ⟨h1, h2⟩
    show (k, (i, u)) = (b.1 - 1, (b.2.1, ()))
    have h2 : i = b.2.1 := h2
    rw [h2, show b.1 - 1 = k by omega]
theorem jpu {c : jaa} {a : jao} (ha : From c a) (b : jao) : jgH c a b = true ↔ objS b ∈ jbH c (objS a) := by
  unfold jgH jbH jaE
  rcases ha with ⟨h, t, ht, e⟩ | ⟨h, t, ht, e⟩ | ⟨h, t, ht, e⟩
  · rw [if_pos h, if_pos (by show a.1 - 1 = 0; omega)]
    unfold jdb
    show _ ↔ objS b ∈ ((((jbI (cT c) a.2.1).map fun t => tM t :: ((cE c).filter fun x => decide (x.1 = a.2.1)).map eB).getD []).map fun k => (1, (k, ())))
    have hs : (jbI (cT c) a.2.1).isSome = true := by unfold jbI; rw [List.find?_isSome]; exact ⟨t, ht, decide_eq_true e⟩
    cases hf : jbI (cT c) a.2.1 with
    | none => rw [hf] at hs; cases hs
    | some t2 =>
      simp only [Option.elim_some, Option.map_some, Option.getD_some, Bool.or_eq_true, decide_eq_true_eq, List.any_eq_true, List.mem_map, List.mem_cons, List.mem_filter]
      constructor
      · rintro (⟨h1, h2⟩ | ⟨x, hx, h1, h2, h3⟩)
        · exact ⟨tM t2, .inl rfl, jjT.2 ⟨by omega, h2⟩⟩
        · exact ⟨eB x, .inr ⟨x, ⟨hx, h1⟩, rfl⟩, jjT.2 ⟨by omega, h3⟩⟩
      · rintro ⟨k, hk, he⟩
        obtain ⟨q1, q2⟩ := jjT.1 he
        rcases hk with rfl | ⟨x, ⟨hx, h1⟩, rfl⟩
        · exact .inl ⟨by omega, q2⟩
        · exact .inr ⟨x, hx, h1, by omega, q2⟩
  · rw [if_neg (by omega), if_pos h, if_neg (by show ¬ a.1 - 1 = 0; omega), if_pos (by show a.1 - 1 = 1; omega)]
    unfold jcf
    show _ ↔ objS b ∈ (((jbf (cB c) a.2.1).map fun t => t.2.1).getD []).flatMap jfr
    cases hf : jbf (cB c) a.2.1 with
    | none => simp
    | some t2 =>
      simp only [Option.elim_some, Option.map_some, Option.getD_some, decide_eq_true_eq, List.any_eq_true, List.mem_flatMap]
      constructor
      · rintro ⟨x, hx, h1 | h1⟩
        · refine ⟨x, hx, ?_⟩
          unfold jfr
          rw [if_pos h1.1, List.mem_singleton]
          exact (jjT.2 ⟨by omega, h1.2.2⟩).symm
        · refine ⟨x, hx, ?_⟩
          unfold jfr
          rw [if_neg (by omega), if_pos h1.1, List.mem_singleton]
          exact (jjT.2 ⟨by omega, h1.2.2⟩).symm
      · rintro ⟨x, hx, hm⟩
        refine ⟨x, hx, ?_⟩
        unfold jfr at hm
        by_cases c13 : x.1 = 13
        · rw [if_pos c13, List.mem_singleton] at hm
          obtain ⟨q1, q2⟩ := jjT.1 hm.symm
          exact .inl ⟨c13, by omega, q2⟩
        · rw [if_neg c13] at hm
          by_cases c14 : x.1 = 14
          · rw [if_pos c14, List.mem_singleton] at hm
            obtain ⟨q1, q2⟩ := jjT.1 hm.symm
            exact .inr ⟨c14, by omega, q2⟩
          · rw [if_neg c14] at hm; cases hm
  · rw [if_neg (by omega), if_neg (by omega), if_neg (by show ¬ a.1 - 1 = 0; omega), if_neg (by show ¬ a.1 - 1 = 1; omega)]
    unfold jdt
    show _ ↔ objS b ∈ (((jbS (cG c) a.2.1).getD jak).2.2.2.1.map fun (k : jbt) => ((1, k.2) : ObjS))
    cases hf : jbS (cG c) a.2.1 with
    | none => simp [jak]
    | some t2 =>
      simp only [Option.elim_some, Option.getD_some, decide_eq_true_eq, List.any_eq_true, List.mem_map]
      constructor
      · rintro ⟨x, hx, h1, h2⟩
        exact ⟨x, hx, jjT.2 ⟨by omega, h2⟩⟩
      · rintro ⟨x, hx, he⟩
        obtain ⟨q1, q2⟩ := jjT.1 he
        exact ⟨x, hx, by omega, q2⟩
theorem presS {c : jaa} {x : ObjS} (hk : jkh x) (hne : jbH c x ≠ []) : ∃ s ∈ jbC c, objS s = x := by
  obtain ⟨s, hs, e⟩ := List.mem_map.1 (jnj hk hne)
  exact ⟨s, hs, e⟩
open Classical in
theorem jzp {c : jaa} (h : Cfg c) : jEy c = some ((decide (jcx c), ()), ()) := by
  have e := jzo h
  have hl := jkj h
  let P : List jao → Prop := fun l => (∀ s ∈ l, s ∈ jbC c) ∧ ∀ s ∈ jbC c, Reach (jbH c) (objS s) (objS s) → s ∈ l
  have hP : ∀ l, P l → P (peel c l) := fun l ⟨h1, h2⟩ => by
    refine ⟨fun s hs => h1 s (List.mem_filter.1 hs).1, fun s hs hr => List.mem_filter.2 ⟨h2 s hs hr, ?_⟩⟩
    obtain ⟨y, hy, hyz⟩ := hr.first
    have hyy : Reach (jbH c) y y := by
      rcases hyz with rfl | q
      · exact hr
      · exact q.trans (.one hy)
    obtain ⟨z, hz, _⟩ := hyy.first
    obtain ⟨s2, hs2, e2⟩ := presS (jbZ hy) (fun q => by rw [q] at hz; cases hz)
    refine List.any_eq_true.2 ⟨s2, h2 s2 hs2 (by rw [e2]; exact hyy), ?_⟩
    rw [jpu (jmz c s hs), e2]
    exact hy
  obtain ⟨l', ⟨g1, g2⟩, g3, g4⟩ := L_rc0 (fun y6 => some (jac jmO jmV ((y6, ()), ()))) h hP FUEL (jbC c) hl (jaU (by omega)) ⟨fun s hs => hs, fun s hs _ => hs⟩
  refine fin ?_
  unfold jFr
  extract_lets -merge +onlyGivenNames y1
  have e_y : y1 = _ := (congrArg RS.get e).trans (jaw _)
  clear_value y1; subst e_y
  refine jaL e ?_
  refine Eq.trans g4 ?_
  have : decide (0 < l'.length) = decide (jcx c) := by
    by_cases hr : jcx c
    · rw [decide_eq_true hr]
      obtain ⟨z, hz⟩ := hr
      obtain ⟨y, hy, _⟩ := hz.first
      have hk : jkh z := by
        cases hz with
        | one h1 => exact jbZ h1
        | step _ h1 => exact jbZ h1
      obtain ⟨s, hs, es⟩ := presS hk (fun q => by rw [q] at hy; cases hy)
      have := g2 s hs (by rw [es]; exact hz)
      exact decide_eq_true (List.length_pos_of_mem this)
    · rw [decide_eq_false hr]
      refine decide_eq_false fun hpos => ?_
      have hall : ∀ s ∈ l', l'.any (jgH c s) = true := fun s hs => by
        have hsub : peel c l' = l' := List.filter_eq_self.2 (by
          have := List.length_filter_eq_length_iff.1 g3
          exact this)
        rw [← hsub] at hs
        exact (List.mem_filter.1 hs).2
      have key : ∀ x, Ends (jbH c) x → ∀ s ∈ l', objS s = x → False := by
        intro x hx
        induction hx with
        | intro x _ ih =>
          intro s hs es
          obtain ⟨s2, hs2, hl2⟩ := List.any_eq_true.1 (hall s hs)
          rw [jpu (jmz c s (g1 s hs)), es] at hl2
          exact ih _ hl2 s2 hs2 rfl
      obtain ⟨s, hs⟩ := List.exists_mem_of_length_pos hpos
      exact key _ (h.sol.ends hr (objS s)) s hs rfl
  show some (jac jmO jmV ((decide (0 < l'.length), ()), ())) = _
  rw [this]
end Go.AMach
