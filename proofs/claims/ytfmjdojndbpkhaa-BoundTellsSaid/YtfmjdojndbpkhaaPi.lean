/- Parts of the proof. -/
import Derived.Test.YtfmjdojndbpkhaaPh
import Derived.KernelRfl
import Derived.Test.YtfmjdojndbpkhaaPd
import Derived.Test.YtfmjdojndbpkhaaAm23
/- Layer 24: the reference's functions. -/
namespace Go.AMach
set_option linter.unusedVariables false
set_option linter.unusedSimpArgs false
set_option linter.unnecessarySimpa false
open Go
set_option linter.unusedVariables false

open Classical in
theorem jxT {c : jaa} (h : Cfg c) (k id : Int) (hk : k = 1 ∨ k = 2 ∨ k = 3) : jEs c k id = some (((ofV c (k - 1, (id, ()))).1, ((ofV c (k - 1, (id, ()))).2, ())), ()) := by
  have e1 := jzp h
  have e2 := Q_All h
  have hl := jkj h
  have hlen : (allR c).length = (jbC c).length := jyF c _ _
  have e3 := jhn (allR c) (by omega) k id
  refine fin ?_
  unfold jFk
  extract_lets -merge +onlyGivenNames y1
  have e_y : y1 = _ := (congrArg RS.get e1).trans (jaw _)
  clear_value y1; subst e_y
  refine jaL e1 ?_
  by_cases hr : jcx c
  · refine jai (decide_eq_true hr) ?_
    unfold ofV; rw [if_pos hr]
  · refine jaq (decide_eq_false hr) ?_
    extract_lets -merge +onlyGivenNames y2
    have e_y : y2 = _ := (congrArg RS.get e2).trans (jaw _)
    clear_value y2; subst e_y
    refine jaL e2 ?_
    have ec : cutL jaz (allR c) 0 (jbC c).length = allR c := by rw [← hlen]; exact jby jaz _
    have e3' : jCk (cutL jaz (allR c) 0 (jbC c).length) k id = some ((jbE (allR c) k id, ()), ()) := by rw [ec]; exact e3
    extract_lets -merge +onlyGivenNames y3
    have e_y : y3 = _ := (congrArg RS.get e3').trans (jaw _)
    clear_value y3; subst e_y
    refine jaL e3' ?_
    have hH := allR_H h hr (x := (k - 1, (id, ()))) (by show k - 1 = 0 ∨ k - 1 = 1 ∨ k - 1 = 2; omega)
    have hs : jbE (allR c) k id = HC c (k - 1, (id, ())) := by
      rw [← hH]
      show _ = jbE (allR c) (k - 1 + 1) id
      rw [show k - 1 + 1 = k by omega]
    unfold ofV; rw [if_neg hr, ← hs]
theorem jpI {c : jaa} (h : Cfg c) (k : Int) : jEr c k = some (((ofV c (0, (k, ()))).1, ((ofV c (0, (k, ()))).2, ())), ()) := by
  have e := jxT h 1 k (.inl rfl)
  refine fin ?_
  unfold jFj
  extract_lets -merge +onlyGivenNames y1
  have e_y1 : y1 = _ := (congrArg RS.get e).trans (jaw _)
  clear_value y1; subst e_y1
  exact jaL e rfl
theorem jAw {c : jaa} (h : Cfg c) (k : Int) : jEj c k = some (((ofV c (1, (k, ()))).1, ((ofV c (1, (k, ()))).2, ())), ()) := by
  have e := jxT h 2 k (.inr (.inl rfl))
  refine fin ?_
  unfold jFd
  extract_lets -merge +onlyGivenNames y1
  have e_y1 : y1 = _ := (congrArg RS.get e).trans (jaw _)
  clear_value y1; subst e_y1
  exact jaL e rfl
theorem jAv {c : jaa} (h : Cfg c) (k : Int) : jEi c k = some (((ofV c (2, (k, ()))).1, ((ofV c (2, (k, ()))).2, ())), ()) := by
  have e := jxT h 3 k (.inr (.inr rfl))
  refine fin ?_
  unfold jFc
  extract_lets -merge +onlyGivenNames y1
  have e_y1 : y1 = _ := (congrArg RS.get e).trans (jaw _)
  clear_value y1; subst e_y1
  exact jaL e rfl
end Go.AMach

/- The plain theory of graphs and walks, at this seat. -/

namespace Go.AMach
set_option linter.unusedVariables false
set_option linter.unusedSimpArgs false
set_option linter.unnecessarySimpa false
open Go
set_option linter.unusedVariables false
theorem jAU {α : Type} {d : α} (pre : List α) (x : α) (r : List α) : rdd d (pre ++ x :: r) pre.length = x := by
  rw [jbz (by simp)]; simp

/-! -: Ranks -/
def rkG (l : List jah) : Nat → Int → Int
  | 0, _ => 0
  | r + 1, k => match jbp l k with
    | none => 0
    | some x => 1 + hmax (rkG l r) (jbD x) 0

theorem jkL {f : Int → Int} {B : Int} : ∀ (g : List Int) (m0 : Int), m0 ≤ B → (∀ t ∈ g, f t ≤ B) → hmax f g m0 ≤ B := fun g m0 h0 h => by
  rcases jrm f g m0 with e | ⟨t, ht, e⟩
  · rw [e]; exact h0
  · rw [e]; exact h t ht
theorem jAP (l : List jah) : ∀ r k, 0 ≤ rkG l r k
  | 0, k => Int.le_refl _
  | r + 1, k => by
    simp only [rkG]
    split
    · exact Int.le_refl _
    · rename_i x _
      have := jcL (rkG l r) (jbD x) 0
      omega
theorem rk_le (l : List jah) : ∀ (r : Nat) k, rkG l r k ≤ r
  | 0, k => Int.le_refl _
  | r + 1, k => by
    simp only [rkG]
    split
    · omega
    · rename_i x _
      have := jkL (f := rkG l r) (B := r) (jbD x) 0 (by omega) fun t _ => rk_le l r t
      omega
theorem jAQ (l : List jah) : ∀ (r : Nat) k, rkG l r k ≤ rkG l (r + 1) k
  | 0, k => jAP l 1 k
  | r + 1, k => by
    cases hf : jbp l k with
    | none => simp [rkG, hf]
    | some x =>
      have e1 : rkG l (r + 1) k = 1 + hmax (rkG l r) (jbD x) 0 := by simp [rkG, hf]
      have e2 : rkG l (r + 1 + 1) k = 1 + hmax (rkG l (r + 1)) (jbD x) 0 := by
        show (match jbp l k with | none => 0 | some x => 1 + hmax (rkG l (r + 1)) (jbD x) 0) = _
        rw [hf]
      rw [e1, e2]
      have := jkL (f := rkG l r) (B := hmax (rkG l (r + 1)) (jbD x) 0) (jbD x) 0 (jcL _ _ _) fun t ht =>
        Int.le_trans (jAQ l r t) (jhW _ _ _ t ht)
      omega
/-- Where a round tells more, it tells as many as there were rounds. -/
theorem jAR (l : List jah) : ∀ (r : Nat) k, rkG l r k < rkG l (r + 1) k → rkG l (r + 1) k = r + 1
  | 0, k, h => by
    have h1 := rk_le l 1 k
    have h0 : rkG l 0 k = 0 := rfl
    have h : rkG l 0 k < rkG l 1 k := h
    show rkG l 1 k = ((0 : Nat) : Int) + 1
    omega
  | r + 1, k, h => by
    cases hf : jbp l k with
    | none => simp [rkG, hf] at h
    | some x =>
      have e1 : rkG l (r + 1) k = 1 + hmax (rkG l r) (jbD x) 0 := by simp [rkG, hf]
      have e2 : rkG l (r + 1 + 1) k = 1 + hmax (rkG l (r + 1)) (jbD x) 0 := by
        show (match jbp l k with | none => 0 | some x => 1 + hmax (rkG l (r + 1)) (jbD x) 0) = _
        rw [hf]
      rw [e1, e2] at h
      rw [e2]
      rcases jrm (rkG l (r + 1)) (jbD x) 0 with e | ⟨t, ht, e⟩
      · have := jcL (rkG l r) (jbD x) 0; omega
      · have h1 := jhW (rkG l r) (jbD x) 0 t ht
        have := jAR l r t (by omega)
        omega
theorem jAS {l : List jah} {h : Int → Int} (H : Hgt l h) : ∀ (r : Nat) k, rkG l r k ≤ h k
  | 0, k => H.nonneg k
  | r + 1, k => by
    simp only [rkG]
    cases hf : jbp l k with
    | none => exact H.nonneg k
    | some x =>
      rw [H.is k x hf]
      have := jkL (f := rkG l r) (B := hmax h (jbD x) 0) (jbD x) 0 (jcL _ _ _) fun t ht => Int.le_trans (jAS H r t) (jhW _ _ _ t ht)
      simp only []
      omega
theorem jGy {l : List jah} {r : Nat} (h : ∀ x ∈ l, rkG l (r + 1) x.1 ≤ r) : Hgt l (rkG l r) := by
  have same : ∀ k, rkG l (r + 1) k = rkG l r k := fun k => by
    have hm := jAQ l r k
    rcases Int.lt_or_eq_of_le hm with hlt | e
    · have hj := jAR l r k hlt
      cases hf : jbp l k with
      | none => simp [rkG, hf] at hj; omega
      | some x =>
        obtain ⟨hx, hk⟩ := jcW hf
        have := h x hx
        rw [hk] at this; omega
    · exact e.symm
  refine ⟨fun k hf => ?_, fun k x hf => ?_⟩
  · rw [← same k]; simp [rkG, hf]
  · rw [← same k]; simp [rkG, hf]
theorem hmaxR (f : Int → Int) (x : jah) : hmax f (jhX x) 0 = hmax f (jbD x) 0 := by
  apply Int.le_antisymm
  · exact jkL _ _ (jcL _ _ _) fun t ht => jhW _ _ _ t (jjU.1 ht)
  · exact jkL _ _ (jcL _ _ _) fun t ht => jhW _ _ _ t (jjU.2 ht)

theorem jyk {l : List Int} {i : Nat} (h : i < l.length) : l.set i (rdd 0 l i) = l := by
  rw [jbz h]; exact List.set_getElem_self h
theorem jws {l : List Int} {i : Nat} {v : Int} (h : i < l.length) : rdd 0 (l.set i v) i = v := by
  rw [jbz (by simpa using h)]; simp
theorem rdd_map {α : Type} {d : α} {l : List α} {f : α → Int} {i : Nat} (h : i < l.length) : rdd 0 (l.map f) i = f (rdd d l i) := by
  rw [jbz (by simpa using h), jbz h]; simp

theorem L_r6 (kt : List Int → Option Res) (l : List jah) (hl : l.length ≤ 32) (r : Nat) (most rd : Int) (i : Nat) (hi : i < l.length) (to : List Int) (k : Nat) (hk : k < to.length) (t : Int) (ht : rdd 0 to k = t) : ∀ (m n : Nat) (now : List Int), now.length = l.length → n ≤ l.length → l.length - n < m →
    jlb FUEL kt l most l.length rd l.length (i : Int) to.length (k : Int) (l.map fun x => rkG l r x.1) to m (n : Int) now = kt (now.set i (if (∃ y ∈ l.drop n, y.1 = t) ∧ rkG l r t > rdd 0 now i then rkG l r t else rdd 0 now i))
  | 0, _, _, _, _, h => by omega
  | m + 1, n, now, hnow, hn, hm => by
    show jsP FUEL kt l most l.length rd l.length (i : Int) to.length (k : Int) (l.map fun x => rkG l r x.1) to (jlb FUEL kt l most l.length rd l.length (i : Int) to.length (k : Int) (l.map fun x => rkG l r x.1) to m) (n : Int) now = _
    unfold jsP
    simp only [jaI, jeW, jan, ht]
    by_cases h : n < l.length
    · rw [if_pos (by omega), if_pos (by omega), if_pos (by omega), jaF jaH h]
      by_cases he : (rdd jaH l n).1 = t
      · rw [if_pos he, if_pos (by omega), if_pos (by omega), if_pos (by omega), rdd_map (d := jaH) h, he, jaA (by omega)]
        rw [L_r6 kt l hl r most rd i hi to k hk t ht m (n + 1) _ (by simpa using hnow) (by omega) (by omega)]
        rw [jws (by omega)]
        congr 1
        rw [List.set_set]
        congr 1
        have ex : ∃ y ∈ rdd jaH l n :: l.drop (n + 1), y.1 = t := ⟨_, List.mem_cons_self, he⟩
        have e1 : (if rkG l r t > rdd 0 now i then rkG l r t else rdd 0 now i) ≥ rkG l r t := by clear ex; split <;> omega
        generalize hV : (if rkG l r t > rdd 0 now i then rkG l r t else rdd 0 now i) = V at e1 ⊢
        rw [if_neg (fun k => absurd k.2 (by clear ex; omega)), ← hV]
        by_cases hgt : rkG l r t > rdd 0 now i
        · rw [if_pos hgt, if_pos ⟨ex, hgt⟩]
        · rw [if_neg hgt, if_neg (fun k => hgt k.2)]
      · rw [if_neg he, jaA (by omega), L_r6 kt l hl r most rd i hi to k hk t ht m (n + 1) now hnow (by omega) (by omega)]
        congr 2
        have : (∃ y ∈ rdd jaH l n :: l.drop (n + 1), y.1 = t) ↔ (∃ y ∈ l.drop (n + 1), y.1 = t) := by
          constructor
          · rintro ⟨y, hy, e⟩
            rcases List.mem_cons.1 hy with rfl | hy
            · exact absurd e he
            · exact ⟨y, hy, e⟩
          · rintro ⟨y, hy, e⟩; exact ⟨y, List.mem_cons_of_mem _ hy, e⟩
        simp only [this]
    · rw [if_neg (by omega), List.drop_of_length_le (by omega)]
      simp only [List.not_mem_nil, false_and, exists_false, if_false]
      rw [jyk (by omega)]

theorem rk_none {l : List jah} {t : Int} (h : ¬ ∃ y ∈ l, y.1 = t) : ∀ r, rkG l r t = 0
  | 0 => rfl
  | r + 1 => by
    simp only [rkG]
    cases hf : jbp l t with
    | none => rfl
    | some x => exact absurd ⟨x, (jcW hf).1, (jcW hf).2⟩ h

theorem L_r4 (kt : List Int → Option Res) (l : List jah) (hl : l.length ≤ 32) (r : Nat) (most rd : Int) (i : Nat) (hi : i < l.length) (to : List Int) (hto : to.length < 1000000) : ∀ (m k : Nat) (now : List Int), now.length = l.length → 0 ≤ rdd 0 now i → k ≤ to.length → to.length - k < m →
    jlc FUEL kt l most l.length rd l.length (i : Int) to.length (l.map fun x => rkG l r x.1) to m (k : Int) now = kt (now.set i (hmax (rkG l r) (to.drop k) (rdd 0 now i)))
  | 0, _, _, _, _, _, h => by omega
  | m + 1, k, now, hnow, h0, hk, hm => by
    show jsQ FUEL kt l most l.length rd l.length (i : Int) to.length (l.map fun x => rkG l r x.1) to (jlc FUEL kt l most l.length rd l.length (i : Int) to.length (l.map fun x => rkG l r x.1) to m) (k : Int) now = _
    unfold jsQ
    simp only [jaI]
    by_cases h : k < to.length
    · rw [if_pos (by omega)]
      refine Eq.trans (L_r6 _ l hl r most rd i hi to k h (rdd 0 to k) rfl FUEL 0 now hnow (by omega) (by unfold FUEL; omega)) ?_
      rw [List.drop_zero, jaA (by omega), jaF (0 : Int) h, jeX]
      have e : (if (∃ y ∈ l, y.1 = rdd 0 to k) ∧ rkG l r (rdd 0 to k) > rdd 0 now i then rkG l r (rdd 0 to k) else rdd 0 now i) = (if rkG l r (rdd 0 to k) > rdd 0 now i then rkG l r (rdd 0 to k) else rdd 0 now i) := by
        by_cases hex : ∃ y ∈ l, y.1 = rdd 0 to k
        · simp only [hex, true_and]
        · rw [if_neg (fun k => hex k.1), rk_none hex, if_neg (by omega)]
      rw [e]
      clear e
      generalize hv : (if rkG l r (rdd 0 to k) > rdd 0 now i then rkG l r (rdd 0 to k) else rdd 0 now i) = v
      have hv0 : 0 ≤ v := by rw [← hv]; split <;> omega
      rw [L_r4 kt l hl r most rd i hi to hto m (k + 1) _ (by simpa using hnow) (by rw [jws (by omega)]; exact hv0) (by omega) (by omega)]
      rw [jws (by omega), List.set_set]
    · rw [if_neg (by omega), List.drop_of_length_le (by omega)]
      show kt now = kt (now.set i (rdd 0 now i))
      rw [jyk (by omega)]

theorem L_r2 (kt : List Int → Option Res) (l : List jah) (hl : l.length ≤ 32) (ha : ∀ x ∈ l, (jcU x).length < 100000) (hu : ∀ x ∈ l, jbp l x.1 = some x) (r : Nat) (hr : r ≤ 100) (most rd : Int) : ∀ (m i : Nat), i ≤ l.length → l.length - i < m →
    jld FUEL kt l most l.length rd l.length (l.map fun x => rkG l r x.1) m (i : Int) (((l.take i).map fun x => rkG l (r + 1) x.1) ++ List.replicate (l.length - i) 0) = kt (l.map fun x => rkG l (r + 1) x.1)
  | 0, _, _, h => by omega
  | m + 1, i, hi, hm => by
    show jsR FUEL kt l most l.length rd l.length (l.map fun x => rkG l r x.1) (jld FUEL kt l most l.length rd l.length (l.map fun x => rkG l r x.1) m) (i : Int) _ = _
    unfold jsR
    simp only [jaI, jan]
    by_cases h : i < l.length
    · have hx := ha _ (jbn (d := jaH) h)
      have hfx := hu _ (jbn (d := jaH) h)
      have hrep : List.replicate (l.length - i) (0 : Int) = 0 :: List.replicate (l.length - (i + 1)) 0 := by
        rw [show l.length - i = (l.length - (i + 1)) + 1 by omega]; rfl
      have htl : ((l.take i).map fun x => rkG l (r + 1) x.1).length = i := by simp; omega
      rw [if_pos (by omega), if_pos (by omega), hrep]
      simp only [jyq, jCY, jvA _ hx, RS.get, Option.getD_some, Option.isSome_some, cond_true]
      have hgl : (jhX (rdd jaH l i)).length < 1000000 := by unfold jhX; simp; omega
      have hr0 : rdd 0 (((l.take i).map fun x => rkG l (r + 1) x.1) ++ 0 :: List.replicate (l.length - (i + 1)) 0) i = 0 := by
        have := jAU (d := (0 : Int)) ((l.take i).map fun x => rkG l (r + 1) x.1) 0 (List.replicate (l.length - (i + 1)) 0)
        rw [htl] at this; exact this
      refine Eq.trans (L_r4 _ l hl r most rd i h (jhX (rdd jaH l i)) hgl FUEL 0 _ (by simp; omega) (by rw [hr0]; exact Int.le_refl _) (by omega) (by unfold FUEL; omega)) ?_
      rw [hr0, List.drop_zero, hmaxR, jpS _ _ _ htl]
      have hb : hmax (rkG l r) (jbD (rdd jaH l i)) 0 ≤ r := jkL _ _ (by omega) fun t _ => rk_le l r t
      have hb0 := jcL (rkG l r) (jbD (rdd jaH l i)) 0
      have hr1 : rdd 0 (((l.take i).map fun x => rkG l (r + 1) x.1) ++ hmax (rkG l r) (jbD (rdd jaH l i)) 0 :: List.replicate (l.length - (i + 1)) 0) i = hmax (rkG l r) (jbD (rdd jaH l i)) 0 := by
        have := jAU (d := (0 : Int)) ((l.take i).map fun x => rkG l (r + 1) x.1) (hmax (rkG l r) (jbD (rdd jaH l i)) 0) (List.replicate (l.length - (i + 1)) 0)
        rw [htl] at this; exact this
      rw [if_pos (by omega), if_pos (by omega), hr1, jpS _ _ _ htl, jaA (by omega), IntWalk.i64_in _ (by omega)]
      have e : (((l.take i).map fun x => rkG l (r + 1) x.1) ++ (hmax (rkG l r) (jbD (rdd jaH l i)) 0 + 1) :: List.replicate (l.length - (i + 1)) 0) = ((l.take (i + 1)).map fun x => rkG l (r + 1) x.1) ++ List.replicate (l.length - (i + 1)) 0 := by
        rw [jmf jaH h, List.map_append, List.append_assoc]
        congr 1
        have : rkG l (r + 1) (rdd jaH l i).1 = 1 + hmax (rkG l r) (jbD (rdd jaH l i)) 0 := by simp only [rkG]; rw [hfx]
        simp only [List.map_cons, List.map_nil, this, List.singleton_append]
        rw [Int.add_comm]
      rw [e]
      exact L_r2 kt l hl ha hu r hr most rd m (i + 1) (by omega) (by omega)
    · rw [if_neg (by omega)]
      have : i = l.length := by omega
      subst this
      rw [List.take_of_length_le (Nat.le_refl _), Nat.sub_self]
      simp

theorem L_r0 (kt : Nat → List Int → Option Res) (l : List jah) (hl : l.length ≤ 32) (ha : ∀ x ∈ l, (jcU x).length < 100000) (hu : ∀ x ∈ l, jbp l x.1 = some x) (most : Nat) (hmo : most ≤ 100) : ∀ (m r : Nat), r ≤ most → most - r < m →
    jjr FUEL kt l (most : Int) m l.length (r : Int) (l.map fun x => rkG l r x.1) = kt l.length (l.map fun x => rkG l most x.1)
  | 0, _, _, h => by omega
  | m + 1, r, hr, hm => by
    show jsS FUEL kt l (most : Int) (jjr FUEL kt l (most : Int) m) l.length (r : Int) (l.map fun x => rkG l r x.1) = _
    unfold jsS
    simp only [jaI, jan]
    by_cases h : r < most
    · rw [if_pos (by omega), if_pos (by omega)]
      have := L_r2 (fun y5 => jjr FUEL kt l (most : Int) m l.length (IntKind.wrap .i64 ((r : Int) + 1)) y5) l hl ha hu r (by omega) (most : Int) (r : Int) FUEL 0 (by omega) (by unfold FUEL; omega)
      simp only [List.take_zero, List.map_nil, List.nil_append, Nat.sub_zero] at this
      refine Eq.trans this ?_
      rw [jaA (by omega)]
      exact L_r0 kt l hl ha hu most hmo m (r + 1) (by omega) (by omega)
    · rw [if_neg (by omega)]
      have : r = most := by omega
      subst this; rfl

theorem jCu (l : List jah) (hl : l.length ≤ 32) (ha : ∀ x ∈ l, (jcU x).length < 100000) (hu : ∀ x ∈ l, jbp l x.1 = some x) (most : Nat) (hmo : most ≤ 100) :
    jEn l (most : Int) = some ((l.length, ()), (l.map (fun x => rkG l most x.1), ())) := by
  refine fin ?_
  unfold jFg
  simp only [jaI, jan]
  rw [if_pos (by omega)]
  have e : List.replicate l.length (0 : Int) = l.map fun x => rkG l 0 x.1 := by
    exact (List.eq_replicate_iff.2 ⟨by simp, fun b hb => by simp [rkG] at hb; exact hb.2.symm⟩).symm
  rw [e]
  exact L_r0 _ l hl ha hu most hmo FUEL 0 (by omega) (by unfold FUEL; omega)

theorem jib : ∀ {p : Int} {l : List jah}, formsOk p l → ∀ x ∈ l, jbp l x.1 = some x
  | p, [], _, x, hx => by cases hx
  | p, y :: r, h, x, hx => by
    obtain ⟨h1, h2, h3⟩ := h
    unfold jbp
    rw [List.find?_cons]
    rcases List.mem_cons.1 hx with rfl | hx
    · simp
    · have := (jhZ h3 x hx).2
      have : ¬ y.1 = x.1 := by omega
      simp only [this, decide_false]
      exact jib h3 x hx

theorem jCF (kr : Bool → jah → Option Res) (kt : Unit → Option Res) (id : Int) (l : List jah) (z : jah) (hl : l.length < 9223372036854775807) : ∀ (m i : Nat), i ≤ l.length → l.length - i < m →
    jle FUEL kr kt l id z m (i : Int) = match jbp (l.drop i) id with | some x => kr true x | none => kt ()
  | 0, _, _, h => by omega
  | m + 1, i, hi, hm => by
    show jsT FUEL kr kt l id z (jle FUEL kr kt l id z m) (i : Int) = _
    unfold jsT
    simp only [jaI, jeW]
    by_cases h : i < l.length
    · have hin : (0 : Int) ≤ (i : Int) ∧ (i : Int) < ((l.length : Nat) : Int) := by omega
      simp only [if_pos hin]
      rw [if_pos (by omega), jaF jaH h]
      simp only [jan, jbp, List.find?_cons]
      by_cases he : (rdd jaH l i).1 = id
      · simp [he]
      · rw [if_neg he, jaA (by omega), jCF kr kt id l z hl m (i + 1) (by omega) (by omega)]
        simp [he, jbp]
    · rw [if_neg (by omega), List.drop_of_length_le (by omega)]
      rfl
theorem Q_rFind (l : List jah) (id : Int) (hl : l.length < 9223372036854775807) : jEo l id = some (jAl (jbp l id), ()) := by
  refine fin ?_
  refine Eq.trans (jCF _ _ id l _ hl FUEL 0 (by omega) (by unfold FUEL; omega)) ?_
  rw [List.drop_zero]
  cases jbp l id <;> rfl

theorem jkg (kr : Int → Option Res) (kt : Unit → Option Res) (l : List jah) (hl : l.length < 9223372036854775807) (hg : ∀ x ∈ l, juI x) : ∀ (m i : Nat), i ≤ l.length → l.length - i < m →
    jla FUEL kr kt l m (i : Int) = if formsOk (jgy l i) (l.drop i) then kt () else kr 3
  | 0, _, _, h => by omega
  | m + 1, i, hi, hm => by
    show jsO FUEL kr kt l (jla FUEL kr kt l m) (i : Int) = _
    unfold jsO
    by_cases h : i < l.length
    · have hx := jCt (rdd jaH l i) (hg _ (jbn h))
      simp only [jaI, jan, jFP, q_z15, hx, RS.get, Option.getD_some, Option.isSome_some, cond_true]
      rw [if_pos (by omega), if_pos (by omega), jaF jaH h, jaA (by omega), jkg kr kt l hl hg m (i + 1) (by omega) (by omega)]
      have hp : jgy l (i + 1) = (rdd jaH l i).1 := by simp [jgy]
      rw [hp]
      have hprev : i > 0 → Int.toNat (IntKind.wrap .i64 ((i : Int) - 1)) = i - 1 := fun h => by rw [jfm h (by omega)]; rfl
      generalize hX : rdd jaH l i = x at *
      by_cases hf : jjY x
      · simp only [decide_eq_true hf, Bool.not_true, cond_false]
        by_cases h3 : i = 0
        · subst h3
          rw [if_neg (by omega)]
          have h1 : 0 < x.1 := by have := hf.1; unfold jeY at this; omega
          simp only [formsOk, hf, jgy, if_pos, h1, true_and]
        · rw [if_pos (by omega), if_pos (by omega), hprev (by omega), if_pos (by rw [jfm (by omega) (by omega)]; omega)]
          have hp2 : jgy l i = (rdd jaH l (i - 1)).1 := by simp [jgy, h3]
          rw [hp2]
          by_cases h4 : x.1 ≤ (rdd jaH l (i - 1)).1
          · rw [if_pos h4, if_neg (by simp only [formsOk]; omega)]
          · rw [if_neg h4]
            have h5 : (rdd jaH l (i - 1)).1 < x.1 := by omega
            simp only [formsOk, hf, h5, true_and]
      · simp only [decide_eq_false hf, Bool.not_false, cond_true]
        rw [if_neg (by simp only [formsOk]; exact fun k => hf k.1)]
    · simp only [jaI]
      rw [if_neg (by omega), List.drop_of_length_le (by omega), if_pos (show formsOk _ [] from trivial)]

theorem jzt (kr : Int → Option Res) (kt : Unit → Option Res) (l : List jah) (hl : l.length < 9223372036854775807) (a : Int) (g : List Int) (hgl : g.length < 9223372036854775807) : ∀ (m i : Nat), i ≤ g.length → g.length - i < m →
    jkY FUEL kr kt l a g.length g m (i : Int) = if ∀ t ∈ g.drop i, jkA l t = true then kt () else kr 8
  | 0, _, _, h => by omega
  | m + 1, i, hi, hm => by
    show jsM FUEL kr kt l a g.length g (jkY FUEL kr kt l a g.length g m) (i : Int) = _
    unfold jsM
    by_cases h : i < g.length
    · have hin : (0 : Int) ≤ (i : Int) ∧ (i : Int) < ((g.length : Nat) : Int) := by omega
      simp only [jaI, jan, jFO, q_z17, Q_rFind l _ hl, RS.get, Option.getD_some, Option.isSome_some, cond_true, jcs, Bool.cond_not, if_pos hin]
      rw [if_pos (by omega), jaF (0 : Int) h, jaA (by omega), jzt kr kt l hl a g hgl m (i + 1) (by omega) (by omega)]
      generalize rdd (0 : Int) g i = t
      have hfb : (jAl (jbp l t)).2.1 = (jbp l t).isSome := by cases jbp l t <;> rfl
      simp only [hfb, List.forall_mem_cons, jkA]
      cases hf : (jbp l t).isSome
      · by_cases h0 : t = 0
        · simp [h0]
        · by_cases h1 : t = 65535
          · simp [h1]
          · simp [h0, h1]
      · simp
    · simp only [jaI]
      rw [if_neg (by omega), List.drop_of_length_le (by omega), if_pos (by simp)]

theorem jxZ (kr : Int → Option Res) (kt : Unit → Option Res) (l : List jah) (hl : l.length < 9223372036854775807) (hg : ∀ x ∈ l, (jcU x).length < 100000) : ∀ (m i : Nat), i ≤ l.length → l.length - i < m →
    jkZ FUEL kr kt l m (i : Int) = if ∀ x ∈ l.drop i, ∀ t ∈ jhX x, jkA l t = true then kt () else kr 8
  | 0, _, _, h => by omega
  | m + 1, i, hi, hm => by
    show jsN FUEL kr kt l (jkZ FUEL kr kt l m) (i : Int) = _
    unfold jsN
    by_cases h : i < l.length
    · have hx := jvA (rdd jaH l i) (hg _ (jbn h))
      have hgl : (jhX (rdd jaH l i)).length < 9223372036854775807 := by
        have := hg _ (jbn (d := jaH) h)
        simp [jhX]; omega
      simp only [jaI, jan, jyq, jCY, hx, RS.get, Option.getD_some, Option.isSome_some, cond_true]
      rw [if_pos (by omega), if_pos (by omega), jaF jaH h, jaA (by omega), jxZ kr kt l hl hg m (i + 1) (by omega) (by omega)]
      refine Eq.trans (jzt _ _ l hl _ _ hgl FUEL 0 (by omega) (by unfold FUEL; omega)) ?_
      simp only [List.drop_zero, List.forall_mem_cons]
      by_cases h1 : ∀ t ∈ jhX (rdd jaH l i), jkA l t = true
      · rw [if_pos h1]
        by_cases h2 : ∀ x ∈ l.drop (i + 1), ∀ t ∈ jhX x, jkA l t = true
        · rw [if_pos h2, if_pos ⟨h1, h2⟩]
        · rw [if_neg h2, if_neg (fun k => h2 k.2)]
      · rw [if_neg h1, if_neg (fun k => h1 k.1)]
    · simp only [jaI]
      rw [if_neg (by omega), List.drop_of_length_le (by omega), if_pos (by simp)]

theorem L_r66 (kr : Int → Option Res) (kt : Unit → Option Res) (l : List jah) (r : List Int) (hr : r.length < 1000000) : ∀ (m i : Nat), i ≤ r.length → r.length - i < m →
    jkX FUEL kr kt l r.length r m (i : Int) = if ∀ v ∈ r.drop i, v ≤ (l.length : Int) then kt () else kr 10
  | 0, _, _, h => by omega
  | m + 1, i, hi, hm => by
    show jsL FUEL kr kt l r.length r (jkX FUEL kr kt l r.length r m) (i : Int) = _
    unfold jsL
    simp only [jaI, jan]
    by_cases h : i < r.length
    · rw [if_pos (by omega), if_pos (by omega), jaF (0 : Int) h, jaA (by omega), L_r66 kr kt l r hr m (i + 1) (by omega) (by omega)]
      simp only [List.forall_mem_cons]
      by_cases hv : rdd 0 r i > (l.length : Int)
      · rw [if_pos hv, if_neg (fun k => by have := k.1; omega)]
      · rw [if_neg hv]
        by_cases h2 : ∀ v ∈ r.drop (i + 1), v ≤ (l.length : Int)
        · rw [if_pos h2, if_pos ⟨by omega, h2⟩]
        · rw [if_neg h2, if_neg (fun k => h2 k.2)]
    · rw [if_neg (by omega), List.drop_of_length_le (by omega), if_pos (by simp)]

/-- The document's May, and the program's. -/
theorem Q_rMay (l : List jah) (hl : Nodes l) : ∃ v : Int, jEm l = some ((v, ()), ()) ∧ (v = 0 ↔ mayP l) := by
  by_cases h1 : formsOk 0 l
  case neg =>
    refine ⟨3, fin ?_, fun h => by omega, fun hm => absurd hm.1 h1⟩
    unfold jvD
    refine Eq.trans (jkg _ _ l hl.len hl.g FUEL 0 (by omega) (by have := hl.len; unfold FUEL; omega)) ?_
    rw [List.drop_zero, show jgy l 0 = 0 from rfl, if_neg h1]
  by_cases h2 : l.length ≤ 32
  case neg =>
    refine ⟨12, fin ?_, fun h => by omega, fun hm => absurd hm.2.1 h2⟩
    unfold jvD
    refine Eq.trans (jkg _ _ l hl.len hl.g FUEL 0 (by omega) (by have := hl.len; unfold FUEL; omega)) ?_
    rw [List.drop_zero, show jgy l 0 = 0 from rfl, if_pos h1, jaI, if_pos (by omega)]
  have hrefs : (∀ x ∈ l, ∀ t ∈ jhX x, jkA l t = true) ↔ jgx l := by
    unfold jgx
    constructor
    · exact fun h x hx t ht => h x hx t (jjU.2 ht)
    · exact fun h x hx t ht => h x hx t (jjU.1 ht)
  by_cases h3 : jgx l
  case neg =>
    refine ⟨8, fin ?_, fun h => by omega, fun hm => absurd hm.2.2.1 h3⟩
    unfold jvD
    refine Eq.trans (jkg _ _ l hl.len hl.g FUEL 0 (by omega) (by have := hl.len; unfold FUEL; omega)) ?_
    rw [List.drop_zero, show jgy l 0 = 0 from rfl, if_pos h1, jaI, if_neg (by omega)]
    refine Eq.trans (jxZ _ _ l hl.len hl.arms FUEL 0 (by omega) (by unfold FUEL; omega)) ?_
    rw [List.drop_zero, if_neg (fun k => h3 (hrefs.1 k))]
  have hr := jCu l h2 hl.arms (jib h1) (l.length + 1) (by omega)
  have e : IntKind.wrap .i64 ((l.length : Int) + 1) = ((l.length + 1 : Nat) : Int) := jaA (by omega)
  obtain ⟨r, hR⟩ : ∃ r : List Int, r = l.map fun (x : jah) => rkG l (l.length + 1) x.1 := ⟨_, rfl⟩
  rw [← hR] at hr
  have hrl : r.length = l.length := by rw [hR]; simp
  have h6 := L_r66 (fun y8 => some (jac jfx jfz ((y8, ()), ()))) (fun _ => some (jac jfx jfz (((0 : Int), ()), ()))) l r (by omega) FUEL 0 (by omega) (by unfold FUEL; omega)
  rw [List.drop_zero, hrl] at h6
  have hM : jvD FUEL l = (if ∀ v ∈ r, v ≤ (l.length : Int) then some (jac jfx jfz (((0 : Int), ()), ())) else some (jac jfx jfz (((10 : Int), ()), ()))) := by
    unfold jvD
    refine Eq.trans (jkg _ _ l hl.len hl.g FUEL 0 (by omega) (by have := hl.len; unfold FUEL; omega)) ?_
    rw [List.drop_zero, show jgy l 0 = 0 from rfl, if_pos h1, jaI, if_neg (by omega)]
    refine Eq.trans (jxZ _ _ l hl.len hl.arms FUEL 0 (by omega) (by unfold FUEL; omega)) ?_
    rw [List.drop_zero, if_pos (hrefs.2 h3)]
    simp only [e, jBf, q_z18, hr, RS.get, Option.getD_some, Option.isSome_some, cond_true]
    exact h6
  by_cases h4 : ∀ v ∈ r, v ≤ (l.length : Int)
  · rw [if_pos h4] at hM
    exact ⟨0, fin hM, fun _ => ⟨h1, h2, h3, _, jGy (r := l.length) fun x hx => h4 _ (by rw [hR]; exact List.mem_map.2 ⟨x, hx, rfl⟩)⟩, fun _ => rfl⟩
  · rw [if_neg h4] at hM
    refine ⟨10, fin hM, fun h => by omega, fun hm => ?_⟩
    exfalso
    apply h4
    intro v hv
    rw [hR] at hv
    obtain ⟨x, hx, rfl⟩ := List.mem_map.1 hv
    obtain ⟨h, H⟩ := hm.2.2.2
    exact Int.le_trans (jAS H _ _) (Hgt.le h2 hl.arms H x.1)
end Go.AMach

/- Layer 24: the reference's jeO. -/
namespace Go.AMach
set_option linter.unusedVariables false
set_option linter.unusedSimpArgs false
set_option linter.unnecessarySimpa false
open Go
set_option linter.unusedVariables false

theorem jCE (kr : Int → Option Res) (kt : Unit → Option Res) (l : List jah) (hl : l.length ≤ 32) (r : List Int) (hr : r.length = l.length) : ∀ (m i : Nat), i ≤ l.length → l.length - i < m →
    jkW FUEL kr kt l r.length r m (i : Int) = match (l.drop i).findIdx? (fun x => decide (x.1 = 1)) with | some j => kr (rdd 0 r (i + j)) | none => kt ()
  | 0, _, _, h => by omega
  | m + 1, i, hi, hm => by
    show jsK FUEL kr kt l r.length r (jkW FUEL kr kt l r.length r m) (i : Int) = _
    unfold jsK
    by_cases hlt : i < l.length
    · refine jai (decide_eq_true (by omega)) ?_
      refine jai (decide_eq_true (by omega)) ?_
      rw [jan, jaF jaH hlt, List.findIdx?_cons]
      by_cases c : (rdd jaH l i).1 = 1
      · refine jai (jbV c) ?_
        refine jai (decide_eq_true (by omega)) ?_
        rw [decide_eq_true c]
        rfl
      · refine jaq (jbi c) ?_
        rw [decide_eq_false c, jaA (by omega), jCE kr kt l hl r hr m (i + 1) (by omega) (by omega)]
        cases (l.drop (i + 1)).findIdx? (fun x => decide (x.1 = 1)) with
        | none => rfl
        | some j =>
          show kr (rdd 0 r (i + 1 + j)) = kr (rdd 0 r (i + (j + 1)))
          rw [show i + 1 + j = i + (j + 1) by omega]
    · refine jaq (decide_eq_false (by omega)) ?_
      rw [List.drop_of_length_le (by omega)]
      rfl
theorem jEV {l : List jah} (hl : Nodes l) : jEl l = some ((jfq l, ()), ()) := by
  obtain ⟨v, e1, hv⟩ := Q_rMay l hl
  refine fin ?_
  unfold jFf
  extract_lets -merge +onlyGivenNames y1
  have e_y : y1 = _ := (congrArg RS.get e1).trans (jaw _)
  clear_value y1; subst e_y
  refine jaL e1 ?_
  by_cases h : mayP l
  · have hv0 := hv.2 h
    subst hv0
    refine jaq rfl ?_
    have h32 := h.2.1
    have hu := jib h.1
    have hH := h.2.2.2.choose_spec
    have e2 := jCu l h32 hl.arms hu l.length (by omega)
    have hg : Hgt l (rkG l l.length) := jGy fun x hx => by
      have := jAS hH (l.length + 1) x.1
      have := hH.le h32 hl.arms x.1
      omega
    have hlv : jfq l = rkG l l.length 1 := by
      unfold jfq; rw [dif_pos h]
      exact hH.unique hg 1
    extract_lets -merge +onlyGivenNames y2
    have e_y : y2 = _ := (congrArg RS.get e2).trans (jaw _)
    clear_value y2; subst e_y
    refine jaL e2 ?_
    have hlm : (l.map (fun x => rkG l l.length x.1)).length = l.length := List.length_map ..
    have eL := jCE (fun y3 => some (jac jhw jhz ((y3, ()), ()))) (fun _ => some (jac jhw jhz (((0 : Int), ()), ()))) l h32 (l.map (fun x => rkG l l.length x.1)) hlm FUEL 0 (by omega) (jaU (by omega))
    rw [hlm, List.drop_zero] at eL
    refine Eq.trans eL ?_
    rw [hlv]
    cases hf : l.findIdx? (fun x => decide (x.1 = 1)) with
    | none =>
      have hno : (jbp l 1).isSome = false := by
        unfold jbp
        rw [Bool.eq_false_iff]
        intro hs
        rw [List.find?_isSome] at hs
        obtain ⟨x, hx, hx1⟩ := hs
        have := List.findIdx?_eq_none_iff.1 hf x hx
        rw [hx1] at this; cases this
      have h0 : rkG l l.length 1 = 0 := by
        have hp := hg.pos 1
        have hn := hg.nonneg 1
        rw [hno] at hp
        have : ¬ 0 < rkG l l.length 1 := fun q => by have := hp.1 q; cases this
        omega
      rw [h0]
    | some j =>
      obtain ⟨hj, hp, _⟩ := List.findIdx?_eq_some_iff_getElem.1 hf
      show some (jac jhw jhz ((rdd 0 (l.map (fun x => rkG l l.length x.1)) (0 + j), ()), ())) = _
      rw [Nat.zero_add, jbz (by rw [hlm]; exact hj), List.getElem_map]
      rw [of_decide_eq_true hp]
  · have hv0 : v ≠ 0 := fun q => h (hv.1 q)
    refine jai (by show (v != 0) = true; rw [jcs, decide_eq_false hv0]; rfl) ?_
    unfold jfq; rw [dif_neg h]
open Classical in
theorem Q_rOf {c : jaa} (h : Cfg c) (hl : Nodes c.1) : jEk c = some (((OfV c).1, ((OfV c).2, ())), ()) := by
  have e1 := jpI h 1
  refine fin ?_
  unfold jFe
  extract_lets -merge +onlyGivenNames y1
  have e_y1 : y1 = _ := (congrArg RS.get e1).trans (jaw _)
  clear_value y1; subst e_y1
  refine jaL e1 ?_
  unfold ofV OfV
  by_cases hr : jcx c
  · rw [if_pos hr, if_pos hr]
    refine jai rfl ?_
    rfl
  · rw [if_neg hr, if_neg hr]
    refine jaq rfl ?_
    have e2 := jEV hl
    extract_lets -merge +onlyGivenNames y2
    have e_y2 : y2 = _ := (congrArg RS.get e2).trans (jaw _)
    clear_value y2; subst e_y2
    refine jaL e2 ?_
    have h1 : InR (HC c (0, (1, ()))) := H_in (jdb c) (jcf c) (jdt c) (0, (1, ()))
    have h2 := jrj hl.arms
    have w : IntKind.wrap .i64 (HC c (0, (1, ())) + jfq c.1) = HC c (0, (1, ())) + jfq c.1 := jbA (by unfold InR at h1; omega)
    have e3 := jzq (HC c (0, (1, ())) + jfq c.1)
    rw [← w] at e3
    extract_lets -merge +onlyGivenNames y3
    have e_y3 : y3 = _ := (congrArg RS.get e3).trans (jaw _)
    clear_value y3; subst e_y3
    refine jaL e3 ?_
    rw [w]
end Go.AMach
