/- Layer 15: 'from': a node in the place of First. -/
import Derived.Test.YtclfngicnmpnjaaPe
namespace Go.AMach
set_option linter.unusedVariables false
set_option linter.unusedSimpArgs false
set_option linter.unnecessarySimpa false
set_option linter.unusedVariables false
set_option linter.unusedSimpArgs false

def turn (id k : Int) : Int := if k = 1 then id else if k = id then 1 else k
theorem turn_turn (id k : Int) : turn id (turn id k) = k := by
  unfold turn
  by_cases h1 : k = 1
  · subst h1
    rw [if_pos rfl]
    by_cases h2 : id = 1
    · rw [if_pos h2, h2]
    · rw [if_neg h2, if_pos rfl]
  · rw [if_neg h1]
    by_cases h2 : k = id
    · rw [if_pos h2, if_pos rfl, h2]
    · rw [if_neg h2, if_neg h1, if_neg h2]
theorem turn_inj {id a b : Int} (h : turn id a = turn id b) : a = b := by rw [← turn_turn id a, h, turn_turn]
theorem Q_turned (k id : Int) : Q_turnoutlaw15_turned k id = some ((turn id k, ()), ()) := by
  refine fin ?_
  unfold M_turnoutlaw15_turned turn
  simp only [int_beq, cond_dec]
  by_cases h1 : k = 1
  · rw [if_pos h1, if_pos h1]
  · rw [if_neg h1, if_neg h1]
    by_cases h2 : k = id
    · rw [if_pos h2, if_pos h2]
    · rw [if_neg h2, if_neg h2]

def turnA (id : Int) (a : ArmS) : ArmS := (a.1, (turn id a.2.1, ()))
def turnN (id : Int) (x : NodeS) : NodeS := (turn id x.1, (x.2.1, (x.2.2.1, (x.2.2.2.1, (x.2.2.2.2.1, (x.2.2.2.2.2.1, (x.2.2.2.2.2.2.1, ((nArms x).map (turnA id), (turn id (nOther x), ())))))))))
/-- A node put in among others, by its ID. -/
def insN (x : NodeS) : List NodeS → List NodeS
  | [] => [x]
  | y :: r => if y.1 < x.1 then y :: insN x r else x :: y :: r
def insAt (x : NodeS) : List NodeS → Nat
  | [] => 0
  | y :: r => if y.1 < x.1 then insAt x r + 1 else 0
theorem insAt_le (x : NodeS) : ∀ l, insAt x l ≤ l.length
  | [] => Nat.le_refl _
  | y :: r => by
    simp only [insAt]
    split
    · have := insAt_le x r; simp; omega
    · simp
theorem insN_eq (x : NodeS) : ∀ l, insN x l = l.take (insAt x l) ++ [x] ++ l.drop (insAt x l)
  | [] => rfl
  | y :: r => by
    simp only [insN, insAt]
    split
    · rw [insN_eq x r]; simp
    · simp
theorem insN_len (x : NodeS) : ∀ l, (insN x l).length = l.length + 1
  | [] => rfl
  | y :: r => by
    simp only [insN]
    split
    · simp [insN_len x r]
    · simp
theorem insN_mem {x y : NodeS} : ∀ {l}, y ∈ insN x l ↔ y = x ∨ y ∈ l
  | [] => by simp [insN]
  | z :: r => by
    simp only [insN]
    split
    · simp only [List.mem_cons, insN_mem (l := r)]
      constructor
      · rintro (h | h | h)
        · exact .inr (.inl h)
        · exact .inl h
        · exact .inr (.inr h)
      · rintro (h | h | h)
        · exact .inr (.inl h)
        · exact .inl h
        · exact .inr (.inr h)
    · simp only [List.mem_cons]
theorem insN_forms {x : NodeS} (hx : formP x) : ∀ {l : List NodeS} {p : Int}, formsOk p l → p < x.1 → (∀ y ∈ l, y.1 ≠ x.1) → formsOk p (insN x l)
  | [], p, _, hp, _ => ⟨hx, hp, trivial⟩
  | y :: r, p, ⟨h1, h2, h3⟩, hp, hn => by
    simp only [insN]
    split
    · rename_i hlt
      exact ⟨h1, h2, insN_forms hx h3 hlt fun z hz => hn z (List.mem_cons_of_mem _ hz)⟩
    · rename_i hlt
      have := hn y List.mem_cons_self
      exact ⟨hx, hp, h1, by omega, h3⟩
def fromL (id : Int) (l : List NodeS) (out : List NodeS) : List NodeS := l.foldl (fun out x => insN (turnN id x) out) out

/-! ### The walk -/
theorem L_from2 (k : List ArmS → Option Res) (l : List NodeS) (id : Int) (c : Nat) (i0 : Int) (out : List NodeS) (q1 q2 q3 q4 q5 q6 q7 q8 : Int) (arms : List ArmS) (ha : arms.length < 100000) : ∀ (m i : Nat), i ≤ arms.length → arms.length - i < m →
    L_turnoutlaw15_from_2 FUEL k l id c i0 out q1 q2 q3 q4 q5 q6 q7 arms.length q8 m (i : Int) ((arms.take i).map (turnA id) ++ arms.drop i) = k (arms.map (turnA id))
  | 0, _, _, h => by omega
  | m + 1, i, hi, hm => by
    generalize hcur : (arms.take i).map (turnA id) ++ arms.drop i = cur
    show F_turnoutlaw15_from_2 FUEL k l id c i0 out q1 q2 q3 q4 q5 q6 q7 arms.length q8 (L_turnoutlaw15_from_2 FUEL k l id c i0 out q1 q2 q3 q4 q5 q6 q7 arms.length q8 m) (i : Int) cur = _
    unfold F_turnoutlaw15_from_2
    simp only [cond_dec, toNat_cast, ok_turnoutlaw15_turned, q_turnoutlaw15_turned, Q_turned, RS.get, Option.getD_some, Option.isSome_some, cond_true]
    by_cases h : i < arms.length
    · have hx : rdd zArmS cur i = rdd zArmS arms i := by
        rw [← hcur, rdd_lt (by simp; omega), rdd_lt h, List.getElem_append_right (by simp; omega)]
        simp
        congr 1
        omega
      have ih := L_from2 k l id c i0 out q1 q2 q3 q4 q5 q6 q7 q8 arms ha m (i + 1) (by omega) (by omega)
      rw [take_rdd zArmS h, List.map_append] at ih
      rw [if_pos (by omega), if_pos (by omega), if_pos (by omega), hx, i64_succ (by omega), ← ih]
      congr 1
      rw [← hcur, drop_rdd zArmS h]
      refine (set_mid _ _ _ (by simp; omega)).trans ?_
      simp [turnA]
    · rw [if_neg (by omega), ← hcur, List.take_of_length_le (by omega), List.drop_of_length_le (by omega), List.append_nil]

theorem L_from4 (k : Int → Option Res) (l : List NodeS) (id : Int) (i0 : Int) (out : List NodeS) (x : NodeS) (q1 q2 q3 q4 q5 q6 q7 : Int) (c : Nat) (arms : List ArmS) (ho : out.length < 100000) : ∀ (m i : Nat), i ≤ out.length → out.length - i < m →
    L_turnoutlaw15_from_4 FUEL k l id out.length i0 out x.1 q1 q2 q3 q4 q5 q6 c q7 arms m (i : Int) = k ((i + insAt x (out.drop i) : Nat) : Int)
  | 0, _, _, h => by omega
  | m + 1, i, hi, hm => by
    show F_turnoutlaw15_from_4 FUEL k l id out.length i0 out x.1 q1 q2 q3 q4 q5 q6 c q7 arms (L_turnoutlaw15_from_4 FUEL k l id out.length i0 out x.1 q1 q2 q3 q4 q5 q6 c q7 arms m) (i : Int) = _
    unfold F_turnoutlaw15_from_4
    simp only [cond_dec, toNat_cast]
    by_cases h : i < out.length
    · rw [if_pos (by omega), if_pos (by omega), i64_succ (by omega), drop_rdd zNodeS h]
      simp only [insAt]
      by_cases hlt : (rdd zNodeS out i).1 < x.1
      · rw [if_pos hlt, if_pos hlt, L_from4 k l id i0 out x q1 q2 q3 q4 q5 q6 q7 c arms ho m (i + 1) (by omega) (by omega)]
        congr 2; omega
      · rw [if_neg hlt, if_neg hlt]; rfl
    · rw [if_neg (by omega), List.drop_of_length_le (by omega)]; rfl

theorem mkL_take {α : Type} (d x : α) (l : List α) (n : Nat) (h : n ≤ l.length) : mkL (n + 1) (fun i => if i < n then rdd d l i else x) = l.take n ++ [x] := by
  apply List.ext_getElem?
  intro i
  by_cases hi : i < n + 1
  · rw [mkL_get hi]
    by_cases h2 : i < n
    · rw [if_pos h2, List.getElem?_append_left (by simp; omega), List.getElem?_take, if_pos h2, rdd_lt (by omega), List.getElem?_eq_getElem (by omega)]
    · have : i = n := by omega
      subst this
      rw [if_neg h2, List.getElem?_append_right (by simp; omega)]
      simp [Nat.min_eq_left h]
  · rw [List.getElem?_eq_none (by rw [mkL_length]; omega), List.getElem?_eq_none (by simp; omega)]

theorem L_from (k : Nat → List NodeS → Option Res) (l : List NodeS) (id : Int) (hl : l.length < 10000) (ha : ∀ x ∈ l, (nArms x).length < 100000) : ∀ (m i : Nat) (out : List NodeS), i ≤ l.length → out.length ≤ i → l.length - i < m →
    L_turnoutlaw15_from_0 FUEL k l id m out.length (i : Int) out = k (fromL id (l.drop i) out).length (fromL id (l.drop i) out)
  | 0, _, _, _, _, h => by omega
  | m + 1, i, out, hi, ho, hm => by
    show F_turnoutlaw15_from_0 FUEL k l id (L_turnoutlaw15_from_0 FUEL k l id m) out.length (i : Int) out = _
    unfold F_turnoutlaw15_from_0
    simp only [toNat_cast, ok_turnoutlaw15_turned, q_turnoutlaw15_turned, Q_turned, RS.get, Option.getD_some, Option.isSome_some, cond_true, Nat.zero_add]
    rw [cond_dec]
    by_cases h : i < l.length
    · have hxa := ha _ (rdd_mem (d := zNodeS) h)
      rw [if_pos (by omega), cond_dec, if_pos (by omega), drop_rdd zNodeS h]
      generalize hx : rdd zNodeS l i = x at *
      rw [cond_dec, if_pos (show x.2.2.2.2.2.2.2.1.length * 16 ≤ 2 ^ 46 ∧ x.2.2.2.2.2.2.2.1.length ≤ 2 ^ 46 by unfold nArms at hxa; omega)]
      have e2 := fun k q1 q2 q3 q4 q5 q6 q7 q8 => L_from2 k l id out.length (i : Int) out q1 q2 q3 q4 q5 q6 q7 q8 (nArms x) hxa FUEL 0 (by omega) (by unfold FUEL; omega)
      simp only [List.take_zero, List.map_nil, List.nil_append, List.drop_zero, Int.natCast_zero] at e2
      refine Eq.trans (e2 _ _ _ _ _ _ _ _ _) ?_
      have e4 := fun k q1 q2 q3 q4 q5 q6 q7 c arms => L_from4 k l id (i : Int) out (turnN id x) q1 q2 q3 q4 q5 q6 q7 c arms (by omega) FUEL 0 (by omega) (by unfold FUEL; omega)
      simp only [List.drop_zero, Int.natCast_zero, Nat.zero_add] at e4
      refine Eq.trans (e4 _ _ _ _ _ _ _ _ _ _) ?_
      have hat := insAt_le (turnN id x) out
      generalize hA : insAt (turnN id x) out = A at *
      simp only [toNat_cast, Int.toNat_zero, Nat.sub_zero, cutL_length', Nat.zero_add]
      have c1 : cutL zNodeS out 0 A = out.take A := by rw [cutL_eq (by omega), List.drop_zero]
      have c1l : (out.take A).length = A := by simp; omega
      have c2 : cutL zNodeS (out.take A) 0 A = out.take A := by
        have := cutL_all zNodeS (out.take A)
        rw [c1l] at this; exact this
      have c3 : cutL zNodeS out A (out.length - A) = out.drop A := by rw [cutL_eq (by omega), List.take_of_length_le (by simp)]
      rw [c1, c2, c3, i64_succ (by omega)]
      rw [cond_dec, if_pos (by omega), cond_dec, if_pos (by omega), cond_dec, if_pos (by omega), cond_dec, if_pos (by omega), cond_dec, if_pos (by omega)]
      have hmk : ∀ y : NodeS, mkL (A + 1) (fun j => if j < A then rdd zNodeS (out.take A) j else y) = out.take A ++ [y] := fun y => by
        have := mkL_take zNodeS y (out.take A) A (by omega)
        rw [this, List.take_of_length_le (by omega)]
      have c4 : cutL zArmS ((nArms x).map (turnA id)) 0 (nArms x).length = (nArms x).map (turnA id) := by
        have := cutL_all zArmS ((nArms x).map (turnA id))
        rw [List.length_map] at this; exact this
      have hins : out.take A ++ [turnN id x] ++ out.drop A = insN (turnN id x) out := by rw [insN_eq, hA]
      have ih := L_from k l id hl ha m (i + 1) (insN (turnN id x) out) (by omega) (by rw [insN_len]; omega) (by omega)
      rw [insN_len] at ih
      refine Eq.trans ?_ ih
      rw [hmk, show (nArms x) = x.2.2.2.2.2.2.2.1 from rfl] at *
      rw [c4]
      congr 1
      · omega
    · rw [if_neg (by omega), List.drop_of_length_le (by omega)]
      rfl
end Go.AMach
