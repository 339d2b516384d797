/- Parts of the proof. -/
import Derived.Test.YtbkbifpjckippaaDx
import Derived.Test.YtbkbifpjckippaaAm23
import Derived.Test.YtbkbifpjckippaaWb
/- law19: what an instruction must have. -/
namespace Go.AMach
set_option linter.unusedVariables false
set_option linter.unusedSimpArgs false
set_option linter.unnecessarySimpa false
open Go
set_option linter.unusedVariables false
set_option linter.unusedSimpArgs false
theorem stepC {α β : Type} {o : Option α} {v : α} (h : o = some v) {A B X : β} (g : A = X) : cond o.isSome A B = X := by subst h; exact g
theorem stepN {α β : Type} {o : Option α} (h : o = none) {A B X : β} (g : B = X) : cond o.isSome A B = X := by subst h; exact g
theorem stepT {β : Type} {c : Bool} (h : c = true) {A B X : β} (g : A = X) : cond c A B = X := by subst h; exact g
theorem stepF {β : Type} {c : Bool} (h : c = false) {A B X : β} (g : B = X) : cond c A B = X := by subst h; exact g
theorem beqT {x y : Int} (h : x = y) : (x == y) = true := by rw [int_beq, decide_eq_true h]
theorem beqF {x y : Int} (h : x ≠ y) : (x == y) = false := by rw [int_beq, decide_eq_false h]
theorem bneT {x y : Int} (h : x ≠ y) : (x != y) = true := by rw [int_bne, decide_eq_false h]; rfl
theorem bneF {x y : Int} (h : x = y) : (x != y) = false := by rw [int_bne, decide_eq_true h]; rfl
namespace N19
set_option linter.unusedVariables false
set_option linter.unusedSimpArgs false
set_option linter.unnecessarySimpa false
/-- A Bool as a result. -/
abbrev RB (x : Bool) : Res := encRes [.ty .bool] [] ((x, ()), ())
theorem pushB (b x y : Bool) : cond b (some (RB x)) (some (RB y)) = some (RB (cond b x y)) := by cases b <;> rfl
theorem pushB' (b x y : Bool) : cond b (some (encRes [.ty .bool] [] ((x, ()), ()))) (some (encRes [.ty .bool] [] ((y, ()), ()))) = some (encRes [.ty .bool] [] ((cond b x y, ()), ())) := by cases b <;> rfl

def fldB (a : ArgS) : Bool := cond (a.1 == 2) (cond (decide (a.2.1 ≥ 1)) (decide (a.2.1 ≤ 65534)) false) false
def nonB (a : ArgS) : Bool := (a.1 == 0) && ((a.2.1 == 0) && true)
def anyB (a : ArgS) : Bool := cond (a.1 == 1) true (cond (a.1 == 3) (decide (a.2.1 < 4)) (cond (a.1 == 4) (a.2.1 == 0) (cond (a.1 == 5) (a.2.1 == 0) (fldB a))))
theorem Q_fld (a : ArgS) : Q_z04 a = some ((fldB a, ()), ()) := by
  refine fin ?_
  unfold M_z04
  have pB : ∀ b x y, cond b (some (encRes ro_z04 rh_z04 ((x, ()), ()))) (some (encRes ro_z04 rh_z04 ((y, ()), ()))) = some (encRes ro_z04 rh_z04 ((cond b x y, ()), ())) := fun b x y => by cases b <;> rfl
  simp only [pB]
  rfl
theorem ok_fld (a : ArgS) : ok_z04 a = true := by unfold ok_z04; rw [Q_fld]; rfl
theorem q_fld (a : ArgS) : q_z04 a = ((fldB a, ()), ()) := by unfold q_z04; rw [Q_fld]; rfl
theorem Q_any (a : ArgS) : Q_z05 a = some ((anyB a, ()), ()) := by
  refine fin ?_
  unfold M_z05
  have pB : ∀ b x y, cond b (some (encRes ro_z05 rh_z05 ((x, ()), ()))) (some (encRes ro_z05 rh_z05 ((y, ()), ()))) = some (encRes ro_z05 rh_z05 ((cond b x y, ()), ())) := fun b x y => by cases b <;> rfl
  simp only [ok_fld, q_fld, cond_true, pB]
  rfl
theorem ok_any (a : ArgS) : ok_z05 a = true := by unfold ok_z05; rw [Q_any]; rfl
theorem q_any (a : ArgS) : q_z05 a = ((anyB a, ()), ()) := by unfold q_z05; rw [Q_any]; rfl
theorem Q_non (a : ArgS) : Q_z06 a = some ((nonB a, ()), ()) := fin rfl
theorem ok_non (a : ArgS) : ok_z06 a = true := by unfold ok_z06; rw [Q_non]; rfl
theorem q_non (a : ArgS) : q_z06 a = ((nonB a, ()), ()) := by unfold q_z06; rw [Q_non]; rfl

def shB (to te : Bool) (a b : ArgS → Bool) (nm le mo : Int) (i : InstrS) : Bool :=
  cond (tgtV to te i.2.1) (cond (a i.2.2.1) (cond (b i.2.2.2.1) (numV nm le mo i.2.2.2.2.1) false) false) false
def mayB (i : InstrS) : Bool :=
  cond (decide (i.1 < 1 ∨ 23 < i.1)) false
  (cond (decide (i.1 ≤ 8)) (shB true false anyB nonB 0 0 0 i)
  (cond (decide (i.1 ≤ 10)) (shB true false nonB nonB 0 0 9216 i)
  (cond (decide (i.1 ≤ 11)) (shB true false fldB nonB 0 0 9216 i)
  (cond (decide (i.1 ≤ 12)) (shB false true anyB anyB 0 1 32 i)
  (cond (decide (i.1 ≤ 13)) (shB false false nonB nonB 2 0 0 i)
  (cond (decide (i.1 ≤ 14)) (shB false false nonB nonB 3 0 0 i)
  (cond (decide (i.1 ≤ 15)) (shB false false anyB nonB 4 0 0 i)
  (cond (decide (i.1 ≤ 16)) (shB false false nonB nonB 5 0 0 i)
  (cond (decide (i.1 ≤ 17)) (shB true false anyB nonB 6 0 0 i)
  (cond (decide (i.1 ≤ 19)) (shB false false anyB anyB 6 0 0 i)
  (cond (decide (i.1 ≤ 20)) (shB false false anyB nonB 0 0 0 i)
  (cond (decide (i.1 ≤ 21)) (shB false false nonB nonB 0 0 2147483647 i)
  (shB false false nonB nonB 0 0 0 i)))))))))))))
theorem Q_May (i : InstrS) : Q_z07 i = some ((mayB i, ()), ()) := by
  refine fin ?_
  unfold M_z07
  have pB : ∀ b x y, cond b (some (encRes ro_z07 rh_z07 ((x, ()), ()))) (some (encRes ro_z07 rh_z07 ((y, ()), ()))) = some (encRes ro_z07 rh_z07 ((cond b x y, ()), ())) := fun b x y => by cases b <;> rfl
  simp only [ok_fld, q_fld, ok_any, q_any, ok_non, q_non, cond_true, pB]
  rfl
theorem ok_May (a : InstrS) : ok_z07 a = true := by unfold ok_z07; rw [Q_May]; rfl
theorem q_May (a : InstrS) : q_z07 a = ((mayB a, ()), ()) := by unfold q_z07; rw [Q_May]; rfl

/-! ### The reference -/
def opR (a : ArgS) : Bool := anyB a
theorem Q_rID (n : Int) : Q_z0k n = some ((idV n, ()), ()) := by
  refine fin ?_
  unfold M_z0k
  have pB : ∀ b x y, cond b (some (encRes ro_z0k rh_z0k ((x, ()), ()))) (some (encRes ro_z0k rh_z0k ((y, ()), ()))) = some (encRes ro_z0k rh_z0k ((cond b x y, ()), ())) := fun b x y => by cases b <;> rfl
  simp only [pB]
  congr 3
  unfold idV
  by_cases h : 1 ≤ n <;> simp [h]
theorem ok_rID (n : Int) : ok_z0k n = true := by unfold ok_z0k; rw [Q_rID]; rfl
theorem q_rID (n : Int) : q_z0k n = ((idV n, ()), ()) := by unfold q_z0k; rw [Q_rID]; rfl
theorem Q_rnon (a : ArgS) : Q_z0m a = some ((nonB a, ()), ()) := by
  refine fin ?_
  unfold M_z0m
  have pB : ∀ b x y, cond b (some (encRes ro_z0m rh_z0m ((x, ()), ()))) (some (encRes ro_z0m rh_z0m ((y, ()), ()))) = some (encRes ro_z0m rh_z0m ((cond b x y, ()), ())) := fun b x y => by cases b <;> rfl
  simp only [pB]
  congr 3
  unfold nonB
  cases (a.1 == 0) <;> simp
theorem ok_rnon (n : ArgS) : ok_z0m n = true := by unfold ok_z0m; rw [Q_rnon]; rfl
theorem q_rnon (n : ArgS) : q_z0m n = ((nonB n, ()), ()) := by unfold q_z0m; rw [Q_rnon]; rfl
theorem Q_rop (a : ArgS) : Q_z0l a = some ((anyB a, ()), ()) := by
  refine fin ?_
  unfold M_z0l
  have pB : ∀ b x y, cond b (some (encRes ro_z0l rh_z0l ((x, ()), ()))) (some (encRes ro_z0l rh_z0l ((y, ()), ()))) = some (encRes ro_z0l rh_z0l ((cond b x y, ()), ())) := fun b x y => by cases b <;> rfl
  simp only [pB]
  congr 3
  unfold anyB fldB
  obtain ⟨k, n, u⟩ := a
  simp only [int_beq, cond_dec]
  by_cases h1 : k = 1
  · simp [h1]
  by_cases h2 : k = 2
  · simp [h2]
  by_cases h3 : k = 3
  · simp [h3]
  by_cases h4 : k = 4
  · simp [h4]
  by_cases h5 : k = 5
  · simp [h5]
  simp [h1, h2, h3, h4, h5]
theorem ok_rop (n : ArgS) : ok_z0l n = true := by unfold ok_z0l; rw [Q_rop]; rfl
theorem q_rop (n : ArgS) : q_z0l n = ((anyB n, ()), ()) := by unfold q_z0l; rw [Q_rop]; rfl

theorem op_cases (o : Int) : (o < 1 ∨ 23 < o) ∨ o = 1 ∨ o = 2 ∨ o = 3 ∨ o = 4 ∨ o = 5 ∨ o = 6 ∨ o = 7 ∨ o = 8 ∨ o = 9 ∨ o = 10 ∨ o = 11 ∨ o = 12 ∨ o = 13 ∨ o = 14 ∨ o = 15 ∨ o = 16 ∨ o = 17 ∨ o = 18 ∨ o = 19 ∨ o = 20 ∨ o = 21 ∨ o = 22 ∨ o = 23 := by omega
theorem num0 (n : Int) : numV 0 0 0 n = (n == 0) := by
  unfold numV
  rw [int_beq]
  by_cases h : n = 0
  · subst h; rfl
  · by_cases h1 : 0 ≤ n
    · simp [h]; omega
    · simp [h, h1]
theorem numN {nm : Int} (h : 0 < nm) (le mo n : Int) : numV nm le mo n = idV n := by
  unfold numV idV; simp [h]
theorem Q_rMay (i : InstrS) : Q_z0n i = some ((mayB i, ()), ()) := by
  refine fin ?_
  unfold M_z0n
  have pB : ∀ b x y, cond b (some (encRes ro_z0n rh_z0n ((x, ()), ()))) (some (encRes ro_z0n rh_z0n ((y, ()), ()))) = some (encRes ro_z0n rh_z0n ((cond b x y, ()), ())) := fun b x y => by cases b <;> rfl
  simp only [ok_rID, q_rID, ok_rop, q_rop, ok_rnon, q_rnon, cond_true, pB]
  congr 3
  obtain ⟨o, to, a, b, n, u⟩ := i
  have e1 : ∀ a b : Bool, (cond a b false) = (a && b) := fun a b => by cases a <;> rfl
  have f0 : fldB a = ((a.1 == 2) && anyB a) := by
    unfold anyB fldB
    simp only [int_beq]
    by_cases h2 : a.1 = 2
    · simp [h2]
    · simp [h2]
  have hz : (decide (0 ≤ n) && decide (n ≤ 0)) = decide (n = 0) := by
    by_cases h : n = 0
    · subst h; rfl
    · by_cases h1 : 0 ≤ n
      · rw [decide_eq_false h, decide_eq_false (show ¬ n ≤ 0 by omega), Bool.and_false]
      · rw [decide_eq_false h, decide_eq_false h1, Bool.false_and]
  unfold mayB shB
  rcases op_cases o with h | h | h | h | h | h | h | h | h | h | h | h | h | h | h | h | h | h | h | h | h | h | h | h
  · have hk : ∀ k : Int, 1 ≤ k → k ≤ 23 → (o == k) = false := fun k h1 h2 => beqF (by omega)
    simp only [decide_eq_true h, cond_true, cond_false, hk 1 (by omega) (by omega), hk 2 (by omega) (by omega), hk 3 (by omega) (by omega), hk 4 (by omega) (by omega), hk 5 (by omega) (by omega), hk 6 (by omega) (by omega), hk 7 (by omega) (by omega), hk 8 (by omega) (by omega), hk 9 (by omega) (by omega), hk 10 (by omega) (by omega), hk 11 (by omega) (by omega), hk 12 (by omega) (by omega), hk 13 (by omega) (by omega), hk 14 (by omega) (by omega), hk 15 (by omega) (by omega), hk 16 (by omega) (by omega), hk 17 (by omega) (by omega), hk 18 (by omega) (by omega), hk 19 (by omega) (by omega), hk 20 (by omega) (by omega), hk 21 (by omega) (by omega), hk 22 (by omega) (by omega), hk 23 (by omega) (by omega)]
  all_goals
    subst h
    simp [tgtV, num0, numN, idV, numV, f0, Bool.and_assoc, int_beq, hz]
end N19
end Go.AMach

/- law19: what an instruction names. -/
namespace Go.AMach
set_option linter.unusedVariables false
set_option linter.unusedSimpArgs false
set_option linter.unnecessarySimpa false
open Go
set_option linter.unusedVariables false
set_option linter.unusedSimpArgs false
namespace N19
set_option linter.unusedVariables false
set_option linter.unusedSimpArgs false
set_option linter.unnecessarySimpa false
def nmOf (o : Int) : Int := if o = 13 then 2 else if o = 14 then 3 else if o = 15 then 4 else if o = 16 then 5 else if o = 17 then 6 else if o = 18 then 6 else if o = 19 then 6 else 0
def toOf (o : Int) : Bool := decide (o ≤ 11) || decide (o = 17)
def argL (a : ArgS) : List NameS := cond (fldB a) [(1, (IntKind.wrap .i64 a.2.1, ()))] []
def namesL (i : InstrS) : List NameS := cond (mayB i) (((cond (toOf i.1) [(1, (i.2.1, ()))] [] ++ argL i.2.2.1) ++ argL i.2.2.2.1) ++ cond (decide (0 < nmOf i.1)) [(nmOf i.1, (i.2.2.2.2.1, ()))] []) []

theorem L_names (k : Nat → List NameS → Option Res) (a b : ArgS) : ∀ (m : Nat) (l : List NameS), 2 < m → l.length ≤ 10 →
    L_z08_0 FUEL k 2 ((2 : Nat) : Int) [a, b] m l.length (0 : Int) l = k ((l ++ argL a) ++ argL b).length ((l ++ argL a) ++ argL b) := by
  intro m l hm hl
  obtain ⟨m, rfl⟩ : ∃ j, m = j + 3 := ⟨m - 3, by omega⟩
  have st : ∀ (m : Nat) (i : Nat) (l : List NameS), i < 2 → l.length ≤ 11 → L_z08_0 FUEL k 2 ((2 : Nat) : Int) [a, b] (m + 1) l.length (i : Int) l = L_z08_0 FUEL k 2 ((2 : Nat) : Int) [a, b] m (l ++ argL (rdd zArgS [a, b] i)).length ((i + 1 : Nat) : Int) (l ++ argL (rdd zArgS [a, b] i)) := by
    intro m i l hi hl
    show F_z08_0 FUEL k 2 ((2 : Nat) : Int) [a, b] (L_z08_0 FUEL k 2 ((2 : Nat) : Int) [a, b] m) l.length (i : Int) l = _
    unfold F_z08_0
    simp only [ok_fld, q_fld, cond_true, cutL_all, toNat_cast]
    rw [i64_succ (by omega)]
    refine stepT (decide_eq_true (by omega)) ?_
    refine stepT (decide_eq_true (by omega)) ?_
    unfold argL
    cases hf : fldB (rdd zArgS [a, b] i) with
    | true =>
      refine stepT (decide_eq_true (by omega)) ?_
      simp only [cond_true, List.length_append, List.length_cons, List.length_nil]
    | false => simp only [cond_false, List.append_nil]
  have hA : (argL a).length ≤ 1 := by unfold argL; cases fldB a <;> simp
  rw [show (0 : Int) = ((0 : Nat) : Int) from rfl, st (m + 2) 0 l (by omega) (by omega), st (m + 1) 1 _ (by omega) (by simp only [List.length_append]; show _ + (argL a).length ≤ _; omega)]
  rfl
theorem toOf_le {i : InstrS} (h : mayB i = true) : 1 ≤ i.1 ∧ i.1 ≤ 23 := by
  by_cases hh : i.1 < 1 ∨ 23 < i.1
  · unfold mayB at h
    rw [decide_eq_true hh] at h; cases h
  · omega
/-- The names, but for what N names. -/
theorem Q_Names (i : InstrS) : ∃ l, Q_z08 i = some ((l.length, ()), (l, ())) ∧ l = namesL i := by
  refine ⟨_, ?_, rfl⟩
  refine fin ?_
  unfold M_z08 namesL
  simp only [ok_May, q_May, cond_true]
  cases hm : mayB i with
  | false => rfl
  | true =>
    simp only [Bool.not_true, cond_false, cond_true]
    obtain ⟨o, to, a, b, n, u⟩ := i
    have hr : 1 ≤ o ∧ o ≤ 23 := toOf_le hm
    have L0 := fun k => L_names k a b FUEL [] (fuel_big (by omega)) (by simp)
    have L1 := fun k x => L_names k a b FUEL [x] (fuel_big (by omega)) (by simp)
    simp only [List.length_cons, List.length_nil] at L0 L1
    simp only [L0, L1]
    have l2 : ∀ l : List NameS, l.length ≤ 2 → ((l ++ argL a) ++ argL b).length ≤ 4 := fun l h => by
      have h1 : (argL a).length ≤ 1 := by unfold argL; cases fldB a <;> simp
      have h2 : (argL b).length ≤ 1 := by unfold argL; cases fldB b <;> simp
      simp only [List.length_append]; omega
    have s1 : ∀ (l : List NameS) (x : NameS), l.length ≤ 2 → cond (decide ((List.length (cutL zNameS ((l ++ argL a) ++ argL b) 0 ((l ++ argL a) ++ argL b).length) + 1) * 16 ≤ 2 ^ 46 ∧ (List.length (cutL zNameS ((l ++ argL a) ++ argL b) 0 ((l ++ argL a) ++ argL b).length) + 1) ≤ 2 ^ 46)) (some (encRes ro_z08 rh_z08 (((List.length (cutL zNameS ((l ++ argL a) ++ argL b) 0 ((l ++ argL a) ++ argL b).length) + 1), ()), ((cutL zNameS ((l ++ argL a) ++ argL b) 0 ((l ++ argL a) ++ argL b).length ++ [x]), ())))) none = some (encRes ro_z08 rh_z08 (((((l ++ argL a) ++ argL b) ++ [x]).length, ()), ((((l ++ argL a) ++ argL b) ++ [x]), ()))) := fun l x hl => by
      have := l2 l hl
      rw [cutL_all]
      refine stepT (decide_eq_true (by omega)) ?_
      simp only [List.length_append, List.length_cons, List.length_nil]
    rcases op_cases o with h | h | h | h | h | h | h | h | h | h | h | h | h | h | h | h | h | h | h | h | h | h | h | h
    · omega
    all_goals
      subst h
      simp only [Int.reduceLE, Int.reduceLT, Int.reduceEq, or_self, or_true, true_or, false_or, or_false, decide_true, decide_false, cond_true, cond_false, toOf, nmOf, if_true, if_false, Bool.or_self, Bool.or_true, Bool.true_or, Bool.or_false, Bool.false_or, List.append_nil]
      all_goals first
        | rfl
        | exact s1 [] _ (by simp)
        | (refine stepT (by decide) ?_; exact s1 [(1, (to, ()))] _ (by simp))
theorem q_Names (i : InstrS) : ok_z08 i = true ∧ q_z08 i = (((namesL i).length, ()), (namesL i, ())) := by
  obtain ⟨l, h, rfl⟩ := Q_Names i
  exact ⟨by unfold ok_z08; rw [h]; rfl, by unfold q_z08; rw [h]; rfl⟩
theorem ok_rMay (a : InstrS) : ok_z0n a = true := by unfold ok_z0n; rw [Q_rMay]; rfl
theorem q_rMay (a : InstrS) : q_z0n a = ((mayB a, ()), ()) := by unfold q_z0n; rw [Q_rMay]; rfl
theorem fld_of {a : ArgS} (h : anyB a = true ∨ fldB a = true ∨ nonB a = true) : (a.1 == 2) = fldB a := by
  unfold anyB fldB nonB at h
  unfold fldB
  simp only [int_beq] at h ⊢
  by_cases h2 : a.1 = 2
  · simp [h2] at h ⊢; exact ⟨h.1, h.2⟩
  · simp [h2]
theorem may_args {i : InstrS} (h : mayB i = true) : (i.2.2.1.1 == 2) = fldB i.2.2.1 ∧ (i.2.2.2.1.1 == 2) = fldB i.2.2.2.1 := by
  have key : ∀ to te (f g : ArgS → Bool) nm le mo, (∀ a, f a = true → anyB a = true ∨ fldB a = true ∨ nonB a = true) → (∀ a, g a = true → anyB a = true ∨ fldB a = true ∨ nonB a = true) → shB to te f g nm le mo i = true → (i.2.2.1.1 == 2) = fldB i.2.2.1 ∧ (i.2.2.2.1.1 == 2) = fldB i.2.2.2.1 := by
    intro to te f g nm le mo hf hg hs
    unfold shB at hs
    cases h1 : tgtV to te i.2.1 <;> rw [h1] at hs
    · cases hs
    cases h2 : f i.2.2.1 <;> rw [h2] at hs
    · cases hs
    cases h3 : g i.2.2.2.1 <;> rw [h3] at hs
    · cases hs
    exact ⟨fld_of (hf _ h2), fld_of (hg _ h3)⟩
  have a1 : ∀ a, anyB a = true → anyB a = true ∨ fldB a = true ∨ nonB a = true := fun a h => .inl h
  have a2 : ∀ a, fldB a = true → anyB a = true ∨ fldB a = true ∨ nonB a = true := fun a h => .inr (.inl h)
  have a3 : ∀ a, nonB a = true → anyB a = true ∨ fldB a = true ∨ nonB a = true := fun a h => .inr (.inr h)
  obtain ⟨o, to, a, b, n, u⟩ := i
  unfold mayB at h
  rcases op_cases o with h' | h' | h' | h' | h' | h' | h' | h' | h' | h' | h' | h' | h' | h' | h' | h' | h' | h' | h' | h' | h' | h' | h' | h'
  · rw [decide_eq_true h'] at h; cases h
  all_goals
    subst h'
    simp only [Int.reduceLE, Int.reduceLT, or_self, decide_true, decide_false, cond_true, cond_false] at h
    first
      | exact key _ _ _ _ _ _ _ a1 a3 h
      | exact key _ _ _ _ _ _ _ a3 a3 h
      | exact key _ _ _ _ _ _ _ a2 a3 h
      | exact key _ _ _ _ _ _ _ a1 a1 h
theorem may_to {i : InstrS} (h : mayB i = true) : cond (i.1 != 12) (decide (i.2.1 > 0)) false = toOf i.1 := by
  have key : ∀ to te (f g : ArgS → Bool) nm le mo, shB to te f g nm le mo i = true → tgtV to te i.2.1 = true := by
    intro to te f g nm le mo hs
    unfold shB at hs
    cases h1 : tgtV to te i.2.1 with
    | true => rfl
    | false => rw [h1] at hs; cases hs
  obtain ⟨o, to, a, b, n, u⟩ := i
  unfold mayB at h
  unfold toOf
  rcases op_cases o with h' | h' | h' | h' | h' | h' | h' | h' | h' | h' | h' | h' | h' | h' | h' | h' | h' | h' | h' | h' | h' | h' | h' | h'
  · rw [decide_eq_true h'] at h; cases h
  all_goals
    subst h'
    simp only [Int.reduceLE, Int.reduceLT, or_self, decide_true, decide_false, cond_true, cond_false] at h
    have := key _ _ _ _ _ _ _ h
    simp [tgtV, idV] at this ⊢
    try omega
theorem Q_rNames (i : InstrS) : ∃ l, Q_z0o i = some ((l.length, ()), (l, ())) ∧ l = namesL i := by
  refine ⟨_, ?_, rfl⟩
  refine fin ?_
  unfold M_z0o namesL
  simp only [ok_rMay, q_rMay, cond_true]
  cases hm : mayB i with
  | false => rfl
  | true =>
    obtain ⟨ha, hb⟩ := may_args hm
    have ht := may_to hm
    have hr := toOf_le hm
    simp only [Bool.not_true, cond_false, cond_true, ha, hb]
    obtain ⟨o, to, a, b, n, u⟩ := i
    simp only at ha hb ht hr ⊢
    unfold argL
    rcases op_cases o with h | h | h | h | h | h | h | h | h | h | h | h | h | h | h | h | h | h | h | h | h | h | h | h
    · omega
    all_goals
      subst h
      simp only [int_bne, int_beq, Int.reduceEq, Int.reduceLE, decide_true, decide_false, Bool.not_true, Bool.not_false, cond_true, cond_false, toOf, nmOf, if_true, if_false, Bool.or_self, Bool.or_true, Bool.true_or, Bool.or_false, Bool.false_or] at ht ⊢
      try simp only [ht]
      cases fldB a <;> cases fldB b <;> rfl
end N19
end Go.AMach

/- law19: blocks that may be; comparing ways and names. -/
namespace Go.AMach
set_option linter.unusedVariables false
set_option linter.unusedSimpArgs false
set_option linter.unnecessarySimpa false
open Go
set_option linter.unusedVariables false
set_option linter.unusedSimpArgs false
namespace N19
set_option linter.unusedVariables false
set_option linter.unusedSimpArgs false
set_option linter.unnecessarySimpa false
open W19
def skOk (i : InstrS) (r : Nat) : Bool := cond (i.1 == 12) (!decide (i.2.2.2.2.1 > (r : Int))) true
def okAt : List InstrS → Bool
  | [] => true
  | i :: r => mayB i && (skOk i r.length && okAt r)
def mayBlk (b : BlockS) : Bool := idV b.1 && (decide (b.2.1.length ≤ 32) && okAt b.2.1)
theorem Q_id (n : Int) : Q_z0a n = some ((idV n, ()), ()) := by
  refine fin ?_
  unfold M_z0a
  have pB : ∀ b x y, cond b (some (encRes ro_z0a rh_z0a ((x, ()), ()))) (some (encRes ro_z0a rh_z0a ((y, ()), ()))) = some (encRes ro_z0a rh_z0a ((cond b x y, ()), ())) := fun b x y => by cases b <;> rfl
  simp only [pB]
  congr 3
  unfold idV
  by_cases h : 1 ≤ n <;> simp [h]
theorem L_MayBlock (kr : Bool → Option Res) (kt : Unit → Option Res) (b : BlockS) (hb : b.2.1.length ≤ 32) : ∀ (m i : Nat), i ≤ b.2.1.length → b.2.1.length - i < m →
    L_z0b_0 FUEL kr kt b.2.1 (b.2.1.length : Int) b m (i : Int) = cond (okAt (b.2.1.drop i)) (kt ()) (kr false)
  | 0, _, _, h => by omega
  | m + 1, i, hi, hm => by
    show F_z0b_0 FUEL kr kt b.2.1 (b.2.1.length : Int) b (L_z0b_0 FUEL kr kt b.2.1 (b.2.1.length : Int) b m) (i : Int) = _
    unfold F_z0b_0
    by_cases h : i < b.2.1.length
    · refine stepT (decide_eq_true (by omega)) ?_
      refine stepT (decide_eq_true (by omega)) ?_
      simp only [toNat_cast, ok_May, q_May, cond_true]
      rw [i64_succ (by omega), L_MayBlock kr kt b hb m (i + 1) (by omega) (by omega), drop_rdd zInstrS h]
      have e : (IntKind.wrap .i64 ((IntKind.wrap .i64 (((b.2.1.length : Nat) : Int) - (i : Int))) - (1 : Int))) = (((b.2.1.drop (i + 1)).length : Nat) : Int) := by
        rw [List.length_drop]
        have hw : ∀ x : Int, -9223372036854775808 ≤ x ∧ x ≤ 9223372036854775807 → IntKind.wrap .i64 x = x := fun x h => by simp [IntKind.wrap, IntKind.bits, IntKind.signed]; omega
        rw [hw ((b.2.1.length : Int) - (i : Int)) (by omega), hw _ (by omega)]; omega
      rw [e]
      show _ = cond (mayB _ && (skOk _ (b.2.1.drop (i + 1)).length && okAt _)) _ _
      unfold skOk
      cases hm : mayB (rdd zInstrS b.2.1 i) with
      | false => rfl
      | true =>
        simp only [Bool.not_true, cond_false, Bool.true_and]
        cases ((rdd zInstrS b.2.1 i).1 == 12) with
        | false => rfl
        | true =>
          simp only [cond_true]
          cases decide ((rdd zInstrS b.2.1 i).2.2.2.2.1 > (((b.2.1.drop (i + 1)).length : Nat) : Int)) <;> rfl
    · refine stepF (decide_eq_false (by omega)) ?_
      rw [List.drop_of_length_le (by omega)]
      rfl
theorem Q_MayBlock (b : BlockS) : Q_z0b b = some ((mayBlk b, ()), ()) := by
  refine fin ?_
  unfold M_z0b mayBlk
  refine stepC (Q_id b.1) ?_
  have e : q_z0a b.1 = ((idV b.1, ()), ()) := by unfold q_z0a; rw [Q_id]; rfl
  simp only [e]
  cases idV b.1 with
  | false => rfl
  | true =>
    simp only [Bool.not_true, cond_false, Bool.true_and]
    by_cases h : b.2.1.length ≤ 32
    · refine stepF (decide_eq_false (by omega)) ?_
      rw [decide_eq_true h, Bool.true_and]
      refine (L_MayBlock _ _ b h FUEL 0 (by omega) (fuel_big (by omega))).trans ?_
      rw [List.drop_zero]
      cases okAt b.2.1 <;> rfl
    · refine stepT (decide_eq_true (by omega)) ?_
      rw [decide_eq_false h]; rfl
theorem ok_MayBlock (a : BlockS) : ok_z0b a = true := by unfold ok_z0b; rw [Q_MayBlock]; rfl
theorem q_MayBlock (a : BlockS) : q_z0b a = ((mayBlk a, ()), ()) := by unfold q_z0b; rw [Q_MayBlock]; rfl

/-! -: Comparing -/
theorem L_ways (kr : Bool → Option Res) (kt : Unit → Option Res) (l : List WayS) (hl : l.length ≤ 100000) : ∀ (m i : Nat), i ≤ l.length → l.length - i < m →
    L_z0f_0 FUEL kr kt l l m (i : Int) = kt ()
  | 0, _, _, h => by omega
  | m + 1, i, hi, hm => by
    show F_z0f_0 FUEL kr kt l l (L_z0f_0 FUEL kr kt l l m) (i : Int) = _
    unfold F_z0f_0
    by_cases h : i < l.length
    · refine stepT (decide_eq_true (by omega)) ?_
      refine stepT (decide_eq_true (by omega)) ?_
      refine stepT (decide_eq_true (by omega)) ?_
      refine stepF (by simp) ?_
      rw [i64_succ (by omega)]
      exact L_ways kr kt l hl m (i + 1) (by omega) (by omega)
    · exact stepF (decide_eq_false (by omega)) rfl
theorem Q_ways (l : List WayS) (hl : l.length ≤ 100000) : Q_z0f l l = some ((true, ()), ()) := by
  refine fin ?_
  unfold M_z0f
  refine stepF (bneF rfl) ?_
  exact L_ways _ _ l hl FUEL 0 (by omega) (fuel_big (by omega))
theorem L_namesE (kr : Bool → Option Res) (kt : Unit → Option Res) (l : List NameS) (hl : l.length ≤ 100000) : ∀ (m i : Nat), i ≤ l.length → l.length - i < m →
    L_z09_0 FUEL kr kt l l m (i : Int) = kt ()
  | 0, _, _, h => by omega
  | m + 1, i, hi, hm => by
    show F_z09_0 FUEL kr kt l l (L_z09_0 FUEL kr kt l l m) (i : Int) = _
    unfold F_z09_0
    by_cases h : i < l.length
    · refine stepT (decide_eq_true (by omega)) ?_
      refine stepT (decide_eq_true (by omega)) ?_
      refine stepT (decide_eq_true (by omega)) ?_
      refine stepF (by simp) ?_
      rw [i64_succ (by omega)]
      exact L_namesE kr kt l hl m (i + 1) (by omega) (by omega)
    · exact stepF (decide_eq_false (by omega)) rfl
theorem Q_namesE (l : List NameS) (hl : l.length ≤ 100000) : Q_z09 l l = some ((true, ()), ()) := by
  refine fin ?_
  unfold M_z09
  refine stepF (bneF rfl) ?_
  exact L_namesE _ _ l hl FUEL 0 (by omega) (fuel_big (by omega))
theorem namesL_len (i : InstrS) : (namesL i).length ≤ 4 := by
  unfold namesL argL
  cases mayB i <;> cases toOf i.1 <;> cases fldB i.2.2.1 <;> cases fldB i.2.2.2.1 <;> cases decide (0 < nmOf i.1) <;> simp
end N19
end Go.AMach

/- law19: instr.Ways: where runs come to. -/
namespace Go.AMach
set_option linter.unusedVariables false
set_option linter.unusedSimpArgs false
set_option linter.unnecessarySimpa false
open Go
set_option linter.unusedVariables false
set_option linter.unusedSimpArgs false
namespace N19
set_option linter.unusedVariables false
set_option linter.unusedSimpArgs false
set_option linter.unnecessarySimpa false
open W19
def nd (i : InstrS) : Nd := if i.1 = 13 then .fin 13 i.2.2.2.2.1 else if i.1 = 14 then .fin 14 i.2.2.2.2.1 else if i.1 = 23 then .fin 23 0 else if i.1 = 22 then .fin 23 0 else if i.1 = 12 then .skip i.2.2.2.2.1.toNat else .step
abbrev nds (l : List InstrS) : List Nd := l.map nd
def endW (i : InstrS) : WayS := if i.1 = 13 then (i.1, (i.2.2.2.2.1, (0, ()))) else if i.1 = 14 then (i.1, (i.2.2.2.2.1, (0, ()))) else if i.1 = 23 then (23, (0, (0, ()))) else if i.1 = 22 then (23, (0, (0, ()))) else (0, (0, (0, ())))
def endIs (i : InstrS) : Bool := if i.1 = 13 then true else if i.1 = 14 then true else if i.1 = 23 then true else if i.1 = 22 then true else false
theorem Q_end (i : InstrS) : Q_z0c i = some ((endW i, (endIs i, ())), ()) := by
  refine fin ?_
  unfold M_z0c endW endIs
  simp only [int_beq, cond_dec]
  by_cases h1 : i.1 = 13
  · simp only [if_pos h1]
  by_cases h2 : i.1 = 14
  · simp only [if_neg h1, if_pos h2]
  by_cases h3 : i.1 = 23
  · simp only [if_neg h1, if_neg h2, if_pos h3]
  by_cases h4 : i.1 = 22
  · simp only [if_neg h1, if_neg h2, if_neg h3, if_pos h4]
  simp only [if_neg h1, if_neg h2, if_neg h3, if_neg h4]
theorem ok_end (a : InstrS) : ok_z0c a = true := by unfold ok_z0c; rw [Q_end]; rfl
theorem q_end (a : InstrS) : q_z0c a = ((endW a, (endIs a, ())), ()) := by unfold q_z0c; rw [Q_end]; rfl
theorem end_cases (i : InstrS) : (endIs i = true ∧ ∃ o n, nd i = .fin o n ∧ endW i = wy o n 0) ∨ (endIs i = false ∧ i.1 = 12 ∧ nd i = .skip i.2.2.2.2.1.toNat) ∨ (endIs i = false ∧ i.1 ≠ 12 ∧ nd i = .step) := by
  unfold endIs endW nd
  by_cases h1 : i.1 = 13
  · exact .inl ⟨by rw [if_pos h1], 13, i.2.2.2.2.1, by rw [if_pos h1], by rw [if_pos h1, h1]⟩
  by_cases h2 : i.1 = 14
  · exact .inl ⟨by rw [if_neg h1, if_pos h2], 14, i.2.2.2.2.1, by rw [if_neg h1, if_pos h2], by rw [if_neg h1, if_pos h2, h2]⟩
  by_cases h3 : i.1 = 23
  · exact .inl ⟨by rw [if_neg h1, if_neg h2, if_pos h3], 23, 0, by rw [if_neg h1, if_neg h2, if_pos h3], by rw [if_neg h1, if_neg h2, if_pos h3]⟩
  by_cases h4 : i.1 = 22
  · exact .inl ⟨by rw [if_neg h1, if_neg h2, if_neg h3, if_pos h4], 23, 0, by rw [if_neg h1, if_neg h2, if_neg h3, if_pos h4], by rw [if_neg h1, if_neg h2, if_neg h3, if_pos h4]⟩
  by_cases h5 : i.1 = 12
  · exact .inr (.inl ⟨by rw [if_neg h1, if_neg h2, if_neg h3, if_neg h4], h5, by rw [if_neg h1, if_neg h2, if_neg h3, if_neg h4, if_pos h5]⟩)
  · exact .inr (.inr ⟨by rw [if_neg h1, if_neg h2, if_neg h3, if_neg h4], h5, by rw [if_neg h1, if_neg h2, if_neg h3, if_neg h4, if_neg h5]⟩)
theorem okAt_at : ∀ {c : List InstrS} {p : Nat}, okAt c = true → p < c.length → mayB (rdd zInstrS c p) = true ∧ skOk (rdd zInstrS c p) (c.length - p - 1) = true
  | [], p, _, h => by simp at h
  | x :: r, 0, h, _ => by
    unfold okAt at h
    simp only [Bool.and_eq_true] at h
    exact ⟨h.1, h.2.1⟩
  | x :: r, p + 1, h, hp => by
    unfold okAt at h
    simp only [Bool.and_eq_true] at h
    have := okAt_at (c := r) (p := p) h.2.2 (by simpa using hp)
    have e : rdd zInstrS (x :: r) (p + 1) = rdd zInstrS r p := by simp [rdd]
    rw [e, show (x :: r).length - (p + 1) - 1 = r.length - p - 1 by simp]
    exact this
theorem skip_N {i : InstrS} {r : Nat} (hm : mayB i = true) (hs : skOk i r = true) (h : i.1 = 12) : 1 ≤ i.2.2.2.2.1 ∧ i.2.2.2.2.1 ≤ (r : Int) := by
  obtain ⟨o, to, a, b, n, u⟩ := i
  have h : o = 12 := h
  subst h
  unfold mayB shB at hm
  unfold skOk at hs
  simp [tgtV, numV] at hm hs
  exact ⟨hm.2.2.2.1, hs⟩

/-! ### Coming to places by the nodes ahead of p -/
inductive RP (c : List Nd) (p : Nat) : Nat → Int → Prop where
  | zero : RP c p 0 0
  | next {i s x} (h : RP c p i s) (hi : i < p) (hx : c[i]? = some x) (hf : x.isFin = false) : RP c p (i + 1) (s + 1)
  | skip {i s k} (h : RP c p i s) (hi : i < p) (hx : c[i]? = some (.skip k)) : RP c p (i + 1 + k) (s + 1)
theorem RP.low {c : List Nd} {q p j : Nat} {s : Int} (h : RP c q j s) (hj : j ≤ p) : RP c p j s := by
  induction h with
  | zero => exact .zero
  | next h hi hx hf ih => exact .next (ih (by omega)) (by omega) hx hf
  | skip h hi hx ih => exact .skip (ih (by omega)) (by omega) hx
theorem RP.up {c : List Nd} {q p j : Nat} {s : Int} (h : RP c p j s) (hq : p ≤ q) : RP c q j s := by
  induction h with
  | zero => exact .zero
  | next h hi hx hf ih => exact .next ih (by omega) hx hf
  | skip h hi hx ih => exact .skip ih (by omega) hx
theorem RP.le {c : List Nd} {p j : Nat} {s : Int} (h : RP c p j s) : 0 ≤ s ∧ s ≤ (j : Int) := by
  induction h with
  | zero => omega
  | next h hi hx hf ih => omega
  | skip h hi hx ih => omega
theorem RP_succ {c : List Nd} {p j : Nat} {s : Int} {x : Nd} (hx : c[p]? = some x) : RP c (p + 1) j s ↔ RP c p j s ∨ ∃ t, RP c p p t ∧ s = t + 1 ∧ ((x.isFin = false ∧ j = p + 1) ∨ ∃ k, x = .skip k ∧ j = p + 1 + k) := by
  constructor
  · intro h
    cases h with
    | zero => exact .inl .zero
    | @next i t y h hi hy hf =>
      by_cases e : i < p
      · exact .inl (.next (h.low (by omega)) e hy hf)
      · have : i = p := by omega
        subst this
        rw [hx] at hy; cases hy
        exact .inr ⟨t, h.low (Nat.le_refl _), rfl, .inl ⟨hf, rfl⟩⟩
    | @skip i t k h hi hy =>
      by_cases e : i < p
      · exact .inl (.skip (h.low (by omega)) e hy)
      · have : i = p := by omega
        subst this
        rw [hx] at hy; cases hy
        exact .inr ⟨t, h.low (Nat.le_refl _), rfl, .inr ⟨k, rfl, rfl⟩⟩
  · rintro (h | ⟨t, h, rfl, ⟨hf, rfl⟩ | ⟨k, rfl, rfl⟩⟩)
    · exact h.up (by omega)
    · exact .next (h.up (by omega)) (by omega) hx hf
    · exact .skip (h.up (by omega)) (by omega) hx
theorem reach_RP {c : List Nd} {j : Nat} {s : Int} : W19.Reach c j s ↔ RP c c.length j s := by
  constructor
  · intro h
    induction h with
    | zero => exact .zero
    | next h hx hf ih => exact .next ih (List.getElem?_eq_some_iff.1 hx).1 hx hf
    | skip h hx ih => exact .skip ih (List.getElem?_eq_some_iff.1 hx).1 hx
  · intro h
    induction h with
    | zero => exact .zero
    | next h hi hx hf ih => exact .next ih hx hf
    | skip h hi hx ih => exact .skip ih hx

def Best (P : Int → Prop) (v : Int) : Prop := (v = -1 ∧ ∀ s, ¬ P s) ∨ (P v ∧ 0 ≤ v ∧ ∀ s, P s → s ≤ v)
theorem Best.congr {P Q : Int → Prop} {v : Int} (h : Best P v) (e : ∀ s, Q s ↔ P s) : Best Q v := by
  rcases h with ⟨a, b⟩ | ⟨a, b, c⟩
  · exact .inl ⟨a, fun s h => b s ((e s).1 h)⟩
  · exact .inr ⟨(e v).2 a, b, fun s h => c s ((e s).1 h)⟩
theorem Best.add {P R Q : Int → Prop} {v w : Int} (h : Best P v) (hw : 0 ≤ w) (hR : R w) (hm : ∀ s, R s → s ≤ w) (hQ : ∀ s, Q s ↔ P s ∨ R s) : Best Q (if w > v then w else v) := by
  rcases h with ⟨a, b⟩ | ⟨a, b, c⟩
  · rw [if_pos (by omega)]
    refine .inr ⟨(hQ w).2 (.inr hR), hw, fun s hs => ?_⟩
    rcases (hQ s).1 hs with h | h
    · exact absurd h (b s)
    · exact hm s h
  · split
    · refine .inr ⟨(hQ w).2 (.inr hR), hw, fun s hs => ?_⟩
      rcases (hQ s).1 hs with h | h
      · have := c s h; omega
      · exact hm s h
    · refine .inr ⟨(hQ v).2 (.inl a), b, fun s hs => ?_⟩
      rcases (hQ s).1 hs with h | h
      · exact c s h
      · have := hm s h; omega

/-- The map of ends. -/
structure MapI (P : En) (g : WayS → Option Int) : Prop where
  has : ∀ k v, g k = some v → k.2.2.1 = 0 ∧ P k.1 k.2.1 v ∧ ∀ s, P k.1 k.2.1 s → s ≤ v
  all : ∀ o n s, P o n s → ∃ v, g (wy o n 0) = some v
theorem MapI.congr {P Q : En} {g : WayS → Option Int} (h : MapI P g) (e : ∀ o n s, Q o n s ↔ P o n s) : MapI Q g :=
  ⟨fun k v hk => ⟨(h.has k v hk).1, (e _ _ _).2 (h.has k v hk).2.1, fun s hs => (h.has k v hk).2.2 s ((e _ _ _).1 hs)⟩, fun o n s hs => h.all o n s ((e _ _ _).1 hs)⟩
theorem way_keq (i j : WayS) : Ty.keq WayT i j = true ↔ i = j := keqF_iff WayT i j rfl
theorem MapI.add {P Q : En} {R : Int → Prop} {g : WayS → Option Int} {o n w : Int} (h : MapI P g) (hw : 0 ≤ w) (hR : R w) (hm : ∀ s, R s → s ≤ w) (hQ : ∀ o' n' s, Q o' n' s ↔ P o' n' s ∨ (o' = o ∧ n' = n ∧ R s)) :
    MapI Q (fun i => cond (Ty.keq WayT i (wy o n 0)) (some (if w > (Option.getD (g (wy o n 0)) (0 : Int)) then w else (Option.getD (g (wy o n 0)) (0 : Int)))) (g i)) := by
  constructor
  · intro k v hk
    by_cases e : k = wy o n 0
    · subst e
      replace hk : cond (Ty.keq WayT (wy o n 0) (wy o n 0)) _ _ = some v := hk
      rw [(way_keq _ _).2 rfl] at hk
      cases hk
      refine ⟨rfl, ?_⟩
      show Q o n _ ∧ ∀ s, Q o n s → _
      cases hg : g (wy o n 0) with
      | none =>
        have hn : ∀ s, ¬ P o n s := fun s hs => by obtain ⟨v, hv⟩ := h.all o n s hs; rw [hg] at hv; cases hv
        have ew : (if w > Option.getD (none : Option Int) 0 then w else Option.getD (none : Option Int) 0) = w := by
          show (if w > 0 then w else 0) = w
          split <;> omega
        rw [ew]
        refine ⟨(hQ _ _ _).2 (.inr ⟨rfl, rfl, hR⟩), fun s hs => ?_⟩
        rcases (hQ _ _ _).1 hs with h1 | h1
        · exact absurd h1 (hn s)
        · exact hm s h1.2.2
      | some v =>
        obtain ⟨_, a, c⟩ := h.has _ v hg
        show Q o n (if w > v then w else v) ∧ ∀ s, Q o n s → s ≤ (if w > v then w else v)
        split
        · refine ⟨(hQ _ _ _).2 (.inr ⟨rfl, rfl, hR⟩), fun s hs => ?_⟩
          rcases (hQ _ _ _).1 hs with h1 | h1
          · have := c s h1; omega
          · exact hm s h1.2.2
        · refine ⟨(hQ _ _ _).2 (.inl a), fun s hs => ?_⟩
          rcases (hQ _ _ _).1 hs with h1 | h1
          · exact c s h1
          · have := hm s h1.2.2; omega
    · have ek : Ty.keq WayT k (wy o n 0) = false := by
        cases hb : Ty.keq WayT k (wy o n 0) with
        | false => rfl
        | true => exact absurd ((way_keq _ _).1 hb) e
      replace hk : cond (Ty.keq WayT k (wy o n 0)) _ (g k) = some v := hk
      rw [ek] at hk
      obtain ⟨a1, a2, a3⟩ := h.has k v hk
      refine ⟨a1, (hQ _ _ _).2 (.inl a2), fun s hs => ?_⟩
      rcases (hQ _ _ _).1 hs with h1 | h1
      · exact a3 s h1
      · refine absurd ?_ e
        obtain ⟨k1, k2, k3, k4⟩ := k
        simp only at h1 a1
        rw [h1.1, h1.2.1, a1]
  · intro o' n' s hs
    by_cases e : wy o' n' 0 = wy o n 0
    · have hk := (way_keq (wy o' n' 0) (wy o n 0)).2 e
      simp only [hk, cond_true]
      exact ⟨_, rfl⟩
    · have ek : Ty.keq WayT (wy o' n' 0) (wy o n 0) = false := by
        cases hb : Ty.keq WayT (wy o' n' 0) (wy o n 0) with
        | false => rfl
        | true => exact absurd ((way_keq _ _).1 hb) e
      rcases (hQ _ _ _).1 hs with h1 | h1
      · obtain ⟨v, hv⟩ := h.all _ _ _ h1
        refine ⟨v, ?_⟩
        show cond (Ty.keq WayT (wy o' n' 0) (wy o n 0)) _ (g (wy o' n' 0)) = _
        rw [ek]; exact hv
      · exact absurd (by rw [h1.1, h1.2.1]) e

/-- Ends that are come to by the nodes ahead of p. -/
def PE (c : List Nd) (p : Nat) : En := fun o n s => ∃ i t, i < p ∧ RP c p i t ∧ c[i]? = some (.fin o n) ∧ s = t + 1
theorem PE_succ {c : List Nd} {p : Nat} {x : Nd} (hx : c[p]? = some x) {o n s : Int} : PE c (p + 1) o n s ↔ PE c p o n s ∨ ∃ t, RP c p p t ∧ x = .fin o n ∧ s = t + 1 := by
  constructor
  · rintro ⟨i, t, hi, h, hc, rfl⟩
    by_cases e : i < p
    · exact .inl ⟨i, t, e, h.low (by omega), hc, rfl⟩
    · have : i = p := by omega
      subst this
      rw [hx] at hc; cases hc
      exact .inr ⟨t, h.low (Nat.le_refl _), rfl, rfl⟩
  · rintro (⟨i, t, hi, h, hc, rfl⟩ | ⟨t, h, rfl, rfl⟩)
    · exact ⟨i, t, by omega, h.up (by omega), hc, rfl⟩
    · exact ⟨p, t, by omega, h.up (by omega), hx, rfl⟩
theorem ends_PE {c : List Nd} {o n s : Int} : W19.Ends c o n s ↔ PE c c.length o n s ∨ ∃ j, c.length ≤ j ∧ o = 23 ∧ n = 0 ∧ RP c c.length j s := by
  unfold W19.Ends PE
  constructor
  · rintro (⟨i, t, h, hx, rfl⟩ | ⟨i, hi, a, b, h⟩)
    · exact .inl ⟨i, t, (List.getElem?_eq_some_iff.1 hx).1, reach_RP.1 h, hx, rfl⟩
    · exact .inr ⟨i, hi, a, b, reach_RP.1 h⟩
  · rintro (⟨i, t, hi, h, hx, rfl⟩ | ⟨i, hi, a, b, h⟩)
    · exact .inl ⟨i, t, reach_RP.2 h, hx, rfl⟩
    · exact .inr ⟨i, hi, a, b, reach_RP.2 h⟩
end N19
end Go.AMach
