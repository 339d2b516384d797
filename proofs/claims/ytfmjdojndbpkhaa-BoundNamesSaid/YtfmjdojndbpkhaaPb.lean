/- Parts of the proof. -/
import Derived.Test.YtfmjdojndbpkhaaPa
import Derived.KernelRfl
/- Layer 24: the most steps: what the code comes to. -/
namespace Go.AMach
set_option linter.unusedVariables false
set_option linter.unusedSimpArgs false
set_option linter.unnecessarySimpa false
open Go
set_option linter.unusedVariables false

theorem beqT' {x y : Int} (h : x = y) : (x == y) = true := by rw [int_beq, decide_eq_true h]
theorem beqF' {x y : Int} (h : x ≠ y) : (x == y) = false := by rw [int_beq, decide_eq_false h]
theorem i64_id {n : Int} (h : -9223372036854775808 ≤ n ∧ n ≤ 9223372036854775807) : IntKind.wrap .i64 n = n := by simp [IntKind.wrap, IntKind.bits, IntKind.signed]; omega

abbrev stR (n : Int) (kept : StM) (all : List ObjS) (t : TabM) (b : BlkM) (g : GrpM) : RS ro_z07 rh_z07 :=
  ((n, ()), (((), ()), (kept, (((), ()), (((), ((), ((), (all, ())))), (t, (b, (g, (((), ()), (((), ()), ()))))))))))
abbrev StF := ObjS → StM → List ObjS → TabM → BlkM → GrpM → Option (RS ro_z07 rh_z07)
def KeptOk (t : TabM) (b : BlkM) (g : GrpM) (kept : StM) : Prop := ∀ x n, kept x = some n → n = H t b g x
open Classical in
noncomputable def rk (U : List ObjS) (N : ObjS → List ObjS) (x : ObjS) : Nat := U.countP fun z => decide (Reach N x z)
theorem rk_lt {U : List ObjS} {N : ObjS → List ObjS} {x y : ObjS} (hf : Ends N x) (hy : y ∈ N x) (hU : y ∈ U) : rk U N y < rk U N x := by
  refine countP_lt' (fun z _ hz => ?_) ⟨y, hU, by simpa using .one hy, ?_⟩
  · simp only [decide_eq_true_eq] at hz ⊢
    exact (Reach.one hy).trans hz
  · simp only [decide_eq_false_iff_not]
    exact Ends.noRing (hf.inv hy)
/-- What `steps` comes to, at the objects of a list. -/
def StepsAt (all : List ObjS) (t : TabM) (b : BlkM) (g : GrpM) (q : StF) (x : ObjS) : Prop :=
  ∀ kept, KeptOk t b g kept → ∃ kept', q x kept all t b g = some (stR (H t b g x) kept' all t b g) ∧ KeptOk t b g kept'

theorem L_mostT {all : List ObjS} {t : TabM} {b : BlkM} {g : GrpM} {q : StF} (kt : Int → StM → List ObjS → TabM → BlkM → GrpM → Option Res) (l : List Int) (hl : l.length < 9223372036854775807)
    (hq : ∀ a ∈ l, StepsAt all t b g q (1, (a, ()))) : ∀ (m i : Nat) (n : Int) (kept : StM), i ≤ l.length → l.length - i < m → KeptOk t b g kept →
    ∃ kept', L_z07_3 FUEL q kt l (l.length : Int) m n (i : Int) kept all t b g = kt ((l.drop i).foldl (fun n b' => mx n (H t b g (1, (b', ())))) n) kept' all t b g ∧ KeptOk t b g kept'
  | 0, _, _, _, _, h, _ => by omega
  | m + 1, i, n, kept, hi, hm, hk => by
    show ∃ kept', F_z07_3 FUEL q kt l (l.length : Int) (L_z07_3 FUEL q kt l (l.length : Int) m) n (i : Int) kept all t b g = _ ∧ _
    by_cases h : i < l.length
    · obtain ⟨k1, e1, hk1⟩ := hq (rdd 0 l i) (rdd_mem h) kept hk
      obtain ⟨k2, e2, hk2⟩ := L_mostT kt l hl hq m (i + 1) (mx n (H t b g (1, (rdd 0 l i, ())))) k1 (by omega) (by omega) hk1
      refine ⟨k2, ?_, hk2⟩
      rw [drop_rdd 0 h, List.foldl_cons, ← e2]
      unfold F_z07_3
      refine stepT' (decide_eq_true (by omega)) ?_
      refine stepT' (decide_eq_true (by omega)) ?_
      rw [toNat_cast, e1, i64_succ (by omega)]
      rfl
    · refine ⟨kept, ?_, hk⟩
      rw [List.drop_of_length_le (by omega)]
      unfold F_z07_3
      refine stepF' (decide_eq_false (by omega)) ?_
      rfl
theorem L_mostG {all : List ObjS} {t : TabM} {b : BlkM} {g : GrpM} {q : StF} (kt : Int → StM → List ObjS → TabM → BlkM → GrpM → Option Res) (l : List BucketS) (gr : GroupS) (hl : l.length < 9223372036854775807)
    (hq : ∀ a ∈ l, StepsAt all t b g q (1, a.2)) : ∀ (m i : Nat) (n : Int) (kept : StM), i ≤ l.length → l.length - i < m → InR n → KeptOk t b g kept →
    ∃ kept', L_z07_1 FUEL q kt l (l.length : Int) gr m n (i : Int) kept all t b g = kt ((l.drop i).foldl (fun n (b' : BucketS) => if gr.2.1 = 1 then cut7 (n + H t b g (1, b'.2)) else mx n (H t b g (1, b'.2))) n) kept' all t b g ∧ KeptOk t b g kept'
  | 0, _, _, _, _, h, _, _ => by omega
  | m + 1, i, n, kept, hi, hm, hn, hk => by
    show ∃ kept', F_z07_1 FUEL q kt l (l.length : Int) gr (L_z07_1 FUEL q kt l (l.length : Int) gr m) n (i : Int) kept all t b g = _ ∧ _
    by_cases h : i < l.length
    · obtain ⟨k1, e1, hk1⟩ := hq (rdd zBucketS l i) (rdd_mem h) kept hk
      have hh := H_in t b g (1, (rdd zBucketS l i).2)
      by_cases c : gr.2.1 = 1
      · obtain ⟨k2, e2, hk2⟩ := L_mostG kt l gr hl hq m (i + 1) (cut7 (n + H t b g (1, (rdd zBucketS l i).2))) k1 (by omega) (by omega) (cut7_in (by unfold InR at *; omega)) hk1
        refine ⟨k2, ?_, hk2⟩
        rw [drop_rdd zBucketS h, List.foldl_cons, if_pos c, ← e2]
        unfold F_z07_1
        refine stepT' (decide_eq_true (by omega)) ?_
        refine stepT' (decide_eq_true (by omega)) ?_
        rw [toNat_cast, e1, i64_succ (by omega)]
        extract_lets -merge +onlyGivenNames y1
        refine stepT' rfl ?_
        refine stepT' (beqT' c) ?_
        rw [show y1.1.1 = H t b g (1, (rdd zBucketS l i).2) from rfl, i64_id (by unfold InR at *; omega)]
        rfl
      · obtain ⟨k2, e2, hk2⟩ := L_mostG kt l gr hl hq m (i + 1) (mx n (H t b g (1, (rdd zBucketS l i).2))) k1 (by omega) (by omega) (mx_in hn hh) hk1
        refine ⟨k2, ?_, hk2⟩
        rw [drop_rdd zBucketS h, List.foldl_cons, if_neg c, ← e2]
        unfold F_z07_1
        refine stepT' (decide_eq_true (by omega)) ?_
        refine stepT' (decide_eq_true (by omega)) ?_
        rw [toNat_cast, e1, i64_succ (by omega)]
        extract_lets -merge +onlyGivenNames y1
        refine stepT' rfl ?_
        refine stepF' (beqF' c) ?_
        rfl
    · refine ⟨kept, ?_, hk⟩
      rw [List.drop_of_length_le (by omega)]
      unfold F_z07_1
      refine stepF' (decide_eq_false (by omega)) ?_
      rfl
end Go.AMach

/- Layer 24: the most steps: what code comes to; steps. -/
namespace Go.AMach
set_option linter.unusedVariables false
set_option linter.unusedSimpArgs false
set_option linter.unnecessarySimpa false
open Go
set_option linter.unusedVariables false

theorem rdd_app {α : Type} {d : α} {a b : List α} {k : Nat} (i : Nat) (h : a.length = k) : rdd d (a ++ b) (k + i) = rdd d b i := by
  subst h
  by_cases c : i < b.length
  · rw [rdd_lt c, rdd_lt (l := a ++ b) (by rw [List.length_append]; omega)]
    simp
  · rw [rdd_ge (l := b) (by omega), rdd_ge (l := a ++ b) (by rw [List.length_append]; omega)]
theorem codeL_drop (f : ObjS → Int) {l : List InstrS} {j : Nat} (h : j < l.length) :
    codeL f (l.drop j) = cut7 (1 + nextI f (rdd zInstrS l j) (l.drop (j + 1)).length (codeL f (l.drop (j + 1)))) :: codeL f (l.drop (j + 1)) := by
  rw [drop_rdd zInstrS h]; rfl
theorem set_code (j : Nat) (v : Int) (s : List Int) : (List.replicate (j + 1) (0 : Int) ++ s).set j v = List.replicate j 0 ++ v :: s := by
  rw [List.replicate_succ', List.append_assoc]
  exact set_mid 0 v s (by simp)

theorem cut7_one : cut7 (1 + 0) = 1 := by decide
theorem L_code {all : List ObjS} {t : TabM} {b : BlkM} {g : GrpM} {q : StF} (kt : StM → List ObjS → TabM → BlkM → GrpM → List Int → Option Res) (l : List InstrS) (hl : l.length ≤ 100000)
    (hq : ∀ i ∈ l, ∀ y ∈ leadI i, StepsAt all t b g q y) : ∀ (m k : Nat) (kept : StM), k ≤ l.length → k < m → KeptOk t b g kept →
    ∃ kept', L_z06_0 FUEL q kt l (l.length + 1) m ((k : Int) - 1) kept all t b g (List.replicate k 0 ++ codeL (H t b g) (l.drop k)) = kt kept' all t b g (codeL (H t b g) l) ∧ KeptOk t b g kept'
  | 0, _, _, _, h, _ => by omega
  | m + 1, k, kept, hk, hm, hok => by
    show ∃ kept', F_z06_0 FUEL q kt l (l.length + 1) (L_z06_0 FUEL q kt l (l.length + 1) m) ((k : Int) - 1) kept all t b g _ = _ ∧ _
    cases k with
    | zero =>
      refine ⟨kept, ?_, hok⟩
      unfold F_z06_0
      refine stepF' (decide_eq_false (by omega)) ?_
      rfl
    | succ j =>
      have hj : j < l.length := by omega
      have ej : ((j + 1 : Nat) : Int) - 1 = (j : Int) := by omega
      have w1 : IntKind.wrap .i64 ((j : Int) + 1) = ((j + 1 : Nat) : Int) := i64_succ (by omega)
      have w2 : IntKind.wrap .i64 ((j : Int) - 1) = (j : Int) - 1 := i64_id (by omega)
      have hmem : rdd zInstrS l j ∈ l := rdd_mem hj
      have hin := codeL_in (H_in t b g) (l.drop (j + 1))
      have r0 : rdd (0 : Int) (List.replicate (j + 1) 0 ++ codeL (H t b g) (l.drop (j + 1))) (j + 1) = rdd 0 (codeL (H t b g) (l.drop (j + 1))) 0 := rdd_app 0 (by simp)
      have hr0 := rdd_in hin 0
      have hlen : (l.drop (j + 1)).length = l.length - (j + 1) := by simp
      -- the value v is written at j
      have go : ∀ (kept1 : StM) (v : Int), KeptOk t b g kept1 → v = cut7 (1 + nextI (H t b g) (rdd zInstrS l j) (l.drop (j + 1)).length (codeL (H t b g) (l.drop (j + 1)))) →
          ∃ kept', L_z06_0 FUEL q kt l (l.length + 1) m ((j : Int) - 1) kept1 all t b g ((List.replicate (j + 1) (0 : Int) ++ codeL (H t b g) (l.drop (j + 1))).set j v) = kt kept' all t b g (codeL (H t b g) l) ∧ KeptOk t b g kept' := fun kept1 v hk1 hv => by
        obtain ⟨k2, e2, hk2⟩ := L_code kt l hl hq m j kept1 (by omega) (by omega) hk1
        rw [codeL_drop (H t b g) hj, ← hv] at e2
        rw [set_code]
        exact ⟨k2, e2, hk2⟩
      rw [ej]
      generalize hs : codeL (H t b g) (l.drop (j + 1)) = s at *
      have pre : ∀ {X : Option Res} {A B C : Option Res}, A = X → cond (decide ((j : Int) ≥ 0)) (cond (decide ((0 : Int) ≤ IntKind.wrap .i64 ((j : Int) + 1) ∧ IntKind.wrap .i64 ((j : Int) + 1) < ((l.length + 1 : Nat) : Int))) (cond (decide ((0 : Int) ≤ (j : Int) ∧ (j : Int) < ((l.length : Nat) : Int))) A B) B) C = X := fun {X A B C} h => by
        refine stepT' (decide_eq_true (by omega)) ?_
        refine stepT' (decide_eq_true (by rw [w1]; omega)) ?_
        exact stepT' (decide_eq_true (by omega)) h
      have wr : ∀ {X A B : Option Res}, A = X → cond (decide ((0 : Int) ≤ (j : Int) ∧ (j : Int) < ((l.length + 1 : Nat) : Int))) A B = X := fun {X A B} h => stepT' (decide_eq_true (by omega)) h
      have wl : ∀ {X A B : Option Res}, A = X → cond (decide ((0 : Int) ≤ (j : Int) ∧ (j : Int) < ((l.length : Nat) : Int))) A B = X := fun {X A B} h => stepT' (decide_eq_true (by omega)) h
      unfold F_z06_0
      rw [toNat_cast]
      by_cases c1 : (rdd zInstrS l j).1 = 23
      · obtain ⟨k2, e2, hk2⟩ := go kept 1 hok (by unfold nextI; rw [if_pos c1]; rfl)
        refine ⟨k2, ?_, hk2⟩
        refine pre ?_
        refine stepT' (beqT' c1) ?_
        refine wr ?_
        rw [w2]
        exact e2
      by_cases c2 : (rdd zInstrS l j).1 = 22
      · obtain ⟨k2, e2, hk2⟩ := go kept 1 hok (by unfold nextI; rw [if_neg c1, if_pos c2]; rfl)
        refine ⟨k2, ?_, hk2⟩
        refine pre ?_
        refine stepF' (beqF' c1) ?_
        refine stepT' (beqT' c2) ?_
        refine wr ?_
        rw [w2]
        exact e2
      by_cases c3 : (rdd zInstrS l j).1 = 13
      · obtain ⟨k1, e1, hk1⟩ := hq _ hmem (0, (rdd zInstrS l j).2.2.2.2) (by simp [leadI, c3]) kept hok
        have hh := H_in t b g (0, (rdd zInstrS l j).2.2.2.2)
        obtain ⟨k2, e2, hk2⟩ := go k1 (cut7 (1 + H t b g (0, (rdd zInstrS l j).2.2.2.2))) hk1 (by unfold nextI; rw [if_neg c1, if_neg c2, if_pos c3])
        refine ⟨k2, ?_, hk2⟩
        refine pre ?_
        refine stepF' (beqF' c1) ?_
        refine stepF' (beqF' c2) ?_
        refine stepT' (beqT' c3) ?_
        refine wl ?_
        rw [e1]
        extract_lets -merge +onlyGivenNames y3
        refine stepT' rfl ?_
        extract_lets -merge +onlyGivenNames y4
        refine wr ?_
        have ey : y4 = cut7 (1 + H t b g (0, (rdd zInstrS l j).2.2.2.2)) := by
          show (if IntKind.wrap .i64 (1 + H t b g (0, (rdd zInstrS l j).2.2.2.2)) < 65537 then IntKind.wrap .i64 (1 + H t b g (0, (rdd zInstrS l j).2.2.2.2)) else 65537) = _
          rw [i64_id (by unfold InR at hh; omega)]; rfl
        rw [w2, ey]
        exact e2
      by_cases c4 : (rdd zInstrS l j).1 = 14
      · obtain ⟨k1, e1, hk1⟩ := hq _ hmem (2, (rdd zInstrS l j).2.2.2.2) (by simp [leadI, c4]) kept hok
        have hh := H_in t b g (2, (rdd zInstrS l j).2.2.2.2)
        obtain ⟨k2, e2, hk2⟩ := go k1 (cut7 (1 + H t b g (2, (rdd zInstrS l j).2.2.2.2))) hk1 (by unfold nextI; rw [if_neg c1, if_neg c2, if_neg c3, if_pos c4])
        refine ⟨k2, ?_, hk2⟩
        refine pre ?_
        refine stepF' (beqF' c1) ?_
        refine stepF' (beqF' c2) ?_
        refine stepF' (beqF' c3) ?_
        refine stepT' (beqT' c4) ?_
        refine wl ?_
        rw [e1]
        extract_lets -merge +onlyGivenNames y3
        refine stepT' rfl ?_
        extract_lets -merge +onlyGivenNames y4
        refine wr ?_
        have ey : y4 = cut7 (1 + H t b g (2, (rdd zInstrS l j).2.2.2.2)) := by
          show (if IntKind.wrap .i64 (1 + H t b g (2, (rdd zInstrS l j).2.2.2.2)) < 65537 then IntKind.wrap .i64 (1 + H t b g (2, (rdd zInstrS l j).2.2.2.2)) else 65537) = _
          rw [i64_id (by unfold InR at hh; omega)]; rfl
        rw [w2, ey]
        exact e2
      have tn : Int.toNat (IntKind.wrap .i64 ((j : Int) + 1)) = j + 1 := by rw [w1]; exact toNat_cast _
      have cv : (if IntKind.wrap .i64 (1 + rdd 0 s 0) < 65537 then IntKind.wrap .i64 (1 + rdd 0 s 0) else 65537) = cut7 (1 + rdd 0 s 0) := by
        rw [i64_id (by unfold InR at hr0; omega)]; rfl
      by_cases c5 : (rdd zInstrS l j).1 = 12
      · by_cases c6 : 0 ≤ (rdd zInstrS l j).2.2.2.2.1
        · have wd : IntKind.wrap .i64 (IntKind.wrap .i64 ((l.length : Int) - 1) - (j : Int)) = (l.length : Int) - 1 - j := by
            rw [i64_id (n := (l.length : Int) - 1) (by omega), i64_id (by omega)]
          by_cases c7 : (rdd zInstrS l j).2.2.2.2.1 < (l.length : Int) - 1 - j
          · have hn : (rdd zInstrS l j).2.2.2.2.1 = ((rdd zInstrS l j).2.2.2.2.1.toNat : Int) := by omega
            have w8 : IntKind.wrap .i64 (IntKind.wrap .i64 ((j : Int) + 1) + (rdd zInstrS l j).2.2.2.2.1) = ((j + 1 + (rdd zInstrS l j).2.2.2.2.1.toNat : Nat) : Int) := by
              rw [w1, i64_id (by omega)]; omega
            have rN : rdd (0 : Int) (List.replicate (j + 1) 0 ++ s) (j + 1 + (rdd zInstrS l j).2.2.2.2.1.toNat) = rdd 0 s (rdd zInstrS l j).2.2.2.2.1.toNat := rdd_app _ (by simp)
            have hrN := rdd_in hin (rdd zInstrS l j).2.2.2.2.1.toNat
            obtain ⟨k2, e2, hk2⟩ := go kept (cut7 (1 + mx (rdd 0 s 0) (rdd 0 s (rdd zInstrS l j).2.2.2.2.1.toNat))) hok (by
              unfold nextI; rw [if_neg c1, if_neg c2, if_neg c3, if_neg c4, if_pos c5, if_pos ⟨c6, by rw [hlen]; omega⟩])
            refine ⟨k2, ?_, hk2⟩
            refine pre ?_
            refine stepF' (beqF' c1) ?_
            refine stepF' (beqF' c2) ?_
            refine stepF' (beqF' c3) ?_
            refine stepF' (beqF' c4) ?_
            refine stepT' (beqT' c5) ?_
            refine wl ?_
            refine stepT' (decide_eq_true c6) ?_
            rw [wd]
            extract_lets -merge +onlyGivenNames y7
            refine stepT' (decide_eq_true c7) ?_
            rw [w8]
            extract_lets -merge +onlyGivenNames y8
            refine stepT' (decide_eq_true (by show (0 : Int) ≤ ((j + 1 + (rdd zInstrS l j).2.2.2.2.1.toNat : Nat) : Int) ∧ ((j + 1 + (rdd zInstrS l j).2.2.2.2.1.toNat : Nat) : Int) < _; omega)) ?_
            have e8 : Int.toNat y8 = j + 1 + (rdd zInstrS l j).2.2.2.2.1.toNat := toNat_cast _
            rw [e8, tn, r0, rN]
            extract_lets -merge +onlyGivenNames y9
            extract_lets -merge +onlyGivenNames y10
            refine wr ?_
            have ey : y10 = cut7 (1 + mx (rdd 0 s 0) (rdd 0 s (rdd zInstrS l j).2.2.2.2.1.toNat)) := by
              have := mx_in hr0 hrN
              show (if IntKind.wrap .i64 (1 + mx (rdd 0 s 0) (rdd 0 s (rdd zInstrS l j).2.2.2.2.1.toNat)) < 65537 then IntKind.wrap .i64 (1 + mx (rdd 0 s 0) (rdd 0 s (rdd zInstrS l j).2.2.2.2.1.toNat)) else 65537) = _
              rw [i64_id (by unfold InR at this; omega)]; rfl
            rw [w2, ey]
            exact e2
          · obtain ⟨k2, e2, hk2⟩ := go kept (cut7 (1 + rdd 0 s 0)) hok (by
              unfold nextI; rw [if_neg c1, if_neg c2, if_neg c3, if_neg c4, if_pos c5, if_neg (by rw [hlen]; omega)])
            refine ⟨k2, ?_, hk2⟩
            refine pre ?_
            refine stepF' (beqF' c1) ?_
            refine stepF' (beqF' c2) ?_
            refine stepF' (beqF' c3) ?_
            refine stepF' (beqF' c4) ?_
            refine stepT' (beqT' c5) ?_
            refine wl ?_
            refine stepT' (decide_eq_true c6) ?_
            rw [wd]
            extract_lets -merge +onlyGivenNames y7
            refine stepF' (decide_eq_false c7) ?_
            rw [tn, r0]
            extract_lets -merge +onlyGivenNames y11
            refine wr ?_
            rw [w2]
            rw [show (if y11 < 65537 then y11 else 65537) = cut7 (1 + rdd 0 s 0) from cv]
            exact e2
        · obtain ⟨k2, e2, hk2⟩ := go kept (cut7 (1 + rdd 0 s 0)) hok (by
            unfold nextI; rw [if_neg c1, if_neg c2, if_neg c3, if_neg c4, if_pos c5, if_neg (by omega)])
          refine ⟨k2, ?_, hk2⟩
          refine pre ?_
          refine stepF' (beqF' c1) ?_
          refine stepF' (beqF' c2) ?_
          refine stepF' (beqF' c3) ?_
          refine stepF' (beqF' c4) ?_
          refine stepT' (beqT' c5) ?_
          refine wl ?_
          refine stepF' (decide_eq_false c6) ?_
          rw [tn, r0]
          extract_lets -merge +onlyGivenNames y11
          refine wr ?_
          rw [w2]
          rw [show (if y11 < 65537 then y11 else 65537) = cut7 (1 + rdd 0 s 0) from cv]
          exact e2
      · obtain ⟨k2, e2, hk2⟩ := go kept (cut7 (1 + rdd 0 s 0)) hok (by
          unfold nextI; rw [if_neg c1, if_neg c2, if_neg c3, if_neg c4, if_neg c5])
        refine ⟨k2, ?_, hk2⟩
        refine pre ?_
        refine stepF' (beqF' c1) ?_
        refine stepF' (beqF' c2) ?_
        refine stepF' (beqF' c3) ?_
        refine stepF' (beqF' c4) ?_
        refine stepF' (beqF' c5) ?_
        rw [tn, r0]
        extract_lets -merge +onlyGivenNames y11
        refine wr ?_
        rw [w2]
        rw [show (if y11 < 65537 then y11 else 65537) = cut7 (1 + rdd 0 s 0) from cv]
        exact e2
end Go.AMach

/- Layer 24: the most steps of each object. -/
namespace Go.AMach
set_option linter.unusedVariables false
set_option linter.unusedSimpArgs false
set_option linter.unnecessarySimpa false
open Go
set_option linter.unusedVariables false

abbrev coR (n : Int) (kept : StM) (all : List ObjS) (t : TabM) (b : BlkM) (g : GrpM) : RS ro_z06 rh_z06 :=
  ((n, ()), (((), ()), (((), ()), (kept, (((), ()), (((), ((), ((), (all, ())))), (t, (b, (g, (((), ()), ()))))))))))
theorem Q_code {all : List ObjS} {t : TabM} {b : BlkM} {g : GrpM} {q : StF} (l : List InstrS) (hl : l.length ≤ 100000) (hq : ∀ i ∈ l, ∀ y ∈ leadI i, StepsAt all t b g q y) (kept : StM) (hk : KeptOk t b g kept) :
    ∃ kept', Q_z06 q l kept all t b g = some (coR (rdd 0 (codeL (H t b g) l) 0) kept' all t b g) ∧ KeptOk t b g kept' := by
  have w1 : IntKind.wrap .i64 ((l.length : Int) + 1) = ((l.length + 1 : Nat) : Int) := i64_succ (by omega)
  have w2 : IntKind.wrap .i64 ((l.length : Int) - 1) = (l.length : Int) - 1 := i64_id (by omega)
  obtain ⟨k2, e2, hk2⟩ := L_code (fun y14 y15 y16 y17 y18 y19 => cond (decide ((0 : Int) ≤ (0 : Int) ∧ (0 : Int) < ((l.length + 1 : Nat) : Int))) (some (encRes ro_z06 rh_z06 (coR (rdd 0 y19 0) y14 y15 y16 y17 y18))) none) l hl hq FUEL l.length kept (Nat.le_refl _) (fuel_big (by omega)) hk
  refine ⟨k2, fin ?_, hk2⟩
  unfold M_z06
  rw [w1, w2]
  refine stepT' (decide_eq_true (by omega)) ?_
  rw [toNat_cast]
  rw [List.drop_length] at e2
  have e3 : List.replicate (l.length + 1) (0 : Int) = List.replicate l.length 0 ++ codeL (H t b g) [] := by rw [List.replicate_succ']; rfl
  rw [e3]
  refine Eq.trans e2 ?_
  exact stepT' (decide_eq_true (by omega)) rfl

theorem kept_set {t : TabM} {b : BlkM} {g : GrpM} {kept : StM} (hk : KeptOk t b g kept) {x : ObjS} {v : Int} (hv : v = H t b g x) : KeptOk t b g (setS kept x v) := fun y n h => by
  unfold setS at h
  by_cases c : y = x
  · rw [if_pos c] at h; cases h; rw [c]; exact hv
  · rw [if_neg c] at h; exact hk y n h
theorem getD_set (kept : StM) (x : ObjS) (v : Int) : Option.getD ((fun i => cond (Ty.keq ObjT i x) (some v) (kept i)) x) (0 : Int) = v := by
  show Option.getD (cond (Ty.keq ObjT x x) (some v) (kept x)) 0 = v
  rw [keq_obj, decide_eq_true rfl]; rfl

theorem M_steps {all : List ObjS} {t : TabM} {b : BlkM} {g : GrpM} {q : StF} (hs : Small t b g) (x : ObjS) (hf : Ends (leadsV t b g) x) (hq : ∀ y ∈ leadsV t b g x, StepsAt all t b g q y) (kept : StM) (hk : KeptOk t b g kept) :
    ∃ kept', M_z07 FUEL q x kept all t b g = some (encRes ro_z07 rh_z07 (stR (H t b g x) kept' all t b g)) ∧ KeptOk t b g kept' := by
  obtain ⟨s1, s2, s3⟩ := hs
  have hH := H_eq hf
  have hin := H_in t b g x
  cases hkx : kept x with
  | some n =>
    refine ⟨kept, ?_, hk⟩
    unfold M_z07
    rw [hkx]
    refine stepT' rfl ?_
    rw [hk x n hkx]
    rfl
  | none =>
    have pre : ∀ {A B X : Option Res}, B = X → cond (Option.isSome (kept x)) A B = X := fun h => stepF' (by rw [hkx]; rfl) h
    unfold leadsV at hq
    unfold stepV at hH
    by_cases c0 : x.1 = 0
    · rw [if_pos c0] at hq hH
      have hl : ((t x.2.1).getD []).length ≤ 100000 := by
        cases h : t x.2.1 with
        | none => simp
        | some l => exact s1 _ _ h
      have hq' : ∀ a ∈ (t x.2.1).getD [], StepsAt all t b g q (1, (a, ())) := fun a ha => hq _ (List.mem_map.2 ⟨a, ha, rfl⟩)
      obtain ⟨k2, e2, hk2⟩ := L_mostT (fun y2 y3 y4 y5 y6 y7 => cond (Option.isSome (t x.2.1))
          (let y8 : Int := (if (IntKind.wrap .i64 (y2 + (1 : Int))) < (65537 : Int) then (IntKind.wrap .i64 (y2 + (1 : Int))) else (65537 : Int))
           some (encRes ro_z07 rh_z07 (stR (Option.getD ((fun i => cond (Ty.keq ObjT i x) (some y8) (y3 i)) x) (0 : Int)) (fun i => cond (Ty.keq ObjT i x) (some y8) (y3 i)) y4 y5 y6 y7)))
          (let y9 : Int := (Option.getD ((fun i => cond (Ty.keq ObjT i x) (some (if y2 < (65537 : Int) then y2 else (65537 : Int))) (y3 i)) x) (0 : Int))
           some (encRes ro_z07 rh_z07 (stR y9 (fun i => cond (Ty.keq ObjT i x) (some (if y2 < (65537 : Int) then y2 else (65537 : Int))) (y3 i)) y4 y5 y6 y7)))) ((t x.2.1).getD []) (by omega) hq' FUEL 0 0 kept (by omega) (fuel_big (by omega)) hk
      rw [List.drop_zero] at e2
      have hfo := foldT_in (H_in t b g) ((t x.2.1).getD [])
      cases htx : t x.2.1 with
      | none =>
        rw [htx] at e2 hH hfo
        refine ⟨setS k2 x (H t b g x), ?_, kept_set hk2 rfl⟩
        unfold M_z07
        refine pre ?_
        refine stepT' (beqT' c0) ?_
        rw [htx]
        refine Eq.trans e2 ?_
        refine stepF' rfl ?_
        extract_lets -merge +onlyGivenNames y9
        have ey : y9 = H t b g x := by
          rw [hH]; exact getD_set k2 x _
        rw [ey, fun_setS]
        have ev : (if ([] : List Int).foldl (fun n b' => mx n (H t b g (1, (b', ())))) 0 < (65537 : Int) then ([] : List Int).foldl (fun n b' => mx n (H t b g (1, (b', ())))) 0 else (65537 : Int)) = H t b g x := by rw [hH]; rfl
        rw [← ev]
        rfl
      | some l =>
        rw [htx] at e2 hH hfo
        simp only [Option.getD_some] at e2 hfo
        have w : IntKind.wrap .i64 (foldT (H t b g) l + 1) = foldT (H t b g) l + 1 := i64_id (by unfold InR at hfo; omega)
        have ev : (if IntKind.wrap .i64 (foldT (H t b g) l + 1) < (65537 : Int) then IntKind.wrap .i64 (foldT (H t b g) l + 1) else (65537 : Int)) = H t b g x := by rw [w, hH]; rfl
        refine ⟨setS k2 x (H t b g x), ?_, kept_set hk2 rfl⟩
        unfold M_z07
        refine pre ?_
        refine stepT' (beqT' c0) ?_
        rw [htx]
        refine Eq.trans e2 ?_
        refine stepT' rfl ?_
        show some (encRes ro_z07 rh_z07 (stR (Option.getD ((fun i => cond (Ty.keq ObjT i x) (some (if IntKind.wrap .i64 (foldT (H t b g) l + 1) < (65537 : Int) then IntKind.wrap .i64 (foldT (H t b g) l + 1) else (65537 : Int))) (k2 i)) x) (0 : Int)) (fun i => cond (Ty.keq ObjT i x) (some (if IntKind.wrap .i64 (foldT (H t b g) l + 1) < (65537 : Int) then IntKind.wrap .i64 (foldT (H t b g) l + 1) else (65537 : Int))) (k2 i)) all t b g)) = _
        rw [getD_set, fun_setS, ev]
    · rw [if_neg c0] at hq hH
      by_cases c1 : x.1 = 1
      · rw [if_pos c1] at hq hH
        have hl : ((b x.2.1).getD []).length ≤ 100000 := by
          cases h : b x.2.1 with
          | none => simp
          | some l => exact s2 _ _ h
        obtain ⟨k2, e2, hk2⟩ := Q_code (q := q) (all := all) ((b x.2.1).getD []) hl (fun i hi y hy => hq y (List.mem_flatMap.2 ⟨i, hi, hy⟩)) kept hk
        refine ⟨setS k2 x (H t b g x), ?_, kept_set hk2 rfl⟩
        unfold M_z07
        refine pre ?_
        refine stepF' (beqF' c0) ?_
        refine stepT' (beqT' c1) ?_
        extract_lets -merge +onlyGivenNames y10
        have e_y : y10 = _ := (congrArg RS.get e2).trans (get_some _)
        clear_value y10; subst e_y
        refine stepC' e2 ?_
        extract_lets -merge +onlyGivenNames y11
        have ey : y11 = H t b g x := by
          rw [hH]; exact getD_set k2 x _
        have ev : (if rdd 0 (codeL (H t b g) ((b x.2.1).getD [])) 0 < (65537 : Int) then rdd 0 (codeL (H t b g) ((b x.2.1).getD [])) 0 else (65537 : Int)) = H t b g x := by rw [hH]; rfl
        rw [ey]
        show some (encRes ro_z07 rh_z07 (stR (H t b g x) (fun i => cond (Ty.keq ObjT i x) (some (if rdd 0 (codeL (H t b g) ((b x.2.1).getD [])) 0 < (65537 : Int) then rdd 0 (codeL (H t b g) ((b x.2.1).getD [])) 0 else (65537 : Int))) (k2 i)) all t b g)) = _
        rw [fun_setS, ev]
      · rw [if_neg c1] at hq hH
        have hl : ((g x.2.1).getD zGroupS).2.2.2.1.length ≤ 100000 := by
          cases h : g x.2.1 with
          | none => simp
          | some l => exact s3 _ _ h
        obtain ⟨k2, e2, hk2⟩ := L_mostG (fun y14 y15 y16 y17 y18 y19 => let y20 : Int := (Option.getD ((fun i => cond (Ty.keq ObjT i x) (some (if y14 < (65537 : Int) then y14 else (65537 : Int))) (y15 i)) x) (0 : Int))
           some (encRes ro_z07 rh_z07 (stR y20 (fun i => cond (Ty.keq ObjT i x) (some (if y14 < (65537 : Int) then y14 else (65537 : Int))) (y15 i)) y16 y17 y18 y19))) ((g x.2.1).getD zGroupS).2.2.2.1 ((g x.2.1).getD zGroupS) (by omega) (fun a ha => hq _ (List.mem_map.2 ⟨a, ha, rfl⟩)) FUEL 0 0 kept (by omega) (fuel_big (by omega)) ⟨by omega, by omega⟩ hk
        rw [List.drop_zero] at e2
        refine ⟨setS k2 x (H t b g x), ?_, kept_set hk2 rfl⟩
        unfold M_z07
        refine pre ?_
        refine stepF' (beqF' c0) ?_
        refine stepF' (beqF' c1) ?_
        refine Eq.trans e2 ?_
        extract_lets -merge +onlyGivenNames y20
        have ey : y20 = H t b g x := by
          rw [hH]; exact getD_set k2 x _
        have ev : (if foldG (H t b g) ((g x.2.1).getD zGroupS).2.1 ((g x.2.1).getD zGroupS).2.2.2.1 < (65537 : Int) then foldG (H t b g) ((g x.2.1).getD zGroupS).2.1 ((g x.2.1).getD zGroupS).2.2.2.1 else (65537 : Int)) = H t b g x := by rw [hH]; rfl
        rw [ey]
        show some (encRes ro_z07 rh_z07 (stR (H t b g x) (fun i => cond (Ty.keq ObjT i x) (some (if foldG (H t b g) ((g x.2.1).getD zGroupS).2.1 ((g x.2.1).getD zGroupS).2.2.2.1 < (65537 : Int) then foldG (H t b g) ((g x.2.1).getD zGroupS).2.1 ((g x.2.1).getD zGroupS).2.2.2.1 else (65537 : Int))) (k2 i)) all t b g)) = _
        rw [fun_setS, ev]

theorem steps_ok {U all : List ObjS} {t : TabM} {b : BlkM} {g : GrpM} (hs : Small t b g) (hU : ∀ x ∈ U, ∀ y ∈ leadsV t b g x, y ∈ U) : ∀ dp x, x ∈ U → Ends (leadsV t b g) x → rk U (leadsV t b g) x < dp → StepsAt all t b g (Qd_z07 dp) x
  | 0, x, _, _, h => by omega
  | dp + 1, x, hx, hf, hr => fun kept hk => by
    obtain ⟨k2, e2, hk2⟩ := M_steps (q := Qd_z07 dp) (all := all) hs x hf (fun y hy => steps_ok hs hU dp y (hU x hx y hy) (hf.inv hy) (by have := rk_lt hf hy (hU x hx y hy); omega)) kept hk
    exact ⟨k2, fin e2, hk2⟩
theorem Q_most {all : List ObjS} {t : TabM} {b : BlkM} {g : GrpM} (h : Sol all t b g) (x : ObjS) (hf : Ends (leadsV t b g) x) : Q_z08 x all t b g = some ((H t b g x, ()), solS all t b g) := by
  have hshut : ∀ y ∈ x :: leadsV t b g x ++ univ all t b g, ∀ z ∈ leadsV t b g y, z ∈ x :: leadsV t b g x ++ univ all t b g := fun y hy z hz => by
    rcases List.mem_cons.1 hy with rfl | hy
    · exact List.mem_cons_of_mem _ (List.mem_append_left _ hz)
    · refine List.mem_cons_of_mem _ (List.mem_append_right _ ?_)
      rcases List.mem_append.1 hy with hy | hy
      · exact List.mem_append_right _ (List.mem_flatMap.2 ⟨y, h.here y (leads_kind hy) (fun e => by rw [e] at hz; cases hz), hz⟩)
      · exact h.shut y hy z hz
  have hlen : (x :: leadsV t b g x ++ univ all t b g).length ≤ 1 + 100000 + (3000 + 3000 * 100000) := by
    have := h.univ_len; have := leads_len h.small x
    rw [List.length_append, List.length_cons]; omega
  have hr : rk (x :: leadsV t b g x ++ univ all t b g) (leadsV t b g) x < FUEL := by
    have : rk (x :: leadsV t b g x ++ univ all t b g) (leadsV t b g) x ≤ (x :: leadsV t b g x ++ univ all t b g).length := List.countP_le_length
    unfold FUEL; omega
  obtain ⟨k2, e2, _⟩ := steps_ok (all := all) h.small hshut FUEL x List.mem_cons_self hf hr (fun _ => none) (fun _ _ h => by cases h)
  refine fin ?_
  unfold M_z08
  extract_lets -merge +onlyGivenNames y1
  have e_y : y1 = _ := (congrArg RS.get (show Q_z07 x (fun _ => none) all t b g = _ from e2)).trans (get_some _)
  clear_value y1; subst e_y
  refine stepC' (show Q_z07 x (fun _ => none) all t b g = _ from e2) ?_
  rfl
end Go.AMach
