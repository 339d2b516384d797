/- Parts of the proof. -/
import Derived.Test.YtfmjdojndbpkhaaDx
import Derived.Test.YtfmjdojndbpkhaaAm23
import Derived.KernelRfl
import Derived.Test.YtfmjdojndbpkhaaAm9
/- Layer 24: where an object leads. -/
namespace Go.AMach
set_option linter.unusedVariables false
set_option linter.unusedSimpArgs false
set_option linter.unnecessarySimpa false
open Go
set_option linter.unusedVariables false
abbrev TabM := Int → Option (List Int)
abbrev BlkM := Int → Option (List InstrS)
abbrev GrpM := Int → Option GroupS

/-- What an instruction leads to. -/
def leadI (i : InstrS) : List ObjS := if i.1 = 13 then [(0, i.2.2.2.2)] else if i.1 = 14 then [(2, i.2.2.2.2)] else []
def leadsV (t : TabM) (b : BlkM) (g : GrpM) (x : ObjS) : List ObjS :=
  if x.1 = 0 then ((t x.2.1).getD []).map fun k => (1, (k, ()))
  else if x.1 = 1 then ((b x.2.1).getD []).flatMap leadI
  else ((g x.2.1).getD zGroupS).2.2.2.1.map fun (k : BucketS) => ((1, k.2) : ObjS)
/-- Sizes that are no matter. -/
def Small (t : TabM) (b : BlkM) (g : GrpM) : Prop := (∀ k l, t k = some l → l.length ≤ 100000) ∧ (∀ k l, b k = some l → l.length ≤ 100000) ∧ ∀ k x, g k = some x → x.2.2.2.1.length ≤ 100000

theorem L_leadsT (k : Nat → List ObjS → Option Res) (l : List Int) (hl : l.length ≤ 100000) : ∀ (m i : Nat) (out : List ObjS), i ≤ l.length → out.length ≤ i → l.length - i < m →
    L_z03_3 FUEL k l (l.length : Int) m out.length (i : Int) out = k (out ++ (l.drop i).map fun a => (1, (a, ()))).length (out ++ (l.drop i).map fun a => (1, (a, ())))
  | 0, _, _, _, _, h => by omega
  | m + 1, i, out, hi, ho, hm => by
    show F_z03_3 FUEL k l (l.length : Int) (L_z03_3 FUEL k l (l.length : Int) m) out.length (i : Int) out = _
    unfold F_z03_3
    simp only [cond_dec, cutL_all]
    by_cases h : i < l.length
    · rw [if_pos (by omega), if_pos (by omega), if_pos (by omega)]
      simp only [toNat_cast]
      rw [i64_succ (by omega)]
      have := L_leadsT k l hl m (i + 1) (out ++ [(1, (rdd 0 l i, ()))]) (by omega) (by simp; omega) (by omega)
      rw [List.length_append] at this
      refine Eq.trans this ?_
      rw [drop_rdd 0 h]
      simp
    · rw [if_neg (by omega), List.drop_of_length_le (by omega)]
      simp
theorem L_leadsG (k : Nat → List ObjS → Option Res) (l : List BucketS) (hl : l.length ≤ 100000) : ∀ (m i : Nat) (out : List ObjS), i ≤ l.length → out.length ≤ i → l.length - i < m →
    L_z03_1 FUEL k l (l.length : Int) m out.length (i : Int) out = k (out ++ (l.drop i).map fun (a : BucketS) => ((1, a.2) : ObjS)).length (out ++ (l.drop i).map fun (a : BucketS) => ((1, a.2) : ObjS))
  | 0, _, _, _, _, h => by omega
  | m + 1, i, out, hi, ho, hm => by
    show F_z03_1 FUEL k l (l.length : Int) (L_z03_1 FUEL k l (l.length : Int) m) out.length (i : Int) out = _
    unfold F_z03_1
    simp only [cond_dec, cutL_all]
    by_cases h : i < l.length
    · rw [if_pos (by omega), if_pos (by omega), if_pos (by omega)]
      simp only [toNat_cast]
      rw [i64_succ (by omega)]
      have := L_leadsG k l hl m (i + 1) (out ++ [(1, (rdd zBucketS l i).2)]) (by omega) (by simp; omega) (by omega)
      rw [List.length_append] at this
      refine Eq.trans this ?_
      rw [drop_rdd zBucketS h]
      simp
    · rw [if_neg (by omega), List.drop_of_length_le (by omega)]
      simp
theorem L_leadsB (k : Nat → List ObjS → Option Res) (l : List InstrS) (hl : l.length ≤ 100000) : ∀ (m i : Nat) (out : List ObjS), i ≤ l.length → out.length ≤ i → l.length - i < m →
    L_z03_5 FUEL k l (l.length : Int) m out.length (i : Int) out = k (out ++ (l.drop i).flatMap leadI).length (out ++ (l.drop i).flatMap leadI)
  | 0, _, _, _, _, h => by omega
  | m + 1, i, out, hi, ho, hm => by
    show F_z03_5 FUEL k l (l.length : Int) (L_z03_5 FUEL k l (l.length : Int) m) out.length (i : Int) out = _
    unfold F_z03_5
    simp only [cond_dec, cutL_all, int_beq]
    by_cases h : i < l.length
    · rw [if_pos (by omega), if_pos (by omega)]
      simp only [toNat_cast]
      rw [i64_succ (by omega), drop_rdd zInstrS h, List.flatMap_cons]
      by_cases h1 : (rdd zInstrS l i).1 = 13
      · rw [if_pos h1, if_pos (by omega)]
        have := L_leadsB k l hl m (i + 1) (out ++ [(0, (rdd zInstrS l i).2.2.2.2)]) (by omega) (by simp; omega) (by omega)
        rw [List.length_append] at this
        refine Eq.trans this ?_
        simp [leadI, h1]
      · rw [if_neg h1]
        by_cases h2 : (rdd zInstrS l i).1 = 14
        · rw [if_pos h2, if_pos (by omega)]
          have := L_leadsB k l hl m (i + 1) (out ++ [(2, (rdd zInstrS l i).2.2.2.2)]) (by omega) (by simp; omega) (by omega)
          rw [List.length_append] at this
          refine Eq.trans this ?_
          simp [leadI, h1, h2]
        · rw [if_neg h2]
          refine Eq.trans (L_leadsB k l hl m (i + 1) out (by omega) (by omega) (by omega)) ?_
          simp [leadI, h1, h2]
    · rw [if_neg (by omega), List.drop_of_length_le (by omega)]
      simp

abbrev solS (all : List ObjS) (t : TabM) (b : BlkM) (g : GrpM) : HK.sems rh_z05 := (((), ((), ((), (all, ())))), (t, (b, (g, ()))))
theorem Q_leads (x : ObjS) (all : List ObjS) {t : TabM} {b : BlkM} {g : GrpM} (hs : Small t b g) :
    Q_z03 x all t b g = some (((leadsV t b g x).length, ()), (((), ((), ((), (all, ())))), (t, (b, (g, (leadsV t b g x, ())))))) := by
  obtain ⟨h1, h2, h3⟩ := hs
  refine fin ?_
  unfold M_z03 leadsV
  simp only [int_beq, cond_dec]
  by_cases c0 : x.1 = 0
  · rw [if_pos c0, if_pos c0]
    have hl : ((t x.2.1).getD []).length ≤ 100000 := by
      cases h : t x.2.1 with
      | none => simp
      | some l => exact h1 _ _ h
    exact L_leadsT _ _ hl FUEL 0 [] (by omega) (by simp) (by unfold FUEL; omega)
  · rw [if_neg c0, if_neg c0]
    by_cases c1 : x.1 = 1
    · rw [if_pos c1, if_pos c1]
      have hl : ((b x.2.1).getD []).length ≤ 100000 := by
        cases h : b x.2.1 with
        | none => simp
        | some l => exact h2 _ _ h
      exact L_leadsB _ _ hl FUEL 0 [] (by omega) (by simp) (by unfold FUEL; omega)
    · rw [if_neg c1, if_neg c1]
      have hl : ((g x.2.1).getD zGroupS).2.2.2.1.length ≤ 100000 := by
        cases h : g x.2.1 with
        | none => simp
        | some l => exact h3 _ _ h
      exact L_leadsG _ _ hl FUEL 0 [] (by omega) (by simp) (by unfold FUEL; omega)
end Go.AMach

/- Layer 24: what leads to itself. -/
namespace Go.AMach
set_option linter.unusedVariables false
set_option linter.unusedSimpArgs false
set_option linter.unnecessarySimpa false
open Go
set_option linter.unusedVariables false

theorem keq_obj (i a : ObjS) : Ty.keq ObjT i a = decide (i = a) := by
  have := keq_iff (K := ObjT) (x := i) (y := a) rfl
  cases h : Ty.keq ObjT i a with
  | true => rw [h] at this; exact (decide_eq_true (this.1 rfl)).symm
  | false => rw [h] at this; exact (decide_eq_false fun e => by have := this.2 e; cases this).symm

theorem stepC' {α β : Type} {o : Option α} {v : α} (h : o = some v) {A B X : β} (g : A = X) : cond o.isSome A B = X := by subst h; exact g
theorem stepF' {β : Type} {c : Bool} (h : c = false) {A B X : β} (g : B = X) : cond c A B = X := by subst h; exact g
theorem stepT' {β : Type} {c : Bool} (h : c = true) {A B X : β} (g : A = X) : cond c A B = X := by subst h; exact g
section
variable (N : ObjS → List ObjS)
inductive Reach : ObjS → ObjS → Prop
  | one {x y : ObjS} : y ∈ N x → Reach x y
  | step {x y z : ObjS} : Reach x y → z ∈ N y → Reach x z
/-- All that one leads to comes to an end. -/
abbrev Ends (x : ObjS) : Prop := Acc (fun y x => y ∈ N x) x
def Ring : Prop := ∃ z, Reach N z z
end
theorem Reach.trans {N : ObjS → List ObjS} {x y z : ObjS} (h : Reach N x y) (k : Reach N y z) : Reach N x z := by
  induction k with
  | one h1 => exact .step h h1
  | step _ h1 ih => exact .step ih h1
theorem Reach.first {N : ObjS → List ObjS} {x z : ObjS} (h : Reach N x z) : ∃ y, y ∈ N x ∧ (y = z ∨ Reach N y z) := by
  induction h with
  | one h1 => exact ⟨_, h1, .inl rfl⟩
  | step h1 h2 ih =>
    obtain ⟨y, hy, e⟩ := ih
    refine ⟨y, hy, .inr ?_⟩
    rcases e with rfl | e
    · exact .one h2
    · exact .step e h2
theorem Ends.noRing {N : ObjS → List ObjS} {x : ObjS} (h : Ends N x) : ¬ Reach N x x := by
  induction h with
  | intro x _ ih =>
    intro hr
    obtain ⟨y, hy, e⟩ := hr.first
    rcases e with rfl | e
    · exact ih _ hy (.one hy)
    · exact ih _ hy (e.trans (.one hy))

abbrev StM := ObjS → Option Int
def sv (st : StM) (x : ObjS) : Int := (st x).getD 0
def setS (st : StM) (x : ObjS) (v : Int) : StM := fun i => if i = x then some v else st i
theorem sv_set (st : StM) (x : ObjS) (v : Int) (k : ObjS) : sv (setS st x v) k = if k = x then v else sv st k := by
  unfold sv setS
  by_cases h : k = x <;> simp [h]
theorem fun_setS (st : StM) (x : ObjS) (v : Int) : (fun i => cond (Ty.keq ObjT i x) (some v) (st i)) = setS st x v := by
  funext i
  rw [keq_obj]
  unfold setS
  by_cases h : i = x <;> simp [h]
def freeS (U : List ObjS) (st : StM) : Nat := U.countP fun x => decide (sv st x = 0)
theorem countP_less {α : Type} {p q : α → Bool} : ∀ {l : List α}, (∀ x ∈ l, p x = true → q x = true) → l.countP p ≤ l.countP q
  | [], _ => by simp
  | x :: l, h => by
    have ih := countP_less (l := l) fun y hy => h y (List.mem_cons_of_mem _ hy)
    have hx := h x List.mem_cons_self
    simp only [List.countP_cons]
    by_cases hp : p x = true
    · simp [hp, hx hp]; exact ih
    · simp only [hp]
      simp
      omega
theorem countP_lt' {α : Type} {p q : α → Bool} : ∀ {l : List α}, (∀ x ∈ l, p x = true → q x = true) → (∃ x ∈ l, q x = true ∧ p x = false) → l.countP p < l.countP q
  | [], _, ⟨x, hx, _⟩ => by cases hx
  | x :: l, h, ⟨y, hy, hq, hp⟩ => by
    simp only [List.countP_cons]
    rcases List.mem_cons.1 hy with rfl | hy'
    · have := countP_less (l := l) fun z hz => h z (List.mem_cons_of_mem _ hz)
      simp [hq, hp]; omega
    · have := countP_lt' (l := l) (fun z hz => h z (List.mem_cons_of_mem _ hz)) ⟨y, hy', hq, hp⟩
      by_cases hpx : p x = true
      · simp [hpx, h x List.mem_cons_self hpx]; omega
      · simp only [hpx]
        simp
        split <;> omega

/-- What is done comes to an end. -/
def DoneOk (N : ObjS → List ObjS) (st : StM) : Prop := ∀ x, sv st x = 2 → Ends N x
def StOk (st : StM) : Prop := ∀ x, sv st x = 0 ∨ sv st x = 1 ∨ sv st x = 2
/-- What a visit leaves. -/
structure After (N : ObjS → List ObjS) (st st' : StM) : Prop where
  ok : StOk st'
  done : DoneOk N st'
  mono : ∀ x, sv st x = 2 → sv st' x = 2
  under : ∀ x, sv st' x = 1 ↔ sv st x = 1
theorem After.trans {N : ObjS → List ObjS} {a b c : StM} (h : After N a b) (k : After N b c) : After N a c :=
  ⟨k.ok, k.done, fun x hx => k.mono x (h.mono x hx), fun x => (k.under x).trans (h.under x)⟩
theorem After.free {N : ObjS → List ObjS} {a b : StM} (ha : StOk a) (h : After N a b) (U : List ObjS) : freeS U b ≤ freeS U a := by
  refine countP_less fun x _ hx => ?_
  simp only [decide_eq_true_eq] at hx ⊢
  rcases ha x with h0 | h1 | h2
  · exact h0
  · have := (h.under x).2 h1; omega
  · have := h.mono x h2; omega

abbrev visR (r : Bool) (st : StM) (all : List ObjS) (t : TabM) (b : BlkM) (g : GrpM) : RS ro_z04 rh_z04 :=
  ((r, ()), (((), ()), (st, (((), ()), (((), ((), ((), (all, ())))), (t, (b, (g, (((), ()), ())))))))))
def VisOk (U all : List ObjS) (t : TabM) (b : BlkM) (g : GrpM) (q : ObjS → StM → List ObjS → TabM → BlkM → GrpM → Option (RS ro_z04 rh_z04)) (F : Nat) : Prop :=
  ∀ x st, x ∈ U → StOk st → DoneOk (leadsV t b g) st → (∀ u, sv st u = 1 → Reach (leadsV t b g) u x) → freeS U st < F →
    (∃ st', q x st all t b g = some (visR true st' all t b g) ∧ Ring (leadsV t b g)) ∨
    ∃ st', q x st all t b g = some (visR false st' all t b g) ∧ After (leadsV t b g) st st' ∧ sv st' x = 2

theorem L_visit {U all : List ObjS} {t : TabM} {b : BlkM} {g : GrpM} {q : ObjS → StM → List ObjS → TabM → BlkM → GrpM → Option (RS ro_z04 rh_z04)} {F : Nat}
    (hq : VisOk U all t b g q F) (kr : Bool → StM → List ObjS → TabM → BlkM → GrpM → Option Res) (kt : StM → List ObjS → TabM → BlkM → GrpM → Option Res) (l : List ObjS) (hl : l.length < 9223372036854775807) (hU : ∀ y ∈ l, y ∈ U) :
    ∀ (m i : Nat) (st : StM), i ≤ l.length → l.length - i < m → StOk st → DoneOk (leadsV t b g) st → (∀ u, sv st u = 1 → ∀ y ∈ l, Reach (leadsV t b g) u y) → freeS U st < F →
    (∃ st', L_z04_0 FUEL q kr kt l.length (l.length : Int) l m (i : Int) st all t b g = kr true st' all t b g ∧ Ring (leadsV t b g)) ∨
    ∃ st', L_z04_0 FUEL q kr kt l.length (l.length : Int) l m (i : Int) st all t b g = kt st' all t b g ∧ After (leadsV t b g) st st' ∧ ∀ y ∈ l.drop i, sv st' y = 2
  | 0, _, _, _, h, _, _, _, _ => by omega
  | m + 1, i, st, hi, hm, hs, hd, hu, hf => by
    show (∃ st', F_z04_0 FUEL q kr kt l.length (l.length : Int) l (L_z04_0 FUEL q kr kt l.length (l.length : Int) l m) (i : Int) st all t b g = kr true st' all t b g ∧ _) ∨
      ∃ st', F_z04_0 FUEL q kr kt l.length (l.length : Int) l (L_z04_0 FUEL q kr kt l.length (l.length : Int) l m) (i : Int) st all t b g = kt st' all t b g ∧ _
    unfold F_z04_0
    simp only [cond_dec]
    by_cases h : i < l.length
    · rw [if_pos (by omega), if_pos (by omega)]
      simp only [toNat_cast]
      have hy : rdd zObjS l i ∈ l := rdd_mem h
      rcases hq (rdd zObjS l i) st (hU _ hy) hs hd (fun u hu' => hu u hu' _ hy) hf with ⟨st', e, hr⟩ | ⟨st', e, ha, h2⟩
      · rw [e]
        exact .inl ⟨st', rfl, hr⟩
      · rw [e]
        simp only [Option.isSome_some, cond_true, get_some, cond_false]
        rw [i64_succ (by omega)]
        rcases L_visit hq kr kt l hl hU m (i + 1) st' (by omega) (by omega) ha.ok ha.done (fun u hu' => hu u ((ha.under u).1 hu')) (Nat.lt_of_le_of_lt (ha.free hs U) hf) with ⟨st2, e2, hr⟩ | ⟨st2, e2, ha2, h3⟩
        · exact .inl ⟨st2, e2, hr⟩
        · refine .inr ⟨st2, e2, ha.trans ha2, fun y hy' => ?_⟩
          rw [drop_rdd zObjS h] at hy'
          rcases List.mem_cons.1 hy' with rfl | hy'
          · exact ha2.mono _ h2
          · exact h3 y hy'
    · rw [if_neg (by omega)]
      refine .inr ⟨st, rfl, ⟨hs, hd, fun _ h => h, fun _ => Iff.rfl⟩, fun y hy => ?_⟩
      rw [List.drop_of_length_le (by omega)] at hy
      cases hy


abbrev KRv (r : Bool) (st : StM) (all : List ObjS) (t : TabM) (b : BlkM) (g : GrpM) : Option Res := some (encRes ro_z04 rh_z04 (visR r st all t b g))
abbrev KTv (x : ObjS) (st : StM) (all : List ObjS) (t : TabM) (b : BlkM) (g : GrpM) : Option Res := some (encRes ro_z04 rh_z04 (visR false (fun i => cond (Ty.keq ObjT i x) (some (2 : Int)) (st i)) all t b g))
theorem M_visit (q : ObjS → StM → List ObjS → TabM → BlkM → GrpM → Option (RS ro_z04 rh_z04)) (x : ObjS) (st : StM) (all : List ObjS) {t : TabM} {b : BlkM} {g : GrpM} (hs : Small t b g) (h0 : sv st x = 0) :
    M_z04 FUEL q x st all t b g = L_z04_0 FUEL q KRv (KTv x) (leadsV t b g x).length ((leadsV t b g x).length : Int) (leadsV t b g x) FUEL ((0 : Nat) : Int) (setS st x 1) all t b g := by
  have c0 : ((Option.getD (st x) (0 : Int)) != (0 : Int)) = false := by rw [show Option.getD (st x) (0 : Int) = 0 from h0]; rfl
  have e := Q_leads x all hs
  unfold M_z04
  refine stepF' c0 ?_
  extract_lets -merge +onlyGivenNames y1
  have e_y1 : y1 = _ := (congrArg RS.get e).trans (get_some _)
  clear_value y1; subst e_y1
  refine stepC' e ?_
  rw [fun_setS st x 1]
  rfl

theorem visit_ok {U all : List ObjS} {t : TabM} {b : BlkM} {g : GrpM} (hsm : Small t b g) (hU : ∀ x ∈ U, ∀ y ∈ leadsV t b g x, y ∈ U) (hlen : ∀ x, (leadsV t b g x).length < 9223372036854775807) : ∀ dp, VisOk U all t b g (Qd_z04 dp) dp
  | 0 => fun x st _ _ _ _ h => by omega
  | dp + 1 => by
    intro x st hx hs hd hu hf
    show (∃ st', decRes ro_z04 rh_z04 (M_z04 FUEL (Qd_z04 dp) x st all t b g) = _ ∧ _) ∨
      ∃ st', decRes ro_z04 rh_z04 (M_z04 FUEL (Qd_z04 dp) x st all t b g) = _ ∧ _
    by_cases h0 : sv st x = 0
    · rw [M_visit (Qd_z04 dp) x st all hsm h0]
      have s1 : StOk (setS st x 1) := fun k => by rw [sv_set]; split; exact .inr (.inl rfl); exact hs k
      have d1 : DoneOk (leadsV t b g) (setS st x 1) := fun k hk => by
        rw [sv_set] at hk
        split at hk
        · omega
        · exact hd k hk
      have u1 : ∀ u, sv (setS st x 1) u = 1 → ∀ y ∈ leadsV t b g x, Reach (leadsV t b g) u y := fun u hu' y hy => by
        rw [sv_set] at hu'
        split at hu'
        · rename_i he; subst he; exact .one hy
        · exact .step (hu u hu') hy
      have f1 : freeS U (setS st x 1) < dp := by
        have : freeS U (setS st x 1) < freeS U st := by
          refine countP_lt' (fun k _ hk => ?_) ⟨x, hx, by simpa using h0, by simp [sv_set]⟩
          simp only [decide_eq_true_eq, sv_set] at hk ⊢
          split at hk
          · omega
          · exact hk
        omega
      rcases L_visit (visit_ok (all := all) hsm hU hlen dp) KRv (KTv x) (leadsV t b g x) (hlen x) (hU x hx) FUEL 0 (setS st x 1) (by omega) (fuel_big (by have := hlen x; omega)) s1 d1 u1 f1 with ⟨st', e, hr⟩ | ⟨st', e, ha, h3⟩
      · exact .inl ⟨st', fin e, hr⟩
      · right
        refine ⟨setS st' x 2, fin ?_, ⟨fun k => ?_, fun k hk => ?_, fun k hk => ?_, fun k => ?_⟩, by simp [sv_set]⟩
        · refine Eq.trans e ?_
          unfold KTv
          rw [fun_setS]
        · rw [sv_set]; split; exact .inr (.inr rfl); exact ha.ok k
        · rw [sv_set] at hk
          split at hk
          · rename_i he; subst he
            refine Acc.intro _ fun y hy => ?_
            exact ha.done y (h3 y (by simpa using hy))
          · exact ha.done k hk
        · rw [sv_set]
          split
          · rfl
          · rename_i hne
            exact ha.mono k (by rw [sv_set, if_neg hne]; exact hk)
        · rw [sv_set]
          split
          · rename_i he; subst he; constructor <;> intro h <;> omega
          · rename_i hne
            rw [ha.under k, sv_set, if_neg hne]
    · unfold M_z04
      have c0 : ((Option.getD (st x) (0 : Int)) != (0 : Int)) = true := by
        simp only [bne_iff_ne, ne_eq]; exact h0
      rw [c0]
      simp only [cond_true]
      rcases hs x with h | h | h
      · exact absurd h h0
      · refine .inl ⟨st, fin ?_, ⟨x, hu x h⟩⟩
        have : ((Option.getD (st x) (0 : Int)) == (1 : Int)) = true := by rw [show Option.getD (st x) (0 : Int) = 1 from h]; rfl
        rw [this]
      · refine .inr ⟨st, fin ?_, ⟨hs, hd, fun _ h => h, fun _ => Iff.rfl⟩, h⟩
        have : ((Option.getD (st x) (0 : Int)) == (1 : Int)) = false := by rw [show Option.getD (st x) (0 : Int) = 2 from h]; rfl
        rw [this]
end Go.AMach

/- Layer 24: is there a cycle. -/
namespace Go.AMach
set_option linter.unusedVariables false
set_option linter.unusedSimpArgs false
set_option linter.unnecessarySimpa false
open Go
set_option linter.unusedVariables false

theorem leadI_len (i : InstrS) : (leadI i).length ≤ 1 := by
  unfold leadI
  by_cases h : i.1 = 13
  · simp [h]
  · by_cases h2 : i.1 = 14 <;> simp [h, h2]
theorem flatMap_len {α β : Type} {f : α → List β} {n : Nat} : ∀ {l : List α}, (∀ x ∈ l, (f x).length ≤ n) → (l.flatMap f).length ≤ l.length * n
  | [], _ => by simp
  | x :: l, h => by
    have ih := flatMap_len (l := l) fun y hy => h y (List.mem_cons_of_mem _ hy)
    have := h x List.mem_cons_self
    simp only [List.flatMap_cons, List.length_append, List.length_cons, Nat.add_mul]
    omega
theorem leads_len {t : TabM} {b : BlkM} {g : GrpM} (hs : Small t b g) (x : ObjS) : (leadsV t b g x).length ≤ 100000 := by
  obtain ⟨h1, h2, h3⟩ := hs
  unfold leadsV
  by_cases c0 : x.1 = 0
  · rw [if_pos c0, List.length_map]
    cases h : t x.2.1 with
    | none => simp
    | some l => exact h1 _ _ h
  · rw [if_neg c0]
    by_cases c1 : x.1 = 1
    · rw [if_pos c1]
      have := flatMap_len (f := leadI) (n := 1) (l := (b x.2.1).getD []) fun y _ => leadI_len y
      have hl : ((b x.2.1).getD []).length ≤ 100000 := by
        cases h : b x.2.1 with
        | none => simp
        | some l => exact h2 _ _ h
      omega
    · rw [if_neg c1, List.length_map]
      cases h : g x.2.1 with
      | none => simp
      | some l => exact h3 _ _ h
abbrev KindOk (x : ObjS) : Prop := x.1 = 0 ∨ x.1 = 1 ∨ x.1 = 2
theorem leads_kind {t : TabM} {b : BlkM} {g : GrpM} {x y : ObjS} (h : y ∈ leadsV t b g x) : KindOk y := by
  unfold leadsV at h
  by_cases c0 : x.1 = 0
  · rw [if_pos c0] at h
    obtain ⟨k, _, rfl⟩ := List.mem_map.1 h
    exact .inr (.inl rfl)
  · rw [if_neg c0] at h
    by_cases c1 : x.1 = 1
    · rw [if_pos c1] at h
      obtain ⟨i, _, hi⟩ := List.mem_flatMap.1 h
      unfold leadI at hi
      by_cases e : i.1 = 13
      · rw [if_pos e] at hi; simp at hi; subst hi; exact .inl rfl
      · rw [if_neg e] at hi
        by_cases e2 : i.1 = 14
        · rw [if_pos e2] at hi; simp at hi; subst hi; exact .inr (.inr rfl)
        · rw [if_neg e2] at hi; cases hi
    · rw [if_neg c1] at h
      obtain ⟨k, _, rfl⟩ := List.mem_map.1 h
      exact .inr (.inl rfl)
/-- A solver's parts. -/
structure Sol (all : List ObjS) (t : TabM) (b : BlkM) (g : GrpM) : Prop where
  small : Small t b g
  here : ∀ x, KindOk x → leadsV t b g x ≠ [] → x ∈ all
  len : all.length ≤ 3000
abbrev univ (all : List ObjS) (t : TabM) (b : BlkM) (g : GrpM) : List ObjS := all ++ all.flatMap (leadsV t b g)
theorem Sol.shut {all : List ObjS} {t : TabM} {b : BlkM} {g : GrpM} (h : Sol all t b g) : ∀ x ∈ univ all t b g, ∀ y ∈ leadsV t b g x, y ∈ univ all t b g := by
  intro x hx y hy
  refine List.mem_append_right _ ?_
  have hne : leadsV t b g x ≠ [] := fun e => by rw [e] at hy; cases hy
  have hall : x ∈ all := by
    rcases List.mem_append.1 hx with hx | hx
    · exact hx
    · obtain ⟨z, _, hz⟩ := List.mem_flatMap.1 hx
      exact h.here x (leads_kind hz) hne
  exact List.mem_flatMap.2 ⟨x, hall, hy⟩
theorem Sol.univ_len {all : List ObjS} {t : TabM} {b : BlkM} {g : GrpM} (h : Sol all t b g) : (univ all t b g).length ≤ 3000 + 3000 * 100000 := by
  have h1 := h.len
  have := flatMap_len (f := leadsV t b g) (n := 100000) (l := all) fun x _ => leads_len h.small x
  rw [List.length_append]
  have : all.length * 100000 ≤ 3000 * 100000 := Nat.mul_le_mul_right _ h1
  omega
theorem Sol.free {all : List ObjS} {t : TabM} {b : BlkM} {g : GrpM} (h : Sol all t b g) (st : StM) : freeS (univ all t b g) st < FUEL := by
  have := h.univ_len
  have h2 : freeS (univ all t b g) st ≤ (univ all t b g).length := List.countP_le_length
  unfold FUEL
  omega
theorem Sol.visit {all : List ObjS} {t : TabM} {b : BlkM} {g : GrpM} (h : Sol all t b g) : VisOk (univ all t b g) all t b g Q_z04 FUEL :=
  visit_ok h.small h.shut (fun x => by have := leads_len h.small x; omega) FUEL

theorem L_cycle {all : List ObjS} {t : TabM} {b : BlkM} {g : GrpM} (h : Sol all t b g) (kr : Bool → List ObjS → TabM → BlkM → GrpM → Option Res) (kt : List ObjS → TabM → BlkM → GrpM → Option Res) :
    ∀ (m i : Nat) (st : StM), i ≤ all.length → all.length - i < m → StOk st → DoneOk (leadsV t b g) st → (∀ u, sv st u ≠ 1) →
    (L_z05_0 FUEL kr kt all (all.length : Int) m (i : Int) all t b g st = kr true all t b g ∧ Ring (leadsV t b g)) ∨
    (L_z05_0 FUEL kr kt all (all.length : Int) m (i : Int) all t b g st = kt all t b g ∧ ∀ y ∈ all.drop i, Ends (leadsV t b g) y)
  | 0, _, _, _, h, _, _, _ => by omega
  | m + 1, i, st, hi, hm, hs, hd, hu => by
    have hlen := h.len
    show (F_z05_0 FUEL kr kt all (all.length : Int) (L_z05_0 FUEL kr kt all (all.length : Int) m) (i : Int) all t b g st = _ ∧ _) ∨ (F_z05_0 FUEL kr kt all (all.length : Int) (L_z05_0 FUEL kr kt all (all.length : Int) m) (i : Int) all t b g st = _ ∧ _)
    by_cases hlt : i < all.length
    · have e : F_z05_0 FUEL kr kt all (all.length : Int) (L_z05_0 FUEL kr kt all (all.length : Int) m) (i : Int) all t b g st =
          cond (ok_z04 (rdd zObjS all i) st all t b g) (cond (q_z04 (rdd zObjS all i) st all t b g).1.1
            (kr true (q_z04 (rdd zObjS all i) st all t b g).2.2.2.2.1.2.2.2.1 (q_z04 (rdd zObjS all i) st all t b g).2.2.2.2.2.1 (q_z04 (rdd zObjS all i) st all t b g).2.2.2.2.2.2.1 (q_z04 (rdd zObjS all i) st all t b g).2.2.2.2.2.2.2.1)
            (L_z05_0 FUEL kr kt all (all.length : Int) m ((i + 1 : Nat) : Int) (q_z04 (rdd zObjS all i) st all t b g).2.2.2.2.1.2.2.2.1 (q_z04 (rdd zObjS all i) st all t b g).2.2.2.2.2.1 (q_z04 (rdd zObjS all i) st all t b g).2.2.2.2.2.2.1 (q_z04 (rdd zObjS all i) st all t b g).2.2.2.2.2.2.2.1 (q_z04 (rdd zObjS all i) st all t b g).2.2.1)) none := by
        unfold F_z05_0
        refine stepT' (decide_eq_true (by omega)) ?_
        refine stepT' (decide_eq_true (by omega)) ?_
        rw [i64_succ (by omega), toNat_cast]
      rw [e]
      have hy : rdd zObjS all i ∈ all := rdd_mem hlt
      rcases h.visit (rdd zObjS all i) st (List.mem_append_left _ hy) hs hd (fun u hu' => absurd hu' (hu u)) (h.free st) with ⟨st', e1, hr⟩ | ⟨st', e1, ha, h2⟩
      · left
        have hok : ok_z04 (rdd zObjS all i) st all t b g = true := by unfold ok_z04; rw [e1]; rfl
        have hqq : q_z04 (rdd zObjS all i) st all t b g = visR true st' all t b g := (congrArg RS.get e1).trans (get_some _)
        rw [hok, hqq]
        exact ⟨rfl, hr⟩
      · have hok : ok_z04 (rdd zObjS all i) st all t b g = true := by unfold ok_z04; rw [e1]; rfl
        have hqq : q_z04 (rdd zObjS all i) st all t b g = visR false st' all t b g := (congrArg RS.get e1).trans (get_some _)
        rw [hok, hqq]
        rcases L_cycle h kr kt m (i + 1) st' (by omega) (by omega) ha.ok ha.done (fun u hu' => hu u ((ha.under u).1 hu')) with ⟨e2, hr⟩ | ⟨e2, h3⟩
        · exact .inl ⟨e2, hr⟩
        · refine .inr ⟨e2, fun y hy' => ?_⟩
          rw [drop_rdd zObjS hlt] at hy'
          rcases List.mem_cons.1 hy' with rfl | hy'
          · exact ha.done _ h2
          · exact h3 y hy'
    · right
      refine ⟨?_, fun y hy => ?_⟩
      · unfold F_z05_0
        refine stepF' (decide_eq_false (by omega)) ?_
        rfl
      · rw [List.drop_of_length_le (by omega)] at hy
        cases hy
open Classical in
theorem Q_cycle {all : List ObjS} {t : TabM} {b : BlkM} {g : GrpM} (h : Sol all t b g) : Q_z05 all t b g = some ((decide (Ring (leadsV t b g)), ()), solS all t b g) := by
  refine fin ?_
  unfold M_z05
  rcases L_cycle h (fun y2 y3 y4 y5 y6 => some (encRes ro_z05 rh_z05 ((y2, ()), solS y3 y4 y5 y6))) (fun y3 y4 y5 y6 => some (encRes ro_z05 rh_z05 ((false, ()), solS y3 y4 y5 y6))) FUEL 0 (fun _ => none) (by omega) (fuel_big (by have := h.len; omega))
    (fun _ => .inl rfl) (fun x hx => by cases hx) (fun u hu => by cases hu) with ⟨e, hr⟩ | ⟨e, hf⟩
  · rw [decide_eq_true hr]
    exact e
  · have hn : ¬ Ring (leadsV t b g) := fun ⟨z, hz⟩ => by
      obtain ⟨y, hy, _⟩ := hz.first
      have hk : KindOk z := by
        cases hz with
        | one h1 => exact leads_kind h1
        | step _ h1 => exact leads_kind h1
      have hza : z ∈ all := h.here z hk fun e => by rw [e] at hy; cases hy
      exact (hf z (by simpa using hza)).noRing hz
    rw [decide_eq_false hn]
    exact e
end Go.AMach

/- Layer 24: the most steps, as a number. -/
namespace Go.AMach
set_option linter.unusedVariables false
set_option linter.unusedSimpArgs false
set_option linter.unnecessarySimpa false
open Go
set_option linter.unusedVariables false

def cut7 (x : Int) : Int := if x < 65537 then x else 65537
def mx (n k : Int) : Int := if k > n then k else n
def foldT (f : ObjS → Int) (l : List Int) : Int := l.foldl (fun n b => mx n (f (1, (b, ())))) 0
def foldG (f : ObjS → Int) (kind : Int) (l : List BucketS) : Int := l.foldl (fun n (b : BucketS) => if kind = 1 then cut7 (n + f (1, b.2)) else mx n (f (1, b.2))) 0
def nextI (f : ObjS → Int) (i : InstrS) (k : Nat) (s : List Int) : Int :=
  if i.1 = 23 then 0 else if i.1 = 22 then 0 else if i.1 = 13 then f (0, i.2.2.2.2) else if i.1 = 14 then f (2, i.2.2.2.2)
  else if i.1 = 12 then (if 0 ≤ i.2.2.2.2.1 ∧ i.2.2.2.2.1 < (k : Int) then mx (rdd 0 s 0) (rdd 0 s i.2.2.2.2.1.toNat) else rdd 0 s 0) else rdd 0 s 0
def codeL (f : ObjS → Int) : List InstrS → List Int
  | [] => [0]
  | i :: r => cut7 (1 + nextI f i r.length (codeL f r)) :: codeL f r
theorem codeL_length (f : ObjS → Int) : ∀ l, (codeL f l).length = l.length + 1
  | [] => rfl
  | i :: r => by simp [codeL, codeL_length f r]
def stepV (t : TabM) (b : BlkM) (g : GrpM) (f : ObjS → Int) (x : ObjS) : Int :=
  if x.1 = 0 then cut7 (match t x.2.1 with | none => 0 | some l => foldT f l + 1)
  else if x.1 = 1 then cut7 (rdd 0 (codeL f ((b x.2.1).getD [])) 0)
  else cut7 (foldG f ((g x.2.1).getD zGroupS).2.1 ((g x.2.1).getD zGroupS).2.2.2.1)

abbrev InR (x : Int) : Prop := 0 ≤ x ∧ x ≤ 65537
theorem cut7_in {x : Int} (h : 0 ≤ x) : InR (cut7 x) := by unfold cut7 InR; split <;> omega
theorem mx_in {a b : Int} (h : InR a) (k : InR b) : InR (mx a b) := by unfold mx; split <;> assumption
theorem foldT_in {f : ObjS → Int} (hf : ∀ y, InR (f y)) (l : List Int) : InR (foldT f l) := by
  have : ∀ (l : List Int) (n : Int), InR n → InR (l.foldl (fun n b => mx n (f (1, (b, ())))) n) := by
    intro l
    induction l with
    | nil => intro n h; exact h
    | cons b l ih => intro n h; exact ih _ (mx_in h (hf _))
  exact this l 0 ⟨by omega, by omega⟩
theorem foldG_in {f : ObjS → Int} (hf : ∀ y, InR (f y)) (k : Int) (l : List BucketS) : InR (foldG f k l) := by
  have : ∀ (l : List BucketS) (n : Int), InR n → InR (l.foldl (fun n (b : BucketS) => if k = 1 then cut7 (n + f (1, b.2)) else mx n (f (1, b.2))) n) := by
    intro l
    induction l with
    | nil => intro n h; exact h
    | cons b l ih =>
      intro n h
      refine ih _ ?_
      show InR (if k = 1 then cut7 (n + f (1, b.2)) else mx n (f (1, b.2)))
      by_cases c : k = 1
      · rw [if_pos c]; exact cut7_in (by have := hf (1, b.2); unfold InR at *; omega)
      · rw [if_neg c]; exact mx_in h (hf _)
  exact this l 0 ⟨by omega, by omega⟩
theorem rdd_in {s : List Int} (h : ∀ x ∈ s, InR x) (i : Nat) : InR (rdd 0 s i) := by
  by_cases c : i < s.length
  · exact h _ (rdd_mem c)
  · rw [rdd_ge (by omega)]; exact ⟨by omega, by omega⟩
theorem nextI_in {f : ObjS → Int} (hf : ∀ y, InR (f y)) (i : InstrS) (k : Nat) {s : List Int} (h : ∀ x ∈ s, InR x) : InR (nextI f i k s) := by
  unfold nextI
  have z : InR 0 := ⟨by omega, by omega⟩
  by_cases c1 : i.1 = 23
  · rw [if_pos c1]; exact z
  rw [if_neg c1]
  by_cases c2 : i.1 = 22
  · rw [if_pos c2]; exact z
  rw [if_neg c2]
  by_cases c3 : i.1 = 13
  · rw [if_pos c3]; exact hf _
  rw [if_neg c3]
  by_cases c4 : i.1 = 14
  · rw [if_pos c4]; exact hf _
  rw [if_neg c4]
  by_cases c5 : i.1 = 12
  · rw [if_pos c5]
    split
    · exact mx_in (rdd_in h _) (rdd_in h _)
    · exact rdd_in h _
  · rw [if_neg c5]; exact rdd_in h _
theorem codeL_in {f : ObjS → Int} (hf : ∀ y, InR (f y)) : ∀ l, ∀ x ∈ codeL f l, InR x
  | [], x, h => by simp [codeL] at h; subst h; exact ⟨by omega, by omega⟩
  | i :: r, x, h => by
    rcases List.mem_cons.1 h with rfl | h
    · exact cut7_in (by have := nextI_in hf i r.length (codeL_in hf r); unfold InR at this; omega)
    · exact codeL_in hf r x h
theorem stepV_in {t : TabM} {b : BlkM} {g : GrpM} {f : ObjS → Int} (hf : ∀ y, InR (f y)) (x : ObjS) : InR (stepV t b g f x) := by
  unfold stepV
  split
  · refine cut7_in ?_
    split
    · omega
    · have := foldT_in hf ‹List Int›; unfold InR at this; omega
  · split
    · exact cut7_in (rdd_in (codeL_in hf _) _).1
    · exact cut7_in (foldG_in hf _ _).1

/-! ### It hangs on what an object leads to alone -/
theorem foldl_congr' {α : Type} {p q : Int → α → Int} : ∀ {l : List α} {n : Int}, (∀ a ∈ l, ∀ n, p n a = q n a) → l.foldl p n = l.foldl q n
  | [], _, _ => rfl
  | a :: l, n, h => by
    simp only [List.foldl_cons]
    rw [h a List.mem_cons_self]
    exact foldl_congr' fun b hb => h b (List.mem_cons_of_mem _ hb)
theorem codeL_congr {f f' : ObjS → Int} : ∀ {l : List InstrS}, (∀ i ∈ l, ∀ y ∈ leadI i, f y = f' y) → codeL f l = codeL f' l
  | [], _ => rfl
  | i :: r, h => by
    have ih := codeL_congr (l := r) fun j hj => h j (List.mem_cons_of_mem _ hj)
    simp only [codeL]
    rw [ih]
    have hi := h i List.mem_cons_self
    unfold leadI at hi
    have : nextI f i r.length (codeL f' r) = nextI f' i r.length (codeL f' r) := by
      unfold nextI
      by_cases c3 : i.1 = 13
      · have := hi (0, i.2.2.2.2) (by simp [c3])
        simp only [c3]
        simp [this]
      · by_cases c4 : i.1 = 14
        · have := hi (2, i.2.2.2.2) (by simp [c4])
          simp only [c4]
          simp [this]
        · simp [c3, c4]
    rw [this]
theorem stepV_congr {t : TabM} {b : BlkM} {g : GrpM} {f f' : ObjS → Int} {x : ObjS} (h : ∀ y ∈ leadsV t b g x, f y = f' y) : stepV t b g f x = stepV t b g f' x := by
  unfold leadsV at h
  unfold stepV
  by_cases c0 : x.1 = 0
  · rw [if_pos c0] at h ⊢
    rw [if_pos c0]
    cases ht : t x.2.1 with
    | none => rfl
    | some l =>
      rw [ht] at h
      simp only [Option.getD_some] at h
      have : foldT f l = foldT f' l := foldl_congr' fun a ha n => by rw [h (1, (a, ())) (List.mem_map.2 ⟨a, ha, rfl⟩)]
      simp only [this]
  · rw [if_neg c0] at h ⊢
    rw [if_neg c0]
    by_cases c1 : x.1 = 1
    · rw [if_pos c1] at h ⊢
      rw [if_pos c1]
      rw [codeL_congr (f := f) (f' := f') fun i hi y hy => h y (List.mem_flatMap.2 ⟨i, hi, hy⟩)]
    · rw [if_neg c1] at h ⊢
      rw [if_neg c1]
      have : foldG f ((g x.2.1).getD zGroupS).2.1 ((g x.2.1).getD zGroupS).2.2.2.1 = foldG f' ((g x.2.1).getD zGroupS).2.1 ((g x.2.1).getD zGroupS).2.2.2.1 :=
        foldl_congr' fun a ha n => by rw [h (1, a.2) (List.mem_map.2 ⟨a, ha, rfl⟩)]
      rw [this]

/-! ### The number -/
open Classical in
noncomputable def Hacc (t : TabM) (b : BlkM) (g : GrpM) (x : ObjS) (h : Ends (leadsV t b g) x) : Int :=
  Acc.rec (motive := fun _ _ => Int) (fun x _ ih => stepV t b g (fun y => if hy : y ∈ leadsV t b g x then ih y hy else 0) x) h
open Classical in
noncomputable def H (t : TabM) (b : BlkM) (g : GrpM) (x : ObjS) : Int := if h : Ends (leadsV t b g) x then Hacc t b g x h else 0
theorem H_eq {t : TabM} {b : BlkM} {g : GrpM} {x : ObjS} (h : Ends (leadsV t b g) x) : H t b g x = stepV t b g (H t b g) x := by
  have e : H t b g x = Hacc t b g x h := dif_pos h
  rw [e]
  cases h with
  | intro _ hh =>
    show stepV t b g (fun y => if hy : y ∈ leadsV t b g x then Hacc t b g y (hh y hy) else 0) x = _
    refine stepV_congr fun y hy => ?_
    rw [dif_pos hy]
    exact (dif_pos (hh y hy)).symm
theorem H_in (t : TabM) (b : BlkM) (g : GrpM) (x : ObjS) : InR (H t b g x) := by
  by_cases h : Ends (leadsV t b g) x
  · have : ∀ x (h : Ends (leadsV t b g) x), InR (Hacc t b g x h) := by
      intro x h
      induction h with
      | intro x hh ih =>
        show InR (stepV t b g (fun y => if hy : y ∈ leadsV t b g x then Hacc t b g y (hh y hy) else 0) x)
        refine stepV_in (fun y => ?_) x
        by_cases hy : y ∈ leadsV t b g x
        · rw [dif_pos hy]; exact ih y hy
        · rw [dif_neg hy]; exact ⟨by omega, by omega⟩
    have e : H t b g x = Hacc t b g x h := dif_pos h
    rw [e]; exact this x h
  · have e : H t b g x = 0 := dif_neg h
    rw [e]; exact ⟨by omega, by omega⟩
end Go.AMach
