/- Parts of the proof. -/
import Derived.Test.YtfmjdojndbpkhaaDx
import Derived.Test.YtfmjdojndbpkhaaAm23
import Derived.KernelRfl
import Derived.Test.YtfmjdojndbpkhaaAm9
/- Layer 24: where an object leads. -/
namespace Go.AMach
set_option linter.unusedVariables false
set_option linter.unusedSimpArgs false
set_option linter.unnecessarySimpa false
open Go
set_option linter.unusedVariables false
abbrev TabM := Int → Option (List Int)
abbrev BlkM := Int → Option (List jaj)
abbrev GrpM := Int → Option jal

/-- What an instruction leads to. -/
def jfr (i : jaj) : List ObjS := if i.1 = 13 then [(0, i.2.2.2.2)] else if i.1 = 14 then [(2, i.2.2.2.2)] else []
def jaE (t : TabM) (b : BlkM) (g : GrpM) (x : ObjS) : List ObjS :=
  if x.1 = 0 then ((t x.2.1).getD []).map fun k => (1, (k, ()))
  else if x.1 = 1 then ((b x.2.1).getD []).flatMap jfr
  else ((g x.2.1).getD jak).2.2.2.1.map fun (k : jbt) => ((1, k.2) : ObjS)
/-- Sizes that are no matter. -/
def jxS (t : TabM) (b : BlkM) (g : GrpM) : Prop := (∀ k l, t k = some l → l.length ≤ 100000) ∧ (∀ k l, b k = some l → l.length ≤ 100000) ∧ ∀ k x, g k = some x → x.2.2.2.1.length ≤ 100000

theorem jzw (k : Nat → List ObjS → Option Res) (l : List Int) (hl : l.length ≤ 100000) : ∀ (m i : Nat) (out : List ObjS), i ≤ l.length → out.length ≤ i → l.length - i < m →
    jlD FUEL k l (l.length : Int) m out.length (i : Int) out = k (out ++ (l.drop i).map fun a => (1, (a, ()))).length (out ++ (l.drop i).map fun a => (1, (a, ())))
  | 0, _, _, _, _, h => by omega
  | m + 1, i, out, hi, ho, hm => by
    show jtx FUEL k l (l.length : Int) (jlD FUEL k l (l.length : Int) m) out.length (i : Int) out = _
    unfold jtx
    simp only [jaI, jby]
    by_cases h : i < l.length
    · rw [if_pos (by omega), if_pos (by omega), if_pos (by omega)]
      simp only [jan]
      rw [jaA (by omega)]
      have := jzw k l hl m (i + 1) (out ++ [(1, (rdd 0 l i, ()))]) (by omega) (by simp; omega) (by omega)
      rw [List.length_append] at this
      refine Eq.trans this ?_
      rw [jaF 0 h]
      simp
    · rw [if_neg (by omega), List.drop_of_length_le (by omega)]
      simp
theorem jzx (k : Nat → List ObjS → Option Res) (l : List jbt) (hl : l.length ≤ 100000) : ∀ (m i : Nat) (out : List ObjS), i ≤ l.length → out.length ≤ i → l.length - i < m →
    jlE FUEL k l (l.length : Int) m out.length (i : Int) out = k (out ++ (l.drop i).map fun (a : jbt) => ((1, a.2) : ObjS)).length (out ++ (l.drop i).map fun (a : jbt) => ((1, a.2) : ObjS))
  | 0, _, _, _, _, h => by omega
  | m + 1, i, out, hi, ho, hm => by
    show jty FUEL k l (l.length : Int) (jlE FUEL k l (l.length : Int) m) out.length (i : Int) out = _
    unfold jty
    simp only [jaI, jby]
    by_cases h : i < l.length
    · rw [if_pos (by omega), if_pos (by omega), if_pos (by omega)]
      simp only [jan]
      rw [jaA (by omega)]
      have := jzx k l hl m (i + 1) (out ++ [(1, (rdd jba l i).2)]) (by omega) (by simp; omega) (by omega)
      rw [List.length_append] at this
      refine Eq.trans this ?_
      rw [jaF jba h]
      simp
    · rw [if_neg (by omega), List.drop_of_length_le (by omega)]
      simp
theorem jmq (k : Nat → List ObjS → Option Res) (l : List jaj) (hl : l.length ≤ 100000) : ∀ (m i : Nat) (out : List ObjS), i ≤ l.length → out.length ≤ i → l.length - i < m →
    jlC FUEL k l (l.length : Int) m out.length (i : Int) out = k (out ++ (l.drop i).flatMap jfr).length (out ++ (l.drop i).flatMap jfr)
  | 0, _, _, _, _, h => by omega
  | m + 1, i, out, hi, ho, hm => by
    show jtw FUEL k l (l.length : Int) (jlC FUEL k l (l.length : Int) m) out.length (i : Int) out = _
    unfold jtw
    simp only [jaI, jby, jeW]
    by_cases h : i < l.length
    · rw [if_pos (by omega), if_pos (by omega)]
      simp only [jan]
      rw [jaA (by omega), jaF jae h, List.flatMap_cons]
      by_cases h1 : (rdd jae l i).1 = 13
      · rw [if_pos h1, if_pos (by omega)]
        have := jmq k l hl m (i + 1) (out ++ [(0, (rdd jae l i).2.2.2.2)]) (by omega) (by simp; omega) (by omega)
        rw [List.length_append] at this
        refine Eq.trans this ?_
        simp [jfr, h1]
      · rw [if_neg h1]
        by_cases h2 : (rdd jae l i).1 = 14
        · rw [if_pos h2, if_pos (by omega)]
          have := jmq k l hl m (i + 1) (out ++ [(2, (rdd jae l i).2.2.2.2)]) (by omega) (by simp; omega) (by omega)
          rw [List.length_append] at this
          refine Eq.trans this ?_
          simp [jfr, h1, h2]
        · rw [if_neg h2]
          refine Eq.trans (jmq k l hl m (i + 1) out (by omega) (by omega) (by omega)) ?_
          simp [jfr, h1, h2]
    · rw [if_neg (by omega), List.drop_of_length_le (by omega)]
      simp

abbrev solS (all : List ObjS) (t : TabM) (b : BlkM) (g : GrpM) : HK.sems jjL := (((), ((), ((), (all, ())))), (t, (b, (g, ()))))
theorem Q_leads (x : ObjS) (all : List ObjS) {t : TabM} {b : BlkM} {g : GrpM} (hs : jxS t b g) :
    jES x all t b g = some (((jaE t b g x).length, ()), (((), ((), ((), (all, ())))), (t, (b, (g, (jaE t b g x, ())))))) := by
  obtain ⟨h1, h2, h3⟩ := hs
  refine fin ?_
  unfold jFJ jaE
  simp only [jeW, jaI]
  by_cases c0 : x.1 = 0
  · rw [if_pos c0, if_pos c0]
    have hl : ((t x.2.1).getD []).length ≤ 100000 := by
      cases h : t x.2.1 with
      | none => simp
      | some l => exact h1 _ _ h
    exact jzw _ _ hl FUEL 0 [] (by omega) (by simp) (by unfold FUEL; omega)
  · rw [if_neg c0, if_neg c0]
    by_cases c1 : x.1 = 1
    · rw [if_pos c1, if_pos c1]
      have hl : ((b x.2.1).getD []).length ≤ 100000 := by
        cases h : b x.2.1 with
        | none => simp
        | some l => exact h2 _ _ h
      exact jmq _ _ hl FUEL 0 [] (by omega) (by simp) (by unfold FUEL; omega)
    · rw [if_neg c1, if_neg c1]
      have hl : ((g x.2.1).getD jak).2.2.2.1.length ≤ 100000 := by
        cases h : g x.2.1 with
        | none => simp
        | some l => exact h3 _ _ h
      exact jzx _ _ hl FUEL 0 [] (by omega) (by simp) (by unfold FUEL; omega)
end Go.AMach

/- Layer 24: what leads to itself. -/
namespace Go.AMach
set_option linter.unusedVariables false
set_option linter.unusedSimpArgs false
set_option linter.unnecessarySimpa false
open Go
set_option linter.unusedVariables false

theorem jBx (i a : ObjS) : Ty.keq ObjT i a = decide (i = a) := by
  have := jds (K := ObjT) (x := i) (y := a) rfl
  cases h : Ty.keq ObjT i a with
  | true => rw [h] at this; exact (decide_eq_true (this.1 rfl)).symm
  | false => rw [h] at this; exact (decide_eq_false fun e => by have := this.2 e; cases this).symm

theorem jaL {α β : Type} {o : Option α} {v : α} (h : o = some v) {A B X : β} (g : A = X) : cond o.isSome A B = X := by subst h; exact g
theorem jaq {β : Type} {c : Bool} (h : c = false) {A B X : β} (g : B = X) : cond c A B = X := by subst h; exact g
theorem jai {β : Type} {c : Bool} (h : c = true) {A B X : β} (g : A = X) : cond c A B = X := by subst h; exact g
section
variable (N : ObjS → List ObjS)
inductive Reach : ObjS → ObjS → Prop
  | one {x y : ObjS} : y ∈ N x → Reach x y
  | step {x y z : ObjS} : Reach x y → z ∈ N y → Reach x z
/-- All that one leads to comes to an end. -/
abbrev Ends (x : ObjS) : Prop := Acc (fun y x => y ∈ N x) x
def Ring : Prop := ∃ z, Reach N z z
end
theorem Reach.trans {N : ObjS → List ObjS} {x y z : ObjS} (h : Reach N x y) (k : Reach N y z) : Reach N x z := by
  induction k with
  | one h1 => exact .step h h1
  | step _ h1 ih => exact .step ih h1
theorem Reach.first {N : ObjS → List ObjS} {x z : ObjS} (h : Reach N x z) : ∃ y, y ∈ N x ∧ (y = z ∨ Reach N y z) := by
  induction h with
  | one h1 => exact ⟨_, h1, .inl rfl⟩
  | step h1 h2 ih =>
    obtain ⟨y, hy, e⟩ := ih
    refine ⟨y, hy, .inr ?_⟩
    rcases e with rfl | e
    · exact .one h2
    · exact .step e h2
theorem Ends.noRing {N : ObjS → List ObjS} {x : ObjS} (h : Ends N x) : ¬ Reach N x x := by
  induction h with
  | intro x _ ih =>
    intro hr
    obtain ⟨y, hy, e⟩ := hr.first
    rcases e with rfl | e
    · exact ih _ hy (.one hy)
    · exact ih _ hy (e.trans (.one hy))

abbrev StM := ObjS → Option Int
def sv (st : StM) (x : ObjS) : Int := (st x).getD 0
def setS (st : StM) (x : ObjS) (v : Int) : StM := fun i => if i = x then some v else st i
theorem jgk (st : StM) (x : ObjS) (v : Int) (k : ObjS) : sv (setS st x v) k = if k = x then v else sv st k := by
  unfold sv setS
  by_cases h : k = x <;> simp [h]
theorem jhi (st : StM) (x : ObjS) (v : Int) : (fun i => cond (Ty.keq ObjT i x) (some v) (st i)) = setS st x v := by
  funext i
  rw [jBx]
  unfold setS
  by_cases h : i = x <;> simp [h]
def jro (U : List ObjS) (st : StM) : Nat := U.countP fun x => decide (sv st x = 0)
theorem jie {α : Type} {p q : α → Bool} : ∀ {l : List α}, (∀ x ∈ l, p x = true → q x = true) → l.countP p ≤ l.countP q
  | [], _ => by simp
  | x :: l, h => by
    have ih := jie (l := l) fun y hy => h y (List.mem_cons_of_mem _ hy)
    have hx := h x List.mem_cons_self
    simp only [List.countP_cons]
    by_cases hp : p x = true
    · simp [hp, hx hp]; exact ih
    · simp only [hp]
      simp
      omega
theorem jhl {α : Type} {p q : α → Bool} : ∀ {l : List α}, (∀ x ∈ l, p x = true → q x = true) → (∃ x ∈ l, q x = true ∧ p x = false) → l.countP p < l.countP q
  | [], _, ⟨x, hx, _⟩ => by cases hx
  | x :: l, h, ⟨y, hy, hq, hp⟩ => by
    simp only [List.countP_cons]
    rcases List.mem_cons.1 hy with rfl | hy'
    · have := jie (l := l) fun z hz => h z (List.mem_cons_of_mem _ hz)
      simp [hq, hp]; omega
    · have := jhl (l := l) (fun z hz => h z (List.mem_cons_of_mem _ hz)) ⟨y, hy', hq, hp⟩
      by_cases hpx : p x = true
      · simp [hpx, h x List.mem_cons_self hpx]; omega
      · simp only [hpx]
        simp
        split <;> omega

/-- What is done comes to an end. -/
def jvM (N : ObjS → List ObjS) (st : StM) : Prop := ∀ x, sv st x = 2 → Ends N x
def StOk (st : StM) : Prop := ∀ x, sv st x = 0 ∨ sv st x = 1 ∨ sv st x = 2
/-- What a visit leaves. -/
structure After (N : ObjS → List ObjS) (st st' : StM) : Prop where
  ok : StOk st'
  done : jvM N st'
  mono : ∀ x, sv st x = 2 → sv st' x = 2
  under : ∀ x, sv st' x = 1 ↔ sv st x = 1
theorem After.trans {N : ObjS → List ObjS} {a b c : StM} (h : After N a b) (k : After N b c) : After N a c :=
  ⟨k.ok, k.done, fun x hx => k.mono x (h.mono x hx), fun x => (k.under x).trans (h.under x)⟩
theorem After.free {N : ObjS → List ObjS} {a b : StM} (ha : StOk a) (h : After N a b) (U : List ObjS) : jro U b ≤ jro U a := by
  refine jie fun x _ hx => ?_
  simp only [decide_eq_true_eq] at hx ⊢
  rcases ha x with h0 | h1 | h2
  · exact h0
  · have := (h.under x).2 h1; omega
  · have := h.mono x h2; omega

abbrev visR (r : Bool) (st : StM) (all : List ObjS) (t : TabM) (b : BlkM) (g : GrpM) : RS jbF jbG :=
  ((r, ()), (((), ()), (st, (((), ()), (((), ((), ((), (all, ())))), (t, (b, (g, (((), ()), ())))))))))
def VisOk (U all : List ObjS) (t : TabM) (b : BlkM) (g : GrpM) (q : ObjS → StM → List ObjS → TabM → BlkM → GrpM → Option (RS jbF jbG)) (F : Nat) : Prop :=
  ∀ x st, x ∈ U → StOk st → jvM (jaE t b g) st → (∀ u, sv st u = 1 → Reach (jaE t b g) u x) → jro U st < F →
    (∃ st', q x st all t b g = some (visR true st' all t b g) ∧ Ring (jaE t b g)) ∨
    ∃ st', q x st all t b g = some (visR false st' all t b g) ∧ After (jaE t b g) st st' ∧ sv st' x = 2

theorem jCB {U all : List ObjS} {t : TabM} {b : BlkM} {g : GrpM} {q : ObjS → StM → List ObjS → TabM → BlkM → GrpM → Option (RS jbF jbG)} {F : Nat}
    (hq : VisOk U all t b g q F) (kr : Bool → StM → List ObjS → TabM → BlkM → GrpM → Option Res) (kt : StM → List ObjS → TabM → BlkM → GrpM → Option Res) (l : List ObjS) (hl : l.length < 9223372036854775807) (hU : ∀ y ∈ l, y ∈ U) :
    ∀ (m i : Nat) (st : StM), i ≤ l.length → l.length - i < m → StOk st → jvM (jaE t b g) st → (∀ u, sv st u = 1 → ∀ y ∈ l, Reach (jaE t b g) u y) → jro U st < F →
    (∃ st', jgj FUEL q kr kt l.length (l.length : Int) l m (i : Int) st all t b g = kr true st' all t b g ∧ Ring (jaE t b g)) ∨
    ∃ st', jgj FUEL q kr kt l.length (l.length : Int) l m (i : Int) st all t b g = kt st' all t b g ∧ After (jaE t b g) st st' ∧ ∀ y ∈ l.drop i, sv st' y = 2
  | 0, _, _, _, h, _, _, _, _ => by omega
  | m + 1, i, st, hi, hm, hs, hd, hu, hf => by
    show (∃ st', jos FUEL q kr kt l.length (l.length : Int) l (jgj FUEL q kr kt l.length (l.length : Int) l m) (i : Int) st all t b g = kr true st' all t b g ∧ _) ∨
      ∃ st', jos FUEL q kr kt l.length (l.length : Int) l (jgj FUEL q kr kt l.length (l.length : Int) l m) (i : Int) st all t b g = kt st' all t b g ∧ _
    unfold jos
    simp only [jaI]
    by_cases h : i < l.length
    · rw [if_pos (by omega), if_pos (by omega)]
      simp only [jan]
      have hy : rdd jbN l i ∈ l := jbn h
      rcases hq (rdd jbN l i) st (hU _ hy) hs hd (fun u hu' => hu u hu' _ hy) hf with ⟨st', e, hr⟩ | ⟨st', e, ha, h2⟩
      · rw [e]
        exact .inl ⟨st', rfl, hr⟩
      · rw [e]
        simp only [Option.isSome_some, cond_true, jaw, cond_false]
        rw [jaA (by omega)]
        rcases jCB hq kr kt l hl hU m (i + 1) st' (by omega) (by omega) ha.ok ha.done (fun u hu' => hu u ((ha.under u).1 hu')) (Nat.lt_of_le_of_lt (ha.free hs U) hf) with ⟨st2, e2, hr⟩ | ⟨st2, e2, ha2, h3⟩
        · exact .inl ⟨st2, e2, hr⟩
        · refine .inr ⟨st2, e2, ha.trans ha2, fun y hy' => ?_⟩
          rw [jaF jbN h] at hy'
          rcases List.mem_cons.1 hy' with rfl | hy'
          · exact ha2.mono _ h2
          · exact h3 y hy'
    · rw [if_neg (by omega)]
      refine .inr ⟨st, rfl, ⟨hs, hd, fun _ h => h, fun _ => Iff.rfl⟩, fun y hy => ?_⟩
      rw [List.drop_of_length_le (by omega)] at hy
      cases hy


abbrev KRv (r : Bool) (st : StM) (all : List ObjS) (t : TabM) (b : BlkM) (g : GrpM) : Option Res := some (jac jbF jbG (visR r st all t b g))
abbrev KTv (x : ObjS) (st : StM) (all : List ObjS) (t : TabM) (b : BlkM) (g : GrpM) : Option Res := some (jac jbF jbG (visR false (fun i => cond (Ty.keq ObjT i x) (some (2 : Int)) (st i)) all t b g))
theorem M_visit (q : ObjS → StM → List ObjS → TabM → BlkM → GrpM → Option (RS jbF jbG)) (x : ObjS) (st : StM) (all : List ObjS) {t : TabM} {b : BlkM} {g : GrpM} (hs : jxS t b g) (h0 : sv st x = 0) :
    jvE FUEL q x st all t b g = jgj FUEL q KRv (KTv x) (jaE t b g x).length ((jaE t b g x).length : Int) (jaE t b g x) FUEL ((0 : Nat) : Int) (setS st x 1) all t b g := by
  have c0 : ((Option.getD (st x) (0 : Int)) != (0 : Int)) = false := by rw [show Option.getD (st x) (0 : Int) = 0 from h0]; rfl
  have e := Q_leads x all hs
  unfold jvE
  refine jaq c0 ?_
  extract_lets -merge +onlyGivenNames y1
  have e_y1 : y1 = _ := (congrArg RS.get e).trans (jaw _)
  clear_value y1; subst e_y1
  refine jaL e ?_
  rw [jhi st x 1]
  rfl

theorem jyd {U all : List ObjS} {t : TabM} {b : BlkM} {g : GrpM} (hsm : jxS t b g) (hU : ∀ x ∈ U, ∀ y ∈ jaE t b g x, y ∈ U) (hlen : ∀ x, (jaE t b g x).length < 9223372036854775807) : ∀ dp, VisOk U all t b g (jkf dp) dp
  | 0 => fun x st _ _ _ _ h => by omega
  | dp + 1 => by
    intro x st hx hs hd hu hf
    show (∃ st', jaR jbF jbG (jvE FUEL (jkf dp) x st all t b g) = _ ∧ _) ∨
      ∃ st', jaR jbF jbG (jvE FUEL (jkf dp) x st all t b g) = _ ∧ _
    by_cases h0 : sv st x = 0
    · rw [M_visit (jkf dp) x st all hsm h0]
      have s1 : StOk (setS st x 1) := fun k => by rw [jgk]; split; exact .inr (.inl rfl); exact hs k
      have d1 : jvM (jaE t b g) (setS st x 1) := fun k hk => by
        rw [jgk] at hk
        split at hk
        · omega
        · exact hd k hk
      have u1 : ∀ u, sv (setS st x 1) u = 1 → ∀ y ∈ jaE t b g x, Reach (jaE t b g) u y := fun u hu' y hy => by
        rw [jgk] at hu'
        split at hu'
        · rename_i he; subst he; exact .one hy
        · exact .step (hu u hu') hy
      have f1 : jro U (setS st x 1) < dp := by
        have : jro U (setS st x 1) < jro U st := by
          refine jhl (fun k _ hk => ?_) ⟨x, hx, by simpa using h0, by simp [jgk]⟩
          simp only [decide_eq_true_eq, jgk] at hk ⊢
          split at hk
          · omega
          · exact hk
        omega
      rcases jCB (jyd (all := all) hsm hU hlen dp) KRv (KTv x) (jaE t b g x) (hlen x) (hU x hx) FUEL 0 (setS st x 1) (by omega) (jaU (by have := hlen x; omega)) s1 d1 u1 f1 with ⟨st', e, hr⟩ | ⟨st', e, ha, h3⟩
      · exact .inl ⟨st', fin e, hr⟩
      · right
        refine ⟨setS st' x 2, fin ?_, ⟨fun k => ?_, fun k hk => ?_, fun k hk => ?_, fun k => ?_⟩, by simp [jgk]⟩
        · refine Eq.trans e ?_
          unfold KTv
          rw [jhi]
        · rw [jgk]; split; exact .inr (.inr rfl); exact ha.ok k
        · rw [jgk] at hk
          split at hk
          · rename_i he; subst he
            refine Acc.intro _ fun y hy => ?_
            exact ha.done y (h3 y (by simpa using hy))
          · exact ha.done k hk
        · rw [jgk]
          split
          · rfl
          · rename_i hne
            exact ha.mono k (by rw [jgk, if_neg hne]; exact hk)
        · rw [jgk]
          split
          · rename_i he; subst he; constructor <;> intro h <;> omega
          · rename_i hne
            rw [ha.under k, jgk, if_neg hne]
    · unfold jvE
      have c0 : ((Option.getD (st x) (0 : Int)) != (0 : Int)) = true := by
        simp only [bne_iff_ne, ne_eq]; exact h0
      rw [c0]
      simp only [cond_true]
      rcases hs x with h | h | h
      · exact absurd h h0
      · refine .inl ⟨st, fin ?_, ⟨x, hu x h⟩⟩
        have : ((Option.getD (st x) (0 : Int)) == (1 : Int)) = true := by rw [show Option.getD (st x) (0 : Int) = 1 from h]; rfl
        rw [this]
      · refine .inr ⟨st, fin ?_, ⟨hs, hd, fun _ h => h, fun _ => Iff.rfl⟩, h⟩
        have : ((Option.getD (st x) (0 : Int)) == (1 : Int)) = false := by rw [show Option.getD (st x) (0 : Int) = 2 from h]; rfl
        rw [this]
end Go.AMach

/- Layer 24: is there a cycle. -/
namespace Go.AMach
set_option linter.unusedVariables false
set_option linter.unusedSimpArgs false
set_option linter.unnecessarySimpa false
open Go
set_option linter.unusedVariables false

theorem jBt (i : jaj) : (jfr i).length ≤ 1 := by
  unfold jfr
  by_cases h : i.1 = 13
  · simp [h]
  · by_cases h2 : i.1 = 14 <;> simp [h, h2]
theorem jia {α β : Type} {f : α → List β} {n : Nat} : ∀ {l : List α}, (∀ x ∈ l, (f x).length ≤ n) → (l.flatMap f).length ≤ l.length * n
  | [], _ => by simp
  | x :: l, h => by
    have ih := jia (l := l) fun y hy => h y (List.mem_cons_of_mem _ hy)
    have := h x List.mem_cons_self
    simp only [List.flatMap_cons, List.length_append, List.length_cons, Nat.add_mul]
    omega
theorem jnD {t : TabM} {b : BlkM} {g : GrpM} (hs : jxS t b g) (x : ObjS) : (jaE t b g x).length ≤ 100000 := by
  obtain ⟨h1, h2, h3⟩ := hs
  unfold jaE
  by_cases c0 : x.1 = 0
  · rw [if_pos c0, List.length_map]
    cases h : t x.2.1 with
    | none => simp
    | some l => exact h1 _ _ h
  · rw [if_neg c0]
    by_cases c1 : x.1 = 1
    · rw [if_pos c1]
      have := jia (f := jfr) (n := 1) (l := (b x.2.1).getD []) fun y _ => jBt y
      have hl : ((b x.2.1).getD []).length ≤ 100000 := by
        cases h : b x.2.1 with
        | none => simp
        | some l => exact h2 _ _ h
      omega
    · rw [if_neg c1, List.length_map]
      cases h : g x.2.1 with
      | none => simp
      | some l => exact h3 _ _ h
abbrev jkh (x : ObjS) : Prop := x.1 = 0 ∨ x.1 = 1 ∨ x.1 = 2
theorem jbZ {t : TabM} {b : BlkM} {g : GrpM} {x y : ObjS} (h : y ∈ jaE t b g x) : jkh y := by
  unfold jaE at h
  by_cases c0 : x.1 = 0
  · rw [if_pos c0] at h
    obtain ⟨k, _, rfl⟩ := List.mem_map.1 h
    exact .inr (.inl rfl)
  · rw [if_neg c0] at h
    by_cases c1 : x.1 = 1
    · rw [if_pos c1] at h
      obtain ⟨i, _, hi⟩ := List.mem_flatMap.1 h
      unfold jfr at hi
      by_cases e : i.1 = 13
      · rw [if_pos e] at hi; simp at hi; subst hi; exact .inl rfl
      · rw [if_neg e] at hi
        by_cases e2 : i.1 = 14
        · rw [if_pos e2] at hi; simp at hi; subst hi; exact .inr (.inr rfl)
        · rw [if_neg e2] at hi; cases hi
    · rw [if_neg c1] at h
      obtain ⟨k, _, rfl⟩ := List.mem_map.1 h
      exact .inr (.inl rfl)
/-- A solver's parts. -/
structure Sol (all : List ObjS) (t : TabM) (b : BlkM) (g : GrpM) : Prop where
  small : jxS t b g
  here : ∀ x, jkh x → jaE t b g x ≠ [] → x ∈ all
  len : all.length ≤ 3000
abbrev univ (all : List ObjS) (t : TabM) (b : BlkM) (g : GrpM) : List ObjS := all ++ all.flatMap (jaE t b g)
theorem Sol.shut {all : List ObjS} {t : TabM} {b : BlkM} {g : GrpM} (h : Sol all t b g) : ∀ x ∈ univ all t b g, ∀ y ∈ jaE t b g x, y ∈ univ all t b g := by
  intro x hx y hy
  refine List.mem_append_right _ ?_
  have hne : jaE t b g x ≠ [] := fun e => by rw [e] at hy; cases hy
  have hall : x ∈ all := by
    rcases List.mem_append.1 hx with hx | hx
    · exact hx
    · obtain ⟨z, _, hz⟩ := List.mem_flatMap.1 hx
      exact h.here x (jbZ hz) hne
  exact List.mem_flatMap.2 ⟨x, hall, hy⟩
theorem Sol.univ_len {all : List ObjS} {t : TabM} {b : BlkM} {g : GrpM} (h : Sol all t b g) : (univ all t b g).length ≤ 3000 + 3000 * 100000 := by
  have h1 := h.len
  have := jia (f := jaE t b g) (n := 100000) (l := all) fun x _ => jnD h.small x
  rw [List.length_append]
  have : all.length * 100000 ≤ 3000 * 100000 := Nat.mul_le_mul_right _ h1
  omega
theorem Sol.free {all : List ObjS} {t : TabM} {b : BlkM} {g : GrpM} (h : Sol all t b g) (st : StM) : jro (univ all t b g) st < FUEL := by
  have := h.univ_len
  have h2 : jro (univ all t b g) st ≤ (univ all t b g).length := List.countP_le_length
  unfold FUEL
  omega
theorem Sol.visit {all : List ObjS} {t : TabM} {b : BlkM} {g : GrpM} (h : Sol all t b g) : VisOk (univ all t b g) all t b g jER FUEL :=
  jyd h.small h.shut (fun x => by have := jnD h.small x; omega) FUEL

theorem jyb {all : List ObjS} {t : TabM} {b : BlkM} {g : GrpM} (h : Sol all t b g) (kr : Bool → List ObjS → TabM → BlkM → GrpM → Option Res) (kt : List ObjS → TabM → BlkM → GrpM → Option Res) :
    ∀ (m i : Nat) (st : StM), i ≤ all.length → all.length - i < m → StOk st → jvM (jaE t b g) st → (∀ u, sv st u ≠ 1) →
    (jft FUEL kr kt all (all.length : Int) m (i : Int) all t b g st = kr true all t b g ∧ Ring (jaE t b g)) ∨
    (jft FUEL kr kt all (all.length : Int) m (i : Int) all t b g st = kt all t b g ∧ ∀ y ∈ all.drop i, Ends (jaE t b g) y)
  | 0, _, _, _, h, _, _, _ => by omega
  | m + 1, i, st, hi, hm, hs, hd, hu => by
    have hlen := h.len
    show (jjz FUEL kr kt all (all.length : Int) (jft FUEL kr kt all (all.length : Int) m) (i : Int) all t b g st = _ ∧ _) ∨ (jjz FUEL kr kt all (all.length : Int) (jft FUEL kr kt all (all.length : Int) m) (i : Int) all t b g st = _ ∧ _)
    by_cases hlt : i < all.length
    · have e : jjz FUEL kr kt all (all.length : Int) (jft FUEL kr kt all (all.length : Int) m) (i : Int) all t b g st =
          cond (jpt (rdd jbN all i) st all t b g) (cond (jkB (rdd jbN all i) st all t b g).1.1
            (kr true (jkB (rdd jbN all i) st all t b g).2.2.2.2.1.2.2.2.1 (jkB (rdd jbN all i) st all t b g).2.2.2.2.2.1 (jkB (rdd jbN all i) st all t b g).2.2.2.2.2.2.1 (jkB (rdd jbN all i) st all t b g).2.2.2.2.2.2.2.1)
            (jft FUEL kr kt all (all.length : Int) m ((i + 1 : Nat) : Int) (jkB (rdd jbN all i) st all t b g).2.2.2.2.1.2.2.2.1 (jkB (rdd jbN all i) st all t b g).2.2.2.2.2.1 (jkB (rdd jbN all i) st all t b g).2.2.2.2.2.2.1 (jkB (rdd jbN all i) st all t b g).2.2.2.2.2.2.2.1 (jkB (rdd jbN all i) st all t b g).2.2.1)) none := by
        unfold jjz
        refine jai (decide_eq_true (by omega)) ?_
        refine jai (decide_eq_true (by omega)) ?_
        rw [jaA (by omega), jan]
      rw [e]
      have hy : rdd jbN all i ∈ all := jbn hlt
      rcases h.visit (rdd jbN all i) st (List.mem_append_left _ hy) hs hd (fun u hu' => absurd hu' (hu u)) (h.free st) with ⟨st', e1, hr⟩ | ⟨st', e1, ha, h2⟩
      · left
        have hok : jpt (rdd jbN all i) st all t b g = true := by unfold jpt; rw [e1]; rfl
        have hqq : jkB (rdd jbN all i) st all t b g = visR true st' all t b g := (congrArg RS.get e1).trans (jaw _)
        rw [hok, hqq]
        exact ⟨rfl, hr⟩
      · have hok : jpt (rdd jbN all i) st all t b g = true := by unfold jpt; rw [e1]; rfl
        have hqq : jkB (rdd jbN all i) st all t b g = visR false st' all t b g := (congrArg RS.get e1).trans (jaw _)
        rw [hok, hqq]
        rcases jyb h kr kt m (i + 1) st' (by omega) (by omega) ha.ok ha.done (fun u hu' => hu u ((ha.under u).1 hu')) with ⟨e2, hr⟩ | ⟨e2, h3⟩
        · exact .inl ⟨e2, hr⟩
        · refine .inr ⟨e2, fun y hy' => ?_⟩
          rw [jaF jbN hlt] at hy'
          rcases List.mem_cons.1 hy' with rfl | hy'
          · exact ha.done _ h2
          · exact h3 y hy'
    · right
      refine ⟨?_, fun y hy => ?_⟩
      · unfold jjz
        refine jaq (decide_eq_false (by omega)) ?_
        rfl
      · rw [List.drop_of_length_le (by omega)] at hy
        cases hy
open Classical in
theorem jCw {all : List ObjS} {t : TabM} {b : BlkM} {g : GrpM} (h : Sol all t b g) : jEQ all t b g = some ((decide (Ring (jaE t b g)), ()), solS all t b g) := by
  refine fin ?_
  unfold jFI
  rcases jyb h (fun y2 y3 y4 y5 y6 => some (jac jlK jjL ((y2, ()), solS y3 y4 y5 y6))) (fun y3 y4 y5 y6 => some (jac jlK jjL ((false, ()), solS y3 y4 y5 y6))) FUEL 0 (fun _ => none) (by omega) (jaU (by have := h.len; omega))
    (fun _ => .inl rfl) (fun x hx => by cases hx) (fun u hu => by cases hu) with ⟨e, hr⟩ | ⟨e, hf⟩
  · rw [decide_eq_true hr]
    exact e
  · have hn : ¬ Ring (jaE t b g) := fun ⟨z, hz⟩ => by
      obtain ⟨y, hy, _⟩ := hz.first
      have hk : jkh z := by
        cases hz with
        | one h1 => exact jbZ h1
        | step _ h1 => exact jbZ h1
      have hza : z ∈ all := h.here z hk fun e => by rw [e] at hy; cases hy
      exact (hf z (by simpa using hza)).noRing hz
    rw [decide_eq_false hn]
    exact e
end Go.AMach

/- Layer 24: the most steps, as a number. -/
namespace Go.AMach
set_option linter.unusedVariables false
set_option linter.unusedSimpArgs false
set_option linter.unnecessarySimpa false
open Go
set_option linter.unusedVariables false

def cut7 (x : Int) : Int := if x < 65537 then x else 65537
def mx (n k : Int) : Int := if k > n then k else n
def jeZ (f : ObjS → Int) (l : List Int) : Int := l.foldl (fun n b => mx n (f (1, (b, ())))) 0
def jcP (f : ObjS → Int) (kind : Int) (l : List jbt) : Int := l.foldl (fun n (b : jbt) => if kind = 1 then cut7 (n + f (1, b.2)) else mx n (f (1, b.2))) 0
def jcr (f : ObjS → Int) (i : jaj) (k : Nat) (s : List Int) : Int :=
  if i.1 = 23 then 0 else if i.1 = 22 then 0 else if i.1 = 13 then f (0, i.2.2.2.2) else if i.1 = 14 then f (2, i.2.2.2.2)
  else if i.1 = 12 then (if 0 ≤ i.2.2.2.2.1 ∧ i.2.2.2.2.1 < (k : Int) then mx (rdd 0 s 0) (rdd 0 s i.2.2.2.2.1.toNat) else rdd 0 s 0) else rdd 0 s 0
def jbb (f : ObjS → Int) : List jaj → List Int
  | [] => [0]
  | i :: r => cut7 (1 + jcr f i r.length (jbb f r)) :: jbb f r
theorem jvv (f : ObjS → Int) : ∀ l, (jbb f l).length = l.length + 1
  | [] => rfl
  | i :: r => by simp [jbb, jvv f r]
def jfd (t : TabM) (b : BlkM) (g : GrpM) (f : ObjS → Int) (x : ObjS) : Int :=
  if x.1 = 0 then cut7 (match t x.2.1 with | none => 0 | some l => jeZ f l + 1)
  else if x.1 = 1 then cut7 (rdd 0 (jbb f ((b x.2.1).getD [])) 0)
  else cut7 (jcP f ((g x.2.1).getD jak).2.1 ((g x.2.1).getD jak).2.2.2.1)

abbrev InR (x : Int) : Prop := 0 ≤ x ∧ x ≤ 65537
theorem jfs {x : Int} (h : 0 ≤ x) : InR (cut7 x) := by unfold cut7 InR; split <;> omega
theorem jre {a b : Int} (h : InR a) (k : InR b) : InR (mx a b) := by unfold mx; split <;> assumption
theorem jyN {f : ObjS → Int} (hf : ∀ y, InR (f y)) (l : List Int) : InR (jeZ f l) := by
  have : ∀ (l : List Int) (n : Int), InR n → InR (l.foldl (fun n b => mx n (f (1, (b, ())))) n) := by
    intro l
    induction l with
    | nil => intro n h; exact h
    | cons b l ih => intro n h; exact ih _ (jre h (hf _))
  exact this l 0 ⟨by omega, by omega⟩
theorem jrq {f : ObjS → Int} (hf : ∀ y, InR (f y)) (k : Int) (l : List jbt) : InR (jcP f k l) := by
  have : ∀ (l : List jbt) (n : Int), InR n → InR (l.foldl (fun n (b : jbt) => if k = 1 then cut7 (n + f (1, b.2)) else mx n (f (1, b.2))) n) := by
    intro l
    induction l with
    | nil => intro n h; exact h
    | cons b l ih =>
      intro n h
      refine ih _ ?_
      show InR (if k = 1 then cut7 (n + f (1, b.2)) else mx n (f (1, b.2)))
      by_cases c : k = 1
      · rw [if_pos c]; exact jfs (by have := hf (1, b.2); unfold InR at *; omega)
      · rw [if_neg c]; exact jre h (hf _)
  exact this l 0 ⟨by omega, by omega⟩
theorem jfB {s : List Int} (h : ∀ x ∈ s, InR x) (i : Nat) : InR (rdd 0 s i) := by
  by_cases c : i < s.length
  · exact h _ (jbn c)
  · rw [juv (by omega)]; exact ⟨by omega, by omega⟩
theorem jyx {f : ObjS → Int} (hf : ∀ y, InR (f y)) (i : jaj) (k : Nat) {s : List Int} (h : ∀ x ∈ s, InR x) : InR (jcr f i k s) := by
  unfold jcr
  have z : InR 0 := ⟨by omega, by omega⟩
  by_cases c1 : i.1 = 23
  · rw [if_pos c1]; exact z
  rw [if_neg c1]
  by_cases c2 : i.1 = 22
  · rw [if_pos c2]; exact z
  rw [if_neg c2]
  by_cases c3 : i.1 = 13
  · rw [if_pos c3]; exact hf _
  rw [if_neg c3]
  by_cases c4 : i.1 = 14
  · rw [if_pos c4]; exact hf _
  rw [if_neg c4]
  by_cases c5 : i.1 = 12
  · rw [if_pos c5]
    split
    · exact jre (jfB h _) (jfB h _)
    · exact jfB h _
  · rw [if_neg c5]; exact jfB h _
theorem jcZ {f : ObjS → Int} (hf : ∀ y, InR (f y)) : ∀ l, ∀ x ∈ jbb f l, InR x
  | [], x, h => by simp [jbb] at h; subst h; exact ⟨by omega, by omega⟩
  | i :: r, x, h => by
    rcases List.mem_cons.1 h with rfl | h
    · exact jfs (by have := jyx hf i r.length (jcZ hf r); unfold InR at this; omega)
    · exact jcZ hf r x h
theorem jCQ {t : TabM} {b : BlkM} {g : GrpM} {f : ObjS → Int} (hf : ∀ y, InR (f y)) (x : ObjS) : InR (jfd t b g f x) := by
  unfold jfd
  split
  · refine jfs ?_
    split
    · omega
    · have := jyN hf ‹List Int›; unfold InR at this; omega
  · split
    · exact jfs (jfB (jcZ hf _) _).1
    · exact jfs (jrq hf _ _).1

/-! ### It hangs on what an object leads to alone -/
theorem jgL {α : Type} {p q : Int → α → Int} : ∀ {l : List α} {n : Int}, (∀ a ∈ l, ∀ n, p n a = q n a) → l.foldl p n = l.foldl q n
  | [], _, _ => rfl
  | a :: l, n, h => by
    simp only [List.foldl_cons]
    rw [h a List.mem_cons_self]
    exact jgL fun b hb => h b (List.mem_cons_of_mem _ hb)
theorem jif {f f' : ObjS → Int} : ∀ {l : List jaj}, (∀ i ∈ l, ∀ y ∈ jfr i, f y = f' y) → jbb f l = jbb f' l
  | [], _ => rfl
  | i :: r, h => by
    have ih := jif (l := r) fun j hj => h j (List.mem_cons_of_mem _ hj)
    simp only [jbb]
    rw [ih]
    have hi := h i List.mem_cons_self
    unfold jfr at hi
    have : jcr f i r.length (jbb f' r) = jcr f' i r.length (jbb f' r) := by
      unfold jcr
      by_cases c3 : i.1 = 13
      · have := hi (0, i.2.2.2.2) (by simp [c3])
        simp only [c3]
        simp [this]
      · by_cases c4 : i.1 = 14
        · have := hi (2, i.2.2.2.2) (by simp [c4])
          simp only [c4]
          simp [this]
        · simp [c3, c4]
    rw [this]
theorem jeR {t : TabM} {b : BlkM} {g : GrpM} {f f' : ObjS → Int} {x : ObjS} (h : ∀ y ∈ jaE t b g x, f y = f' y) : jfd t b g f x = jfd t b g f' x := by
  unfold jaE at h
  unfold jfd
  by_cases c0 : x.1 = 0
  · rw [if_pos c0] at h ⊢
    rw [if_pos c0]
    cases ht : t x.2.1 with
    | none => rfl
    | some l =>
      rw [ht] at h
      simp only [Option.getD_some] at h
      have : jeZ f l = jeZ f' l := jgL fun a ha n => by rw [h (1, (a, ())) (List.mem_map.2 ⟨a, ha, rfl⟩)]
      simp only [this]
  · rw [if_neg c0] at h ⊢
    rw [if_neg c0]
    by_cases c1 : x.1 = 1
    · rw [if_pos c1] at h ⊢
      rw [if_pos c1]
      rw [jif (f := f) (f' := f') fun i hi y hy => h y (List.mem_flatMap.2 ⟨i, hi, hy⟩)]
    · rw [if_neg c1] at h ⊢
      rw [if_neg c1]
      have : jcP f ((g x.2.1).getD jak).2.1 ((g x.2.1).getD jak).2.2.2.1 = jcP f' ((g x.2.1).getD jak).2.1 ((g x.2.1).getD jak).2.2.2.1 :=
        jgL fun a ha n => by rw [h (1, a.2) (List.mem_map.2 ⟨a, ha, rfl⟩)]
      rw [this]

/-! ### The number -/
open Classical in
noncomputable def Hacc (t : TabM) (b : BlkM) (g : GrpM) (x : ObjS) (h : Ends (jaE t b g) x) : Int :=
  Acc.rec (motive := fun _ _ => Int) (fun x _ ih => jfd t b g (fun y => if hy : y ∈ jaE t b g x then ih y hy else 0) x) h
open Classical in
noncomputable def H (t : TabM) (b : BlkM) (g : GrpM) (x : ObjS) : Int := if h : Ends (jaE t b g) x then Hacc t b g x h else 0
theorem H_eq {t : TabM} {b : BlkM} {g : GrpM} {x : ObjS} (h : Ends (jaE t b g) x) : H t b g x = jfd t b g (H t b g) x := by
  have e : H t b g x = Hacc t b g x h := dif_pos h
  rw [e]
  cases h with
  | intro _ hh =>
    show jfd t b g (fun y => if hy : y ∈ jaE t b g x then Hacc t b g y (hh y hy) else 0) x = _
    refine jeR fun y hy => ?_
    rw [dif_pos hy]
    exact (dif_pos (hh y hy)).symm
theorem H_in (t : TabM) (b : BlkM) (g : GrpM) (x : ObjS) : InR (H t b g x) := by
  by_cases h : Ends (jaE t b g) x
  · have : ∀ x (h : Ends (jaE t b g) x), InR (Hacc t b g x h) := by
      intro x h
      induction h with
      | intro x hh ih =>
        show InR (jfd t b g (fun y => if hy : y ∈ jaE t b g x then Hacc t b g y (hh y hy) else 0) x)
        refine jCQ (fun y => ?_) x
        by_cases hy : y ∈ jaE t b g x
        · rw [dif_pos hy]; exact ih y hy
        · rw [dif_neg hy]; exact ⟨by omega, by omega⟩
    have e : H t b g x = Hacc t b g x h := dif_pos h
    rw [e]; exact this x h
  · have e : H t b g x = 0 := dif_neg h
    rw [e]; exact ⟨by omega, by omega⟩
end Go.AMach
