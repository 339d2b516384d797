/- The abstract machine: contracts of functions, in a table. -/
import Derived.Test.YtbkbifpjckippaaAm18
import GoSem.Claim
namespace Go.AMach
set_option linter.unusedVariables false
set_option linter.unusedSimpArgs false
set_option linter.unnecessarySimpa false
set_option linter.unusedSectionVars false
variable [Sites]
set_option linter.unusedVariables false

abbrev Spec := List AV → AH → Tr

/-- What a contract claims. -/
def SpecOk (P : Program) (f : FuncId) (c : Spec) : Prop := ∀ (ι : Iota) (φ : Phi) (H : AH) (w : World) (args : List AV) (vs : List Value) (r : AR AV) (H' : AH),
  SRel ι φ H w → (∀ i, H.length ≤ i → φ i = .none) → ARels ι φ vs args → (c args H).val = some (r, H') → Calls P f vs.toArray w (CallPost ι φ H w r H')

def tab : List (FuncId × Spec) → FuncId → Spec
  | [], _ => fun _ _ => .no
  | (g, c) :: r, f => cond (Nat.beq f g) c (tab r f)
def lends : List (FuncId × List Ty) → FuncId → Option (List Ty)
  | [], _ => none
  | (g, c) :: r, f => cond (Nat.beq f g) (some c) (lends r f)

def mixes : List (FuncId × List (Option Ty)) → FuncId → Option (List (Option Ty))
  | [], _ => none
  | (g, c) :: r, f => cond (Nat.beq f g) (some c) (mixes r f)

def mkCF (l : List (FuncId × Spec)) (m : List (FuncId × List Ty)) : CallF := { call := tab l, lend := lends m }
def mkCFs (l : List (FuncId × Spec)) (m : List (FuncId × List Ty)) (f : FuncId) (k : Nat) (held : List Nat) : CallF := { call := tab l, lend := lends m, site := some (f, k), held := held }

theorem tab_call {P : Program} {l : List (FuncId × Spec)} (h : ∀ x ∈ l, SpecOk P x.1 x.2) : ∀ (ι : Iota) (φ : Phi) (H : AH) (w : World) (f : FuncId) (args : List AV) (vs : List Value) (r : AR AV) (H' : AH),
    SRel ι φ H w → (∀ i, H.length ≤ i → φ i = .none) → ARels ι φ vs args → (tab l f args H).val = some (r, H') → Calls P f vs.toArray w (CallPost ι φ H w r H') := by
  have key : ∀ (l : List (FuncId × Spec)), (∀ x ∈ l, SpecOk P x.1 x.2) → ∀ (ι : Iota) (φ : Phi) (H : AH) (w : World) (f : FuncId) (args : List AV) (vs : List Value) (r : AR AV) (H' : AH),
      SRel ι φ H w → (∀ i, H.length ≤ i → φ i = .none) → ARels ι φ vs args → (tab l f args H).val = some (r, H') → Calls P f vs.toArray w (CallPost ι φ H w r H') := by
    intro l
    induction l with
    | nil => intro _ ι φ H w f args vs r H' _ _ _ h; cases h
    | cons x l ih =>
      intro hx ι φ H w f args vs r H' hS hfr hv h
      obtain ⟨g, c⟩ := x
      simp only [tab] at h
      cases hb : Nat.beq f g with
      | true =>
        rw [hb] at h
        have := Nat.eq_of_beq_eq_true hb
        subst this
        exact hx _ List.mem_cons_self ι φ H w args vs r H' hS hfr hv h
      | false =>
        rw [hb] at h
        exact ih (fun y hy => hx y (List.mem_cons_of_mem _ hy)) ι φ H w f args vs r H' hS hfr hv h
  exact fun ι φ H w f args vs r H' hS hfr hv h' => key l h ι φ H w f args vs r H' hS hfr hv h'
theorem tab_ok {P : Program} {l : List (FuncId × Spec)} {m : List (FuncId × List Ty)} (h : ∀ x ∈ l, SpecOk P x.1 x.2) : CallSound P (mkCF l m) := ⟨fun f k fn c hs => (by cases hs), tab_call h⟩
theorem tabs_ok {P : Program} {l : List (FuncId × Spec)} {m : List (FuncId × List Ty)} {f : FuncId} {k : Nat} {held : List Nat} {fn : Func} {c : Code} (hf : P.funcs[f]? = some fn) (hc : fn.body = some c) (hr : RfOk k c) (h : ∀ x ∈ l, SpecOk P x.1 x.2) : CallSound P (mkCFs l m f k held) :=
  ⟨fun f' k' fn' c' hs h1 h2 => by
    cases hs
    rw [hf] at h1; cases h1
    rw [hc] at h2; cases h2
    exact hr, tab_call h⟩

theorem CallSound.mix {P : Program} {cf : CallF} {g : FuncId → Option (List (Option Ty))} (h : CallSound P cf) : CallSound P { cf with mix := g } := ⟨h.site, h.call⟩
theorem CallSound.arr {P : Program} {cf : CallF} {g : List TypeId} (h : CallSound P cf) : CallSound P { cf with arr := g } := ⟨h.site, h.call⟩
theorem CallSound.grow {P : Program} {cf : CallF} {g : List TypeId} (h : CallSound P cf) : CallSound P { cf with grow := g } := ⟨h.site, h.call⟩
/-- How many bytes a datum takes at least. -/
def Ty.minb : Ty → Nat
  | .int k => k.bits / 8
  | .bool => 1
  | .str => 16
  | .slice _ => 24
  | .unit => 0
  | .pair a b => a.minb + b.minb

/-- Numbers in their ranges, sizes in theirs. -/
def Ty.good : (T : Ty) → T.sem → Prop
  | .int k, x => (Lit.int k x).wf = true
  | .bool, _ => True
  | .str, s => s.size ≤ 140737488351232
  | .slice t, l => l.length * t.minb ≤ 140737488351232 ∧ ∀ x ∈ l, t.good x
  | .unit, _ => True
  | .pair a b, p => a.good p.1 ∧ b.good p.2

end Go.AMach
