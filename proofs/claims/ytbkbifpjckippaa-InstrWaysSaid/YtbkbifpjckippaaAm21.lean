/- The abstract machine: what a function comes to, as data; contracts out of it. -/
import Derived.Test.YtbkbifpjckippaaAm19
namespace Go.AMach
set_option linter.unusedVariables false
set_option linter.unusedSimpArgs false
set_option linter.unnecessarySimpa false
set_option linter.unusedSectionVars false
/-- No range over a function. -/
instance (priority := low) noSites : Sites := ⟨fun _ => none⟩
set_option linter.unusedVariables false

theorem enc_size : ∀ (T : Ty) (s : T.sem), (T.enc s).length = T.size := enc_length
theorem undo_of_enc : ∀ (T : Ty) (s : T.sem), T.undo (T.enc s) = some s
  | .int k, s => by simp [Ty.undo, Ty.enc]
  | .bool, s => by simp [Ty.undo, Ty.enc]
  | .str, s => by simp [Ty.undo, Ty.enc]
  | .slice t, s => by simp [Ty.undo, Ty.enc]
  | .unit, s => by simp [Ty.undo, Ty.enc]
  | .pair t r, s => by
    simp only [Ty.undo, Ty.enc]
    rw [List.take_left' (enc_length t _), List.drop_left' (enc_length t _), undo_of_enc t, undo_of_enc r]
def Ty.single : Ty → Bool
  | .unit => false
  | .pair _ _ => false
  | _ => true
/-- Kinds that are told back. -/
def EK.okk : EK → Bool
  | .ty T => T.single
  | _ => true
theorem capsAre_of : ∀ l, capsAre l (capAVs l) = true
  | [] => rfl
  | (i, e, j) :: r => by
    have : capIs (i, e, j) (capAV (i, e, j)) = true := by
      unfold capIs capAV
      cases Nat.beq (i, e, j).1 NILCAP with
      | true => rfl
      | false => simp
    simp [capAVs, capsAre, capsAre_of r, this]
theorem EK.dec_of_enc : ∀ (k : EK) (s : k.sem), k.okk = true → k.dec (k.enc s) = some s
  | .ty T, s, h => by
    simp only [EK.dec, EK.enc]
    have : ∃ c, T.enc s = [c] := by
      cases T <;> simp [EK.okk, Ty.single] at h <;> exact ⟨_, rfl⟩
    obtain ⟨c, hc⟩ := this
    have h2 := undo_of_enc T s
    rw [hc] at h2 ⊢
    exact h2
  | .agg T, s, h => undo_of_enc T s
  | .hs id e, s, h => by simp [EK.dec, EK.enc]
  | .hv id, s, h => by simp [EK.dec, EK.enc]
  | .ptr id e j, s, h => by simp [EK.dec, EK.enc]
  | .mp id, s, h => by simp [EK.dec, EK.enc]
  | .yl id, s, h => by simp [EK.dec, EK.enc]
  | .nul k, s, h => by
    match k with
    | 0 => rfl
    | 1 => rfl
    | 2 => rfl
    | 3 => rfl
    | _ + 4 => rfl
  | .fn f caps, s, h => by simp [EK.dec, EK.enc, capsAre_of]
  | .mv f caps, s, h => by simp [EK.dec, EK.enc, capsAre_of]
  | .ci k n, s, h => by simp [EK.dec, EK.enc]
  | .cb b, s, h => by simp [EK.dec, EK.enc]
  | .junk, s, h => rfl
def EK.okks : List EK → Bool
  | [] => true
  | k :: r => k.okk && EK.okks r
theorem EK.decs_of_encs : ∀ (l : List EK) (s : EK.sems l), EK.okks l = true → EK.decs l (EK.encs l s) = some s
  | [], s, h => rfl
  | k :: r, s, h => by
    simp only [EK.okks, Bool.and_eq_true] at h
    simp only [EK.encs, EK.decs]
    rw [EK.dec_of_enc k _ h.1, EK.decs_of_encs r _ h.2]
def HK.okk : HK → Bool
  | .one _ ks => EK.okks ks
  | .lp _ ks => EK.okks ks
  | _ => true
theorem HK.dec_of_enc : ∀ (k : HK) (s : k.sem), k.okk = true → k.dec (k.enc s) = some s
  | .row T, s, h => by simp [HK.dec, HK.enc]
  | .cell T, s, h => by simp [HK.dec, HK.enc]
  | .one p ks, s, h => by simp [HK.dec, HK.enc, EK.decs_of_encs ks s h]
  | .mf K V, s, h => by simp [HK.dec, HK.enc]
  | .lp k ks, s, h => by simp [HK.dec, HK.enc, EK.decs_of_encs ks s h]
  | .gone, s, h => rfl
def HK.okks : List HK → Bool
  | [] => true
  | k :: r => k.okk && HK.okks r
theorem HK.decs_of_encs : ∀ (l : List HK) (s : HK.sems l), HK.okks l = true → HK.decs l (HK.encs l s) = some s
  | [], s, h => rfl
  | k :: r, s, h => by
    simp only [HK.okks, Bool.and_eq_true] at h
    simp only [HK.encs, HK.decs]
    rw [HK.dec_of_enc k _ h.1, HK.decs_of_encs r _ h.2]

/-! ### Results -/
def unOr (n : Nat) (x : AV) : Option (List AV) := match n with
  | 1 => some [x]
  | _ => match x with
    | .tup xs => some xs
    | _ => none
def encRes (es : List EK) (hs : List HK) (r : EK.sems es × HK.sems hs) : Res := (.ok (oneOr (EK.encs es r.1)), HK.encs hs r.2)
def decRes (es : List EK) (hs : List HK) : Option Res → Option (EK.sems es × HK.sems hs)
  | some (.ok x, H) => match unOr es.length x with
    | some xs => match EK.decs es xs, HK.decs hs H with
      | some a, some b => some (a, b)
      | _, _ => none
    | none => none
  | _ => none
theorem encs_length : ∀ (es : List EK) (s : EK.sems es), (EK.encs es s).length = es.length
  | [], s => rfl
  | k :: r, s => by simp [EK.encs, encs_length r]
theorem unOr_oneOr (xs : List AV) : unOr xs.length (oneOr xs) = some xs := by
  match xs with
  | [] => rfl
  | [x] => rfl
  | x :: y :: r => rfl
theorem oneOr_unOr {n : Nat} {x : AV} {xs : List AV} (h : unOr n x = some xs) (hl : xs.length = n) : oneOr xs = x := by
  unfold unOr at h
  split at h
  · cases h; rfl
  · rename_i h1
    cases x with
    | tup ys =>
      cases h
      match xs, hl with
      | [], _ => rfl
      | [x], hl => exact absurd hl.symm h1
      | x :: y :: r, _ => rfl
    | _ => cases h
theorem decRes_enc (es : List EK) (hs : List HK) (r : EK.sems es × HK.sems hs) (h : (EK.okks es && HK.okks hs) = true) : decRes es hs (some (encRes es hs r)) = some r := by
  simp only [Bool.and_eq_true] at h
  have : unOr es.length (oneOr (EK.encs es r.1)) = some (EK.encs es r.1) := by
    rw [← encs_length es r.1]; exact unOr_oneOr _
  simp only [decRes, encRes]
  rw [this]
  simp only []
  rw [EK.decs_of_encs es _ h.1, HK.decs_of_encs hs _ h.2]
theorem decRes_some {es : List EK} {hs : List HK} {o : Option Res} {r : EK.sems es × HK.sems hs} (h : decRes es hs o = some r) : o = some (encRes es hs r) := by
  unfold decRes at h
  split at h
  case h_2 => cases h
  rename_i x H
  split at h
  case h_2 => cases h
  rename_i xs hx
  split at h
  case h_2 => cases h
  rename_i a b h1 h2
  cases h
  have e1 := EK.decs_encs _ _ _ h1
  have e2 := HK.decs_encs _ _ _ h2
  have hl : xs.length = es.length := by rw [e1, encs_length]
  have := oneOr_unOr hx hl
  rw [e1] at this
  simp only [encRes]
  rw [this, e2]

def EK.dfl : (k : EK) → k.sem
  | .ty T => T.dflt
  | .agg T => T.dflt
  | .hs _ _ => (0 : Nat)
  | .hv _ => ((0 : Nat), (0 : Nat))
  | .ptr _ _ _ => ()
  | .mp _ => ()
  | .yl _ => ()
  | .nul _ => ()
  | .fn _ _ => ()
  | .mv _ _ => ()
  | .ci _ _ => ()
  | .cb _ => ()
  | .junk => ()
def EK.dfls : (l : List EK) → EK.sems l
  | [] => ()
  | k :: r => (k.dfl, EK.dfls r)
def HK.dfl : (k : HK) → k.sem
  | .row T => []
  | .cell T => T.dflt
  | .one _ ks => EK.dfls ks
  | .mf _ _ => fun _ => none
  | .lp _ ks => EK.dfls ks
  | .gone => ()
def HK.dfls : (l : List HK) → HK.sems l
  | [] => ()
  | k :: r => (k.dfl, HK.dfls r)
abbrev RS (es : List EK) (hs : List HK) : Type := EK.sems es × HK.sems hs
def RS.get {es : List EK} {hs : List HK} (o : Option (RS es hs)) : RS es hs := o.getD (EK.dfls es, HK.dfls hs)

/-- A contract: what a plain function comes to. -/
def specQ (es : List EK) (hs : List HK) (eo : List EK) (ho : List HK) (Q : EK.sems es → HK.sems hs → Option (RS eo ho)) : Spec := fun args H =>
  match EK.decs es args, HK.decs hs H with
  | some a, some b => .br (Q a b).isSome (.leaf (encRes eo ho (RS.get (Q a b))).1 (encRes eo ho (RS.get (Q a b))).2) .no
  | _, _ => .no

variable [Sites]
theorem specQ_ok {P : Program} (hm : P.follows .mixedOrders = true) {cf : CallF} (hcf : CallSound P cf) {f : FuncId} {pol : Pol} {es : List EK} {hs : List HK} {eo : List EK} {ho : List HK} {Q : EK.sems es → HK.sems hs → Option (RS eo ho)}
    (h : ∀ a b r, Q a b = some r → ∃ n, runF P cf n pol f (EK.encs es a) (HK.encs hs b) = some (encRes eo ho r)) : SpecOk P f (specQ es hs eo ho Q) := by
  intro ι φ H w args vs r H' hS hfr hv hc
  unfold specQ at hc
  split at hc
  case h_2 => cases hc
  rename_i a b h1 h2
  have e1 := EK.decs_encs _ _ _ h1
  have e2 := HK.decs_encs _ _ _ h2
  subst e1; subst e2
  cases hq : Q a b with
  | none => rw [hq] at hc; simp [Tr.val] at hc
  | some q =>
    rw [hq] at hc
    obtain ⟨n, hn⟩ := h a b q hq
    simp only [RS.get, Option.getD_some, Option.isSome_some, Tr.val, if_true, Option.some.injEq] at hc
    have e : encRes eo ho q = (r, H') := hc
    rw [e] at hn
    exact sound hm hcf hS hfr hv hn

theorem specs_nil {P : Program} : ∀ x ∈ ([] : List (FuncId × Spec)), SpecOk P x.1 x.2 := fun x hx => by cases hx
theorem specs_cons {P : Program} {f : FuncId} {c : Spec} {l : List (FuncId × Spec)} (h : SpecOk P f c) (hl : ∀ x ∈ l, SpecOk P x.1 x.2) : ∀ x ∈ (f, c) :: l, SpecOk P x.1 x.2 := by
  intro x hx
  rcases List.mem_cons.1 hx with rfl | hx
  · exact h
  · exact hl x hx
/-- One contract, or another one. -/
def orSpec (c d : Spec) : Spec := fun args H => match c args H with
  | .no => d args H
  | r => r
theorem orSpec_ok {P : Program} {f : FuncId} {c d : Spec} (hc : SpecOk P f c) (hd : SpecOk P f d) : SpecOk P f (orSpec c d) := by
  intro ι φ H w args vs r H' hS hfr hv h
  unfold orSpec at h
  split at h
  · exact hd ι φ H w args vs r H' hS hfr hv h
  · exact hc ι φ H w args vs r H' hS hfr hv h
/-- A contract that says nothing. -/
def noSpec : Spec := fun _ _ => .no
theorem noSpec_ok {P : Program} {f : FuncId} : SpecOk P f noSpec := fun _ _ _ _ _ _ _ _ _ _ _ h => by cases h

/-- A contract by cases. -/
def specTr (es : List EK) (hs : List HK) (R : EK.sems es → HK.sems hs → Tr) : Spec := fun args H =>
  match EK.decs es args, HK.decs hs H with
  | some a, some b => R a b
  | _, _ => .no
/-- One case: results of these kinds; else the other ones. -/
def altTr (eo : List EK) (ho : List HK) (q : Option (RS eo ho)) (e : Tr) : Tr := .br q.isSome (.leaf (encRes eo ho (RS.get q)).1 (encRes eo ho (RS.get q)).2) e
theorem altTr_val {eo : List EK} {ho : List HK} {q : Option (RS eo ho)} {e : Tr} {r : Res} (h : (altTr eo ho q e).val = some r) : (∃ x, q = some x ∧ encRes eo ho x = r) ∨ e.val = some r := by
  unfold altTr at h
  cases q with
  | none => exact .inr (by simpa [Tr.val] using h)
  | some x => left; exact ⟨x, rfl, by simpa [Tr.val, RS.get] using h⟩
theorem specTr_ok {P : Program} (hm : P.follows .mixedOrders = true) {cf : CallF} (hcf : CallSound P cf) {f : FuncId} {pol : Pol} {es : List EK} {hs : List HK} {R : EK.sems es → HK.sems hs → Tr}
    (h : ∀ a b r, (R a b).val = some r → ∃ n, runF P cf n pol f (EK.encs es a) (HK.encs hs b) = some r) : SpecOk P f (specTr es hs R) := by
  intro ι φ H w args vs r H' hS hfr hv hc
  unfold specTr at hc
  split at hc
  case h_2 => simp [Tr.val] at hc
  rename_i a b h1 h2
  have e1 := EK.decs_encs _ _ _ h1
  have e2 := HK.decs_encs _ _ _ h2
  subst e1; subst e2
  obtain ⟨n, hn⟩ := h a b _ hc
  exact sound hm hcf hS hfr hv hn

/-- A list's part at a place; what stands in its place behind the end. -/
def rdd {α : Type} (d : α) (l : List α) (i : Nat) : α := l.getD i d
/-- A part of a list. -/
def cutL {α : Type} (d : α) (l : List α) (a n : Nat) : List α := mkL n fun i => rdd d l (i + a)
/-- How often loops go round, at most; how deep calls go. -/
def FUEL : Nat := 18446744073709551616
end Go.AMach
