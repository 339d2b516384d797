/- The abstract machine: one part of a code is told by a contract of its own (a part that the machine does not step through). -/
import Derived.Test.YtbkbifpjckippaaAm26
namespace Go.AMach
set_option linter.unusedVariables false
set_option linter.unusedSimpArgs false
set_option linter.unnecessarySimpa false
set_option linter.unusedSectionVars false
set_option linter.unusedVariables false
set_option linter.unusedSimpArgs false

/-- A part of a code: what is kept of the state ahead of it, the slots that it reads, the slot that it writes, what it comes to. -/
structure TailS where
  keep : Keep
  ins : List Nat
  out : Nat
  spec : Spec
  fin : Bool := false

variable (P : Program) [Sites]

def looks (e : Env) : List Nat → List AV
  | [] => []
  | t :: r => look e t :: looks e r

def tailK (n0 : Nat) (tl : TailS) (s : St) (K : Cont) : Option Res :=
  match gc n0 (some tl.keep) s with
  | none => none
  | some s => cond (Nat.beq s.nx s.heap.length) ((tl.spec (looks s.env tl.ins) s.heap).fold fun r H2 => match r with
    | .ok x => K (cond tl.fin .rt .nm) ⟨[(tl.out, x)], H2, H2.length⟩
    | .pn _ => none) none

/-- A run; one part of the code is told by its contract. -/
def runX (tl : TailS) (cf : CallF) (N n0 : Nat) (pol : Pol) (ls : Loops) : Code → List Nat → St → Cont → Option Res
  | .seq a b, p, s, K => match p with
    | 0 :: p => runX tl cf N n0 pol ls a p s fun x s => match x with
      | .nm => runT P cf N n0 pol ls b s K
      | x => K x s
    | _ :: p => runT P cf N n0 pol ls a s fun x s => match x with
      | .nm => runX tl cf N n0 pol ls b p s K
      | x => K x s
    | [] => tailK n0 tl s K
  | .cond c a b, p, s, K => match p with
    | [] => tailK n0 tl s K
    | i :: p => match ev s.env c with
      | .v (.bool t) => match i with
        | 0 => cond t (runX tl cf N n0 pol ls a p (replE s c true) K) (runT P cf N n0 pol ls b (replE s c false) K)
        | _ => cond t (runT P cf N n0 pol ls a (replE s c true) K) (runX tl cf N n0 pol ls b p (replE s c false) K)
      | _ => none
  | _, _, s, K => tailK n0 tl s K
def runFX (tl : TailS) (pth : List Nat) (cf : CallF) (pol : Pol) (ls : Loops) (fn : Func) (c : Code) (args : List AV) (H : AH) : Option Res :=
  runX P tl cf fn.ntmps H.length pol ls c pth (startS pol.free args H) (endK P fn H.length pol)

def partAt : Code → List Nat → Code
  | .seq a b, p => match p with
    | 0 :: p => partAt a p
    | _ :: p => partAt b p
    | [] => .seq a b
  | .cond c a b, p => match p with
    | 0 :: p => partAt a p
    | _ :: p => partAt b p
    | [] => .cond c a b
  | c, _ => c

variable {P}
/-- What a part's contract claims. -/
def TailOk (P : Program) (N : Nat) (c : Code) (ins : List Nat) (out : Nat) (fin : Bool) (spec : Spec) : Prop := ∀ (ι : Iota) (φ : Phi) (H : AH) (w : World) (a : Act) (xs : List AV) (x : AV) (H' : AH),
  SRel ι φ H w → (∀ i, H.length ≤ i → φ i = .none) → ARels ι φ (ins.map fun t => a.tmps.getD t undef) xs → a.tmps.size = N → (spec xs H).val = some (.ok x, H') →
  c.wpIn (FR none) 0 P (fun e a' w' => e = cond fin .ret .normal ∧ a'.defers = a.defers ∧ a'.tmps.size = N ∧ ∃ ι' φ', Ext φ φ' H.length H'.length ∧ SRel ι' φ' H' w' ∧ Frm ι H φ w ι' H' φ' w' ∧ ARel ι' φ' (a'.tmps.getD out undef) x) a w

theorem looks_rel {ι φ} {tmps : Array Value} {env : Env} (h : ERel ι φ tmps env) : ∀ l : List Nat, ARels ι φ (l.map fun t => tmps.getD t undef) (looks env l)
  | [] => ARels.nil
  | t :: r => (looks_rel h r).cons (h t)

theorem tail_sound {tl : TailS} {c : Code} {ι0 φ0 n0 H0 w0 N} (ht : TailOk P N c tl.ins tl.out tl.fin tl.spec) {ι φ s a w} (hI : Inv ι0 φ0 n0 H0 w0 N ι φ s a w) {K : Cont} {r : Res} (h : tailK n0 tl s K = some r) :
    c.wpIn (FR none) 0 P (fun e a' w' => ∃ x s', RPost ι0 φ0 n0 H0 w0 N x s' e a' w' ∧ K x s' = some r) a w := by
  unfold tailK at h
  cases hg : gc n0 (some tl.keep) s with
  | none => rw [hg] at h; cases h
  | some s1 =>
  rw [hg] at h
  obtain ⟨ι1, φ1, hI1⟩ := gc_sound hI hg
  simp only [] at h
  cases hb : Nat.beq s1.nx s1.heap.length with
  | false => rw [hb] at h; cases h
  | true =>
  rw [hb, cond_true, Tr.fold_val] at h
  have hn := Nat.eq_of_beq_eq_true hb
  cases hc : (tl.spec (looks s1.env tl.ins) s1.heap).val with
  | none => rw [hc] at h; cases h
  | some y =>
  obtain ⟨y, H2⟩ := y
  rw [hc] at h
  cases y with
  | pn y => cases h
  | ok x =>
  have h : K (cond tl.fin .rt .nm) ⟨[(tl.out, x)], H2, H2.length⟩ = some r := h
  refine wpIn_mono (ht ι1 φ1 s1.heap w a _ x H2 hI1.rel (fun i hi => hI1.fresh i (by omega)) (looks_rel hI1.env tl.ins) hI1.size hc) fun e a' w' ⟨he, hd, hN, ι2, φ2, g1, g2, g3, g4⟩ => ?_
  subst he
  refine ⟨_, _, ⟨ι2, φ2, hI1.step (by rw [hn]; exact g1) g2 g3 (env := [(tl.out, x)]) (fun t => ?_) hN hd, by cases tl.fin <;> trivial⟩, h⟩
  rw [look_cons]
  split
  · rename_i e; subst e; exact g4
  · exact .junk _

theorem runX_sound (hm : P.follows .mixedOrders = true) {tl : TailS} {cf : CallF} (hcf : CallSound P cf) {ι0 φ0 n0 H0 w0 N} {n : Nat} {pol : Pol} {ls : Loops} : ∀ (c : Code) (p : List Nat) (hsite : ∀ f k, cf.site = some (f, k) → RfOk k c) (s : St) (a : Act) (w : World) (ι : Iota) (φ : Phi) (K : Cont) (r : Res),
    LOk P cf N n0 n pol ls c → TailOk P N (partAt c p) tl.ins tl.out tl.fin tl.spec → Inv ι0 φ0 n0 H0 w0 N ι φ s a w → runX P tl cf N n0 pol ls c p s K = some r →
    c.wpIn (FR none) 0 P (fun e a' w' => ∃ x s', RPost ι0 φ0 n0 H0 w0 N x s' e a' w' ∧ K x s' = some r) a w := by
  have hdr := draw_sound hm hcf
  have plain : ∀ (c : Code) (hsite : ∀ f k, cf.site = some (f, k) → RfOk k c) (s : St) (a : Act) (w : World) (ι : Iota) (φ : Phi) (K : Cont) (r : Res), LOk P cf N n0 n pol ls c → Inv ι0 φ0 n0 H0 w0 N ι φ s a w → runT P cf N n0 pol ls c s K = some r →
      c.wpIn (FR none) 0 P (fun e a' w' => ∃ x s', RPost ι0 φ0 n0 H0 w0 N x s' e a' w' ∧ K x s' = some r) a w := fun c hsite s a w ι φ K r hL hI h => by
    obtain ⟨x, s', h1, h2⟩ := runT_some P c none s K r hL h
    exact wpIn_mono (run_sound hcf hdr c hsite none s a w ι φ x s' hI h1) fun e a' w' hq => ⟨x, s', hq, h2⟩
  intro c
  induction c with
  | seq c1 c2 ih1 ih2 =>
    intro p hsite s a w ι φ K r hL ht hI h
    have h1 : ∀ f k, cf.site = some (f, k) → RfOk k c1 := fun f k h => (hsite f k h).1
    have h2 : ∀ f k, cf.site = some (f, k) → RfOk k c2 := fun f k h => (hsite f k h).2
    have join : ∀ {R : AX → St → Option Res}, (∀ s1 a1 w1 ι1 φ1, Inv ι0 φ0 n0 H0 w0 N ι1 φ1 s1 a1 w1 → R .nm s1 = some r → c2.wpIn (FR none) 0 P (fun e a' w' => ∃ x s', RPost ι0 φ0 n0 H0 w0 N x s' e a' w' ∧ K x s' = some r) a1 w1) →
        (∀ x s, x ≠ .nm → R x s = K x s) → c1.wpIn (FR none) 0 P (fun e a' w' => ∃ x s', RPost ι0 φ0 n0 H0 w0 N x s' e a' w' ∧ R x s' = some r) a w →
        (Code.seq c1 c2).wpIn (FR none) 0 P (fun e a' w' => ∃ x s', RPost ι0 φ0 n0 H0 w0 N x s' e a' w' ∧ K x s' = some r) a w := fun {R} hR hK hw => by
      refine wpIn_seq (wpIn_mono hw fun e a1 w1 ⟨x, s1, ⟨ι1, φ1, hI1, hx⟩, hr⟩ => ?_)
      cases x <;> cases e <;> simp [XRel] at hx <;>
        first
          | exact hR s1 a1 w1 ι1 φ1 hI1 hr
          | (rw [hK _ _ (by simp)] at hr; exact ⟨_, s1, ⟨ι1, φ1, hI1, by simp [XRel] <;> exact hx⟩, hr⟩)
    cases p with
    | nil => exact tail_sound ht hI (by simpa [runX] using h)
    | cons i p =>
      cases i with
      | zero =>
        simp only [runX] at h
        exact join (R := fun x s => match x with | .nm => runT P cf N n0 pol ls c2 s K | x => K x s) (fun s1 a1 w1 ι1 φ1 hI1 hr => plain c2 h2 s1 a1 w1 ι1 φ1 K r hL.2 hI1 hr) (fun x s hx => by cases x <;> first | exact absurd rfl hx | rfl)
          (ih1 p h1 s a w ι φ _ r hL.1 ht hI h)
      | succ i =>
        simp only [runX] at h
        exact join (R := fun x s => match x with | .nm => runX P tl cf N n0 pol ls c2 p s K | x => K x s) (fun s1 a1 w1 ι1 φ1 hI1 hr => ih2 p h2 s1 a1 w1 ι1 φ1 K r hL.2 ht hI1 hr) (fun x s hx => by cases x <;> first | exact absurd rfl hx | rfl)
          (plain c1 h1 s a w ι φ _ r hL.1 hI h)
  | cond c c1 c2 ih1 ih2 =>
    intro p hsite s a w ι φ K r hL ht hI h
    have h1 : ∀ f k, cf.site = some (f, k) → RfOk k c1 := fun f k h => (hsite f k h).1
    have h2 : ∀ f k, cf.site = some (f, k) → RfOk k c2 := fun f k h => (hsite f k h).2
    cases p with
    | nil => exact tail_sound ht hI (by simpa [runX] using h)
    | cons i p =>
      simp only [runX] at h
      split at h
      case h_2 => cases h
      rename_i t hte
      have hc := ev_rel hI.env c
      rw [hte] at hc
      generalize hv : a.eval c = v at hc
      cases hc
      cases i with
      | zero =>
        cases t with
        | true => simp only [cond_true] at h; rw [replE_same hte] at h; exact wpIn_cond_true hv (ih1 p h1 s a w ι φ K r hL.1 ht hI h)
        | false => simp only [cond_false] at h; rw [replE_same hte] at h; exact wpIn_cond_false hv (plain c2 h2 s a w ι φ K r hL.2 hI h)
      | succ i =>
        cases t with
        | true => simp only [cond_true] at h; rw [replE_same hte] at h; exact wpIn_cond_true hv (plain c1 h1 s a w ι φ K r hL.1 hI h)
        | false => simp only [cond_false] at h; rw [replE_same hte] at h; exact wpIn_cond_false hv (ih2 p h2 s a w ι φ K r hL.2 ht hI h)
  | _ => intro p hsite s a w ι φ K r hL ht hI h; exact tail_sound ht hI (by simpa [runX] using h)

theorem runFX_sound (hm : P.follows .mixedOrders = true) {tl : TailS} {pth : List Nat} {cf : CallF} (hcf : CallSound P cf) {n : Nat} {pol : Pol} {ls : Loops} {ι : Iota} {φ : Phi} {H : AH} {w : World} {f : FuncId} {fn : Func} {c : Code} {args : List AV} {vs : List Value} {r : AR AV} {H' : AH}
    (hfn : P.funcs[f]? = some fn) (hbody : fn.body = some c) (hlen : args.length ≤ fn.ntmps) (hsf : (cf.site.map (·.1)).getD f = f) (hmv : nodupB (moved pol.free H.length) = true)
    (hL : LOk P cf fn.ntmps H.length n pol ls c) (ht : TailOk P fn.ntmps (partAt c pth) tl.ins tl.out tl.fin tl.spec)
    (hS : SRel ι φ H w) (hfr : ∀ i, H.length ≤ i → φ i = .none) (hv : ARels ι φ vs args) (h : runFX P tl pth cf pol ls fn c args H = some (r, H')) : Calls P f vs.toArray w (CallPost ι φ H w r H') := by
  refine callsIn_wide.1 (callsIn_of_wp_marks (n := 0) hfn hbody trivial ?_)
  have hI : Inv ι φ H.length H w fn.ntmps ι (startφ φ H.length pol.free) (startS pol.free args H) { tmps := vs.toArray ++ Array.replicate (fn.ntmps - vs.toArray.size) undef, defers := [] } w :=
    start_inv hS hfr hv (nodupB_nodup hmv) (by simp [hv.1]; omega) fun k hk => by
      rw [Array.getD_eq_getD_getElem?, List.getD_eq_getElem?_getD, Nat.zero_add, Array.getElem?_append_left (by simpa using hk)]
      simp
  refine wpIn_mono (runX_sound hm hcf c pth (fun f' k hs => by
    have : f' = f := by rw [hs] at hsf; exact hsf
    subst this
    exact hcf.site f' k fn c hs hfn hbody) _ _ w ι _ _ (r, H') hL ht hI h) fun e a w' ⟨x, s, ⟨ι', φ', hI', hx⟩, hK⟩ => ?_
  have ret : retA P H.length pol fn.results.toList s = some (r, H') → LeavesInM (FR none) 0 P fn a.tmps (CallPost ι φ H w r H') a.defers .returning w' := fun h => by
    unfold retA at h
    split at h
    case h_2 => cases h
    rename_i xs hres
    simp only [Option.map_eq_some_iff, Prod.mk.injEq] at h
    obtain ⟨⟨ys, H2⟩, hf, rfl, rfl⟩ := h
    refine marks_leave (by simp) hI' fun w2 hI2 => ?_
    obtain ⟨us, g1, g2⟩ := results_rel (P := P) hI2.rel hI2.env hres
    obtain ⟨ι2, φ2, k1, k2, k3, k4⟩ := finish_sound hI2 hfr g2 hf
    exact ⟨_, results_run g1, ι2, φ2, k1, k2, k3, _, rfl, oneOr_rel k4⟩
  cases x with
  | nm =>
    cases e <;> simp [XRel] at hx
    exact ret hK
  | rt =>
    cases e <;> simp [XRel] at hx
    exact ret hK
  | pn x => cases hK
  | ex i => cases hK
  | gt i => cases hK

theorem hencs_length : ∀ (hs : List HK) (b : HK.sems hs), (HK.encs hs b).length = hs.length
  | [], _ => rfl
  | k :: r, s => by simp [HK.encs, hencs_length r]

theorem specX_ok (hm : P.follows .mixedOrders = true) {tl : TailS} {pth : List Nat} {cf : CallF} (hcf : CallSound P cf) {f : FuncId} {fn : Func} {c : Code} {n : Nat} {pol : Pol} {ls : Loops} {es : List EK} {hs : List HK} {eo : List EK} {ho : List HK} {Q : EK.sems es → HK.sems hs → Option (RS eo ho)}
    (hfn : P.funcs[f]? = some fn) (hbody : fn.body = some c) (hlen : es.length ≤ fn.ntmps) (hsf : (cf.site.map (·.1)).getD f = f) (hmv : nodupB (moved pol.free hs.length) = true)
    (hL : LOk P cf fn.ntmps hs.length n pol ls c) (ht : TailOk P fn.ntmps (partAt c pth) tl.ins tl.out tl.fin tl.spec)
    (h : ∀ a b r, Q a b = some r → runFX P tl pth cf pol ls fn c (EK.encs es a) (HK.encs hs b) = some (encRes eo ho r)) : SpecOk P f (specQ es hs eo ho Q) := by
  intro ι φ H w args vs r H' hS hfr hv hc
  unfold specQ at hc
  split at hc
  case h_2 => cases hc
  rename_i a b h1 h2
  have e1 := EK.decs_encs _ _ _ h1
  have e2 := HK.decs_encs _ _ _ h2
  subst e1; subst e2
  have l1 : (EK.encs es a).length = es.length := encs_length es a
  have l2 : (HK.encs hs b).length = hs.length := hencs_length hs b
  cases hq : Q a b with
  | none => rw [hq] at hc; simp [Tr.val] at hc
  | some q =>
    rw [hq] at hc
    have hn := h a b q hq
    simp only [RS.get, Option.getD_some, Option.isSome_some, Tr.val, if_true, Option.some.injEq] at hc
    have e : encRes eo ho q = (r, H') := hc
    rw [e] at hn
    exact runFX_sound hm hcf hfn hbody (by rw [l1]; exact hlen) hsf (by rw [l2]; exact hmv) (by rw [l2]; exact hL) ht hS hfr hv hn
theorem specTrX_ok (hm : P.follows .mixedOrders = true) {tl : TailS} {pth : List Nat} {cf : CallF} (hcf : CallSound P cf) {f : FuncId} {fn : Func} {c : Code} {n : Nat} {pol : Pol} {ls : Loops} {es : List EK} {hs : List HK} {R : EK.sems es → HK.sems hs → Tr}
    (hfn : P.funcs[f]? = some fn) (hbody : fn.body = some c) (hlen : es.length ≤ fn.ntmps) (hsf : (cf.site.map (·.1)).getD f = f) (hmv : nodupB (moved pol.free hs.length) = true)
    (hL : LOk P cf fn.ntmps hs.length n pol ls c) (ht : TailOk P fn.ntmps (partAt c pth) tl.ins tl.out tl.fin tl.spec)
    (h : ∀ a b r, (R a b).val = some r → runFX P tl pth cf pol ls fn c (EK.encs es a) (HK.encs hs b) = some r) : SpecOk P f (specTr es hs R) := by
  intro ι φ H w args vs r H' hS hfr hv hc
  unfold specTr at hc
  split at hc
  case h_2 => simp [Tr.val] at hc
  rename_i a b h1 h2
  have e1 := EK.decs_encs _ _ _ h1
  have e2 := HK.decs_encs _ _ _ h2
  subst e1; subst e2
  have l1 : (EK.encs es a).length = es.length := encs_length es a
  have l2 : (HK.encs hs b).length = hs.length := hencs_length hs b
  exact runFX_sound hm hcf hfn hbody (by rw [l1]; exact hlen) hsf (by rw [l2]; exact hmv) (by rw [l2]; exact hL) ht hS hfr hv (h a b _ hc)
#print axioms specX_ok
end Go.AMach
