/- The abstract machine: a text behind a function that says nothing of it. -/
import Derived.Test.YtbkbifpjckippaaAm21
namespace Go.AMach
set_option linter.unusedVariables false
set_option linter.unusedSimpArgs false
set_option linter.unnecessarySimpa false
set_option linter.unusedSectionVars false
set_option linter.unusedVariables false
def hideV (h : ByteArray → ByteArray) : AV → AV
  | .v (.string b) => .v (.string (h b))
  | x => x
def hideE (h : ByteArray → ByteArray) (i : Nat) : Env → Env
  | [] => []
  | (k, x) :: r => (k, cond (Nat.beq i k) (hideV h x) x) :: hideE h i r
def hideS (h : ByteArray → ByteArray) (i : Nat) (s : St) : St := ⟨hideE h i s.env, s.heap, s.nx⟩
theorem hideV_id (x : AV) : hideV (fun b => b) x = x := by
  cases x with
  | v y => cases y <;> rfl
  | _ => rfl
theorem hideE_id (i : Nat) : ∀ e : Env, hideE (fun b => b) i e = e
  | [] => rfl
  | (k, x) :: r => by
    simp only [hideE, hideV_id, hideE_id i r]
    cases Nat.beq i k <;> rfl
theorem hideS_id (i : Nat) (s : St) : hideS (fun b => b) i s = s := by
  cases s; simp only [hideS, hideE_id]
section
variable (P : Program) [Sites]
/-- A run; behind one part of the code a text is put behind a function. -/
def runH (h : ByteArray → ByteArray) (i : Nat) (cf : CallF) (N n0 : Nat) (pol : Pol) (ls : Loops) : Code → List Nat → St → Cont → Option Res
  | .seq a b, p, s, K => match p with
    | 0 :: p => runH h i cf N n0 pol ls a p s fun x s => match x with
      | .nm => runT P cf N n0 pol ls b s K
      | x => K x s
    | _ :: p => runT P cf N n0 pol ls a s fun x s => match x with
      | .nm => runH h i cf N n0 pol ls b p s K
      | x => K x s
    | [] => runT P cf N n0 pol ls (.seq a b) s fun x s => K x (hideS h i s)
  | c, _, s, K => runT P cf N n0 pol ls c s fun x s => K x (hideS h i s)
theorem runH_id (i : Nat) (cf : CallF) (N n0 : Nat) (pol : Pol) (ls : Loops) : ∀ (c : Code) (p : List Nat) (s : St) (K : Cont), runH P (fun b => b) i cf N n0 pol ls c p s K = runT P cf N n0 pol ls c s K := by
  intro c
  induction c with
  | seq a b iha ihb =>
    intro p s K
    cases p with
    | nil => simp only [runH, hideS_id]
    | cons x p =>
      cases x with
      | zero => simp only [runH, iha]; rfl
      | succ x => simp only [runH, ihb]; rfl
  | _ => intro p s K; simp only [runH, hideS_id]
def runFH (h : ByteArray → ByteArray) (i : Nat) (pth : List Nat) (cf : CallF) (pol : Pol) (ls : Loops) (fn : Func) (c : Code) (args : List AV) (H : AH) : Option Res :=
  runH P h i cf fn.ntmps H.length pol ls c pth (startS pol.free args H) (endK P fn H.length pol)
theorem runFH_id {i : Nat} {pth : List Nat} {cf : CallF} {pol : Pol} {ls : Loops} {fn : Func} {c : Code} {args : List AV} {H : AH} {r : Option Res} (hm : runFH P (fun b => b) i pth cf pol ls fn c args H = r) : runFT P cf pol ls fn c args H = r := by
  rw [← hm]; exact (runH_id P i cf _ _ pol ls c pth _ _).symm
end
end Go.AMach
