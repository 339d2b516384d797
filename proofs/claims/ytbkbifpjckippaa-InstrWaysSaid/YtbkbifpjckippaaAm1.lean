/- The abstract machine: the model's code, run over values that are trees, with a heap of the call's own blocks. Its definitions. -/
import Derived.Deep.MidRow
import Derived.Deep.AppendSrc
import Derived.Orders
import Derived.Below
namespace Go.AMach
set_option linter.unusedVariables false
set_option linter.unusedSimpArgs false
set_option linter.unnecessarySimpa false
set_option linter.unusedVariables false

/-- Kinds of data: what a row that is known as a whole may hold. -/
inductive Ty where
  | int (k : IntKind)
  | bool
  | str
  | slice (t : Ty)
  | unit
  | pair (t r : Ty)
deriving DecidableEq

@[reducible] def Ty.sem : Ty → Type
  | .int _ => Int
  | .bool => Bool
  | .str => ByteArray
  | .slice t => List t.sem
  | .unit => Unit
  | .pair t r => t.sem × r.sem

def Ty.size : Ty → Nat
  | .unit => 0
  | .pair t r => t.size + r.size
  | _ => 1

def Ty.dflt : (T : Ty) → T.sem
  | .int _ => (0 : Int)
  | .bool => false
  | .str => ByteArray.empty
  | .slice _ => []
  | .unit => ()
  | .pair t r => (t.dflt, r.dflt)
/-- What stands at a place of a list. -/
def Ty.rd (T : Ty) (l : List T.sem) (e : Nat) : T.sem := l.getD e T.dflt
def mkL {α : Type} (n : Nat) (f : Nat → α) : List α := (List.range n).map f
/-- A part of a list. -/
def Ty.cutL (T : Ty) (l : List T.sem) (a n : Nat) : List T.sem := mkL n fun i => T.rd l (i + a)

/-- Rows of cells. -/
inductive Rows (α : Type) where
  | lit (es : List (List α))
  | ty (T : Ty) (l : List T.sem)
  | rep (n : Nat) (c : List α)
  | upd (r : Rows α) (e : Nat) (c : List α)
  | app (r s : Rows α)
  | sub (r : Rows α) (l n : Nat)

def Rows.len {α : Type} : Rows α → Nat
  | .lit es => es.length
  | .ty _ l => l.length
  | .rep n _ => n
  | .upd r _ _ => r.len
  | .app r s => r.len + s.len
  | .sub _ _ n => n

/-- A list's row; behind the end: the last one. -/
def rowAt {α : Type} : List (List α) → Nat → List α
  | [], _ => []
  | [c], _ => c
  | c :: _ :: _, 0 => c
  | _ :: c :: r, e + 1 => rowAt (c :: r) e

/-- Values: plain ones; parts side by side; slices and pointers into memory that stays as it is; pointers and slices into the heap of this machine. -/
inductive AV where
  | v (x : Value)
  | agg (cs : List AV)
  | tup (vs : List AV)
  | sl (tight : Bool) (sz : Nat) (es : Rows AV)
  | rp (sz : Nat) (es : Rows AV) (e j : Nat)
  | ptr (id e j : Nat)
  | hs (tight : Bool) (id e n : Nat)
  | mp (id : Nat)
  | yl (id : Nat)
  | fn (f : Fn) (first cap : List AV)
  | ifc (t : TypeId) (x : AV)
  | junk

/-- Data as cells. -/
def Ty.enc : (T : Ty) → T.sem → List AV
  | .int k, x => [.v (.int k x)]
  | .bool, b => [.v (.bool b)]
  | .str, s => [.v (.string s)]
  | .slice t, l => [.sl false t.size (.ty t l)]
  | .unit, _ => []
  | .pair t r, p => t.enc p.1 ++ r.enc p.2

/-! ### Data out of cells that are data as they stand -/
def Ty.undo : (T : Ty) → List AV → Option T.sem
  | .int k, cs => match cs with
    | [.v (.int k' x)] => if k' = k then some x else none
    | _ => none
  | .bool, cs => match cs with
    | [.v (.bool b)] => some b
    | _ => none
  | .str, cs => match cs with
    | [.v (.string s)] => some s
    | _ => none
  | .slice t, cs => match cs with
    | [.sl false sz (.ty t' l)] => if h : t' = t then (if sz = t.size then some (h ▸ l) else none) else none
    | _ => none
  | .unit, cs => match cs with
    | [] => some ()
    | _ => none
  | .pair t r, cs => match t.undo (cs.take t.size), r.undo (cs.drop t.size) with
    | some a, some b => some (a, b)
    | _, _ => none

/-- A row written. -/
def Rows.put (r : Rows AV) (e : Nat) (c : List AV) : Rows AV :=
  match r with
  | .lit es => .lit (es.set e c)
  | .ty T l => match T.undo c with
    | some s => .ty T (l.set e s)
    | none => .upd (.ty T l) e c
  | r => .upd r e c

/-- A part of a row. -/
def Rows.cut (r : Rows AV) (l n : Nat) : Rows AV :=
  match r with
  | .ty T xs => .ty T (T.cutL xs l n)
  | .lit (c :: cs) => cond (Nat.beq l 0 && Nat.beq n (cs.length + 1)) (.lit (c :: cs)) (.sub (.lit (c :: cs)) l n)
  | r => .sub r l n

def Rows.cat (r s : Rows AV) : Rows AV :=
  match r with
  | .lit [] => s
  | .lit (c :: a) => match s with
    | .lit b => .lit (c :: a ++ b)
    | s => .app (.lit (c :: a)) s
  | .ty T l => match s with
    | .lit [c] => match T.undo c with
      | some x => .ty T (l ++ [x])
      | none => .app (.ty T l) (.lit [c])
    | .ty T' l' => if h : T' = T then .ty T (l ++ h ▸ l') else .app (.ty T l) (.ty T' l')
    | s => .app (.ty T l) s
  | r => .app r s

def Rows.get : Rows AV → Nat → List AV
  | .lit es, e => rowAt es e
  | .ty T l, e => T.enc (T.rd l e)
  | .rep _ c, _ => c
  | .upd r i c, e => if e = i then c else r.get e
  | .app r s, e => if e < r.len then r.get e else s.get (e - r.len)
  | .sub r l _, e => r.get (e + l)

/-! ### Data out of cells -/
def okR (p : List AV → Bool) (T : Ty) : Rows AV → Bool
  | .lit es => es.all p
  | .ty T' _ => decide (T' = T)
  | .rep _ c => p c
  | .upd r _ c => okR p T r && p c
  | .app r s => okR p T r && okR p T s
  | .sub r _ _ => okR p T r

def pick1 {α : Type} : List α → Nat → α → α
  | [], _, z => z
  | [x], _, _ => x
  | x :: _ :: _, 0, _ => x
  | _ :: y :: r, e + 1, z => pick1 (y :: r) e z

def decR {T : Ty} (d : List AV → T.sem) : Rows AV → Nat → T.sem
  | .lit es, e => pick1 (es.map d) e (d [])
  | .ty T' l, e => if h : T' = T then h ▸ T'.rd l e else d []
  | .rep _ c, _ => d c
  | .upd r i c, e => if e = i then d c else decR d r e
  | .app r s, e => if e < r.len then decR d r e else decR d s (e - r.len)
  | .sub r l _, e => decR d r (e + l)

/-- A row as a list of data. -/
def decL {T : Ty} (d : List AV → T.sem) : Rows AV → List T.sem
  | .lit es => es.map d
  | .ty T' l => if h : T' = T then h ▸ l else []
  | .rep n c => List.replicate n (d c)
  | .upd r i c => (decL d r).set i (d c)
  | .app r s => decL d r ++ decL d s
  | .sub r l n => mkL n fun i => decR d r (i + l)

def Rows.toL (r : Rows AV) : List (List AV) := (List.range r.len).map r.get

inductive AB where
  | row (pure : Bool) (sz : Nat) (es : Rows AV)
  | mp (pure : Bool) (es : List (AV × AV))
  | mf (K V : Ty) (g : K.sem → Option V.sem)
  | lp (busy : Bool) (k : Nat) (caps : List AV)

/-- Are these cells data of a kind? (hp: the blocks that may be looked into.) -/
def Ty.ok (hp : Nat → Option AB) : Ty → List AV → Bool
  | .int k, cs => match cs with
    | .v (.int k' _) :: _ => decide (k' = k)
    | _ => false
  | .bool, cs => match cs with
    | .v (.bool _) :: _ => true
    | _ => false
  | .str, cs => match cs with
    | .v (.string _) :: _ => true
    | _ => false
  | .slice t, cs => match cs with
    | .sl _ sz es :: _ => decide (sz = t.size) && okR (fun c => decide (c.length = t.size) && t.ok hp c) t es
    | .hs _ id e n :: _ => match hp id with
      | some (.row _ sz es) => decide (sz = t.size) && okR (fun c => decide (c.length = t.size) && t.ok hp c) t es
      | _ => false
    | .v (.slice none 0 0) :: _ => true
    | _ => false
  | .unit, _ => true
  | .pair t r, cs => t.ok hp cs && r.ok hp (cs.drop t.size)

def Ty.dec (hp : Nat → Option AB) : (T : Ty) → List AV → T.sem
  | .int _, cs => match cs with
    | .v (.int _ x) :: _ => x
    | _ => (0 : Int)
  | .bool, cs => match cs with
    | .v (.bool b) :: _ => b
    | _ => false
  | .str, cs => match cs with
    | .v (.string s) :: _ => s
    | _ => ByteArray.empty
  | .slice t, cs => match cs with
    | .sl _ _ es :: _ => decL (t.dec hp) es
    | .hs _ id e n :: _ => match hp id with
      | some (.row _ _ es) => mkL n fun i => decR (t.dec hp) es (i + e)
      | _ => []
    | _ => []
  | .unit, _ => ()
  | .pair t r, cs => (t.dec hp cs, r.dec hp (cs.drop t.size))

/-! ### Maps that are known by what a lookup answers -/
def AV.the : List AV → AV
  | [c] => c
  | _ => .junk
def Ty.isAgg : Ty → Bool
  | .pair _ _ => true
  | .unit => true
  | _ => false
/-- Data as one value. -/
def Ty.av (T : Ty) (s : T.sem) : AV := cond T.isAgg (.agg (T.enc s)) (AV.the (T.enc s))
def Ty.unav (T : Ty) (x : AV) : Option T.sem :=
  match x with
  | .agg cs => cond T.isAgg (T.undo cs) none
  | x => cond T.isAgg none (T.undo [x])
/-- Structs of numbers: kinds of keys. -/
def Ty.fkey : Ty → Bool
  | .unit => true
  | .pair (.int _) r => r.fkey
  | _ => false
/-- A key's cells. -/
def Ty.kcells : (K : Ty) → K.sem → List Value
  | .int k, x => [.int k x]
  | .pair a b, p => a.kcells p.1 ++ b.kcells p.2
  | _, _ => []
/-- The kinds of keys. -/
def Ty.keyVal : (K : Ty) → K.sem → Value
  | .int k, x => .int k x
  | .str, s => .string s
  | .pair a b, p => .agg ((Ty.pair a b).kcells p).toArray
  | _, _ => undef
def Ty.isKey : Ty → Bool
  | .int _ => true
  | .str => true
  | .pair a b => (Ty.pair a b).fkey
  | _ => false
def Ty.keqF : (K : Ty) → K.sem → K.sem → Bool
  | .int _, a, b => decide ((a : Int) = b)
  | .unit, _, _ => true
  | .pair a b, p, q => a.keqF p.1 q.1 && b.keqF p.2 q.2
  | _, _, _ => false
def Ty.keq : (K : Ty) → K.sem → K.sem → Bool
  | .int _, a, b => decide ((a : Int) = b)
  | .str, a, b => decide ((a : ByteArray) = b)
  | .pair a b, p, q => (Ty.pair a b).keqF p q
  | _, _, _ => false
def kcIs : List Value → List Value → Bool
  | [], [] => true
  | .int k x :: r, .int k' y :: s => decide (k' = k) && decide (y = x) && kcIs r s
  | _, _ => false
def Ty.keyIs : (K : Ty) → K.sem → Value → Bool
  | .int k, x, .int k' y => decide (k' = k) && decide (y = x)
  | .str, s, .string t => decide (t = s)
  | .pair a b, p, .agg vs => kcIs ((Ty.pair a b).kcells p) vs.toList
  | _, _, _ => false
def mfind (K : Ty) (x : K.sem) : List MapEntry → Nat → Option (Nat × Value)
  | [], _ => none
  | e :: r, i => if K.keyIs x e.key = true then some (i, e.val) else mfind K x r (i + 1)

/-- The ranges over functions: the temporaries of what is yielded, the assignments, the body. -/
class Sites where
  t : Nat → Option (Array Tmp × Code × Code)

abbrev AH := List (Option AB)

def AH.setAt : AH → Nat → Option AB → AH
  | [], 0, b => [b]
  | [], n + 1, b => none :: AH.setAt [] n b
  | _ :: r, 0, b => b :: r
  | x :: r, n + 1, b => x :: AH.setAt r n b

def AH.at (H : AH) (id : Nat) : Option AB := H.getD id none

inductive AR (α : Type) where
  | ok (a : α)
  | pn (x : AV)

/-- What a call comes to, by cases. -/
inductive Tr where
  | no
  | leaf (x : AR AV) (H : AH)
  | br (b : Bool) (t e : Tr)
def Tr.val : Tr → Option (AR AV × AH)
  | .no => none
  | .leaf x H => some (x, H)
  | .br b t e => if b then t.val else e.val
def Tr.fold {β : Type} : Tr → (AR AV → AH → Option β) → Option β
  | .no, _ => none
  | .leaf x H, f => f x H
  | .br b t e, f => cond b (t.fold f) (e.fold f)
theorem Tr.fold_val {β : Type} : ∀ (t : Tr) (f : AR AV → AH → Option β), t.fold f = match t.val with
    | some (x, H) => f x H
    | none => none
  | .no, f => rfl
  | .leaf x H, f => rfl
  | .br b t e, f => by
    cases b with
    | true => exact Tr.fold_val t f
    | false => exact Tr.fold_val e f

/-- A small program over the heap. -/
inductive AM (α : Type) where
  | ret (a : α)
  | pn (x : AV)
  | fail
  | get (id : Nat) (k : Option AB → AM α)
  | next (k : Nat → AM α)
  | set (id : Nat) (b : AB) (k : AM α)
  | kill (id : Nat) (k : AM α)
  | new (b : AB) (k : Nat → AM α)
  | br (b : Bool) (t e : AM α)
  | call (r : Tr) (k : AR AV → AH → AM α)

def AM.bind {α β : Type} : AM α → (α → AM β) → AM β
  | .ret a, f => f a
  | .pn x, _ => .pn x
  | .fail, _ => .fail
  | .get i k, f => .get i fun b => (k b).bind f
  | .next k, f => .next fun b => (k b).bind f
  | .set i b k, f => .set i b (k.bind f)
  | .kill i k, f => .kill i (k.bind f)
  | .new b k, f => .new b fun i => (k i).bind f
  | .br b t e, f => .br b (t.bind f) (e.bind f)
  | .call r k, f => .call r fun x H => (k x H).bind f

def AM.run {α : Type} : AM α → AH → Nat → Option (AR α × AH × Nat)
  | .ret a, H, n => some (.ok a, H, n)
  | .pn x, H, n => some (.pn x, H, n)
  | .fail, _, _ => none
  | .get i k, H, n => (k (H.at i)).run H n
  | .next k, H, n => (k n).run H n
  | .set i b k, H, n => match H.at i with
    | some _ => k.run (H.setAt i (some b)) n
    | none => none
  | .kill i k, H, n => match H.at i with
    | some _ => k.run (H.setAt i none) n
    | none => none
  | .new b k, H, n => (k n).run (H.setAt n (some b)) (n + 1)
  | .br b t e, H, n => if b then t.run H n else e.run H n
  | .call r k, H, n => match r.val with
    | some (x, H2) => (k x H2).run H n
    | none => none

/-- The same, with the blocks that are looked at, and those that are written. -/
def AM.runL {α : Type} : AM α → AH → Nat → List Nat → List Nat → Option (AR α × AH × Nat × List Nat × List Nat)
  | .ret a, H, n, R, W => some (.ok a, H, n, R, W)
  | .pn x, H, n, R, W => some (.pn x, H, n, R, W)
  | .fail, _, _, _, _ => none
  | .get i k, H, n, R, W => (k (H.at i)).runL H n (i :: R) W
  | .next k, H, n, R, W => (k n).runL H n R W
  | .set i b k, H, n, R, W => match H.at i with
    | some _ => k.runL (H.setAt i (some b)) n R (i :: W)
    | none => none
  | .kill i k, H, n, R, W => match H.at i with
    | some _ => k.runL (H.setAt i none) n R (i :: W)
    | none => none
  | .new b k, H, n, R, W => (k n).runL (H.setAt n (some b)) (n + 1) R (n :: W)
  | .br b t e, H, n, R, W => if b then t.runL H n R W else e.runL H n R W
  | .call r k, H, n, R, W => match r.val with
    | some (x, H2) => (k x H2).runL H n R W
    | none => none

def AM.ofO {α : Type} : Option α → AM α
  | some a => .ret a
  | none => .fail

/-! ### Values -/
def ofVal : Value → AV
  | .agg cs => .agg (cs.toList.map .v)
  | x => .v x

/-- One cell's value? -/
def AV.one : AV → Bool
  | .v x => x.oneCell'
  | .agg _ | .tup _ | .junk => false
  | _ => true

/-- The cells of a value. -/
def AV.cells : AV → Option (List AV)
  | .agg cs => if cs.all AV.one then some cs else none
  | x => if x.one then some [x] else none

mutual
/-- Does nothing in it lead to this machine's heap? -/
def AV.pure : AV → Bool
  | .v _ | .sl .. | .rp .. | .junk => true
  | .agg cs => AV.pures cs
  | .tup cs => AV.pures cs
  | .ptr .. | .hs .. | .mp .. | .yl .. => false
  | .fn _ a b => AV.pures a && AV.pures b
  | .ifc _ x => x.pure
def AV.pures : List AV → Bool
  | [] => true
  | x :: r => x.pure && AV.pures r
end

mutual
/-- The names of the heap's blocks changed. -/
def AV.ren (ρ : Nat → Option Nat) : AV → AV
  | .agg cs => .agg (AV.rens ρ cs)
  | .tup cs => .tup (AV.rens ρ cs)
  | .ptr i e j => match ρ i with | some k => .ptr k e j | none => .junk
  | .hs t i e n => match ρ i with | some k => .hs t k e n | none => .junk
  | .mp i => match ρ i with | some k => .mp k | none => .junk
  | .yl i => match ρ i with | some k => .yl k | none => .junk
  | .fn f a b => .fn f (AV.rens ρ a) (AV.rens ρ b)
  | .ifc t x => .ifc t (x.ren ρ)
  | x => x
def AV.rens (ρ : Nat → Option Nat) : List AV → List AV
  | [] => []
  | x :: r => x.ren ρ :: AV.rens ρ r
end

def renPairs (ρ : Nat → Option Nat) : List (AV × AV) → List (AV × AV)
  | [] => []
  | (k, x) :: r => (k.ren ρ, x.ren ρ) :: renPairs ρ r
def renRows (ρ : Nat → Option Nat) : List (List AV) → List (List AV)
  | [] => []
  | x :: r => AV.rens ρ x :: renRows ρ r

def AB.ren (ρ : Nat → Option Nat) : AB → AB
  | .row true sz es => .row true sz es
  | .row false sz es => .row false sz (.lit (renRows ρ es.toL))
  | .mp true es => .mp true es
  | .mp false es => .mp false (renPairs ρ es)
  | .mf K V g => .mf K V g
  | .lp b k caps => .lp b k (AV.rens ρ caps)

def idxOf (l : List Nat) (i : Nat) : Option Nat :=
  match l with
  | [] => none
  | x :: r => if x = i then some 0 else (idxOf r i).map (· + 1)

mutual
/-- The blocks that a value names. -/
def AV.ids : AV → List Nat
  | .agg cs => AV.idss cs
  | .tup cs => AV.idss cs
  | .ptr i _ _ | .hs _ i _ _ | .mp i | .yl i => [i]
  | .fn _ a b => AV.idss a ++ AV.idss b
  | .ifc _ x => x.ids
  | _ => []
def AV.idss : List AV → List Nat
  | [] => []
  | x :: r => x.ids ++ AV.idss r
end

def idsRows : List (List AV) → List Nat
  | [] => []
  | x :: r => AV.idss x ++ idsRows r
def idsPairs : List (AV × AV) → List Nat
  | [] => []
  | (k, x) :: r => k.ids ++ x.ids ++ idsPairs r
def AB.ids : AB → List Nat
  | .row true _ _ | .mp true _ | .mf _ _ _ => []
  | .row false _ es => idsRows es.toL
  | .mp false es => idsPairs es
  | .lp _ _ caps => AV.idss caps

/-- All blocks that can be come to from some, each once, the first ones first. -/
def reachFrom (H : AH) : Nat → List Nat → List Nat → List Nat
  | 0, _, seen => seen
  | _ + 1, [], seen => seen
  | n + 1, i :: todo, seen =>
    if seen.contains i then reachFrom H n todo seen else
    match H.at i with
    | some b => reachFrom H n (b.ids ++ todo) (seen ++ [i])
    | none => reachFrom H n todo seen

def reach (H : AH) (l : List Nat) : List Nat := reachFrom H (64 * (H.length + l.length + 1)) l []

/-- The heap of some blocks alone, by new names. -/
def AH.only (H : AH) (ids : List Nat) : AH := ids.map fun i => (H.at i).map (AB.ren (idxOf ids))

end Go.AMach
