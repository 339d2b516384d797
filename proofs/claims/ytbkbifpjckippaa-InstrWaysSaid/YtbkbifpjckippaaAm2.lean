/- The abstract machine: its operations and its run. -/
import Derived.Test.YtbkbifpjckippaaAm1
namespace Go.AMach
set_option linter.unusedVariables false
set_option linter.unusedSimpArgs false
set_option linter.unnecessarySimpa false
set_option linter.unusedVariables false

section
variable (P : Program)

/-! ### The types' table -/
def szO (t : TypeId) : Option Nat := (P.info? t).map (·.size)
def byO (t : TypeId) : Option Nat := (P.info? t).map (·.bytes)
def aggO (t : TypeId) : Option Bool := (P.underlying t).map fun d => match d with | .struct _ | .array _ _ => true | _ => false
def zeroO (t : TypeId) : Option (List AV) := ((P.info? t).bind (·.zero)).bind fun z => if z.cells.toList.all (·.oneCell') then some (z.cells.toList.map .v) else none
def zeroV (t : TypeId) : Option Value := (P.info? t).bind (·.zero)
def fieldO (t : TypeId) (f : Nat) : Option (TypeId × Nat) := match P.underlying t with
  | some (.struct fs) => (fs[f]?).map fun x => (x.type, x.offset)
  | _ => none
def elemO (t : TypeId) : Option TypeId := match P.underlying t with | some (.slice e) => some e | _ => none
def arrO (t : TypeId) : Option (Nat × TypeId) := match P.underlying t with | some (.array n e) => some (n, e) | _ => none
def mapO (t : TypeId) : Option (TypeId × TypeId) := match P.underlying t with | some (.map k e) => some (k, e) | _ => none
def strO (t : TypeId) : Bool := match P.underlying t with | some .string => true | _ => false
def intO (t : TypeId) : Option IntKind := match P.underlying t with | some (.int k) => some k | _ => none
def boolO (t : TypeId) : Bool := match P.underlying t with | some .bool => true | _ => false
def ptrO (t : TypeId) : Bool := match P.underlying t with | some (.pointer _) => true | _ => false

/-- What the temporaries hold: the newest ahead. -/
abbrev Env := List (Nat × AV)
def look : Env → Nat → AV
  | [], _ => .junk
  | (k, x) :: r, t => cond (Nat.beq t k) x (look r t)

def ev (env : Env) : Operand → AV
  | .tmp t => look env t
  | .const c => ofVal c
  | .global _ => .junk
  | .func f => .fn (.func f) [] []

/-! ### Operations -/
def rdCells (g : Bool) (n : Nat) (cs : List AV) (j : Nat) : Option AV :=
  if g then (if j + n ≤ cs.length then some (.agg ((cs.drop j).take n)) else none) else cs[j]?

def putCells (old : List AV) (j : Nat) (cs : List AV) : List AV := old.take j ++ cs ++ old.drop (j + cs.length)

def loadM (t : TypeId) (x : AV) : AM AV :=
  match aggO P t, szO P t with
  | some g, some n =>
    match x with
    | .ptr id e j => .get id fun b => match b with
      | some (.row _ _ es) => .ofO (rdCells g n (es.get e) j)
      | _ => .fail
    | .rp _ es e j => .ofO (rdCells g n (es.get e) j)
    | _ => .fail
  | _, _ => .fail

/-- A slice of which it is not said whether there is room behind it. -/
def AV.slack : AV → AV
  | .hs _ i e n => .hs false i e n
  | x => x
def storeM (t : TypeId) (a x : AV) : AM AV :=
  match szO P t, x.cells with
  | some n, some cs =>
    if cs.length = n then
      match a with
      | .ptr id e j => .get id fun b => match b with
        | some (.row p sz es) =>
          if j + n ≤ (es.get e).length then .set id (.row (p && AV.pures cs) sz (es.put e (putCells (es.get e) j cs))) (.ret (.v undef)) else .fail
        | _ => .fail
      | _ => .fail
    else .fail
  | _, _ => .fail

def allocM (t : TypeId) : AM AV :=
  match zeroO P t, szO P t with
  | some cs, some n => if cs.length = n ∧ 0 < n then .new (.row true n (.lit [cs])) fun id => .ret (.ptr id 0 0) else .fail
  | _, _ => .fail

def tyG : Nat → TypeId → Option Ty
  | 0, _ => none
  | n + 1, t => match P.underlying t with
    | some (.int k) => some (.int k)
    | some .bool => some .bool
    | some .string => some .str
    | some (.slice e) => (tyG n e).map .slice
    | some (.struct fs) => fs.toList.foldr (fun f r => match tyG n f.type, r with
      | some a, some b => some (.pair a b)
      | _, _ => none) (some .unit)
    | _ => none
/-- A box for a slice that grows: nothing in it yet. -/
def allocG (t : TypeId) : AM AV :=
  match zeroO P t, szO P t, (elemO P t).bind (tyG P 8), (elemO P t).bind (szO P) with
  | some [.v (.slice none 0 0)], some 1, some T, some s =>
    .new (.row true s (.ty T [])) fun i => .new (.row false 1 (.lit [[.hs false i 0 0]])) fun id => .ret (.ptr id 0 0)
  | _, _, _, _ => .fail

def chunks (s : Nat) : Nat → List AV → List (List AV)
  | 0, _ => []
  | n + 1, cs => cs.take s :: chunks s n (cs.drop s)
/-- An array, as a row of its elements. -/
def allocA (t : TypeId) : AM AV :=
  match zeroO P t, szO P t, (arrO P t).bind fun x => (szO P x.2).map fun s => (x.1, s) with
  | some cs, some _, some (n, s) => if cs.length = n * s ∧ 0 < n ∧ 0 < s then .new (.row true s (.lit (chunks s n cs))) fun id => .ret (.ptr id 0 0) else .fail
  | _, _, _ => .fail

def boxM (x : AV) : AM AV :=
  match x.cells with
  | some cs => if 0 < cs.length then .new (.row (AV.pures cs) cs.length (.lit [cs])) fun id => .ret (.ptr id 0 0) else .fail
  | none => .fail

def fillC (place : Nat → Option (Nat × Nat)) (cells : List AV) : List (Nat × AV) → Option (List AV)
  | [] => some cells
  | (i, x) :: rest => match place i, x.cells with
    | some (off, size), some cs => if cs.length = size ∧ off + size ≤ cells.length then fillC place (putCells cells off cs) rest else none
    | _, _ => none

def szsO : List Field → Option (List (Nat × Nat))
  | [] => some []
  | f :: r => match szO P f.type, szsO r with
    | some s, some l => some ((f.offset, s) :: l)
    | _, _ => none

def buildM (t : TypeId) (parts : List (Nat × AV)) : AM AV :=
  match zeroO P t, szO P t with
  | some z, some n =>
    if z.length = n then
      match P.underlying t with
      | some (.struct fs) => match szsO P fs.toList with
        | some l => match fillC (fun i => l[i]?) z parts with
          | some cs => .ret (.agg cs)
          | none => .fail
        | none => .fail
      | some (.array _ e) => match szO P e with
        | some s => match fillC (fun i => some (i * s, s)) z parts with
          | some cs => .ret (.agg cs)
          | none => .fail
        | none => .fail
      | _ => .fail
    else .fail
  | _, _ => .fail

def setRows (sz : Nat) (es : List (List AV)) : List (Nat × AV) → Option (List (List AV))
  | [] => some es
  | (i, x) :: rest => match x.cells with
    | some cs => if cs.length = sz ∧ i < es.length then setRows sz (es.set i cs) rest else none
    | none => none

def puresRows : List (List AV) → Bool
  | [] => true
  | x :: r => AV.pures x && puresRows r

def buildSliceM (t : TypeId) (len : Nat) (parts : List (Nat × AV)) : AM AV :=
  match elemO P t with
  | some e => match zeroO P e, szO P e with
    | some z, some s =>
      if z.length = s ∧ 0 < s ∧ len * s ≤ 2 ^ 24 then
        match setRows s (List.replicate len z) parts with
        | some es => .new (.row (puresRows es) s (.lit es)) fun id => .ret (.hs true id 0 len)
        | none => .fail
      else .fail
    | _, _ => .fail
  | none => .fail

def makeSliceM (t : TypeId) (l c : AV) : AM AV :=
  match elemO P t, l, c with
  | some e, .v (.int _ l), .v (.int _ c) => match zeroO P e, szO P e, byO P e with
    | some z, some s, some b =>
      if z.length = s ∧ 0 < s ∧ 0 < b then
        .br (decide (0 ≤ l ∧ l ≤ c ∧ b * c ≤ 2 ^ 46))
          (.new (.row true s (.rep l.toNat z)) fun id => .ret (.hs (l == c) id 0 l.toNat)) .fail
      else .fail
    | _, _, _ => .fail
  | _, _, _ => .fail

def bound (x : Option AV) (d : Int) : Option Int := match x with
  | none => some d
  | some (.v (.int _ n)) => some n
  | _ => none

def sliceM (t : TypeId) (x : AV) (lo hi mx : Option AV) : AM AV :=
  match x with
  | .v (.string s) => match strO P t, mx, bound lo 0, bound hi s.size with
    | true, none, some l, some h => .br (decide (0 ≤ l ∧ l ≤ h ∧ h ≤ s.size)) (.ret (.v (.string (s.extract l.toNat h.toNat)))) .fail
    | _, _, _, _ => .fail
  | .sl tg sz es => match (elemO P t).bind (szO P), bound lo 0, bound hi es.len with
    | some s, some l, some h => match bound mx es.len with
      | some m => if sz = s ∧ (mx.isNone || hi.isSome) then
          .br (decide (0 ≤ l ∧ l ≤ h ∧ h ≤ m ∧ m ≤ es.len))
            (cond mx.isSome (.br (m == h) (.ret (.sl true sz (es.cut l.toNat (h.toNat - l.toNat)))) (.ret (.sl false sz (es.cut l.toNat (h.toNat - l.toNat)))))
              (.ret (.sl (tg && h == es.len) sz (es.cut l.toNat (h.toNat - l.toNat))))) .fail
        else .fail
      | none => .fail
    | _, _, _ => .fail
  | .hs tg id e n => match (elemO P t).bind (szO P), bound lo 0, bound hi n with
    | some s, some l, some h => match bound mx n with
      | some m => if mx.isNone || hi.isSome then
          .br (decide (0 ≤ l ∧ l ≤ h ∧ h ≤ m ∧ m ≤ n))
          (.get id fun b => match b with
            | some (.row _ sz _) => if sz = s then
              cond mx.isSome (.br (m == h) (.ret (.hs true id (e + l.toNat) (h.toNat - l.toNat))) (.ret (.hs false id (e + l.toNat) (h.toNat - l.toNat))))
                (.ret (.hs (tg && h == n) id (e + l.toNat) (h.toNat - l.toNat))) else .fail
            | _ => .fail)
          .fail
        else .fail
      | none => .fail
    | _, _, _ => .fail
  | .ptr id e j => match (arrO P t).bind fun x => (szO P x.2).map fun s => (x.1, s) with
    | some (len, s) => match bound lo 0, bound hi len with
      | some l, some h => match bound mx len with
        | some m => if mx.isNone || hi.isSome then
          .get id fun b => match b with
            | some (.row _ sz es) => if sz = s ∧ j = 0 then
              .br (decide (0 ≤ l ∧ l ≤ h ∧ h ≤ m ∧ m ≤ len ∧ e + len ≤ es.len))
                (.ret (.hs ((mx.isSome && m == h) || (mx.isNone && h == len)) id (e + l.toNat) (h.toNat - l.toNat))) .fail
              else .fail
            | _ => .fail
          else .fail
        | none => .fail
      | _, _ => .fail
    | none => .fail
  | .v (.slice none 0 0) => match (elemO P t).bind (szO P), bound lo 0, bound hi 0, bound mx 0 with
    | some _, some l, some h, some m => if mx.isNone || hi.isSome then .br (decide (l = 0 ∧ h = 0 ∧ m = 0)) (.ret (.v (.slice none 0 0))) .fail else .fail
    | _, _, _, _ => .fail
  | _ => .fail

def fieldAddrM (t : TypeId) (x : AV) (f : Nat) : AM AV :=
  match fieldO P t f with
  | some (ft, off) => match szO P ft with
    | some (n + 1) => match x with
      | .ptr id e j => .ret (.ptr id e (j + off))
      | .rp sz es e j => .ret (.rp sz es e (j + off))
      | _ => .fail
    | _ => .fail
  | none => .fail

def partM (t : TypeId) (cs : List AV) (off : Nat) : AM AV :=
  match aggO P t, szO P t with
  | some g, some n => .ofO (rdCells g n cs off)
  | _, _ => .fail

def fieldM (t : TypeId) (x : AV) (f : Nat) : AM AV :=
  match fieldO P t f, x with
  | some (ft, off), .agg cs => partM P ft cs off
  | _, _ => .fail

def indexAddrM (t : TypeId) (x i : AV) : AM AV :=
  match i with
  | .v (.int _ i) => match x with
    | .hs _ id e n => match (elemO P t).bind (szO P) with
      | some s => .br (decide (0 ≤ i ∧ i < n)) (.get id fun b => match b with
          | some (.row _ sz _) => if sz = s then .ret (.ptr id (i.toNat + e) 0) else .fail
          | _ => .fail)
          .fail
      | none => .fail
    | .sl _ sz es => match (elemO P t).bind (szO P) with
      | some s => if sz = s then .br (decide (0 ≤ i ∧ i < es.len)) (.ret (.rp sz es i.toNat 0)) .fail else .fail
      | none => .fail
    | .ptr id e j => match arrO P t with
      | some (len, el) => match szO P el with
        | some s => .br (decide (0 ≤ i ∧ i < len)) (.get id fun b => match b with
          | some (.row _ sz es) => if sz = s ∧ j = 0 then .br (decide (e + len ≤ es.len)) (.ret (.ptr id (i.toNat + e) 0)) .fail else .ret (.ptr id e (j + i.toNat * s))
          | _ => .fail) .fail
        | none => .fail
      | none => .fail
    | .rp sz es e j => match arrO P t with
      | some (len, el) => match szO P el with
        | some s => .br (decide (0 ≤ i ∧ i < len)) (.ret (.rp sz es e (j + i.toNat * s))) .fail
        | none => .fail
      | none => .fail
    | _ => .fail
  | _ => .fail

/-- A string's byte. -/
def byteAt (s : ByteArray) (i : Nat) : Int := ((s.data.toList.getD i 0).toNat : Int)

def indexM (t : TypeId) (x i : AV) : AM AV :=
  match i, x with
  | .v (.int _ i), .v (.string s) =>
    if strO P t then .br (decide (0 ≤ i ∧ i < s.size)) (.ret (.v (.int .u8 (byteAt s i.toNat)))) .fail else .fail
  | .v (.int _ i), .agg cs => match arrO P t with
    | some (len, el) => match szO P el with
      | some s => .br (decide (0 ≤ i ∧ i < len)) (partM P el cs (i.toNat * s)) .fail
      | none => .fail
    | none => .fail
  | _, _ => .fail

/-! ### Maps -/
def keyEq : AV → AV → Option Bool
  | .v (.int k a), .v (.int k' b) => if k = k' then some (a == b) else none
  | .v (.string a), .v (.string b) => some (a == b)
  | _, _ => none

def findKV (k : AV) : List (AV × AV) → Option (Option AV)
  | [] => some none
  | (k', x) :: r => match keyEq k k' with
    | some true => some (some x)
    | some false => findKV k r
    | none => none

def putKV (k x : AV) : List (AV × AV) → Option (List (AV × AV))
  | [] => some [(k, x)]
  | (k', y) :: r => match keyEq k k' with
    | some true => some ((k, x) :: r)
    | some false => (putKV k x r).map ((k', y) :: ·)
    | none => none

/-- A key's kind, as the map's type has it. -/
def keyOk (t : TypeId) : AV → Bool
  | .v (.int k _) => intO P t == some k
  | .v (.string _) => strO P t
  | _ => false

def zeroAV (t : TypeId) : Option AV := (zeroV P t).map ofVal

/-- A value as data of a kind. -/
def asData (hp : Nat → Option AB) (T : Ty) (x : AV) : Option AV :=
  match x with
  | .agg cs => if cs.length = T.size ∧ T.ok hp cs = true then some (.agg (T.enc (T.dec hp cs))) else none
  | x => if T.size = 1 ∧ T.ok hp [x] = true then (match T.enc (T.dec hp [x]) with | [c] => some c | _ => none) else none

/-- The kind of data of a type. -/
def tyF : Nat → TypeId → Option Ty
  | 0, _ => none
  | n + 1, t => match P.underlying t with
    | some (.int k) => some (.int k)
    | some .bool => some .bool
    | some .string => some .str
    | some (.slice e) => (tyF n e).map .slice
    | some (.struct fs) => fs.toList.foldr (fun f r => match tyF n f.type, r with
      | some a, some b => some (.pair a b)
      | _, _ => none) (some .unit)
    | _ => none

def makeMapM (t : TypeId) : AM AV :=
  match (mapO P t).bind fun x => match tyF P 8 x.1, tyF P 8 x.2 with
    | some K, some V => if K.isKey = true then some (K, V) else none
    | _, _ => none with
  | some (K, V) => .new (.mf K V fun _ => none) fun id => .ret (.mp id)
  | none => .new (.mp true []) fun id => .ret (.mp id)

/-- What a lookup tells. -/
def tellM (ok : Bool) (x : AV) (b : Bool) : AM AV := .ret (cond ok (.tup [x, .v (.bool b)]) x)

/-- Has a struct just these numbers? -/
def flatK : List Field → Nat → Ty → Bool
  | [], _, .unit => true
  | f :: fs, n, .pair (.int k) r => decide (f.name ≠ "_") && decide (f.offset = n) && decide (intO P f.type = some k) && decide (szO P f.type = some 1) && decide (aggO P f.type = some false) && flatK fs (n + 1) r
  | _, _, _ => false
/-- Is a type a struct of numbers, by which a map may be asked? -/
def keyS (t : TypeId) (K : Ty) : Bool := match P.underlying t with
  | some (.struct fs) => decide (P.stoodInHeld t = false) && K.isAgg && K.fkey && flatK P fs.toList 0 K
  | _ => false
/-- A lookup by a struct. -/
def lookupS (kt et : TypeId) (m k : AV) (ok : Bool) : AM AV :=
  match m with
  | .mp id => .get id fun b => match b with
    | some (.mf K V g) => if keyS P kt K = true then (match K.unav k, (zeroAV P et).bind fun zx => (asData (fun _ => none) V zx).bind V.unav with
      | some x, some z => tellM ok (V.av ((g x).getD z)) (g x).isSome
      | _, _ => .fail) else .fail
    | _ => .fail
  | _ => .fail
def mapUpdateS (kt : TypeId) (m k x : AV) : AM AV :=
  match m with
  | .mp id => .get id fun b => match b with
    | some (.mf K V g) => if keyS P kt K = true then (match K.unav k, V.unav x with
      | some y, some s => .set id (.mf K V fun x => cond (K.keq x y) (some s) (g x)) (.ret (.v undef))
      | _, _ => .fail) else .fail
    | _ => .fail
  | _ => .fail

def lookupM (t : TypeId) (m k : AV) (ok : Bool) : AM AV :=
  match mapO P t with
  | some (kt, et) => if keyOk P kt k then
      let fin (r : Option AV) : AM AV := match r with
        | some x => .ret (if ok then .tup [x, .v (.bool true)] else x)
        | none => match zeroAV P et with
          | some z => .ret (if ok then .tup [z, .v (.bool false)] else z)
          | none => .fail
      match m with
      | .mp id => .get id fun b => match b with
        | some (.mp _ es) => match findKV k es with
          | some r => fin r
          | none => .fail
        | some (.mf K V g) => match K.unav k, (zeroAV P et).bind fun zx => (asData (fun _ => none) V zx).bind V.unav with
          | some x, some z => tellM ok (V.av ((g x).getD z)) (g x).isSome
          | _, _ => .fail
        | _ => .fail
      | .v (.map none) => fin none
      | _ => .fail
    else lookupS P kt et m k ok
  | none => .fail

def mapUpdateM (t : TypeId) (m k x : AV) : AM AV :=
  match mapO P t with
  | some (kt, _) => if keyOk P kt k then
      match m with
      | .mp id => .get id fun b => match b with
        | some (.mp p es) => match putKV k x es with
          | some es' => .set id (.mp (p && x.pure) es') (.ret (.v undef))
          | none => .fail
        | some (.mf K V g) => match K.unav k, V.unav x with
          | some y, some s => .set id (.mf K V fun x => cond (K.keq x y) (some s) (g x)) (.ret (.v undef))
          | _, _ => .fail
        | _ => .fail
      | _ => .fail
    else mapUpdateS P kt m k x
  | none => .fail

/-! ### Numbers, strings, comparisons -/
def binI (op : BinOp) (k yk : IntKind) (a b : Int) : AM AV :=
  match op with
  | .shl => .br (decide (0 ≤ b)) (.ret (.v (.int k (k.wrap (a * 2 ^ (min b.toNat k.bits)))))) .fail
  | .shr => .br (decide (0 ≤ b)) (.ret (.v (.int k (a.fdiv (2 ^ (min b.toNat k.bits)))))) .fail
  | .quo => if k = yk then .br (b != 0) (.ret (.v (.int k (k.wrap (a.tdiv b))))) .fail else .fail
  | .rem => if k = yk then .br (b != 0) (.ret (.v (.int k (a.tmod b)))) .fail else .fail
  | op => if k = yk then .ret (.v (match op with
    | .add => .int k (k.wrap (a + b))
    | .sub => .int k (k.wrap (a - b))
    | .mul => .int k (k.wrap (a * b))
    | .and => .int k (k.wrap (BitVec.ofInt k.bits a &&& BitVec.ofInt k.bits b).toNat)
    | .or => .int k (k.wrap (BitVec.ofInt k.bits a ||| BitVec.ofInt k.bits b).toNat)
    | .xor => .int k (k.wrap (BitVec.ofInt k.bits a ^^^ BitVec.ofInt k.bits b).toNat)
    | .andNot => .int k (k.wrap (BitVec.ofInt k.bits a &&& ~~~(BitVec.ofInt k.bits b)).toNat)
    | .eql => .bool (a == b)
    | .neq => .bool (a != b)
    | .lss => .bool (decide (a < b))
    | .leq => .bool (decide (a ≤ b))
    | .gtr => .bool (decide (a > b))
    | _ => .bool (decide (a ≥ b)))) else .fail

def binS (op : BinOp) (a b : ByteArray) : AM AV :=
  match op with
  | .add => .br (decide (a.size + b.size ≤ 9223372036854775807)) (.ret (.v (.string (a ++ b)))) .fail
  | .eql => .ret (.v (.bool (a.toList == b.toList)))
  | .neq => .ret (.v (.bool !(a.toList == b.toList)))
  | .lss => .ret (.v (.bool (Op.bytesLess a.toList b.toList)))
  | .leq => .ret (.v (.bool (Op.bytesLess a.toList b.toList || a.toList == b.toList)))
  | .gtr => .ret (.v (.bool !(Op.bytesLess a.toList b.toList || a.toList == b.toList)))
  | .geq => .ret (.v (.bool !(Op.bytesLess a.toList b.toList)))
  | _ => .fail

def nilEq : AV → Option Bool     -- is it nil?
  | .ptr .. | .rp .. | .mp _ | .fn .. | .ifc .. => some false
  | .v (.pointer none) | .v (.map none) | .v .nilFunc | .v .nilIface => some true
  | _ => none

def isNil : AV → Bool
  | .v (.pointer none) | .v (.map none) | .v .nilFunc | .v .nilIface => true
  | _ => false

/-- Are the parts of two structs the same? -/
def eqFs (e : TypeId → AV → AV → Option Bool) : List Field → List AV → List AV → Option Bool
  | [], _, _ => some true
  | f :: fs, xs, ys => if f.name = "_" then none else
    match aggO P f.type, szO P f.type with
    | some g, some n => match rdCells g n xs f.offset, rdCells g n ys f.offset with
      | some a, some b => match e f.type a b, eqFs e fs xs ys with
        | some r, some rs => some (r && rs)
        | _, _ => none
      | _, _ => none
    | _, _ => none
/-- Are two values of a type the same? -/
def eqV : Nat → TypeId → AV → AV → Option Bool
  | 0, _, _, _ => none
  | d + 1, t, x, y => match P.underlying t, x, y with
    | some .bool, .v (.bool a), .v (.bool b) => some (a == b)
    | some (.int _), .v (.int k a), .v (.int k' b) => if k' = k then some (a == b) else none
    | some .string, .v (.string a), .v (.string b) => some (a.toList == b.toList)
    | some (.struct fs), .agg xs, .agg ys => if P.stoodInHeld t = false then eqFs P (eqV d) fs.toList xs ys else none
    | _, _, _ => none

def binM (op : BinOp) (t : TypeId) (x y : AV) : AM AV :=
  match x, y with
  | .v (.bool a), .v (.bool b) => if boolO P t then match op with
      | .eql => .ret (.v (.bool (a == b)))
      | .neq => .ret (.v (.bool !(a == b)))
      | _ => .fail
    else .fail
  | .v (.int k a), .v (.int k' b) => binI op k k' a b
  | .v (.string a), .v (.string b) => binS op a b
  | .agg xs, .agg ys => if P.eqGuardType P.depth t = false then match eqV P 10000 t (.agg xs) (.agg ys), op with
      | some r, .eql => .ret (.v (.bool r))
      | some r, .neq => .ret (.v (.bool !r))
      | _, _ => .fail
    else .fail
  | .ptr .., .v (.pointer none) | .rp .., .v (.pointer none) | .v (.pointer none), .v (.pointer none) => if ptrO P t then
      (match op with
      | .eql => .ret (.v (.bool (match x with | .v _ => true | _ => false)))
      | .neq => .ret (.v (.bool (match x with | .v _ => false | _ => true)))
      | _ => .fail)
    else .fail
  | _, _ => .fail

def unM (op : UnOp) (x : AV) : AM AV :=
  match op, x with
  | .not, .v (.bool b) => .ret (.v (.bool !b))
  | .neg, .v (.int k n) => .ret (.v (.int k (k.wrap (0 - n))))
  | .xor, .v (.int k n) => .ret (.v (.int k (k.wrap (BitVec.ofInt k.bits (if k.signed then -1 else k.max) ^^^ BitVec.ofInt k.bits n).toNat)))
  | _, _ => .fail

/-- The text of some bytes. -/
def bytesOf (l : List Int) : ByteArray := l.foldl (fun r n => r.push (UInt8.ofNat n.toNat)) ByteArray.empty
/-- A text's bytes. -/
def bytesL (s : ByteArray) : List Int := s.data.toList.map fun b => ((b.toNat : Nat) : Int)
def u8O (t : TypeId) : Bool := match P.underlying t with
  | some (.slice e) => (match P.underlying e with | some (.int .u8) => true | _ => false)
  | _ => false
def bstrM (hp : Nat → Option AB) (x : AV) : AM AV :=
  if Ty.ok hp (.slice (.int .u8)) [x] = true then .ret (.v (.string (bytesOf (Ty.dec hp (.slice (.int .u8)) [x])))) else .fail

def convertM (src dst : TypeId) (x : AV) : AM AV :=
  match x with
  | .v (.int _ n) => match intO P src, intO P dst with
    | some _, some k => .ret (.v (.int k (k.wrap n)))
    | _, _ => .fail
  | .v (.string s) => if strO P src ∧ strO P dst then .ret (.v (.string s)) else
      if strO P src = true ∧ u8O P dst = true then .new (.row true 1 (.ty (.int .u8) (bytesL s))) fun id => .ret (.hs false id 0 s.size) else .fail
  | .hs tg id e n => if strO P dst = true ∧ u8O P src = true then .get id fun b => bstrM (fun i => cond (Nat.beq i id) b none) (.hs tg id e n) else .fail
  | .sl tg sz es => if strO P dst = true ∧ u8O P src = true then bstrM (fun _ => none) (.sl tg sz es) else .fail
  | _ => .fail

/-! ### Calls -/
def reachM : Nat → List Nat → List (Nat × Option AB) → AM (List (Nat × Option AB))
  | 0, [], seen => .ret seen
  | 0, _, _ => .fail
  | _ + 1, [], seen => .ret seen
  | n + 1, i :: todo, seen =>
    if seen.any (·.1 == i) then reachM n todo seen else
    .get i fun b => match b with
      | some b => reachM n (b.ids ++ todo) (seen ++ [(i, some b)])
      | none => reachM n todo (seen ++ [(i, none)])

def writeBack (back : Nat → Option Nat) : List Nat → AH → AM Unit
  | [], _ => .ret ()
  | i :: r, b :: H => match b with
    | some b => .set i (b.ren back) (writeBack back r H)
    | none => .kill i (writeBack back r H)
  | _ :: _, [] => .fail

def newAll (back : Nat → Option Nat) : AH → AM Unit
  | [] => .ret ()
  | some b :: r => .new (b.ren back) fun _ => newAll back r
  | none :: _ => .fail

/-- The functions that are called: what each comes to (where what stands ahead holds); and those that are lent what they are handed in, as data of these kinds. -/
structure CallF where
  call : FuncId → List AV → AH → Tr
  lend : FuncId → Option (List Ty)
  mix : FuncId → Option (List (Option Ty)) := fun _ => none
  site : Option (FuncId × Nat) := none
  held : List Nat := []
  grow : List TypeId := []
  arr : List TypeId := []

def asDatas (hp : Nat → Option AB) : List Ty → List AV → Option (List AV)
  | [], [] => some []
  | T :: Ts, x :: xs => match asData hp T x, asDatas hp Ts xs with
    | some y, some ys => some (y :: ys)
    | _, _ => none
  | _, _ => none

def seenAt : List (Nat × Option AB) → Nat → Option AB
  | [], _ => none
  | (k, b) :: r, i => cond (Nat.beq i k) b (seenAt r i)

/-- Does a value stand for itself, whatever the heap? -/
def AV.flat : AV → Bool
  | .v _ => true
  | .agg cs => cs.all fun c => match c with | .v _ => true | _ => false
  | .tup cs => cs.all fun c => match c with | .v _ => true | _ => false
  | _ => false


/-- Does a value not look into memory that may change? -/
def AV.fl1 : AV → Bool
  | .v _ | .hs .. | .ptr .. | .mp _ | .junk => true
  | .agg cs => cs.all fun c => match c with | .v _ => true | _ => false
  | _ => false
def AV.solid : AV → Bool
  | .tup cs => cs.all AV.fl1
  | x => x.fl1
def Ty.noSl : Ty → Bool
  | .slice _ => false
  | .pair a b => a.noSl && b.noSl
  | _ => true
def Rows.solid : Rows AV → Bool
  | .ty T _ => T.noSl
  | .lit es => es.all fun c => c.all AV.fl1
  | _ => false
def solidH : AH → Bool
  | [] => true
  | none :: r => solidH r
  | some (.row _ _ es) :: r => es.solid && solidH r
  | _ :: _ => false

def callM (cf : CallF) (f : FuncId) (args : List AV) : AM AV :=
  (reachM (200 + 20 * (AV.idss args).length) (AV.idss args) []).bind fun seen =>
    let live := seen.filterMap fun x => x.2.map fun b => (x.1, b)
    let ids := live.map (·.1)
    let ρ := idxOf ids
    if ids.Nodup then
    .call (cf.call f (AV.rens ρ args) (live.map fun x => some (x.2.ren ρ))) fun r H2 => .next fun nx =>
      let back (k : Nat) : Option Nat := match ids[k]? with
        | some i => some i
        | none => some (nx + (k - ids.length))
      (writeBack back ids (H2.take ids.length)).bind fun _ => (newAll back (H2.drop ids.length)).bind fun _ =>
        match r with
        | .ok x => .ret (x.ren back)
        | .pn x => .pn (x.ren back)
    else .fail

def lendM (cf : CallF) (f : FuncId) (Ts : List Ty) (args : List AV) : AM AV :=
  (reachM (200 + 20 * (AV.idss args).length) (AV.idss args) []).bind fun seen =>
    match asDatas (seenAt seen) Ts args with
    | some xs => .call (cf.call f xs []) fun r H2 => match r, H2 with
      | .ok x, [] => if x.flat then .ret x else .fail
      | .pn x, [] => if x.flat then .pn x else .fail
      | .ok x, b :: H2 => if (x.solid && solidH (b :: H2)) = true then .next fun nx =>
          (newAll (fun k => some (nx + (k - 0))) (b :: H2)).bind fun _ => .ret (x.ren fun k => some (nx + (k - 0))) else .fail
      | _, _ => .fail
    | none => .fail

/-- A call of a function that takes data: what names no blocks is handed over as data; else it is lent. -/
def dataM (cf : CallF) (f : FuncId) (Ts : List Ty) (args : List AV) : AM AV :=
  if (AV.idss args).isEmpty then
    match asDatas (fun _ => none) Ts args with
    | some xs => callM cf f xs
    | none => .fail
  else lendM cf f Ts args

def mixArgs (hp : Nat → Option AB) (ρ : Nat → Option Nat) : List (Option Ty) → List AV → Option (List AV)
  | [], [] => some []
  | none :: Ts, x :: xs => match mixArgs hp ρ Ts xs with
    | some ys => some (x.ren ρ :: ys)
    | none => none
  | some T :: Ts, x :: xs => match asData hp T x, mixArgs hp ρ Ts xs with
    | some y, some ys => some (y :: ys)
    | _, _ => none
  | _, _ => none
def mixKept : List (Option Ty) → List AV → List AV
  | none :: Ts, x :: xs => x :: mixKept Ts xs
  | some _ :: Ts, _ :: xs => mixKept Ts xs
  | _, _ => []
def mixLent : List (Option Ty) → List AV → List AV
  | none :: Ts, _ :: xs => mixLent Ts xs
  | some _ :: Ts, x :: xs => x :: mixLent Ts xs
  | _, _ => []

/-- A call that lends some of what it hands over, as data, and hands over the rest with its blocks. -/
def mixM (cf : CallF) (f : FuncId) (Ts : List (Option Ty)) (args : List AV) : AM AV :=
  (reachM (200 + 20 * (AV.idss args).length) (AV.idss (mixKept Ts args)) []).bind fun seen =>
  (reachM (200 + 20 * (AV.idss args).length) (AV.idss (mixLent Ts args)) []).bind fun seenD =>
    let live := seen.filterMap fun x => x.2.map fun b => (x.1, b)
    let ids := live.map (·.1)
    let ρ := idxOf ids
    if ids.Nodup ∧ (seenD.all fun x => x.2.isNone || !ids.contains x.1) = true then
    match mixArgs (seenAt seenD) ρ Ts args with
    | some xs => .call (cf.call f xs (live.map fun x => some (x.2.ren ρ))) fun r H2 => .next fun nx =>
      let back (k : Nat) : Option Nat := match ids[k]? with
        | some i => some i
        | none => some (nx + (k - ids.length))
      if solidH H2 = true then
      (writeBack back ids (H2.take ids.length)).bind fun _ => (newAll back (H2.drop ids.length)).bind fun _ =>
        match r with
        | .ok x => if x.solid = true then .ret (x.ren back) else .fail
        | .pn x => if x.solid = true then .pn (x.ren back) else .fail
      else .fail
    | none => .fail
    else .fail

def appNew (s bt : Nat) (old xs : Rows AV) (p : Bool) : AM AV :=
  if 0 < s then .br (decide ((old.len + xs.len) * bt ≤ 2 ^ 46 ∧ old.len + xs.len ≤ 2 ^ 46))
    (.new (.row p s (old.cat xs)) fun id => .ret (.hs false id 0 (old.len + xs.len))) .fail
  else .fail

/-- 'append(a, xs...)', where the elements xs are known. -/
def appOnto (s bt : Nat) (p2 : Bool) (xs : Rows AV) (a : AV) : AM AV :=
  match a with
  | .v (.slice none 0 0) => appNew s bt (.lit []) xs p2
  | .hs true i e n => .br (n == 0) (appNew s bt (.lit []) xs p2) (.get i fun b => match b with
    | some (.row p sz es) => if sz = s then
        .br (xs.len == 0) (.ret (.hs true i e n)) (appNew s bt (es.cut e n) xs (p && p2))
      else .fail
    | _ => .fail)
  | .hs false i e n => .get i fun b => match b with
    | some (.row p sz es) => if sz = s then .kill i (appNew s bt (es.cut e n) xs (p && p2)) else .fail
    | _ => .fail
  | .sl true sz es => if sz = s then
      .br (es.len == 0) (appNew s bt (.lit []) xs p2) (.br (xs.len == 0) (.ret (.sl true sz es)) (appNew s bt es xs p2))
    else .fail
  | _ => .fail

def appendM (ts : Array TypeId) (args : List AV) : AM AV :=
  match (ts[0]?).bind (elemO P), (ts[1]?).bind (elemO P) with
  | some e, some e' => match szO P e, byO P e, zeroO P e with
    | some s, some bt, some z => if e' = e ∧ z.length = s then
        match args with
        | [a, .v (.slice none 0 0)] => appOnto s bt true (.lit []) a
        | [a, .sl _ sz xs] => if sz = s then appOnto s bt true xs a else .fail
        | [a, .hs _ i e' n] => .get i fun b => match b with
          | some (.row p sz es) => if sz = s then appOnto s bt p (es.cut e' n) a else .fail
          | _ => .fail
        | _ => .fail
      else .fail
    | _, _, _ => .fail
  | _, _ => .fail

/-- So many zeros. -/
def zerosR (e : TypeId) (n : Nat) (z : List AV) : Rows AV := match tyG P 8 e with
  | some T => match T.undo z with
    | some x => .ty T (mkL n fun _ => x)
    | none => .rep n z
  | none => .rep n z
def i64O (t : TypeId) : Bool := match P.underlying t with
  | some (.int .i64) => true
  | _ => false
/-- 'append(a, make([]T, m)...)', where a has no room. -/
def appendZ (ts : Array TypeId) (args : List AV) : AM AV :=
  match (ts[0]?).bind (elemO P) with
  | some e0 => match szO P e0, byO P e0, zeroO P e0 with
    | some s, some bt, some z => if z.length = s ∧ 0 < s then
        match args with
        | [.hs true i e n, .v (.int .i64 m)] => .br (decide (0 ≤ m)) (appOnto s bt true (zerosR P e0 m.toNat z) (.hs true i e n)) .fail
        | [.v (.slice none 0 0), .v (.int .i64 m)] => .br (decide (0 ≤ m)) (appOnto s bt true (zerosR P e0 m.toNat z) (.v (.slice none 0 0))) .fail
        | _ => .fail
      else .fail
    | _, _, _ => .fail
  | _ => .fail

/-- A row, some of whose elements are written over. -/
def Rows.over (r : Rows AV) (e : Nat) (xs : Rows AV) : Rows AV := (r.cut 0 e).cat (xs.cat (r.cut (e + xs.len) (r.len - (e + xs.len))))
/-- Elements written over, in a block. -/
def overM (s : Nat) (i e : Nat) (room : Nat) (p2 : Bool) (xs : Rows AV) (x : AV) : AM AV :=
  .get i fun b => match b with
  | some (.row p sz es) => if sz = s then .br (decide (e + room ≤ es.len)) (.set i (.row (p && p2) sz (es.over e xs)) (.ret x)) .fail else .fail
  | _ => .fail
def copyM (ts : Array TypeId) (args : List AV) : AM AV :=
  match (ts[0]?).bind (elemO P) with
  | some el => match szO P el with
    | some s => match args with
      | [.hs _ i e n, .v (.string t)] => if ((ts[0]?).map (u8O P)).getD false = true ∧ s = 1 then
          overM s i e n true ((Rows.ty (.int .u8) (bytesL t)).cut 0 (Nat.min t.size n)) (.v (.int .i64 ((Nat.min t.size n : Nat) : Int))) else .fail
      | [.hs _ i e n, .sl _ sz xs] => if sz = s then overM s i e n true (xs.cut 0 (Nat.min xs.len n)) (.v (.int .i64 ((Nat.min xs.len n : Nat) : Int))) else .fail
      | [.hs _ i e n, .hs _ i' e' n'] => .get i' fun b => match b with
        | some (.row p sz xs) => if sz = s then .br (decide (e' + n' ≤ xs.len)) (overM s i e n p (xs.cut e' (Nat.min n' n)) (.v (.int .i64 ((Nat.min n' n : Nat) : Int)))) .fail else .fail
        | _ => .fail
      | _ => .fail
    | none => .fail
  | none => .fail
def clearM (ts : Array TypeId) (args : List AV) : AM AV :=
  match (ts[0]?).bind (elemO P) with
  | some el => match szO P el, zeroO P el with
    | some s, some z => if z.length = s ∧ 0 < s then
      match args with
      | [.hs _ i e n] => overM s i e n true (zerosR P el n z) (.tup [])
      | _ => .fail
      else .fail
    | _, _ => .fail
  | none => .fail

def lenM (ts : Array TypeId) (args : List AV) : AM AV :=
  match args with
  | [.v (.string s)] => if ((ts[0]?).map (strO P)).getD false then .ret (.v (.int .i64 s.size)) else .fail
  | [.sl _ _ es] => if ((ts[0]?).bind (elemO P)).isSome then .ret (.v (.int .i64 es.len)) else .fail
  | [.hs _ _ _ n] => if ((ts[0]?).bind (elemO P)).isSome then .ret (.v (.int .i64 n)) else .fail
  | [.v (.slice none 0 0)] => if ((ts[0]?).bind (elemO P)).isSome then .ret (.v (.int .i64 0)) else .fail
  | [.mp i] => if ((ts[0]?).bind (mapO P)).isSome then .get i fun b => match b with
      | some (.mp _ es) => .ret (.v (.int .i64 es.length))
      | _ => .fail
    else .fail
  | _ => .fail

def maxF (k : IntKind) (x : Int) : List AV → Option AV
  | [] => some (.v (.int k x))
  | .v (.int _ y) :: r => maxF k (if y > x then y else x) r
  | _ => none
def maxI : List AV → Option AV
  | .v (.int k x) :: r => maxF k x r
  | _ => none
def minF (k : IntKind) (x : Int) : List AV → Option AV
  | [] => some (.v (.int k x))
  | .v (.int _ y) :: r => minF k (if y < x then y else x) r
  | _ => none
def minI : List AV → Option AV
  | .v (.int k x) :: r => minF k x r
  | _ => none

def builtinM (b : Builtin) (ts : Array TypeId) (args : List AV) : AM AV :=
  match b with
  | .append => cond (((ts[1]?).map (i64O P)).getD false) (appendZ P ts args) (appendM P ts args)
  | .copy => copyM P ts args
  | .clear => clearM P ts args
  | .len => lenM P ts args
  | .max => .ofO (maxI args)
  | .min => .ofO (minI args)
  | _ => .fail

def callOpM (cf : CallF) (env : Env) (c : Call) : AM AV :=
  match c.callee with
  | .builtin b => builtinM P b c.argTypes (c.args.toList.map (ev env))
  | .value f => match ev env f with
    | .fn (.func f) first cap => match P.funcs[f]? with
      | some fn => if fn.body.isSome ∧ fn.name ≠ "runtime.NumGoroutine" then
          match cf.mix f with
          | some Ts => mixM cf f Ts (first ++ c.args.toList.map (ev env) ++ cap)
          | none => match cf.lend f with
          | some Ts => dataM cf f Ts (first ++ c.args.toList.map (ev env) ++ cap)
          | none => callM cf f (first ++ c.args.toList.map (ev env) ++ cap)
        else .fail
      | none => .fail
    | _ => .fail
  | _ => .fail

def nilPanic : AV := .ifc P.rt.errorString (.v (strVal "invalid memory address or nil pointer dereference"))

def opM (cf : CallF) (env : Env) (o : Oper) : AM AV :=
  match o.op with
  | .move x | .assign x => .ret (ev env x)
  | .pick c a b => match ev env c with
    | .v (.bool t) => .br t (.ret (ev env a)) (.ret (ev env b))
    | _ => .fail
  | .alloc t => cond (cf.arr.contains t) (allocA P t) (cond (cf.grow.contains t) (allocG P t) (allocM P t))
  | .box _ x => boxM (ev env x)
  | .build t parts => buildM P t (parts.toList.map fun x => (x.1, ev env x.2))
  | .buildSlice t len parts => buildSliceM P t len (parts.toList.map fun x => (x.1, ev env x.2))
  | .load t a => loadM P t (ev env a)
  | .store t a x => storeM P t (ev env a) (ev env x).slack
  | .nilCheck x => match ev env x with
    | .v (.pointer none) | .v .nilIface | .v .nilFunc => .pn (nilPanic P)
    | .ptr i e j => .ret (.ptr i e j)
    | .rp s es e j => .ret (.rp s es e j)
    | _ => .fail
  | .binOp op t x y _ => binM P op t (ev env x) (ev env y)
  | .unOp op _ x => unM op (ev env x)
  | .convert src dst x => convertM P src dst (ev env x)
  | .makeFunc f first cap => .ret (.fn f (first.toList.map (ev env)) (cap.toList.map (ev env)))
  | .makeMap t none => makeMapM P t
  | .makeSlice t l c => makeSliceM P t (ev env l) (ev env c)
  | .slice t x lo hi mx => sliceM P t (ev env x) (lo.map (ev env)) (hi.map (ev env)) (mx.map (ev env))
  | .fieldAddr t x f => fieldAddrM P t (ev env x) f
  | .field t x f => fieldM P t (ev env x) f
  | .indexAddr t x i => indexAddrM P t (ev env x) (ev env i)
  | .index t x i => indexM P t (ev env x) (ev env i)
  | .lookup t m k ok => lookupM P t (ev env m) (ev env k) ok
  | .mapUpdate t m k x => mapUpdateM P t (ev env m) (ev env k) (ev env x)
  | .extract x i => match ev env x with
    | .tup vs => .ofO vs[i]?
    | _ => .fail
  | .call c => callOpM P cf env c
  | _ => .fail

/-! ### Runs -/
structure St where
  env : Env
  heap : AH
  nx : Nat

inductive AX where
  | nm
  | ex (id : Nat)
  | gt (l : Nat)
  | rt
  | pn (x : AV)

/-- A temporary written. -/
def pushO (env : Env) (d : Option Tmp) (x : AV) : Env :=
  match d with
  | some d => (d, x) :: env
  | none => env
def dOk (N : Nat) (d : Option Tmp) : Bool :=
  match d with
  | some d => Nat.blt d N
  | none => true
/-- The same, where there is such a one (N: how many there are). -/
def putO (N : Nat) (env : Env) (d : Option Tmp) (x : AV) : Option Env := cond (dOk N d) (some (pushO env d x)) none

def yieldA (ops : Array Oper) (env : Env) (j : Nat) : Option (Option Bool) :=
  match (ops[j]?).bind (·.dst) with
  | none => some none
  | some d => match look env d with
    | .v (.bool b) => some (some b)
    | .junk => none
    | _ => some none

/-! ### A range over a function: one round; the statement -/
section
variable [Sites]
/-- The same, where nothing panics. -/
def AM.np {α : Type} : AM α → AM α
  | .ret a => .ret a
  | .pn _ => .fail
  | .fail => .fail
  | .get i k => .get i fun b => (k b).np
  | .next k => .next fun b => (k b).np
  | .set i b k => .set i b k.np
  | .kill i k => .kill i k.np
  | .new b k => .new b fun i => (k i).np
  | .br b t e => .br b t.np e.np
  | .call r k => .call r fun x H => (k x H).np

/-- What a temporary holds is known now. -/
def repl : Env → Nat → AV → Env
  | [], _, _ => []
  | (k, y) :: r, t, x => cond (Nat.beq t k) ((k, x) :: r) ((k, y) :: repl r t x)
def replG (ops : Array Oper) (env : Env) (j : Nat) (b : Bool) : Env := match (ops[j]?).bind (·.dst) with
  | some d => repl env d (.v (.bool b))
  | none => env
def replC (env : Env) (c : Operand) (b : Bool) : Env := match c with
  | .tmp t => repl env t (.v (.bool b))
  | _ => env

def stepR (cf : CallF) (N : Nat) (o : Oper) (env : Env) : AM Env := (opM P cf env o).np.bind fun x => cond (dOk N o.dst) (.ret (pushO env o.dst x)) .fail
def skipR (N : Nat) (o : Oper) (env : Env) : AM Env := cond (dOk N o.dst) (.ret (pushO env o.dst (.v undef))) .fail
def opsR (cf : CallF) (N : Nat) (ops : Array Oper) : List Oper → Env → AM Env
  | [], env => .ret env
  | o :: r, env => match o.guard with
    | none => (stepR P cf N o env).bind (opsR cf N ops r)
    | some (j, want) => match yieldA ops env j with
      | none => .fail
      | some none => (skipR N o env).bind (opsR cf N ops r)
      | some (some b) => match want with
        | true => .br b ((stepR P cf N o (replG ops env j true)).bind (opsR cf N ops r)) ((skipR N o (replG ops env j false)).bind (opsR cf N ops r))
        | false => .br b ((skipR N o (replG ops env j true)).bind (opsR cf N ops r)) ((stepR P cf N o (replG ops env j false)).bind (opsR cf N ops r))
/-- A round's code. -/
def codeR (cf : CallF) (N : Nat) : Code → Env → AM Env
  | .skip, env => .ret env
  | .label _, env => .ret env
  | .region _ ops draw, env => cond draw .fail (opsR P cf N ops ops.toList env)
  | .seq a b, env => (codeR cf N a env).bind (codeR cf N b)
  | .block _ c, env => codeR cf N c env
  | .cond c a b, env => match ev env c with
    | .v (.bool t) => .br t (codeR cf N a (replC env c true)) (codeR cf N b (replC env c false))
    | _ => .fail
  | _, _ => .fail

def setTmps : List AV → List Tmp → List AV → List AV
  | caps, t :: ts, x :: xs => setTmps (caps.set t x) ts xs
  | caps, _, _ => caps
def argsE : Nat → List AV → Env
  | _, [] => []
  | i, x :: xs => (i, x) :: argsE (i + 1) xs

def yieldM (cf : CallF) (id : Nat) (args : List AV) : AM AV :=
  .get id fun b => match b with
    | some (.lp false k caps) => match Sites.t k with
      | some (ps, asg, body) => if args.length = ps.size then
          (codeR P cf caps.length asg (argsE 0 (setTmps caps ps.toList args))).bind fun env =>
            .get id fun b => match b with
              | some (.lp false k1 caps1) => if k1 = k ∧ caps1.length = caps.length then
                  .set id (.lp true k caps1) ((codeR P cf caps.length body env).bind fun _ => .get id fun b => match b with
                    | some (.lp true k2 caps2) => .set id (.lp false k2 caps2) (.ret (.v (.bool true)))
                    | _ => .fail)
                else .fail
              | _ => .fail
        else .fail
      | none => .fail
    | _ => .fail

/-- An operation, calls of what is yielded to among them. -/
def opA (cf : CallF) (env : Env) (o : Oper) : AM AV :=
  match o.op with
  | .call c => match c.callee with
    | .value f => match ev env f with
      | .yl id => yieldM P cf id (c.args.toList.map (ev env))
      | _ => opM P cf env o
    | _ => opM P cf env o
  | _ => opM P cf env o

def rangeM (cf : CallF) (N : Nat) (env : Env) (g : Operand) : AM AV :=
  match cf.site, ev env g with
  | some (_, k), .fn (.func f) first cap => match P.funcs[f]? with
    | some fn => if fn.body.isSome ∧ fn.name ≠ "runtime.NumGoroutine" then
        .new (.lp false k ((List.range N).map fun t => cond (cf.held.contains t) (look env t) .junk)) fun id =>
          (callM cf f (first ++ [.yl id] ++ cap)).np.bind fun _ => .get id fun b => match b with
            | some (.lp false _ _) => .kill id (.ret (.v undef))
            | _ => .fail
      else .fail
    | none => .fail
  | _, _ => .fail
end

section
variable [Sites]
def stepO (cf : CallF) (N : Nat) (o : Oper) (s : St) (k : St → Option (AX × St)) : Option (AX × St) :=
  match (opA P cf s.env o).run s.heap s.nx with
  | some (.ok x, H, n) => (putO N s.env o.dst x).bind fun env => k ⟨env, H, n⟩
  | some (.pn x, H, n) => some (.pn x, ⟨s.env, H, n⟩)
  | none => none

def runOps (cf : CallF) (N : Nat) (ops : Array Oper) : List Oper → St → Option (AX × St)
  | [], s => some (.nm, s)
  | o :: r, s =>
    match o.guard with
    | none => stepO P cf N o s (runOps cf N ops r)
    | some (j, want) => match yieldA ops s.env j with
      | none => none
      | some y => if y = some want then stepO P cf N o s (runOps cf N ops r)
        else (putO N s.env o.dst (.v undef)).bind fun env => runOps cf N ops r ⟨env, s.heap, s.nx⟩

/-! ### A region that draws its order: in the order of the text; and no two operations meet that could change places -/
abbrev Log := List Nat × List Nat
def disj (a b : List Nat) : Bool := a.all fun x => !b.contains x
def apartL (x y : Log) : Bool := disj x.2 y.1 && disj x.2 y.2 && disj y.2 x.1
def loud : List Log → Nat → List (Log × Nat)
  | [], _ => []
  | ([], []) :: r, i => loud r (i + 1)
  | x :: r, i => (x, i) :: loud r (i + 1)
/-- What stands ahead of each operation, as bits. -/
def bitsOf (acc : List Nat) (o : Oper) : Nat := o.after.toList.foldl (fun s e => if Region.binds .any e then s ||| 2 ^ e.on ||| acc.getD e.on 0 else s) 0
def befs : List Oper → List Nat → List Nat
  | [], acc => acc
  | o :: r, acc => befs r (acc ++ [bitsOf acc o])
def logsOk (bf : List Nat) (logs : List Log) : Bool :=
  let l := loud logs 0
  l.all fun y => y.1.2.isEmpty || l.all fun x => x.2 == y.2 || apartL x.1 y.1 || (bf.getD y.2 0).testBit x.2 || (bf.getD x.2 0).testBit y.2
def slotsOk (ops : Array Oper) : Bool :=
  let bf := befs ops.toList []
  ops.toList.zipIdx.all fun y => y.1.after.toList.all (fun e => !Region.binds .any e || e.on < y.2) &&
    ops.toList.zipIdx.all fun x => y.2 ≤ x.2 || (bf.getD y.2 0).testBit x.2 || x.1.apart ops y.1
def roomEach : Nat := 8

def runDraw (cf : CallF) (N : Nat) (ops : Array Oper) (base : Nat) : List Oper → Nat → Env → AH → List Log → Option (Env × AH × List Log)
  | [], _, env, H, logs => some (env, H, logs)
  | o :: r, i, env, H, logs =>
    let step : Option (Env × AH × List Log) :=
      match (opM P cf env o).runL H (base + roomEach * i) [] [] with
      | some (.ok x, H, n, R, W) => if n ≤ base + roomEach * (i + 1) then (putO N env o.dst x).bind fun env => runDraw cf N ops base r (i + 1) env H (logs ++ [(R, W)]) else none
      | _ => none
    match o.guard with
    | none => step
    | some (j, want) => match yieldA ops env j with
      | none => none
      | some y => if y = some want then step else (putO N env o.dst (.v undef)).bind fun env => runDraw cf N ops base r (i + 1) env H (logs ++ [([], [])])

def runDrawn (cf : CallF) (N : Nat) (ops : Array Oper) (s : St) : Option (AX × St) :=
  if slotsOk ops then
    match runDraw P cf N ops s.nx ops.toList 0 s.env s.heap [] with
    | some (env, H, logs) => if logsOk (befs ops.toList []) logs then some (.nm, ⟨env, H, s.nx + roomEach * ops.size⟩) else none
    | none => none
  else none

/-! ### What is kept -/
/-- Of a temporary: as it is; as data of a kind; a slice, its row as data of a kind; a struct that is pointed to, part by part. -/
inductive Kp where
  | keep
  | data (T : Ty)
  | own (T : Ty)
  | flds (ks : List Kp)
  | drop

abbrev Keep := List (Nat × Kp)

/-- The blocks that stay, and those whose rows are told anew. -/
def kpIds : List (AV × Kp) → List Nat
  | [] => []
  | (x, .keep) :: r => x.ids ++ kpIds r
  | (_, .data _) :: r => kpIds r
  | (x, .own _) :: r => x.ids ++ kpIds r
  | (x, .flds _) :: r => x.ids ++ kpIds r
  | (_, .drop) :: r => kpIds r

def kpBlank : List (AV × Kp) → AH → AH
  | [], H => H
  | (.hs _ id _ _, .own T) :: r, H => kpBlank r (match H.at id with
    | some _ => H.setAt id (some (.row true T.size (.lit [])))
    | none => H)
  | (.ptr id _ _, .own T) :: r, H => kpBlank r (match H.at id with
    | some _ => H.setAt id (some (.row true T.size (.lit [])))
    | none => H)
  | _ :: r, H => kpBlank r H

def kpZip : List AV → List Kp → List (AV × Kp)
  | [], _ => []
  | x :: xs, [] => (x, .keep) :: kpZip xs []
  | x :: xs, k :: ks => (x, k) :: kpZip xs ks
def kpHide : List AV → List Kp → List AV
  | [], _ => []
  | x :: xs, [] => x :: kpHide xs []
  | x :: xs, k :: ks => (match k with | .data _ => .junk | .drop => .junk | _ => x) :: kpHide xs ks
/-- The same, with what stands in structs that are kept part by part. -/
def kpBlank2 : List (AV × Kp) → AH → AH
  | [], H => H
  | (.ptr id _ _, .flds ks) :: r, H => kpBlank2 r (match H.at id with
    | some (.row _ sz (.lit [cs])) => kpBlank (kpZip cs ks) (H.setAt id (some (.row false sz (.lit [kpHide cs ks]))))
    | _ => H)
  | x :: r, H => kpBlank2 r (kpBlank [x] H)

def gcTo (n0 : Nat) (ids : List Nat) (H : AH) : List Nat :=
  let r := reach H (List.range n0 ++ ids)
  List.range n0 ++ r.filter (n0 ≤ ·)

/-- The values as they are kept, the heap then, and the next name. -/
def kpAll (hp : Nat → Option AB) : List (AV × Kp) → AH → Nat → Option (List AV × AH × Nat)
  | [], H, nx => some ([], H, nx)
  | (x, .keep) :: r, H, nx => match kpAll hp r H nx with
    | some (xs, H', nx') => some (x :: xs, H', nx')
    | none => none
  | (x, .data T) :: r, H, nx => match asData hp T x with
    | some y => match kpAll hp r H nx with
      | some (xs, H', nx') => some (y :: xs, H', nx')
      | none => none
    | none => none
  | (x, .own T) :: r, H, nx => match x with
    | .v (.slice none 0 0) => if 0 < T.size then
        match kpAll hp r (H.setAt nx (some (.row true T.size (.ty T [])))) (nx + 1) with
        | some (xs, H', nx') => some (.hs false nx 0 0 :: xs, H', nx')
        | none => none
      else none
    | .hs _ id e n => match H.at id with
      | some (.row _ sz es) => if sz = T.size ∧ okR (fun c => decide (c.length = T.size) && T.ok hp c) T es = true then
          match kpAll hp r (H.setAt id (some (.row true sz (.ty T (decL (T.dec hp) es))))) nx with
          | some (xs, H', nx') => some (.hs false id e n :: xs, H', nx')
          | none => none
        else none
      | _ => none
    | .ptr id e j => match H.at id with
      | some (.row _ sz es) => if sz = T.size ∧ okR (fun c => decide (c.length = T.size) && T.ok hp c) T es = true then
          match kpAll hp r (H.setAt id (some (.row true sz (.ty T (decL (T.dec hp) es))))) nx with
          | some (xs, H', nx') => some (.ptr id e j :: xs, H', nx')
          | none => none
        else none
      | _ => none
    | _ => none
  | (_, .flds _) :: _, _, _ => none
  | (_, .drop) :: r, H, nx => match kpAll hp r H nx with
    | some (xs, H', nx') => some (.junk :: xs, H', nx')
    | none => none

/-- The same, with structs part by part. -/
def kpAll2 (hp : Nat → Option AB) : List (AV × Kp) → AH → Nat → Option (List AV × AH × Nat)
  | [], H, nx => some ([], H, nx)
  | (x, .flds ks) :: r, H, nx => match x with
    | .ptr id e j => match H.at id with
      | some (.row _ sz (.lit [cs])) => match kpAll hp (kpZip cs ks) H nx with
        | some (cs', H1, nx1) => match H1.at id with
          | some _ => match kpAll2 hp r (H1.setAt id (some (.row false sz (.lit [cs'])))) nx1 with
            | some (xs, H', nx') => some (.ptr id e j :: xs, H', nx')
            | none => none
          | none => none
        | none => none
      | _ => none
    | _ => none
  | (x, .keep) :: r, H, nx => match kpAll2 hp r H nx with
    | some (xs, H', nx') => some (x :: xs, H', nx')
    | none => none
  | (_, .drop) :: r, H, nx => match kpAll2 hp r H nx with
    | some (xs, H', nx') => some (.junk :: xs, H', nx')
    | none => none
  | (x, .data T) :: r, H, nx => match asData hp T x with
    | some y => match kpAll2 hp r H nx with
      | some (xs, H', nx') => some (y :: xs, H', nx')
      | none => none
    | none => none
  | (x, .own T) :: r, H, nx => match kpAll hp [(x, .own T)] H nx with
    | some (ys, H1, nx1) => match kpAll2 hp r H1 nx1 with
      | some (xs, H', nx') => some (ys ++ xs, H', nx')
      | none => none
    | none => none

/-- Some blocks alone, by their own names. -/
def AH.stay (H : AH) (ids : List Nat) : AH := (List.range H.length).map fun i => if ids.contains i then H.at i else none

def without (H : AH) (ids : List Nat) (i : Nat) : Option AB := if ids.contains i then none else H.at i

/-- Values kept, by new names; the first n0 blocks keep theirs. -/
def keepAll (n0 : Nat) (l : List (AV × Kp)) (H : AH) (nx : Nat) : Option (List AV × AH × Nat) :=
  let ids := gcTo n0 (kpIds l) (kpBlank2 l H)
  match kpAll2 (without H ids) l (H.stay ids) nx with
  | none => none
  | some (xs, H', nx') =>
    let ids' := gcTo n0 (AV.idss xs) H'
    if ids'.Nodup then some (AV.rens (idxOf ids') xs, H'.only ids', ids'.length) else none

def zipEnv : Keep → List AV → Env
  | (t, _) :: k, x :: xs => (t, x) :: zipEnv k xs
  | _, _ => []

def gc (n0 : Nat) (keep : Option Keep) (s : St) : Option St :=
  match keep with
  | none => some s
  | some m => match keepAll n0 (m.map fun k => (look s.env k.1, k.2)) s.heap s.nx with
    | some (xs, H, nx) => some ⟨zipEnv m xs, H, nx⟩
    | none => none

def loopN (f : St → Option (AX × St)) (g : St → Option St) : Nat → St → Option (AX × St)
  | 0, _ => none
  | n + 1, s => match g s with
    | none => none
    | some s => match f s with
      | some (.nm, s') => loopN f g n s'
      | r => r

/-- What is kept: at the heads of a block's loops; where a block is left; where one returns; of what is returned. -/
structure Pol where
  head : Nat → Option Keep
  tail : Nat → Option Keep
  ret : Option Keep
  res : List Kp
  free : List Nat := []

def run (cf : CallF) (N n0 n : Nat) (pol : Pol) : Option Keep → Code → St → Option (AX × St)
  | _, .skip, s => some (.nm, s)
  | _, .label _, s => some (.nm, s)
  | _, .region _ ops draw, s => if draw then runDrawn P cf N ops s else runOps P cf N ops ops.toList s
  | k, .seq a b, s => match run cf N n0 n pol k a s with
    | some (.nm, s') => run cf N n0 n pol k b s'
    | r => r
  | k, .cond c a b, s => match ev s.env c with
    | .v (.bool t) => if t then run cf N n0 n pol k a s else run cf N n0 n pol k b s
    | _ => none
  | _, .block id c, s => match run cf N n0 n pol (pol.head id) c s with
    | some (.ex i, s') => if i = id then some (.nm, s') else some (.ex i, s')
    | r => r
  | k, .loop c, s => loopN (run cf N n0 n pol none c) (gc n0 k) n s
  | _, .exit id, s => (gc n0 (pol.tail id) s).map fun s => (.ex id, s)
  | _, .ret, s => (gc n0 pol.ret s).map fun s => (.rt, s)
  | _, .rangeFunc g _ _ _, s => match (rangeM P cf N s.env g).run s.heap s.nx with
    | some (.ok _, H, n) => some (.nm, ⟨s.env, H, n⟩)
    | _ => none
  | _, _, _ => none

def resultA (env : Env) (H : AH) : ResultVar → Option AV
  | .tmp t => some (look env t)
  | .cell a t => match (loadM P t (look env a)).run H 0 with
    | some (.ok x, _) => some x
    | _ => none

def resultsA (env : Env) (H : AH) : List ResultVar → Option (List AV)
  | [] => some []
  | r :: rs => match resultA P env H r, resultsA env H rs with
    | some x, some xs => some (x :: xs)
    | _, _ => none

def zipKp : List AV → List Kp → List (AV × Kp)
  | [], _ => []
  | x :: xs, [] => (x, .keep) :: zipKp xs []
  | x :: xs, k :: ks => (x, k) :: zipKp xs ks

def finish (n0 : Nat) (ks : List Kp) (xs : List AV) (H : AH) (nx : Nat) : Option (List AV × AH) :=
  (keepAll n0 (zipKp xs ks) H nx).map fun r => (r.1, r.2.1)

def oneOr : List AV → AV
  | [x] => x
  | xs => .tup xs

def retA (n0 : Nat) (pol : Pol) (rs : List ResultVar) (s : St) : Option (AR AV × AH) :=
  match resultsA P s.env s.heap rs with
  | some xs => (finish n0 pol.res xs s.heap s.nx).map fun r => (.ok (oneOr r.1), r.2)
  | none => none

def argsEnv : Nat → List AV → Env
  | _, [] => []
  | i, x :: xs => (i, x) :: argsEnv (i + 1) xs

/-- Some of the blocks that come in, by names that may change; the others keep theirs. -/
def moved (free : List Nat) (n : Nat) : List Nat := (List.range n).map (fun k => cond (free.contains k) (n + 100 + k) k) ++ free
def nodupB : List Nat → Bool
  | [] => true
  | x :: r => !r.contains x && nodupB r
omit [Sites] in
theorem nodupB_nodup : ∀ {l : List Nat}, nodupB l = true → l.Nodup
  | [], _ => by simp
  | x :: r, h => by
    simp only [nodupB, Bool.and_eq_true] at h
    have h1 := nodupB_nodup h.2
    simp at h
    simp [h1, h.1]
def startS (free : List Nat) (args : List AV) (H : AH) : St := match free with
  | [] => ⟨argsEnv 0 args, H, H.length⟩
  | _ => ⟨argsEnv 0 (AV.rens (idxOf (moved free H.length)) args), H.only (moved free H.length), (moved free H.length).length⟩

/-- One function, of which the loops go round fewer than n times. -/
def runF (cf : CallF) (n : Nat) (pol : Pol) (f : FuncId) (args : List AV) (H : AH) : Option (AR AV × AH) :=
  match P.funcs[f]? with
  | none => none
  | some fn => match fn.body with
    | none => none
    | some c =>
      if args.length ≤ fn.ntmps ∧ ((cf.site.map (·.1)).getD f) = f ∧ nodupB (moved pol.free H.length) = true then
        match run P cf fn.ntmps H.length n pol none c (startS pol.free args H) with
        | some (.nm, s) => retA P H.length pol fn.results.toList s
        | some (.rt, s) => retA P H.length pol fn.results.toList s
        | some (.pn x, s) => (finish H.length [] [x] s.heap s.nx).map fun r => (.pn (oneOr r.1), r.2)
        | _ => none
      else none
end
end
end Go.AMach
