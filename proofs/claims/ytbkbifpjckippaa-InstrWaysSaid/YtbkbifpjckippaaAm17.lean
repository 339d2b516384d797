/- The abstract machine: states that are known by their parts; loops, by their steps. -/
import Derived.Test.YtbkbifpjckippaaAm16
namespace Go.AMach
set_option linter.unusedVariables false
set_option linter.unusedSimpArgs false
set_option linter.unnecessarySimpa false
set_option linter.unusedSectionVars false
variable [Sites]
set_option linter.unusedVariables false
set_option linter.unusedSimpArgs false

/-! ### The parts of a state -/
/-- Values that stand for nothing. -/
def nulV : Nat → Value
  | 0 => .pointer none
  | 1 => .nilFunc
  | 2 => .map none
  | 3 => .nilIface
  | _ => .slice none 0 0
def isNul : Nat → AV → Bool
  | 0, .v (.pointer none) => true
  | 1, .v .nilFunc => true
  | 2, .v (.map none) => true
  | 3, .v .nilIface => true
  | _ + 4, .v (.slice none 0 0) => true
  | _, _ => false
theorem isNul_eq : ∀ {k : Nat} {x : AV}, isNul k x = true → x = .v (nulV k) := fun {k x} h => by
  unfold isNul at h
  split at h <;> first | rfl | cases h

inductive EK where
  | ty (T : Ty)
  | agg (T : Ty)
  | hs (id e : Nat)
  | hv (id : Nat)
  | ptr (id e j : Nat)
  | mp (id : Nat)
  | yl (id : Nat)
  | nul (k : Nat)
  | fn (f : FuncId) (caps : List (Nat × Nat × Nat))
  | mv (f : FuncId) (caps : List (Nat × Nat × Nat))
  | ci (k : IntKind) (n : Int)
  | cb (b : Bool)
  | junk

@[reducible] def EK.sem : EK → Type
  | .ty T => T.sem
  | .agg T => T.sem
  | .hs _ _ => Nat
  | .hv _ => Nat × Nat
  | _ => Unit

def NILCAP : Nat := 1000000
def capAV (c : Nat × Nat × Nat) : AV := cond (Nat.beq c.1 NILCAP) (.v (.pointer none)) (.ptr c.1 c.2.1 c.2.2)
def capAVs : List (Nat × Nat × Nat) → List AV
  | [] => []
  | c :: r => capAV c :: capAVs r
def capIs (c : Nat × Nat × Nat) (x : AV) : Bool := cond (Nat.beq c.1 NILCAP) (isNul 0 x) (match x with
  | .ptr i e j => decide (i = c.1 ∧ e = c.2.1 ∧ j = c.2.2)
  | _ => false)
theorem capIs_eq {c : Nat × Nat × Nat} {x : AV} (h : capIs c x = true) : x = capAV c := by
  unfold capIs at h
  unfold capAV
  cases hc : Nat.beq c.1 NILCAP with
  | true => rw [hc] at h; exact isNul_eq h
  | false =>
    rw [hc] at h
    simp only [cond_false] at h ⊢
    split at h
    · simp only [decide_eq_true_eq] at h
      obtain ⟨rfl, rfl, rfl⟩ := h; rfl
    · cases h
def capsAre : List (Nat × Nat × Nat) → List AV → Bool
  | [], [] => true
  | c :: r, x :: xs => capIs c x && capsAre r xs
  | _, _ => false
theorem capsAre_eq : ∀ (l : List (Nat × Nat × Nat)) (xs : List AV), capsAre l xs = true → xs = capAVs l
  | [], [], _ => rfl
  | [], x :: xs, h => by simp [capsAre] at h
  | c :: r, [], h => by simp [capsAre] at h
  | c :: r, x :: xs, h => by
    simp only [capsAre, Bool.and_eq_true] at h
    rw [capIs_eq h.1, capsAre_eq r xs h.2]; rfl

def EK.enc : (k : EK) → k.sem → AV
  | .ty T, s => AV.the (T.enc s)
  | .agg T, s => .agg (T.enc s)
  | .hs id e, n => .hs false id e n
  | .hv id, p => .hs false id p.1 p.2
  | .ptr id e j, _ => .ptr id e j
  | .mp id, _ => .mp id
  | .yl id, _ => .yl id
  | .nul k, _ => .v (nulV k)
  | .fn f caps, _ => .fn (.func f) [] (capAVs caps)
  | .mv f caps, _ => .fn (.func f) (capAVs caps) []
  | .ci k n, _ => .v (.int k n)
  | .cb b, _ => .v (.bool b)
  | .junk, _ => .junk

def EK.dec : (k : EK) → AV → Option k.sem
  | .ty T, x => T.undo [x]
  | .agg T, x => match x with
    | .agg cs => T.undo cs
    | _ => none
  | .hv id, x => match x with
    | .hs false id' e' n => if id' = id then some (e', n) else none
    | _ => none
  | .hs id e, x => match x with
    | .hs false id' e' n => if id' = id ∧ e' = e then some n else none
    | _ => none
  | .ptr id e j, x => match x with
    | .ptr id' e' j' => if id' = id ∧ e' = e ∧ j' = j then some () else none
    | _ => none
  | .mp id, x => match x with
    | .mp id' => if id' = id then some () else none
    | _ => none
  | .yl id, x => match x with
    | .yl id' => if id' = id then some () else none
    | _ => none
  | .nul k, x => cond (isNul k x) (some ()) none
  | .fn f caps, x => match x with
    | .fn (.func f') [] cs => if f' = f ∧ capsAre caps cs = true then some () else none
    | _ => none
  | .mv f caps, x => match x with
    | .fn (.func f') cs [] => if f' = f ∧ capsAre caps cs = true then some () else none
    | _ => none
  | .ci k n, x => match x with
    | .v (.int k' n') => if k' = k ∧ n' = n then some () else none
    | _ => none
  | .cb b, x => match x with
    | .v (.bool b') => if b' = b then some () else none
    | _ => none
  | .junk, x => match x with
    | .junk => some ()
    | _ => none

theorem EK.dec_enc : ∀ (k : EK) (x : AV) (s : k.sem), k.dec x = some s → x = k.enc s
  | .ty T, x, s, h => by
    simp only [EK.dec] at h
    simp only [EK.enc]
    rw [← undo_enc T _ _ h]; rfl
  | .agg T, x, s, h => by
    simp only [EK.dec] at h
    split at h
    · simp only [EK.enc]; rw [← undo_enc T _ _ h]
    · cases h
  | .hv id, x, s, h => by
    simp only [EK.dec] at h
    split at h
    · split at h
      · rename_i hc; subst hc; cases h; rfl
      · cases h
    · cases h
  | .hs id e, x, s, h => by
    simp only [EK.dec] at h
    split at h
    · split at h
      · rename_i hc; obtain ⟨rfl, rfl⟩ := hc; cases h; rfl
      · cases h
    · cases h
  | .ptr id e j, x, s, h => by
    simp only [EK.dec] at h
    split at h
    · split at h
      · rename_i hc; obtain ⟨rfl, rfl, rfl⟩ := hc; rfl
      · cases h
    · cases h
  | .mp id, x, s, h => by
    simp only [EK.dec] at h
    split at h
    · split at h
      · rename_i hc; subst hc; rfl
      · cases h
    · cases h
  | .yl id, x, s, h => by
    simp only [EK.dec] at h
    split at h
    · split at h
      · rename_i hc; subst hc; rfl
      · cases h
    · cases h
  | .nul k, x, s, h => by
    simp only [EK.dec] at h
    cases hn : isNul k x with
    | false => rw [hn] at h; cases h
    | true => exact isNul_eq hn
  | .fn f caps, x, s, h => by
    simp only [EK.dec] at h
    split at h
    · split at h
      · rename_i hc; obtain ⟨rfl, hc⟩ := hc; rw [capsAre_eq _ _ hc]; rfl
      · cases h
    · cases h
  | .mv f caps, x, s, h => by
    simp only [EK.dec] at h
    split at h
    · split at h
      · rename_i hc; obtain ⟨rfl, hc⟩ := hc; rw [capsAre_eq _ _ hc]; rfl
      · cases h
    · cases h
  | .ci k n, x, s, h => by
    simp only [EK.dec] at h
    split at h
    · split at h
      · rename_i hc; obtain ⟨rfl, rfl⟩ := hc; rfl
      · cases h
    · cases h
  | .cb b, x, s, h => by
    simp only [EK.dec] at h
    split at h
    · split at h
      · rename_i hc; subst hc; rfl
      · cases h
    · cases h
  | .junk, x, s, h => by
    simp only [EK.dec] at h
    split at h
    · rfl
    · cases h

@[reducible] def EK.sems : List EK → Type
  | [] => Unit
  | k :: r => k.sem × EK.sems r
def EK.encs : (l : List EK) → EK.sems l → List AV
  | [], _ => []
  | k :: r, s => k.enc s.1 :: EK.encs r s.2
def EK.decs : (l : List EK) → List AV → Option (EK.sems l)
  | [], [] => some ()
  | [], _ :: _ => none
  | _ :: _, [] => none
  | k :: r, x :: xs => match k.dec x, EK.decs r xs with
    | some a, some b => some (a, b)
    | _, _ => none
theorem EK.decs_encs : ∀ (l : List EK) (xs : List AV) (s : EK.sems l), EK.decs l xs = some s → xs = EK.encs l s
  | [], [], s, h => rfl
  | [], x :: xs, s, h => by cases h
  | k :: r, [], s, h => by cases h
  | k :: r, x :: xs, s, h => by
    simp only [EK.decs] at h
    split at h
    · rename_i a b h1 h2
      cases h
      simp only [EK.encs]
      rw [← EK.dec_enc k _ _ h1, ← EK.decs_encs r _ _ h2]
    · cases h

inductive HK where
  | row (T : Ty)
  | cell (T : Ty)
  | one (pure : Bool) (ks : List EK)
  | mf (K V : Ty)
  | lp (k : Nat) (ks : List EK)
  | gone

@[reducible] def HK.sem : HK → Type
  | .row T => List T.sem
  | .cell T => T.sem
  | .one _ ks => EK.sems ks
  | .mf K V => K.sem → Option V.sem
  | .lp _ ks => EK.sems ks
  | .gone => Unit
def HK.enc : (k : HK) → k.sem → Option AB
  | .row T, s => some (.row true T.size (.ty T s))
  | .cell T, s => some (.row true T.size (.ty T [s]))
  | .one p ks, s => some (.row p ks.length (.lit [EK.encs ks s]))
  | .mf K V, g => some (.mf K V g)
  | .lp k ks, s => some (.lp false k (EK.encs ks s))
  | .gone, _ => none
def HK.dec : (k : HK) → Option AB → Option k.sem
  | .row T, b => match b with
    | some (.row true sz (.ty T' l)) => if h : T' = T then (if sz = T.size then some (h ▸ l) else none) else none
    | _ => none
  | .cell T, b => match b with
    | some (.row true sz (.ty T' [x])) => if h : T' = T then (if sz = T.size then some (h ▸ x) else none) else none
    | _ => none
  | .one p ks, b => match b with
    | some (.row p' sz (.lit [cs])) => if p' = p ∧ sz = ks.length then EK.decs ks cs else none
    | _ => none
  | .mf K V, b => match b with
    | some (.mf K' V' g) => if h : K' = K then (if h' : V' = V then some (h ▸ h' ▸ g) else none) else none
    | _ => none
  | .lp k ks, b => match b with
    | some (.lp false k' cs) => if k' = k then EK.decs ks cs else none
    | _ => none
  | .gone, b => match b with
    | none => some ()
    | _ => none
theorem HK.dec_enc : ∀ (k : HK) (b : Option AB) (s : k.sem), k.dec b = some s → b = k.enc s
  | .row T, b, s, h => by
    simp only [HK.dec] at h
    split at h
    · split at h
      · rename_i ht
        subst ht
        split at h
        · rename_i hs; subst hs; cases h; rfl
        · cases h
      · cases h
    · cases h
  | .cell T, b, s, h => by
    simp only [HK.dec] at h
    split at h
    · split at h
      · rename_i ht
        subst ht
        split at h
        · rename_i hs; subst hs; cases h; rfl
        · cases h
      · cases h
    · cases h
  | .one p ks, b, s, h => by
    simp only [HK.dec] at h
    split at h
    · split at h
      · rename_i hc
        obtain ⟨rfl, rfl⟩ := hc
        simp only [HK.enc]
        rw [← EK.decs_encs ks _ _ h]
      · cases h
    · cases h
  | .mf K V, b, s, h => by
    simp only [HK.dec] at h
    split at h
    · split at h
      · rename_i h1
        subst h1
        split at h
        · rename_i h2; subst h2; cases h; rfl
        · cases h
      · cases h
    · cases h
  | .lp k ks, b, s, h => by
    simp only [HK.dec] at h
    split at h
    · split at h
      · rename_i hc
        subst hc
        simp only [HK.enc]
        rw [← EK.decs_encs ks _ _ h]
      · cases h
    · cases h
  | .gone, b, s, h => by
    simp only [HK.dec] at h
    split at h
    · rfl
    · cases h

@[reducible] def HK.sems : List HK → Type
  | [] => Unit
  | k :: r => k.sem × HK.sems r
def HK.encs : (l : List HK) → HK.sems l → AH
  | [], _ => []
  | k :: r, s => k.enc s.1 :: HK.encs r s.2
def HK.decs : (l : List HK) → AH → Option (HK.sems l)
  | [], [] => some ()
  | [], _ :: _ => none
  | _ :: _, [] => none
  | k :: r, x :: xs => match k.dec x, HK.decs r xs with
    | some a, some b => some (a, b)
    | _, _ => none
theorem HK.decs_encs : ∀ (l : List HK) (xs : AH) (s : HK.sems l), HK.decs l xs = some s → xs = HK.encs l s
  | [], [], s, h => rfl
  | [], x :: xs, s, h => by cases h
  | k :: r, [], s, h => by cases h
  | k :: r, x :: xs, s, h => by
    simp only [HK.decs] at h
    split at h
    · rename_i a b h1 h2
      cases h
      simp only [HK.encs]
      rw [← HK.dec_enc k _ _ h1, ← HK.decs_encs r _ _ h2]
    · cases h

/-- The parts of a state: what its temporaries hold, and its blocks. -/
structure Sig where
  slots : List Nat
  env : List EK
  heap : List HK

@[reducible] def Sig.sem (σ : Sig) : Type := EK.sems σ.env × HK.sems σ.heap
def zipS : List Nat → List AV → Env
  | t :: ts, x :: xs => (t, x) :: zipS ts xs
  | _, _ => []
def unzipS : List Nat → Env → Option (List AV)
  | [], [] => some []
  | t :: ts, (t', x) :: r => if t' = t then (match unzipS ts r with
    | some xs => some (x :: xs)
    | none => none) else none
  | _, _ => none
def Sig.enc (σ : Sig) (v : σ.sem) : St := ⟨zipS σ.slots (EK.encs σ.env v.1), HK.encs σ.heap v.2, σ.heap.length⟩
def Sig.dec (σ : Sig) (s : St) : Option σ.sem :=
  match unzipS σ.slots s.env with
  | some xs => match EK.decs σ.env xs, HK.decs σ.heap s.heap with
    | some a, some b => if s.nx = σ.heap.length then some (a, b) else none
    | _, _ => none
  | none => none

theorem unzipS_zipS : ∀ (ts : List Nat) (e : Env) (xs : List AV), unzipS ts e = some xs → e = zipS ts xs
  | [], [], xs, h => by simp [unzipS] at h; subst h; rfl
  | [], _ :: _, xs, h => by simp [unzipS] at h
  | t :: ts, [], xs, h => by simp [unzipS] at h
  | t :: ts, (t', x) :: r, xs, h => by
    simp only [unzipS] at h
    split at h
    case isFalse => cases h
    rename_i ht
    subst ht
    split at h
    case h_2 => cases h
    rename_i ys hy
    cases h
    simp only [zipS]
    rw [← unzipS_zipS ts r ys hy]

theorem Sig.dec_enc {σ : Sig} {s : St} {v : σ.sem} (h : σ.dec s = some v) : s = σ.enc v := by
  unfold Sig.dec at h
  split at h
  case h_2 => cases h
  rename_i xs hxs
  split at h
  case h_2 => cases h
  rename_i a b h1 h2
  split at h
  case isFalse => cases h
  rename_i hn
  cases h
  obtain ⟨env, heap, nx⟩ := s
  have e1 := unzipS_zipS _ _ _ hxs
  have e2 := EK.decs_encs _ _ _ h1
  have e3 := HK.decs_encs _ _ _ h2
  simp only at e1 e3 hn
  subst hn
  unfold Sig.enc
  rw [← e2, ← e1, ← e3]

/-! ### Loops -/
def iter {α : Type} (F : (α → Option Res) → α → Option Res) : Nat → α → Option Res
  | 0, _ => none
  | m + 1, v => F (iter F m) v

/-- What follows a turn of a loop. -/
def turnK (n0 : Nat) (keep : Option Keep) (σ : Sig) (rec : σ.sem → Option Res) (K : Cont) : Cont := fun x s => match x with
  | .nm => match gc n0 keep s with
    | some s2 => match σ.dec s2 with
      | some v => rec v
      | none => none
    | none => none
  | x => K x s

/-- A loop told by the table. -/
def loopT (n0 : Nat) (keep : Option Keep) (σ : Sig) (G : Cont → σ.sem → Option Res) : St → Cont → Option Res := fun s K =>
  match gc n0 keep s with
  | some s2 => match σ.dec s2 with
    | some v => G K v
    | none => none
  | none => none

theorem loopT_ok {P : Program} {cf : CallF} {N n0 n : Nat} {pol : Pol} {ls : Loops} {keep : Option Keep} {σ : Sig} {b : Code} (hb : LOk P cf N n0 n pol ls b) (F : Cont → (σ.sem → Option Res) → σ.sem → Option Res)
    (hF : ∀ K rec v, runT P cf N n0 pol ls b (σ.enc v) (turnK n0 keep σ rec K) = F K rec v) :
    ∀ (m : Nat) (s : St) (K : Cont) (r : Res), loopT n0 keep σ (fun K => iter (F K) m) s K = some r → ∃ x s', loopN (run P cf N n0 n pol none b) (gc n0 keep) m s = some (x, s') ∧ K x s' = some r := by
  intro m
  induction m with
  | zero =>
    intro s K r h
    unfold loopT at h
    split at h
    · split at h
      · cases h
      · cases h
    · cases h
  | succ m ih =>
    intro s K r h
    unfold loopT at h
    split at h
    case h_2 => cases h
    rename_i s2 hg
    split at h
    case h_2 => cases h
    rename_i v hv
    have he := Sig.dec_enc hv
    subst he
    have h : F K (iter (F K) m) v = some r := h
    rw [← hF] at h
    obtain ⟨x, s1, h1, h2⟩ := runT_some P b none _ _ _ hb h
    simp only [loopN, hg, h1]
    cases x with
    | nm => exact ih s1 K r h2
    | ex i => exact ⟨_, _, rfl, h2⟩
    | gt i => exact ⟨_, _, rfl, h2⟩
    | rt => exact ⟨_, _, rfl, h2⟩
    | pn i => exact ⟨_, _, rfl, h2⟩
end Go.AMach
