/- The abstract machine: how the relation goes on, step by step. -/
import Derived.Test.YtbkbifpjckippaaAm3
namespace Go.AMach
set_option linter.unusedVariables false
set_option linter.unusedSimpArgs false
set_option linter.unnecessarySimpa false
set_option linter.unusedSectionVars false
variable [Sites]
open Go.RowKit
set_option linter.unusedVariables false
set_option linter.unusedSimpArgs false

theorem at_nil (k : Nat) : AH.at [] k = none := by simp [AH.at]
theorem at_cons_zero (b : Option AB) (H : AH) : AH.at (b :: H) 0 = b := rfl
theorem at_cons_succ (b : Option AB) (H : AH) (k : Nat) : AH.at (b :: H) (k + 1) = AH.at H k := by simp [AH.at, List.getD]
theorem at_setAt (b : Option AB) : ∀ (H : AH) (i k : Nat), (H.setAt i b).at k = if k = i then b else H.at k
  | [], 0, k => by
    cases k with
    | zero => rfl
    | succ k => rw [AH.setAt, at_cons_succ, if_neg (by omega), at_nil, at_nil]
  | [], i + 1, k => by
    cases k with
    | zero => rw [AH.setAt, at_cons_zero, if_neg (by omega)]; rfl
    | succ k =>
      rw [AH.setAt, at_cons_succ, at_setAt b [] i k]
      by_cases h : k = i
      · subst h; simp
      · rw [if_neg h, if_neg (by omega)]; simp [at_nil]
  | x :: H, 0, k => by
    cases k with
    | zero => rfl
    | succ k => rw [AH.setAt, at_cons_succ, at_cons_succ, if_neg (by omega)]
  | x :: H, i + 1, k => by
    cases k with
    | zero => rw [AH.setAt, at_cons_zero, if_neg (by omega)]; rfl
    | succ k =>
      rw [AH.setAt, at_cons_succ, at_cons_succ, at_setAt b H i k]
      by_cases h : k = i
      · subst h; simp
      · rw [if_neg h, if_neg (by omega)]

theorem BRel.heap {ι φ} {w w' : World} {b off sz lim len : Nat} {blk : AB} (h : w'.heap[b]? = w.heap[b]?) (hb : BRel ι φ w (.at b off sz lim len) blk) :
    BRel ι φ w' (.at b off sz lim len) blk := by
  cases blk <;> simp only [BRel, h] at hb ⊢ <;> exact hb
theorem BRel.virt {ι φ φ'} {w w' : World} {blk : AB} (hb : BRel ι φ w .virt blk) : BRel ι φ' w' .virt blk := by
  cases blk <;> simp [BRel] at hb ⊢ <;> exact hb
theorem pφ_mono {p : Bool} {φ φ' : Phi} (hφ : ∀ i l, φ i = some l → φ' i = some l) : ∀ i l, pφ p φ i = some l → pφ p φ' i = some l := by
  intro i l h
  cases p
  · exact hφ i l h
  · exact h
theorem RowRel.mono {ι φ φ' cs off sz es} (hφ : ∀ i l, φ i = some l → φ' i = some l) (h : RowRel ι φ cs off sz es) : RowRel ι φ' cs off sz es :=
  ⟨h.1, fun e j c x hc hx => let ⟨u, hu, hr, ho⟩ := h.2 e j c x hc hx; ⟨u, hu, hr.mono hφ, ho⟩⟩
theorem BRel.mono {ι φ φ'} {w : World} {loc : Loc} {blk : AB} (hφ : ∀ i l, φ i = some l → φ' i = some l) (hb : BRel ι φ w loc blk) : BRel ι φ' w loc blk := by
  cases loc with
  | virt => exact hb.virt
  | «at» b off sz lim len =>
    cases blk with
    | row p s es =>
      obtain ⟨h1, h2, h3, cs, T, F, h4, h5, h6, h7⟩ := hb
      exact ⟨h1, h2, h3, cs, T, F, h4, h5, h6, h7.mono (pφ_mono hφ)⟩
    | mp p es =>
      obtain ⟨ms, clk, h1, h2, h3⟩ := hb
      exact ⟨ms, clk, h1, h2.mono (pφ_mono hφ), h3.mono (pφ_mono hφ)⟩
    | mf K V g => exact hb
    | lp bz k caps =>
      obtain ⟨r, h1, h2, h3, h4, h5⟩ := hb
      exact ⟨r, h1, h2, h3, h4, h5.mono hφ⟩

/-- A block is alive in the model's heap. -/
theorem BRel.lt {ι φ} {w : World} {b off sz lim len : Nat} {blk : AB} (hb : BRel ι φ w (.at b off sz lim len) blk) : b < w.heap.size := by
  have : ∃ o, w.heap[b]? = some o := by
    cases blk with
    | row p s es => obtain ⟨_, _, _, cs, T, F, h, _⟩ := hb; exact ⟨_, h⟩
    | mp p es => obtain ⟨ms, clk, h, _⟩ := hb; exact ⟨_, h⟩
    | mf K V g => obtain ⟨ms, clk, h, _⟩ := hb; exact ⟨_, h⟩
    | lp bz k caps => obtain ⟨r, h, _⟩ := hb; exact ⟨_, h⟩
  obtain ⟨o, h⟩ := this
  exact (Array.getElem?_eq_some_iff.1 h).1

theorem SRel.lt {ι φ H w} (h : SRel ι φ H w) {id blk b off sz lim len} (hi : H.at id = some blk) (hf : φ id = some (.at b off sz lim len)) : b < w.heap.size := by
  obtain ⟨loc, hl, hb⟩ := h.blk id blk hi
  rw [hf] at hl; cases hl; exact hb.lt

theorem Owned.mono_set {H : AH} {φ : Phi} {i b : Nat} {x : Option AB} (hi : ∃ blk, H.at i = some blk) (h : Owned (H.setAt i x) φ b) : Owned H φ b := by
  obtain ⟨id, blk, off, sz, lim, len, h1, h2⟩ := h
  rw [at_setAt] at h1
  split at h1
  · rename_i e; subst e; obtain ⟨blk', h'⟩ := hi; exact ⟨id, blk', off, sz, lim, len, h', h2⟩
  · exact ⟨id, blk, off, sz, lim, len, h1, h2⟩

/-- One owned block written. -/
theorem SRel.write {ι φ H} {w w' : World} (h : SRel ι φ H w) {i : Nat} {blk blk' : AB} {b off sz lim len : Nat} (hi : H.at i = some blk) (hf : φ i = some (.at b off sz lim len))
    (hk : ∀ k, k ≠ b → w'.heap[k]? = w.heap[k]?) (hb : BRel ι φ w' (.at b off sz lim len) blk') : SRel ι φ (H.setAt i (some blk')) w' where
  imm k o ho := by
    rw [hk k (fun e => by subst e; rw [h.own i blk k off sz lim len hi hf] at ho; cases ho)]
    exact h.imm k o ho
  blk id x hx := by
    rw [at_setAt] at hx
    split at hx
    · rename_i e; subst e; cases hx; exact ⟨_, hf, hb⟩
    · rename_i e
      obtain ⟨loc, hl, hbl⟩ := h.blk id x hx
      refine ⟨loc, hl, ?_⟩
      cases loc with
      | virt => exact hbl.virt
      | «at» b' o' s' l' n' => exact BRel.heap (hk b' fun e' => e (by subst e'; exact h.inj id i x blk _ _ _ _ _ _ _ _ _ hx hi hl hf)) hbl
  own id x b' o' s' l' n' hx hl := by
    rw [at_setAt] at hx
    split at hx
    · rename_i e; subst e; rw [hf] at hl; cases hl; exact h.own _ blk _ _ _ _ _ hi hf
    · exact h.own id x _ _ _ _ _ hx hl
  inj id id' x x' b' o1 s1 l1 n1 o2 s2 l2 n2 hx hx' hl hl' := by
    rw [at_setAt] at hx hx'
    split at hx <;> split at hx'
    · rename_i e e'; rw [e, e']
    · rename_i e e'; subst e; exact h.inj _ _ _ _ _ _ _ _ _ _ _ _ _ hi hx' hl hl'
    · rename_i e e'; subst e'; exact h.inj _ _ _ _ _ _ _ _ _ _ _ _ _ hx hi hl hl'
    · exact h.inj _ _ _ _ _ _ _ _ _ _ _ _ _ hx hx' hl hl'

theorem Frm.write {ι φ H} {w w' : World} (h : SRel ι φ H w) {i : Nat} {blk blk' : AB} {b off sz lim len : Nat} (hi : H.at i = some blk) (hf : φ i = some (.at b off sz lim len))
    (hk : ∀ k, k ≠ b → w'.heap[k]? = w.heap[k]?) (hos : w'.os = w.os) (ht : w'.tape = w.tape) (ho : w'.output = w.output) (hs : w.heap.size ≤ w'.heap.size) :
    Frm ι H φ w ι (H.setAt i (some blk')) φ w' :=
  ⟨hos, ht, ho, hs, fun k _ hn => hk k fun e => hn (by subst e; exact ⟨i, blk, _, _, _, _, hi, hf⟩), fun k hk => .inr (hk.mono_set ⟨blk, hi⟩), fun _ _ h => h, fun _ h h' => absurd h h'⟩

/-- A block told anew. -/
theorem SRel.redo {ι φ H} {w : World} (h : SRel ι φ H w) {i : Nat} {blk blk' : AB} {loc : Loc} (hi : H.at i = some blk) (hf : φ i = some loc) (hb : BRel ι φ w loc blk') : SRel ι φ (H.setAt i (some blk')) w where
  imm := h.imm
  blk id x hx := by
    rw [at_setAt] at hx
    split at hx
    · rename_i e; subst e; cases hx; exact ⟨_, hf, hb⟩
    · exact h.blk id x hx
  own id x b' o' s' l' n' hx hl := by
    rw [at_setAt] at hx
    split at hx
    · rename_i e; subst e; exact h.own _ blk _ _ _ _ _ hi hl
    · exact h.own id x _ _ _ _ _ hx hl
  inj id id' x x' b' o1 s1 l1 n1 o2 s2 l2 n2 hx hx' hl hl' := by
    have : ∀ {k y}, (H.setAt i (some blk')).at k = some y → ∃ z, H.at k = some z := fun {k y} hk => by
      rw [at_setAt] at hk
      split at hk
      · rename_i e; subst e; exact ⟨blk, hi⟩
      · exact ⟨_, hk⟩
    obtain ⟨z, hz⟩ := this hx
    obtain ⟨z', hz'⟩ := this hx'
    exact h.inj _ _ _ _ _ _ _ _ _ _ _ _ _ hz hz' hl hl'

theorem Frm.redo {ι : Iota} {H : AH} {φ : Phi} {w : World} {i : Nat} {blk blk' : AB} (hi : H.at i = some blk) : Frm ι H φ w ι (H.setAt i (some blk')) φ w :=
  ⟨rfl, rfl, rfl, Nat.le_refl _, fun _ _ _ => rfl, fun k hk => .inr (hk.mono_set ⟨blk, hi⟩), fun _ _ h => h, fun _ h h' => absurd h h'⟩

/-- A block given up. -/
theorem SRel.kill {ι φ H} {w : World} (h : SRel ι φ H w) {i : Nat} (hi : ∃ blk, H.at i = some blk) : SRel ι φ (H.setAt i none) w where
  imm := h.imm
  blk id x hx := by
    rw [at_setAt] at hx
    split at hx
    · cases hx
    · exact h.blk id x hx
  own id x b' o' s' l' n' hx hl := by
    rw [at_setAt] at hx
    split at hx
    · cases hx
    · exact h.own id x _ _ _ _ _ hx hl
  inj id id' x x' b' o1 s1 l1 n1 o2 s2 l2 n2 hx hx' hl hl' := by
    rw [at_setAt] at hx hx'
    split at hx
    · cases hx
    · split at hx'
      · cases hx'
      · exact h.inj _ _ _ _ _ _ _ _ _ _ _ _ _ hx hx' hl hl'
theorem Frm.kill {ι : Iota} {H : AH} {φ : Phi} {w : World} {i : Nat} (hi : ∃ blk, H.at i = some blk) : Frm ι H φ w ι (H.setAt i none) φ w :=
  ⟨rfl, rfl, rfl, Nat.le_refl _, fun _ _ _ => rfl, fun k hk => .inr (hk.mono_set hi), fun _ _ h => h, fun _ h h' => absurd h h'⟩

def updφ (φ : Phi) (n : Nat) (l : Loc) : Phi := fun i => if i = n then some l else φ i
theorem Ext.upd {φ : Phi} {n : Nat} (l : Loc) (h : φ n = .none) : Ext φ (updφ φ n l) n (n + 1) where
  le := Nat.le_succ _
  out i hi := by unfold updφ; rw [if_neg (by omega)]
  fresh i h1 h2 := by have : i = n := by omega
                      subst this; exact h
theorem updφ_same (φ : Phi) (n : Nat) (l : Loc) : updφ φ n l n = some l := by simp [updφ]

/-- A new name, for a block that nobody owned (a new one of the model's heap, or one that was given up), or for a row of nothing. -/
theorem SRel.add {ι φ H} {w w' : World} (h : SRel ι φ H w) {n : Nat} {blk : AB} {loc : Loc} (hn : φ n = .none)
    (hk : ∀ k, k < w.heap.size → (∀ o s l n, loc ≠ .at k o s l n) → w'.heap[k]? = w.heap[k]?)
    (hloc : ∀ b o s l n, loc = .at b o s l n → ¬ Owned H φ b ∧ ι b = none) (hb : BRel ι (updφ φ n loc) w' loc blk) : SRel ι (updφ φ n loc) (H.setAt n (some blk)) w' := by
  have hlt : ∀ k o, ι k = some o → k < w.heap.size := fun k o ho => (Array.getElem?_eq_some_iff.1 (h.imm k o ho)).1
  have hne : ∀ id x, H.at id = some x → id ≠ n := fun id x hx e => by
    subst e; obtain ⟨loc, hl, _⟩ := h.blk id x hx; rw [hn] at hl; cases hl
  have hupd : ∀ id x, H.at id = some x → updφ φ n loc id = φ id := fun id x hx => by unfold updφ; rw [if_neg (hne id x hx)]
  constructor
  · intro k o ho
    rw [hk k (hlt k o ho) fun o' s l n e => by rw [(hloc _ _ _ _ _ e).2] at ho; cases ho]
    exact h.imm k o ho
  · intro id x hx
    rw [at_setAt] at hx
    split at hx
    · rename_i e; subst e; cases hx; exact ⟨loc, updφ_same _ _ _, hb⟩
    · obtain ⟨l, hl, hbl⟩ := h.blk id x hx
      refine ⟨l, by rw [hupd id x hx]; exact hl, ?_⟩
      have hbl' := hbl.mono (Ext.upd loc hn).mono
      cases l with
      | virt => exact hbl'.virt
      | «at» b' o' s' l' n' => exact BRel.heap (hk b' hbl.lt fun o s l n e => (hloc _ _ _ _ _ e).1 ⟨id, x, o', s', l', n', hx, hl⟩) hbl'
  · intro id x b' o' s' l' n' hx hl
    rw [at_setAt] at hx
    split at hx
    · rename_i e; subst e; rw [updφ_same] at hl; cases hl; exact (hloc _ _ _ _ _ rfl).2
    · rw [hupd id x hx] at hl; exact h.own id x _ _ _ _ _ hx hl
  · intro id id' x x' b' o1 s1 l1 n1 o2 s2 l2 n2 hx hx' hl hl'
    rw [at_setAt] at hx hx'
    split at hx <;> split at hx'
    · rename_i e e'; rw [e, e']
    · rename_i e e'; subst e; rw [updφ_same] at hl; cases hl; rw [hupd id' x' hx'] at hl'; exact absurd ⟨id', x', _, _, _, _, hx', hl'⟩ (hloc _ _ _ _ _ rfl).1
    · rename_i e e'; subst e'; rw [updφ_same] at hl'; cases hl'; rw [hupd id x hx] at hl; exact absurd ⟨id, x, _, _, _, _, hx, hl⟩ (hloc _ _ _ _ _ rfl).1
    · rw [hupd id x hx] at hl; rw [hupd id' x' hx'] at hl'; exact h.inj _ _ _ _ _ _ _ _ _ _ _ _ _ hx hx' hl hl'

theorem Frm.add {ι φ H} {w w' : World} (h : SRel ι φ H w) {n : Nat} {blk : AB} {loc : Loc} (hn : φ n = .none)
    (hk : ∀ k, k < w.heap.size → w'.heap[k]? = w.heap[k]?) (hloc : ∀ b o s l n, loc = .at b o s l n → w.heap.size ≤ b)
    (hos : w'.os = w.os) (ht : w'.tape = w.tape) (ho : w'.output = w.output) (hs : w.heap.size ≤ w'.heap.size) :
    Frm ι H φ w ι (H.setAt n (some blk)) (updφ φ n loc) w' :=
  ⟨hos, ht, ho, hs, fun k hk' _ => hk k hk', fun k hk => by
    obtain ⟨id, x, o, s, l, n', hx, hl⟩ := hk
    rw [at_setAt] at hx
    split at hx
    · rename_i e; subst e; rw [updφ_same] at hl; cases hl; exact .inl (hloc _ _ _ _ _ rfl)
    · right
      refine ⟨id, x, o, s, l, n', hx, ?_⟩
      unfold updφ at hl
      rw [if_neg (by assumption)] at hl
      exact hl, fun _ _ h => h, fun _ h h' => absurd h h'⟩

/-! ### A program over the heap keeps the relation: how it is told -/
def Post (P : Program) (ι : Iota) (φ : Phi) (H : AH) (w : World) (n : Nat) (sem : Sem Value) : AR AV → AH → Nat → Prop
  | .ok x, H', n' => ∃ u w' φ', sem.run P w = .ok u w' ∧ Ext φ φ' n n' ∧ SRel ι φ' H' w' ∧ ARel ι φ' u x ∧ Frm ι H φ w ι H' φ' w'
  | .pn x, H', n' => ∃ u w' φ', sem.run P w = .halt (.panic u) w' ∧ Ext φ φ' n n' ∧ SRel ι φ' H' w' ∧ ARel ι φ' u x ∧ Frm ι H φ w ι H' φ' w'

def SoundM (P : Program) (ι : Iota) (φ : Phi) (H : AH) (w : World) (n : Nat) (sem : Sem Value) (m : AM AV) : Prop :=
  SRel ι φ H w → ∀ r H' n', m.run H n = some (r, H', n') → (∀ i, n ≤ i → i < n' → φ i = .none) → Post P ι φ H w n sem r H' n'

theorem SoundM.fail {P ι φ H w n sem} : SoundM P ι φ H w n sem .fail := fun _ r H' n' h => by simp [AM.run] at h
theorem SoundM.ret {P ι φ H w n sem u x} (hs : sem.run P w = .ok u w) (hx : ARel ι φ u x) : SoundM P ι φ H w n sem (.ret x) := fun hS r H' n' h hf => by
  simp only [AM.run, Option.some.injEq, Prod.mk.injEq] at h
  obtain ⟨rfl, rfl, rfl⟩ := h
  exact ⟨u, w, φ, hs, Ext.refl _ _, hS, hx, Frm.refl _ _ _ _⟩
theorem SoundM.ofO {P ι φ H w n sem} {o : Option AV} (h : ∀ x, o = some x → ∃ u, sem.run P w = .ok u w ∧ ARel ι φ u x) : SoundM P ι φ H w n sem (.ofO o) := by
  cases o with
  | none => exact SoundM.fail
  | some x => obtain ⟨u, h1, h2⟩ := h x rfl; exact SoundM.ret h1 h2
theorem SoundM.br {P ι φ H w n sem} {b : Bool} {t e : AM AV} (h : b = true → SoundM P ι φ H w n sem t) (k : b = false → SoundM P ι φ H w n sem e) : SoundM P ι φ H w n sem (.br b t e) := by
  intro hS r H' n' hrun hf
  simp only [AM.run] at hrun
  cases b with
  | true => exact h rfl hS r H' n' (by simpa using hrun) hf
  | false => exact k rfl hS r H' n' (by simpa using hrun) hf
theorem SoundM.cond {P ι φ H w n sem} {p : Prop} [Decidable p] {t : AM AV} (h : p → SoundM P ι φ H w n sem t) : SoundM P ι φ H w n sem (.br (decide p) t .fail) :=
  SoundM.br (fun hb => h (by simpa using hb)) fun _ => SoundM.fail
theorem SoundM.get {P ι φ H w n sem i} {k : Option AB → AM AV} (h : SoundM P ι φ H w n sem (k (H.at i))) : SoundM P ι φ H w n sem (.get i k) := h

end Go.AMach
