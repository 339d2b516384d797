/- The abstract machine: what its values and its heap say of the model's. -/
import Derived.Test.YtbkbifpjckippaaAm2
namespace Go.AMach
set_option linter.unusedVariables false
set_option linter.unusedSimpArgs false
set_option linter.unnecessarySimpa false
open Go.RowKit
set_option linter.unusedVariables false
set_option linter.unusedSectionVars false

theorem toL_length (r : Rows AV) : r.toL.length = r.len := by simp [Rows.toL]
theorem toL_some {r : Rows AV} {e : Nat} {c : List AV} : r.toL[e]? = some c ↔ e < r.len ∧ c = r.get e := by
  simp only [Rows.toL, List.getElem?_map, Option.map_eq_some_iff]
  constructor
  · rintro ⟨k, hk, rfl⟩
    obtain ⟨h1, h2⟩ := List.getElem?_eq_some_iff.1 hk
    simp at h1 h2
    subst h2
    exact ⟨h1, rfl⟩
  · rintro ⟨h, rfl⟩
    exact ⟨e, by simp [h], rfl⟩
theorem toL_at {r : Rows AV} {e : Nat} (h : e < r.len) : r.toL[e]? = some (r.get e) := toL_some.2 ⟨h, rfl⟩
theorem toL_ext {r : Rows AV} {l : List (List AV)} (hl : r.len = l.length) (h : ∀ e, e < l.length → l[e]? = some (r.get e)) : r.toL = l := by
  apply List.ext_getElem?
  intro e
  by_cases he : e < l.length
  · rw [h e he, toL_at (by omega)]
  · rw [List.getElem?_eq_none (by rw [toL_length]; omega), List.getElem?_eq_none (by omega)]
theorem rowAt_get {α : Type} : ∀ {l : List (List α)} {e : Nat}, e < l.length → l[e]? = some (rowAt l e)
  | [], e, h => by simp at h
  | [c], e, h => by
    have : e = 0 := by simp at h; exact h
    subst this; rfl
  | c :: d :: r, 0, h => rfl
  | c :: d :: r, e + 1, h => by
    rw [List.getElem?_cons_succ, rowAt]
    exact rowAt_get (by simpa using h)
theorem toL_lit (l : List (List AV)) : (Rows.lit l).toL = l := toL_ext rfl fun e he => rowAt_get he
theorem undo_enc : ∀ (T : Ty) (cs : List AV) (s : T.sem), T.undo cs = some s → cs = T.enc s
  | .int k, cs, s, h => by
    simp only [Ty.undo] at h
    split at h
    · split at h
      · rename_i hk; cases h; subst hk; rfl
      · cases h
    · cases h
  | .bool, cs, s, h => by
    simp only [Ty.undo] at h
    split at h
    · cases h; rfl
    · cases h
  | .str, cs, s, h => by
    simp only [Ty.undo] at h
    split at h
    · cases h; rfl
    · cases h
  | .slice t, cs, s, h => by
    simp only [Ty.undo] at h
    split at h
    · split at h
      · rename_i ht
        subst ht
        split at h
        · rename_i hs; cases h; subst hs; rfl
        · cases h
      · cases h
    · cases h
  | .unit, cs, s, h => by
    simp only [Ty.undo] at h
    split at h
    · rfl
    · cases h
  | .pair t r, cs, s, h => by
    simp only [Ty.undo] at h
    split at h
    · rename_i a b h1 h2
      cases h
      simp only [Ty.enc]
      rw [← undo_enc t _ _ h1, ← undo_enc r _ _ h2, List.take_append_drop]
    · cases h

theorem mkL_length {α : Type} (n : Nat) (f : Nat → α) : (mkL n f).length = n := by simp [mkL]
theorem mkL_get {α : Type} {n : Nat} {f : Nat → α} {i : Nat} (h : i < n) : (mkL n f)[i]? = some (f i) := by simp [mkL, h]
theorem rd_some {T : Ty} {l : List T.sem} {e : Nat} {x : T.sem} (h : l[e]? = some x) : T.rd l e = x := by simp [Ty.rd, List.getD_eq_getElem?_getD, h]
theorem rd_set {T : Ty} {l : List T.sem} {e k : Nat} {s : T.sem} (hk : k < l.length) : T.rd (l.set e s) k = if k = e then s else T.rd l k := by
  unfold Ty.rd
  rw [List.getD_eq_getElem?_getD, List.getD_eq_getElem?_getD]
  by_cases h : k = e
  · subst h; simp [hk]
  · rw [List.getElem?_set_ne (by omega), if_neg h]
theorem rd_append {T : Ty} {l l' : List T.sem} {k : Nat} : T.rd (l ++ l') k = if k < l.length then T.rd l k else T.rd l' (k - l.length) := by
  unfold Ty.rd
  rw [List.getD_eq_getElem?_getD, List.getD_eq_getElem?_getD, List.getD_eq_getElem?_getD]
  by_cases h : k < l.length
  · rw [if_pos h, List.getElem?_append_left h]
  · rw [if_neg h, List.getElem?_append_right (by omega)]

theorem toL_put (r : Rows AV) (e : Nat) (c : List AV) : (r.put e c).toL = r.toL.set e c := by
  have gen : ∀ r : Rows AV, (Rows.upd r e c).toL = r.toL.set e c := fun r => toL_ext (by simp [Rows.len, toL_length]) fun k hk => by
    simp [toL_length] at hk
    simp only [Rows.get]
    by_cases h : k = e
    · subst h; rw [if_pos rfl, List.getElem?_set_self (by rw [toL_length]; exact hk)]
    · rw [if_neg h, List.getElem?_set_ne (by omega), toL_at hk]
  cases r with
  | lit es => simp only [Rows.put]; rw [toL_lit, toL_lit]
  | ty T l =>
    simp only [Rows.put]
    split
    · rename_i s hs
      have hc := undo_enc T c s hs
      subst hc
      refine toL_ext (by simp [Rows.len, toL_length]) fun k hk => ?_
      simp [toL_length, Rows.len] at hk
      simp only [Rows.get]
      rw [rd_set hk]
      by_cases h : k = e
      · subst h; rw [if_pos rfl, List.getElem?_set_self (by rw [toL_length]; exact hk)]
      · rw [if_neg h, List.getElem?_set_ne (by omega), toL_at (by exact hk)]; rfl
    · exact gen _
  | _ => exact gen _
theorem toL_app (r s : Rows AV) : (Rows.app r s).toL = r.toL ++ s.toL := toL_ext (by simp [Rows.len, toL_length]) fun k hk => by
  simp [toL_length] at hk
  simp only [Rows.get]
  by_cases h : k < r.len
  · rw [if_pos h, List.getElem?_append_left (by rw [toL_length]; exact h), toL_at h]
  · rw [if_neg h, List.getElem?_append_right (by rw [toL_length]; omega), toL_length, toL_at (by omega)]
theorem toL_cat (r s : Rows AV) : (r.cat s).toL = r.toL ++ s.toL := by
  unfold Rows.cat
  split
  · rw [toL_lit]; simp
  · split
    · rw [toL_lit, toL_lit, toL_lit]
    · exact toL_app _ _
  · rename_i T l
    split
    · rename_i c
      split
      · rename_i x hx
        have hc := undo_enc T c x hx
        subst hc
        rw [← toL_app]
        refine toL_ext (by rw [toL_length]; simp [Rows.len]) fun k hk => ?_
        rw [toL_length] at hk
        rw [toL_at hk]
        have hk' : k < l.length + 1 := by simpa [Rows.len] using hk
        simp only [Rows.get, Rows.len, rowAt]
        rw [rd_append]
        by_cases hkn : k < l.length
        · simp [hkn]
        · have : k - l.length = 0 := by omega
          simp [hkn, this, Ty.rd]
      · exact toL_app _ _
    · rename_i T' l'
      split
      · rename_i h
        subst h
        rw [← toL_app]
        refine toL_ext (by rw [toL_length]; simp [Rows.len]) fun k hk => ?_
        rw [toL_length] at hk
        rw [toL_at hk]
        simp only [Rows.get, Rows.len]
        rw [rd_append]
        by_cases hkn : k < l.length
        · simp [hkn]
        · simp [hkn]
      · exact toL_app _ _
    · exact toL_app _ _
  · exact toL_app _ _
theorem len_cat (r s : Rows AV) : (r.cat s).len = r.len + s.len := by rw [← toL_length, toL_cat]; simp [toL_length]
theorem len_put (r : Rows AV) (e : Nat) (c : List AV) : (r.put e c).len = r.len := by rw [← toL_length, toL_put]; simp [toL_length]
theorem toL_sub {r : Rows AV} {l n : Nat} (h : l + n ≤ r.len) : (Rows.sub r l n).toL = (r.toL.drop l).take n := toL_ext (by simp [Rows.len, toL_length]; omega) fun k hk => by
  simp [toL_length] at hk
  rw [List.getElem?_take, if_pos (by omega), List.getElem?_drop, toL_at (by omega)]
  show _ = some (r.get (k + l))
  rw [Nat.add_comm]
theorem cutL_length {T : Ty} (xs : List T.sem) (l n : Nat) : (T.cutL xs l n).length = n := mkL_length _ _
theorem rd_cutL {T : Ty} {xs : List T.sem} {l n k : Nat} (h : k < n) : T.rd (T.cutL xs l n) k = T.rd xs (k + l) := rd_some (mkL_get h)
theorem cut_lit (c : List AV) (cs : List (List AV)) (l n : Nat) : (Rows.cut (.lit (c :: cs)) l n = .sub (.lit (c :: cs)) l n) ∨ (l = 0 ∧ n = cs.length + 1 ∧ Rows.cut (.lit (c :: cs)) l n = .lit (c :: cs)) := by
  simp only [Rows.cut]
  cases h : (Nat.beq l 0 && Nat.beq n (cs.length + 1)) with
  | false => exact .inl rfl
  | true =>
    simp only [Bool.and_eq_true] at h
    exact .inr ⟨Nat.eq_of_beq_eq_true h.1, Nat.eq_of_beq_eq_true h.2, rfl⟩
theorem len_cut (r : Rows AV) (l n : Nat) : (r.cut l n).len = n := by
  cases r with
  | ty T xs => exact cutL_length _ _ _
  | lit es =>
    match es with
    | [] => rfl
    | c :: es =>
      rcases cut_lit c es l n with h | ⟨rfl, rfl, h⟩ <;> rw [h] <;> rfl
  | _ => rfl
theorem toL_cut {r : Rows AV} {l n : Nat} (h : l + n ≤ r.len) : (r.cut l n).toL = (r.toL.drop l).take n := by
  rw [← toL_sub h]
  refine toL_ext (by rw [toL_length, len_cut]; rfl) fun k hk => ?_
  rw [toL_length] at hk
  have hk' : k < n := hk
  rw [toL_at hk]
  cases r with
  | ty T xs => simp only [Rows.cut, Rows.get]; rw [rd_cutL hk']
  | lit es =>
    match es with
    | [] => rfl
    | c :: es =>
      rcases cut_lit c es l n with h | ⟨rfl, rfl, h⟩ <;> rw [h]
      simp [Rows.get]
  | _ => rfl
theorem toL_cut0 (r : Rows AV) (l : Nat) : (r.cut l 0).toL = [] := by
  rw [← List.length_eq_zero_iff, toL_length, len_cut]
theorem toL_rep (n : Nat) (c : List AV) : (Rows.rep n c).toL = List.replicate n c := toL_ext (by simp [Rows.len]) fun k hk => by
  simp at hk
  simp [hk, Rows.get]

/-- Where a block lies: in which block of the model's heap, from which cell on, how many cells an element has, how many elements there is room for, and how many there are. -/
inductive Loc where
  | virt
  | at (b off sz lim len : Nat)

abbrev Phi := Nat → Option Loc
abbrev Iota := Nat → Option Obj
def Phi.none : Phi := fun _ => .none

inductive ARel (ι : Iota) : Phi → Value → AV → Prop
  | v {φ : Phi} (x : Value) : ARel ι φ x (.v x)
  | junk {φ : Phi} (x : Value) : ARel ι φ x .junk
  | agg {φ : Phi} (vs : List Value) (cs : List AV) (hl : vs.length = cs.length) (h : ∀ (i : Nat) u c, vs[i]? = some u → cs[i]? = some c → ARel ι φ u c) :
      ARel ι φ (.agg vs.toArray) (.agg cs)
  | tup {φ : Phi} (vs : List Value) (cs : List AV) (hl : vs.length = cs.length) (h : ∀ (i : Nat) u c, vs[i]? = some u → cs[i]? = some c → ARel ι φ u c) :
      ARel ι φ (.tuple vs.toArray) (.tup cs)
  | sl {φ : Phi} (a : Option Addr) (cap : Nat) (tg : Bool) (sz : Nat) (es : Rows AV) (hc : es.len ≤ cap) (ht : tg = true → cap = es.len)
      (hw : ∀ c ∈ es.toL, c.length = sz) (b off : Nat) (cs : Array Value) (T : TypeId) (F : Nat × Nat) (us : Nat → Nat → Value)
      (hm : es.len ≠ 0 → a = some ⟨b, off, .none⟩ ∧ ι b = some (.cells cs T F))
      (h1 : ∀ (e j : Nat) c x, es.toL[e]? = some c → c[j]? = some x → cs[off + e * sz + j]? = some (us e j))
      (h2 : ∀ (e j : Nat) c x, es.toL[e]? = some c → c[j]? = some x → ARel ι Phi.none (us e j) x)
      (h3 : ∀ (e j : Nat) c x, es.toL[e]? = some c → c[j]? = some x → (us e j).oneCell' = true) :
      ARel ι φ (.slice a es.len cap) (.sl tg sz es)
  | rp {φ : Phi} (sz : Nat) (es : Rows AV) (e j : Nat) (he : e < es.len)
      (hw : ∀ c ∈ es.toL, c.length = sz) (b off : Nat) (cs : Array Value) (T : TypeId) (F : Nat × Nat) (us : Nat → Nat → Value)
      (hm : ι b = some (.cells cs T F))
      (h1 : ∀ (e j : Nat) c x, es.toL[e]? = some c → c[j]? = some x → cs[off + e * sz + j]? = some (us e j))
      (h2 : ∀ (e j : Nat) c x, es.toL[e]? = some c → c[j]? = some x → ARel ι Phi.none (us e j) x)
      (h3 : ∀ (e j : Nat) c x, es.toL[e]? = some c → c[j]? = some x → (us e j).oneCell' = true) :
      ARel ι φ (.pointer (some ⟨b, off + e * sz + j, .none⟩)) (.rp sz es e j)
  | ptr {φ : Phi} (id e j b off sz lim len : Nat) (h : φ id = some (.at b off sz lim len)) (he : e < len) : ARel ι φ (.pointer (some ⟨b, off + e * sz + j, .none⟩)) (.ptr id e j)
  | hs {φ : Phi} (tg : Bool) (id e n : Nat) (a : Option Addr) (cap : Nat) (loc : Loc) (h : φ id = some loc) (hc : n ≤ cap) (ht : tg = true → cap = n)
      (hm : cap = 0 ∨ ∃ b off sz lim len, loc = .at b off sz lim len ∧ a = some ⟨b, off + e * sz, .none⟩ ∧ e + cap ≤ lim ∧ e + n ≤ len) :
      ARel ι φ (.slice a n cap) (.hs tg id e n)
  | mp {φ : Phi} (id b off sz lim len : Nat) (h : φ id = some (.at b off sz lim len)) : ARel ι φ (.map (some b)) (.mp id)
  | yl {φ : Phi} (id b off sz lim len : Nat) (h : φ id = some (.at b off sz lim len)) : ARel ι φ (.func (.yield b) #[] #[]) (.yl id)
  | fn {φ : Phi} (f : Fn) (vs us : List Value) (cs ds : List AV) (hl : vs.length = cs.length) (h : ∀ (i : Nat) u c, vs[i]? = some u → cs[i]? = some c → ARel ι φ u c)
      (hl' : us.length = ds.length) (h' : ∀ (i : Nat) u c, us[i]? = some u → ds[i]? = some c → ARel ι φ u c) :
      ARel ι φ (.func f vs.toArray us.toArray) (.fn f cs ds)
  | ifc {φ : Phi} (t : TypeId) (u : Value) (x : AV) (h : ARel ι φ u x) : ARel ι φ (.iface t u) (.ifc t x)

/-- Lists, one by one. -/
def ARels (ι : Iota) (φ : Phi) (vs : List Value) (cs : List AV) : Prop :=
  vs.length = cs.length ∧ ∀ (i : Nat) u c, vs[i]? = some u → cs[i]? = some c → ARel ι φ u c

theorem ARels.nil {ι φ} : ARels ι φ [] [] := ⟨rfl, fun i u c h => by simp at h⟩
theorem ARels.cons {ι φ u c vs cs} (h : ARel ι φ u c) (t : ARels ι φ vs cs) : ARels ι φ (u :: vs) (c :: cs) :=
  ⟨by simp [t.1], fun i x y hx hy => by
    cases i with
    | zero => simp at hx hy; subst hx; subst hy; exact h
    | succ i => simp at hx hy; exact t.2 i x y hx hy⟩
theorem ARels.uncons {ι φ vs c cs} (h : ARels ι φ vs (c :: cs)) : ∃ u us, vs = u :: us ∧ ARel ι φ u c ∧ ARels ι φ us cs := by
  obtain ⟨hl, h⟩ := h
  cases vs with
  | nil => simp at hl
  | cons u us => exact ⟨u, us, rfl, h 0 u c rfl rfl, by simpa using hl, fun i x y hx hy => h (i + 1) x y (by simpa using hx) (by simpa using hy)⟩
theorem ARels.nil_inv {ι φ vs} (h : ARels ι φ vs []) : vs = [] := by
  have := h.1; simpa using this
theorem ARels.append {ι φ vs cs us ds} (h : ARels ι φ vs cs) (t : ARels ι φ us ds) : ARels ι φ (vs ++ us) (cs ++ ds) := by
  induction cs generalizing vs with
  | nil => rw [h.nil_inv]; exact t
  | cons c cs ih => obtain ⟨u, us', rfl, h1, h2⟩ := h.uncons; exact (ih h2).cons h1
theorem ARels.get {ι φ vs cs} (h : ARels ι φ vs cs) {i : Nat} {c : AV} (hc : cs[i]? = some c) : ∃ u, vs[i]? = some u ∧ ARel ι φ u c := by
  have hi : i < vs.length := by rw [h.1]; exact (List.getElem?_eq_some_iff.1 hc).1
  exact ⟨vs[i], List.getElem?_eq_getElem hi, h.2 i _ c (List.getElem?_eq_getElem hi) hc⟩
theorem ARels.mk_map {ι φ} {α : Type} (l : List α) (f : α → Value) (g : α → AV) (h : ∀ x ∈ l, ARel ι φ (f x) (g x)) : ARels ι φ (l.map f) (l.map g) := by
  induction l with
  | nil => exact ARels.nil
  | cons x l ih => exact (ih fun y hy => h y (List.mem_cons_of_mem _ hy)).cons (h x List.mem_cons_self)
theorem ARels.take {ι φ vs cs} (h : ARels ι φ vs cs) (n : Nat) : ARels ι φ (vs.take n) (cs.take n) :=
  ⟨by simp [h.1], fun i u c hu hc => by
    rw [List.getElem?_take] at hu hc
    split at hu
    · rename_i hi; rw [if_pos hi] at hc; exact h.2 i u c hu hc
    · simp at hu⟩
theorem ARels.drop {ι φ vs cs} (h : ARels ι φ vs cs) (n : Nat) : ARels ι φ (vs.drop n) (cs.drop n) :=
  ⟨by simp [h.1], fun i u c hu hc => by
    rw [List.getElem?_drop] at hu hc
    exact h.2 _ u c hu hc⟩

theorem ARel.mono {ι : Iota} {φ φ' : Phi} (hφ : ∀ i l, φ i = some l → φ' i = some l) {u : Value} {x : AV} (h : ARel ι φ u x) : ARel ι φ' u x := by
  induction h generalizing φ' with
  | v x => exact .v x
  | junk x => exact .junk x
  | agg vs cs hl _ ih => exact .agg vs cs hl fun i u c hu hc => ih i u c hu hc hφ
  | tup vs cs hl _ ih => exact .tup vs cs hl fun i u c hu hc => ih i u c hu hc hφ
  | sl a cap tg sz es hc ht hw b off cs T F us hm h1 h2 h3 _ => exact .sl a cap tg sz es hc ht hw b off cs T F us hm h1 h2 h3
  | rp sz es e j he hw b off cs T F us hm h1 h2 h3 _ => exact .rp sz es e j he hw b off cs T F us hm h1 h2 h3
  | ptr id e j b off sz lim len h he => exact .ptr id e j b off sz lim len (hφ _ _ h) he
  | hs tg id e n a cap loc h hc ht hm => exact .hs tg id e n a cap loc (hφ _ _ h) hc ht hm
  | mp id b off sz lim len h => exact .mp id b off sz lim len (hφ _ _ h)
  | yl id b off sz lim len h => exact .yl id b off sz lim len (hφ _ _ h)
  | fn f vs us cs ds hl _ hl' _ ih ih' => exact .fn f vs us cs ds hl (fun i u c hu hc => ih i u c hu hc hφ) hl' fun i u c hu hc => ih' i u c hu hc hφ
  | ifc t u x _ ih => exact .ifc t u x (ih hφ)

theorem ARel.of_none {ι : Iota} {φ' : Phi} {u : Value} {x : AV} (h : ARel ι Phi.none u x) : ARel ι φ' u x :=
  h.mono fun i l h => by simp [Phi.none] at h

theorem ARel.imm {ι ι' : Iota} (hι : ∀ b o, ι b = some o → ι' b = some o) {φ : Phi} {u : Value} {x : AV} (h : ARel ι φ u x) : ARel ι' φ u x := by
  induction h with
  | v x => exact .v x
  | junk x => exact .junk x
  | agg vs cs hl _ ih => exact .agg vs cs hl ih
  | tup vs cs hl _ ih => exact .tup vs cs hl ih
  | sl a cap tg sz es hc ht hw b off cs T F us hm h1 _ h3 ih => exact .sl a cap tg sz es hc ht hw b off cs T F us (fun h => ⟨(hm h).1, hι _ _ (hm h).2⟩) h1 ih h3
  | rp sz es e j he hw b off cs T F us hm h1 _ h3 ih => exact .rp sz es e j he hw b off cs T F us (hι _ _ hm) h1 ih h3
  | ptr id e j b off sz lim len h he => exact .ptr id e j b off sz lim len h he
  | hs tg id e n a cap loc h hc ht hm => exact .hs tg id e n a cap loc h hc ht hm
  | mp id b off sz lim len h => exact .mp id b off sz lim len h
  | yl id b off sz lim len h => exact .yl id b off sz lim len h
  | fn f vs us cs ds hl _ hl' _ ih ih' => exact .fn f vs us cs ds hl ih hl' ih'
  | ifc t u x _ ih => exact .ifc t u x ih

theorem ARels.mono {ι : Iota} {φ φ' : Phi} (hφ : ∀ i l, φ i = some l → φ' i = some l) {vs cs} (h : ARels ι φ vs cs) : ARels ι φ' vs cs :=
  ⟨h.1, fun i u c hu hc => (h.2 i u c hu hc).mono hφ⟩
theorem ARels.imm {ι ι' : Iota} (hι : ∀ b o, ι b = some o → ι' b = some o) {φ : Phi} {vs cs} (h : ARels ι φ vs cs) : ARels ι' φ vs cs :=
  ⟨h.1, fun i u c hu hc => (h.2 i u c hu hc).imm hι⟩

/-! ### What is pure does not hang on the heap -/
mutual
theorem ARel.of_pure {ι : Iota} {φ φ' : Phi} {u : Value} : ∀ {x : AV}, x.pure = true → ARel ι φ u x → ARel ι φ' u x
  | .v y, _, h => by cases h; exact .v _
  | .junk, _, h => .junk _
  | .sl .., _, h => by cases h; exact .sl _ _ _ _ _ ‹_› ‹_› ‹_› _ _ _ _ _ _ ‹_› ‹_› ‹_› ‹_›
  | .rp .., _, h => by cases h; exact .rp _ _ _ _ ‹_› ‹_› _ _ _ _ _ _ ‹_› ‹_› ‹_› ‹_›
  | .agg cs, hp, h => by
    cases h with | agg vs _ hl h => exact .agg vs cs hl (ARels.of_pure (by simpa [AV.pure] using hp) ⟨hl, h⟩).2
  | .tup cs, hp, h => by
    cases h with | tup vs _ hl h => exact .tup vs cs hl (ARels.of_pure (by simpa [AV.pure] using hp) ⟨hl, h⟩).2
  | .ptr .., hp, _ => by simp [AV.pure] at hp
  | .hs .., hp, _ => by simp [AV.pure] at hp
  | .mp _, hp, _ => by simp [AV.pure] at hp
  | .yl _, hp, _ => by simp [AV.pure] at hp
  | .fn f a b, hp, h => by
    simp [AV.pure] at hp
    cases h with | fn _ vs us _ _ hl h hl' h' => exact .fn f vs us a b hl (ARels.of_pure hp.1 ⟨hl, h⟩).2 hl' (ARels.of_pure hp.2 ⟨hl', h'⟩).2
  | .ifc t x, hp, h => by
    cases h with | ifc _ u _ h => exact .ifc t u x (ARel.of_pure (by simpa [AV.pure] using hp) h)
theorem ARels.of_pure {ι : Iota} {φ φ' : Phi} {vs : List Value} : ∀ {cs : List AV}, AV.pures cs = true → ARels ι φ vs cs → ARels ι φ' vs cs
  | [], _, h => by rw [h.nil_inv]; exact ARels.nil
  | c :: cs, hp, h => by
    simp [AV.pures] at hp
    obtain ⟨u, us, rfl, h1, h2⟩ := h.uncons
    exact (ARels.of_pure hp.2 h2).cons (ARel.of_pure hp.1 h1)
end

/-! ### Names changed -/
mutual
theorem ARel.ren {ι : Iota} {φ φ' : Phi} {ρ : Nat → Option Nat} (hρ : ∀ i k, ρ i = some k → ∀ l, φ i = some l → φ' k = some l) {u : Value} :
    ∀ {x : AV}, ARel ι φ u x → ARel ι φ' u (x.ren ρ)
  | .v y, h => by cases h; exact .v _
  | .junk, h => .junk _
  | .sl .., h => by cases h; exact .sl _ _ _ _ _ ‹_› ‹_› ‹_› _ _ _ _ _ _ ‹_› ‹_› ‹_› ‹_›
  | .rp .., h => by cases h; exact .rp _ _ _ _ ‹_› ‹_› _ _ _ _ _ _ ‹_› ‹_› ‹_› ‹_›
  | .agg cs, h => by
    cases h with | agg vs _ hl h => exact .agg vs _ (ARels.ren hρ ⟨hl, h⟩).1 (ARels.ren hρ ⟨hl, h⟩).2
  | .tup cs, h => by
    cases h with | tup vs _ hl h => exact .tup vs _ (ARels.ren hρ ⟨hl, h⟩).1 (ARels.ren hρ ⟨hl, h⟩).2
  | .ptr i e j, h => by
    cases h with
    | ptr _ _ _ b off sz lim len h he =>
      simp only [AV.ren]
      cases hi : ρ i with
      | none => exact .junk _
      | some k => exact .ptr k e j b off sz lim len (hρ i k hi _ h) he
  | .hs tg i e n, h => by
    cases h with
    | hs _ _ _ _ a cap loc h hc ht hm =>
      simp only [AV.ren]
      cases hi : ρ i with
      | none => exact .junk _
      | some k => exact .hs tg k e n a cap loc (hρ i k hi _ h) hc ht hm
  | .mp i, h => by
    cases h with
    | mp _ b off sz lim len h =>
      simp only [AV.ren]
      cases hi : ρ i with
      | none => exact .junk _
      | some k => exact .mp k b off sz lim len (hρ i k hi _ h)
  | .yl i, h => by
    cases h with
    | yl _ b off sz lim len h =>
      simp only [AV.ren]
      cases hi : ρ i with
      | none => exact .junk _
      | some k => exact .yl k b off sz lim len (hρ i k hi _ h)
  | .fn f a b, h => by
    cases h with | fn _ vs us _ _ hl h hl' h' => exact .fn f vs us _ _ (ARels.ren hρ ⟨hl, h⟩).1 (ARels.ren hρ ⟨hl, h⟩).2 (ARels.ren hρ ⟨hl', h'⟩).1 (ARels.ren hρ ⟨hl', h'⟩).2
  | .ifc t x, h => by
    cases h with | ifc _ u _ h => exact .ifc t u _ (ARel.ren hρ h)
theorem ARels.ren {ι : Iota} {φ φ' : Phi} {ρ : Nat → Option Nat} (hρ : ∀ i k, ρ i = some k → ∀ l, φ i = some l → φ' k = some l) {vs : List Value} :
    ∀ {cs : List AV}, ARels ι φ vs cs → ARels ι φ' vs (AV.rens ρ cs)
  | [], h => by rw [h.nil_inv]; exact ARels.nil
  | c :: cs, h => by
    obtain ⟨u, us, rfl, h1, h2⟩ := h.uncons
    exact (ARels.ren hρ h2).cons (ARel.ren hρ h1)
end

/-! ### The heap -/
def pφ (p : Bool) (φ : Phi) : Phi := if p then Phi.none else φ

/-- A row of cells in the model's heap holds these rows. -/
def RowRel (ι : Iota) (φ : Phi) (cs : Array Value) (off sz : Nat) (es : List (List AV)) : Prop :=
  (∀ c ∈ es, c.length = sz) ∧ ∀ (e j : Nat) c x, es[e]? = some c → c[j]? = some x → ∃ u, cs[off + e * sz + j]? = some u ∧ ARel ι φ u x ∧ u.oneCell' = true

/-- A map of the model answers as it is told. -/
def MRel (ι : Iota) (K V : Ty) (g : K.sem → Option V.sem) (ms : List MapEntry) : Prop :=
  (∀ e ∈ ms, ∃ x, e.key = K.keyVal x) ∧ ∀ x, (mfind K x ms 0 = none ∧ g x = none) ∨ ∃ i u s, mfind K x ms 0 = some (i, u) ∧ g x = some s ∧ ARel ι Phi.none u (V.av s)

/-- A map's own book: what the range goes by. -/
def Stmp (ms : List MapEntry) (clk : Nat) : Prop := (∀ x ∈ ms, x.born < clk) ∧ (ms.map (·.born)).Nodup ∧ (ms.map (·.key)).Nodup

section
variable [Sites]

def BRel (ι : Iota) (φ : Phi) (w : World) : Loc → AB → Prop
  | .virt, .row _ _ es => es.len = 0
  | .virt, .mp .. => False
  | .virt, .mf .. => False
  | .virt, .lp .. => False
  | .at b _ _ _ _, .lp busy k caps => ∃ r, w.heap[b]? = some (.loop r) ∧ r.pending = none ∧ (∃ x, Sites.t k = some x ∧ r.params = x.1 ∧ r.assign = x.2.1 ∧ r.body = x.2.2) ∧ r.state = (if busy then .busy else .ready) ∧ ARels ι φ r.tmps.toList caps
  | .at b _ _ _ _, .mf K V g => ∃ ms clk, w.heap[b]? = some (.map ms clk) ∧ K.isKey = true ∧ MRel ι K V g ms.toList ∧ Stmp ms.toList clk
  | .at b off sz' lim len, .row p sz es => (sz' = sz ∧ len = es.len) ∧ 0 < sz ∧ es.len ≤ lim ∧ ∃ cs T F, w.heap[b]? = some (.cells cs T F) ∧ (∀ o, o < cs.size → ¬ (F.1 ≤ o ∧ o < F.2)) ∧
      off + lim * sz ≤ cs.size ∧ RowRel ι (pφ p φ) cs off sz es.toL
  | .at b _ _ _ _, .mp p es => ∃ ms clk, w.heap[b]? = some (.map ms clk) ∧ ARels ι (pφ p φ) (ms.toList.map (·.key)) (es.map (·.1)) ∧ ARels ι (pφ p φ) (ms.toList.map (·.val)) (es.map (·.2))

structure SRel (ι : Iota) (φ : Phi) (H : AH) (w : World) : Prop where
  imm : ∀ b o, ι b = some o → w.heap[b]? = some o
  blk : ∀ id blk, H.at id = some blk → ∃ loc, φ id = some loc ∧ BRel ι φ w loc blk
  own : ∀ id blk b off sz lim len, H.at id = some blk → φ id = some (.at b off sz lim len) → ι b = none
  inj : ∀ id id' blk blk' b off sz lim len off' sz' lim' len', H.at id = some blk → H.at id' = some blk' → φ id = some (.at b off sz lim len) → φ id' = some (.at b off' sz' lim' len') → id = id'

end

def Owned (H : AH) (φ : Phi) (b : Nat) : Prop := ∃ id blk off sz lim len, H.at id = some blk ∧ φ id = some (.at b off sz lim len)

structure Frm (ι : Iota) (H : AH) (φ : Phi) (w : World) (ι' : Iota) (H' : AH) (φ' : Phi) (w' : World) : Prop where
  os : w'.os = w.os
  tape : w'.tape = w.tape
  output : w'.output = w.output
  size : w.heap.size ≤ w'.heap.size
  keep : ∀ b, b < w.heap.size → ¬ Owned H φ b → w'.heap[b]? = w.heap[b]?
  sub : ∀ b, Owned H' φ' b → w.heap.size ≤ b ∨ Owned H φ b
  imm : ∀ b o, ι b = some o → ι' b = some o
  grow : ∀ b, ι b = none → ι' b ≠ none → w.heap.size ≤ b ∨ Owned H φ b

theorem Frm.refl (ι H φ w) : Frm ι H φ w ι H φ w := ⟨rfl, rfl, rfl, Nat.le_refl _, fun _ _ _ => rfl, fun _ h => .inr h, fun _ _ h => h, fun _ h h' => absurd h h'⟩
theorem Frm.trans {ι H φ w ι' H' φ' w' ι'' H'' φ'' w''} (h : Frm ι H φ w ι' H' φ' w') (k : Frm ι' H' φ' w' ι'' H'' φ'' w'') : Frm ι H φ w ι'' H'' φ'' w'' where
  os := k.os.trans h.os
  tape := k.tape.trans h.tape
  output := k.output.trans h.output
  size := Nat.le_trans h.size k.size
  keep b hb ho := (k.keep b (Nat.lt_of_lt_of_le hb h.size) fun ho' => by
    rcases h.sub b ho' with h1 | h1
    · omega
    · exact ho h1).trans (h.keep b hb ho)
  sub b hb := by
    rcases k.sub b hb with h1 | h1
    · exact .inl (Nat.le_trans h.size h1)
    · exact h.sub b h1
  imm b o hb := k.imm b o (h.imm b o hb)
  grow b hb hb'' := by
    cases hι : ι' b with
    | some o => exact h.grow b hb (by rw [hι]; simp)
    | none =>
      rcases k.grow b hι hb'' with h1 | h1
      · exact .inl (Nat.le_trans h.size h1)
      · exact h.sub b h1

/-- The map of names grows at fresh names alone. -/
structure Ext (φ φ' : Phi) (lo hi : Nat) : Prop where
  le : lo ≤ hi
  out : ∀ i, ¬ (lo ≤ i ∧ i < hi) → φ' i = φ i
  fresh : ∀ i, lo ≤ i → i < hi → φ i = .none

theorem Ext.refl (φ : Phi) (n : Nat) : Ext φ φ n n := ⟨Nat.le_refl _, fun _ _ => rfl, fun i h1 h2 => by omega⟩
theorem Ext.mono {φ φ' lo hi} (h : Ext φ φ' lo hi) : ∀ i l, φ i = some l → φ' i = some l := fun i l hl => by
  by_cases hi : lo ≤ i ∧ i < hi
  · rw [h.fresh i hi.1 hi.2] at hl; cases hl
  · rw [h.out i hi]; exact hl
theorem Ext.trans {φ φ' φ'' a b c} (h : Ext φ φ' a b) (k : Ext φ' φ'' b c) : Ext φ φ'' a c where
  le := Nat.le_trans h.le k.le
  out i hi := by
    have := h.le; have := k.le
    rw [k.out i (by omega), h.out i (by omega)]
  fresh i h1 h2 := by
    by_cases hb : i < b
    · exact h.fresh i h1 hb
    · rw [← h.out i (by omega)]; exact k.fresh i (by omega) h2

end Go.AMach
