/- The abstract machine: values told as data. -/
import Derived.Test.YtbkbifpjckippaaAm8
namespace Go.AMach
set_option linter.unusedVariables false
set_option linter.unusedSimpArgs false
set_option linter.unnecessarySimpa false
set_option linter.unusedSectionVars false
variable [Sites]
open Go.RowKit
set_option linter.unusedVariables false
set_option linter.unusedSimpArgs false
variable {P : Program}

theorem enc_length : ∀ (T : Ty) (s : T.sem), (T.enc s).length = T.size
  | .int _, _ => rfl
  | .bool, _ => rfl
  | .str, _ => rfl
  | .slice _, _ => rfl
  | .unit, _ => rfl
  | .pair t r, s => by simp [Ty.enc, Ty.size, enc_length t, enc_length r]

theorem rowAt_or {α : Type} : ∀ (l : List (List α)) (e : Nat), rowAt l e ∈ l ∨ (l = [] ∧ rowAt l e = [])
  | [], e => .inr ⟨rfl, rfl⟩
  | [c], e => .inl (by simp [rowAt])
  | c :: d :: r, 0 => .inl (by simp [rowAt])
  | c :: d :: r, e + 1 => by
    rcases rowAt_or (d :: r) e with h | ⟨h, _⟩
    · exact .inl (by rw [rowAt]; exact List.mem_cons_of_mem _ h)
    · cases h

theorem pick1_map {α : Type} (d : List AV → α) : ∀ (l : List (List AV)) (e : Nat), pick1 (l.map d) e (d []) = d (rowAt l e)
  | [], e => rfl
  | [c], e => rfl
  | c :: c' :: r, 0 => rfl
  | c :: c' :: r, e + 1 => by
    simp only [List.map_cons, pick1, rowAt]
    exact pick1_map d (c' :: r) e

theorem decR_spec {T : Ty} {p : List AV → Bool} {d : List AV → T.sem} : ∀ {es : Rows AV}, okR p T es = true → ∀ e,
    (p (es.get e) = true ∧ decR d es e = d (es.get e)) ∨ es.get e = T.enc (decR d es e) ∨ (es.get e = [] ∧ decR d es e = d [])
  | .lit l, h, e => by
    simp only [okR, List.all_eq_true] at h
    simp only [Rows.get, decR]
    rw [pick1_map]
    rcases rowAt_or l e with hm | ⟨_, h0⟩
    · exact .inl ⟨h _ hm, rfl⟩
    · exact .inr (.inr ⟨h0, by rw [h0]⟩)
  | .ty T' l, h, e => by
    simp only [okR, decide_eq_true_eq] at h
    subst h
    right; left
    simp [Rows.get, decR]
  | .rep n c, h, e => .inl ⟨h, rfl⟩
  | .upd r i c, h, e => by
    simp only [okR, Bool.and_eq_true] at h
    simp only [Rows.get, decR]
    split
    · exact .inl ⟨h.2, rfl⟩
    · exact decR_spec h.1 e
  | .app r s, h, e => by
    simp only [okR, Bool.and_eq_true] at h
    simp only [Rows.get, decR]
    split
    · exact decR_spec h.1 e
    · exact decR_spec h.2 _
  | .sub r l n, h, e => by
    simp only [okR] at h
    simp only [Rows.get, decR]
    exact decR_spec h _

theorem ARels.split {ι φ us cs} (h : ARels ι φ us cs) (n : Nat) : ARels ι φ (us.take n) (cs.take n) ∧ ARels ι φ (us.drop n) (cs.drop n) := ⟨h.take n, h.drop n⟩

theorem decL_get {T : Ty} {p : List AV → Bool} {d : List AV → T.sem} : ∀ {es : Rows AV}, okR p T es = true → (decL d es).length = es.len ∧ ∀ e, e < es.len → (decL d es)[e]? = some (decR d es e)
  | .lit l, h => by
    refine ⟨by simp [decL, Rows.len], fun e he => ?_⟩
    simp only [decL, decR]
    rw [pick1_map, List.getElem?_map, rowAt_get he]; rfl
  | .ty T' l, h => by
    simp only [okR, decide_eq_true_eq] at h
    subst h
    simp only [decL, decR, Rows.len, dif_pos]
    refine ⟨trivial, fun e he => ?_⟩
    rw [List.getElem?_eq_getElem he, rd_some (List.getElem?_eq_getElem he)]
  | .rep n c, h => ⟨by simp [decL, Rows.len], fun e he => by simp only [Rows.len] at he; simp [decL, decR, he]⟩
  | .upd r i c, h => by
    simp only [okR, Bool.and_eq_true] at h
    obtain ⟨h1, h2⟩ := decL_get (d := d) h.1
    refine ⟨by simp [decL, Rows.len, h1], fun e he => ?_⟩
    have he' : e < r.len := he
    simp only [decL, decR]
    by_cases hi : e = i
    · subst hi; rw [if_pos rfl, List.getElem?_set_self (by omega)]
    · rw [if_neg hi, List.getElem?_set_ne (by omega), h2 e he']
  | .app r s, h => by
    simp only [okR, Bool.and_eq_true] at h
    obtain ⟨h1, h2⟩ := decL_get (d := d) h.1
    obtain ⟨h3, h4⟩ := decL_get (d := d) h.2
    refine ⟨by simp [decL, Rows.len, h1, h3], fun e he => ?_⟩
    have he' : e < r.len + s.len := he
    simp only [decL, decR]
    by_cases hi : e < r.len
    · rw [if_pos hi, List.getElem?_append_left (by omega), h2 e hi]
    · rw [if_neg hi, List.getElem?_append_right (by omega), h1, h4 _ (by omega)]
  | .sub r l n, h => ⟨mkL_length _ _, fun e he => mkL_get he⟩

theorem toL_ty {T : Ty} {l : List T.sem} {e : Nat} {c : List AV} (h : (Rows.ty T l : Rows AV).toL[e]? = some c) : e < l.length ∧ c = T.enc (T.rd l e) := toL_some.1 h
theorem toL_decL {T : Ty} {p : List AV → Bool} {d : List AV → T.sem} {es : Rows AV} (hok : okR p T es = true) {e : Nat} {c : List AV} (h : (Rows.ty T (decL d es) : Rows AV).toL[e]? = some c) : e < es.len ∧ c = T.enc (decR d es e) := by
  obtain ⟨h1, h2⟩ := toL_ty h
  obtain ⟨g1, g2⟩ := decL_get (d := d) hok
  rw [g1] at h1
  exact ⟨h1, by rw [h2, rd_some (g2 e h1)]⟩
theorem toL_mkL {T : Ty} {n : Nat} {f : Nat → T.sem} {e : Nat} {c : List AV} (h : (Rows.ty T (mkL n f) : Rows AV).toL[e]? = some c) : e < n ∧ c = T.enc (f e) := by
  obtain ⟨h1, h2⟩ := toL_ty h
  rw [mkL_length] at h1
  exact ⟨h1, by rw [h2, rd_some (mkL_get h1)]⟩
theorem toL_ty_len {T : Ty} {l : List T.sem} : ∀ c ∈ (Rows.ty T l : Rows AV).toL, c.length = T.size := fun c hc => by
  obtain ⟨e, he⟩ := List.getElem?_of_mem hc
  obtain ⟨_, rfl⟩ := toL_ty he
  exact enc_length _ _

/-- A row of a kind, told of a row that is there. -/
theorem typed_row {ι ι' : Iota} {T : Ty} {p : List AV → Bool} {d : List AV → T.sem} {cs : Array Value} {off : Nat} {es : Rows AV} {ψ : Phi} (h1 : ∀ b o, ι b = some o → ι' b = some o)
    (ih : ∀ us c, ARels ι ψ us c → c.length = T.size → p c = true → ARels ι' Phi.none us (T.enc (d c))) (hψ : ψ = Phi.none ∨ ∀ s : T.sem, AV.pures (T.enc s) = true)
    (hok : okR p T es = true) (hr : RowRel ι ψ cs off T.size es.toL) {e : Nat} (he : e < es.len) {j : Nat} {x : AV} (hx : (T.enc (decR d es e))[j]? = some x) :
    ∃ u, cs[off + e * T.size + j]? = some u ∧ ARel ι' Phi.none u x ∧ u.oneCell' = true := by
  have hc : es.toL[e]? = some (es.get e) := toL_at he
  have hlen : (es.get e).length = T.size := hr.1 _ (List.mem_of_getElem? hc)
  have hj : j < T.size := by rw [← enc_length T (decR d es e)]; exact (List.getElem?_eq_some_iff.1 hx).1
  obtain ⟨u, hu, hru, ho⟩ := hr.2 e j _ _ hc (List.getElem?_eq_getElem (by rw [hlen]; exact hj))
  refine ⟨u, hu, ?_, ho⟩
  -- the values of the row
  have hvals : ∃ us : List Value, us.length = T.size ∧ us[j]? = some u ∧ ARels ι ψ us (es.get e) := by
    refine ⟨(List.range T.size).map fun k => (cs[off + e * T.size + k]?).getD undef, by simp, by simp [hj, hu], by simp [hlen], fun i v c hv hc' => ?_⟩
    simp only [List.getElem?_map, Option.map_eq_some_iff] at hv
    obtain ⟨k, hk, rfl⟩ := hv
    have hk' : k = i := by
      have := (List.getElem?_eq_some_iff.1 hk)
      simp at this; omega
    subst hk'
    obtain ⟨v, hv, hrv, _⟩ := hr.2 e k _ _ hc hc'
    rw [hv]; exact hrv
  obtain ⟨us, hl, hus, hrel⟩ := hvals
  rcases decR_spec (d := d) hok e with ⟨hp, hd⟩ | hd | ⟨h0, hd⟩
  · rw [hd] at hx
    exact (ih us _ hrel hlen hp).2 j u x hus hx
  · rw [hd] at hrel
    have := hrel.2 j u x hus hx
    have := this.imm h1
    rcases hψ with rfl | hpure
    · exact this
    · exact ARel.of_pure (pures_get (hpure _) hx) this
  · rw [h0] at hlen
    simp at hlen
    omega

theorem pures_append : ∀ {a b : List AV}, AV.pures a = true → AV.pures b = true → AV.pures (a ++ b) = true
  | [], b, _, h => h
  | x :: a, b, h, k => by simp [AV.pures] at h ⊢; exact ⟨h.1, pures_append h.2 k⟩
theorem enc_pure : ∀ (T : Ty) (s : T.sem), AV.pures (T.enc s) = true
  | .int _, _ => rfl
  | .bool, _ => rfl
  | .str, _ => rfl
  | .slice _, _ => rfl
  | .unit, _ => rfl
  | .pair t r, s => pures_append (enc_pure t _) (enc_pure r _)

theorem ARels.take_cons {ι φ u us c cs} (h : ARels ι φ (u :: us) (c :: cs)) : ARel ι φ u c := h.2 0 u c rfl rfl

/-- DATA: what is told as data is so, where the blocks that it lies in stay as they are. -/
theorem frz {ι ι' : Iota} {φ : Phi} {w : World} {hp : Nat → Option AB} (hblk : ∀ i b, hp i = some b → ∃ loc, φ i = some loc ∧ BRel ι φ w loc b) (h1 : ∀ b o, ι b = some o → ι' b = some o)
    (h2 : ∀ id blk, hp id = some blk → ∀ b off sz lim len, φ id = some (.at b off sz lim len) → ι' b = w.heap[b]?) :
    ∀ (T : Ty) (us : List Value) (cs : List AV), ARels ι φ us cs → T.size ≤ cs.length → T.ok hp cs = true → ARels ι' Phi.none (us.take T.size) (T.enc (T.dec hp cs))
  | .int k, us, cs, h, hl, hok => by
    simp only [Ty.ok] at hok
    split at hok
    case h_2 => cases hok
    rename_i k' x r
    simp at hok
    subst hok
    obtain ⟨u, us', rfl, hu, _⟩ := h.uncons
    cases hu
    exact ARels.nil.cons (.v _)
  | .bool, us, cs, h, hl, hok => by
    simp only [Ty.ok] at hok
    split at hok
    case h_2 => cases hok
    obtain ⟨u, us', rfl, hu, _⟩ := h.uncons
    cases hu
    exact ARels.nil.cons (.v _)
  | .str, us, cs, h, hl, hok => by
    simp only [Ty.ok] at hok
    split at hok
    case h_2 => cases hok
    obtain ⟨u, us', rfl, hu, _⟩ := h.uncons
    cases hu
    exact ARels.nil.cons (.v _)
  | .unit, us, cs, h, hl, hok => by
    simp only [Ty.size, List.take_zero, Ty.enc]
    exact ARels.nil
  | .pair t r, us, cs, h, hl, hok => by
    simp only [Ty.ok, Bool.and_eq_true] at hok
    simp only [Ty.size] at hl
    have a1 := frz hblk h1 h2 t us cs h (by omega) hok.1
    have a2 := frz hblk h1 h2 r (us.drop t.size) (cs.drop t.size) (h.drop _) (by simp; omega) hok.2
    have := a1.append a2
    simp only [Ty.size, Ty.enc, Ty.dec]
    rw [List.take_add]
    exact this
  | .slice t, us, cs, h, hl, hok => by
    have ih : ∀ (ψ : Phi), (∀ i l, ψ i = some l → φ i = some l) → ∀ us c, ARels ι ψ us c → c.length = t.size → (decide (c.length = t.size) && t.ok hp c) = true → ARels ι' Phi.none us (t.enc (t.dec hp c)) := fun ψ hψ us c hr hl hp' => by
      simp only [Bool.and_eq_true] at hp'
      have := frz hblk h1 h2 t us c (hr.mono hψ) (by omega) hp'.2
      rw [List.take_of_length_le (by rw [hr.1]; omega)] at this
      exact this
    simp only [Ty.ok] at hok
    split at hok
    · rename_i tg sz es r
      simp only [Bool.and_eq_true, decide_eq_true_eq] at hok
      obtain ⟨rfl, hokr⟩ := hok
      obtain ⟨u, us', rfl, hu, _⟩ := h.uncons
      refine ARels.nil.cons ?_
      cases hu with
      | sl a cap _ _ _ hc ht hw b off cs' T F vs hm g1 g2 g3 =>
      have hr : RowRel ι Phi.none cs' off t.size es.toL := ⟨hw, fun e j c x hc hx => ⟨vs e j, g1 e j c x hc hx, g2 e j c x hc hx, g3 e j c x hc hx⟩⟩
      have key := fun (e : Nat) (he : e < es.len) (j : Nat) (x : AV) hx => typed_row (ι := ι) (ι' := ι') (ψ := Phi.none) (d := t.dec hp) h1 (ih Phi.none (fun i l hl => by cases hl)) (.inl rfl) hokr hr (e := e) he (j := j) (x := x) hx
      simp only [Ty.dec]
      have hlen : (Rows.ty t (decL (t.dec hp) es) : Rows AV).len = es.len := (decL_get hokr).1
      rw [← hlen] at hc hm ⊢
      refine .sl a cap false t.size (.ty t (decL (t.dec hp) es)) hc (fun h => by cases h) toL_ty_len b off cs' T F (fun e j => (cs'[off + e * t.size + j]?).getD undef) (fun hne => ⟨(hm hne).1, h1 _ _ (hm hne).2⟩) ?_ ?_ ?_
      · intro e j c x hc hx
        obtain ⟨he, rfl⟩ := toL_decL hokr hc
        obtain ⟨u, hu, _⟩ := key e he j x hx
        rw [hu]; rfl
      · intro e j c x hc hx
        obtain ⟨he, rfl⟩ := toL_decL hokr hc
        obtain ⟨u, hu, hr, _⟩ := key e he j x hx
        rw [hu]; exact hr
      · intro e j c x hc hx
        obtain ⟨he, rfl⟩ := toL_decL hokr hc
        obtain ⟨u, hu, _, ho⟩ := key e he j x hx
        rw [hu]; exact ho
    · rename_i tg id e0 n r
      split at hok
      case h_2 => cases hok
      rename_i p sz es hid
      simp only [Bool.and_eq_true, decide_eq_true_eq] at hok
      obtain ⟨rfl, hokr⟩ := hok
      obtain ⟨u, us', rfl, hu, _⟩ := h.uncons
      refine ARels.nil.cons ?_
      cases hu with
      | hs _ _ _ _ a cap loc hφ hc ht hm =>
      simp only [Ty.dec, hid]
      obtain ⟨loc', hl', hb⟩ := hblk id _ hid
      rw [hφ] at hl'; cases hl'
      by_cases hn : n = 0
      · subst hn
        exact .sl a cap false t.size (.ty t []) hc (fun h => by cases h) toL_ty_len 0 0 #[] 0 (0, 0) (fun _ _ => undef) (fun hne => absurd rfl hne)
          (fun e j c x hc hx => absurd (toL_ty hc).1 (Nat.not_lt_zero _)) (fun e j c x hc hx => absurd (toL_ty hc).1 (Nat.not_lt_zero _)) (fun e j c x hc hx => absurd (toL_ty hc).1 (Nat.not_lt_zero _))
      · rcases hm with hm | ⟨b, off, sz', lim, len, rfl, rfl, e2, e3⟩
        · omega
        obtain ⟨⟨rfl, rfl⟩, hpos, hlim, cs', T, F, hb0, hF, hcs, hr⟩ := hb
        have hib := h2 id _ hid b off _ _ _ hφ
        have hsub : ∀ (ψ : Phi), pφ p φ = ψ → (∀ i l, ψ i = some l → φ i = some l) → ∀ (e : Nat) (he : e < es.len) (j : Nat) (x : AV), (t.enc (decR (t.dec hp) es e))[j]? = some x → ∃ u, cs'[off + e * t.size + j]? = some u ∧ ARel ι' Phi.none u x ∧ u.oneCell' = true :=
          fun ψ hψ hmono e he j x hx => typed_row (ι := ι) (ι' := ι') (ψ := ψ) (d := t.dec hp) h1 (ih ψ hmono) (.inr (enc_pure t)) hokr (hψ ▸ hr) (e := e) he (j := j) (x := x) hx
        have key := hsub _ rfl (fun i l hl => by
          cases p
          · exact hl
          · cases hl)
        have hoff : ∀ e j, off + e0 * t.size + e * t.size + j = off + (e + e0) * t.size + j := fun e j => by rw [Nat.add_mul]; omega
        have hlen : (Rows.ty t (mkL n fun i => decR (t.dec hp) es (i + e0)) : Rows AV).len = n := mkL_length _ _
        have hsl : ARel ι' Phi.none (.slice (some ⟨b, off + e0 * t.size, .none⟩) (Rows.ty t (mkL n fun i => decR (t.dec hp) es (i + e0)) : Rows AV).len cap) (.sl false t.size (.ty t (mkL n fun i => decR (t.dec hp) es (i + e0)))) := by
          refine .sl _ cap false t.size (.ty t (mkL n fun i => decR (t.dec hp) es (i + e0))) (by rw [hlen]; exact hc) (fun h => by cases h) toL_ty_len b (off + e0 * t.size) cs' T F (fun e j => (cs'[off + (e + e0) * t.size + j]?).getD undef) (fun hne => ⟨rfl, by rw [hib]; exact hb0⟩) ?_ ?_ ?_
          · intro e j c x hc hx
            obtain ⟨he, rfl⟩ := toL_mkL hc
            obtain ⟨u, hu, _⟩ := key (e + e0) (by omega) j x hx
            rw [hoff, hu]; rfl
          · intro e j c x hc hx
            obtain ⟨he, rfl⟩ := toL_mkL hc
            obtain ⟨u, hu, hr, _⟩ := key (e + e0) (by omega) j x hx
            rw [hu]; exact hr
          · intro e j c x hc hx
            obtain ⟨he, rfl⟩ := toL_mkL hc
            obtain ⟨u, hu, _, ho⟩ := key (e + e0) (by omega) j x hx
            rw [hu]; exact ho
        rw [hlen] at hsl
        exact hsl
    · obtain ⟨u, us', rfl, hu, _⟩ := h.uncons
      refine ARels.nil.cons ?_
      cases hu
      simp only [Ty.dec]
      exact .sl none 0 false t.size (.ty t []) (Nat.le_refl _) (fun h => by cases h) toL_ty_len 0 0 #[] 0 (0, 0) (fun _ _ => undef) (fun hne => absurd rfl hne)
          (fun e j c x hc hx => absurd (toL_ty hc).1 (Nat.not_lt_zero _)) (fun e j c x hc hx => absurd (toL_ty hc).1 (Nat.not_lt_zero _)) (fun e j c x hc hx => absurd (toL_ty hc).1 (Nat.not_lt_zero _))
    · cases hok

theorem asData_rel {ι ι' : Iota} {φ : Phi} {w : World} {hp : Nat → Option AB} (hblk : ∀ i b, hp i = some b → ∃ loc, φ i = some loc ∧ BRel ι φ w loc b) (h1 : ∀ b o, ι b = some o → ι' b = some o)
    (h2 : ∀ id blk, hp id = some blk → ∀ b off sz lim len, φ id = some (.at b off sz lim len) → ι' b = w.heap[b]?) {T : Ty} {u : Value} {x y : AV} (hx : ARel ι φ u x) (h : asData hp T x = some y) : ARel ι' Phi.none u y := by
  have one : (if T.size = 1 ∧ T.ok hp [x] = true then (match T.enc (T.dec hp [x]) with | [c] => some c | _ => none) else none) = some y → ARel ι' Phi.none u y := fun h => by
    split at h
    case isFalse => cases h
    rename_i hc
    obtain ⟨hsz, hok⟩ := hc
    have hr := frz hblk h1 h2 T [u] [x] (ARels.nil.cons hx) (by simp [hsz]) hok
    rw [hsz] at hr
    split at h
    case h_2 => cases h
    rename_i c he
    cases h
    rw [he] at hr
    exact hr.2 0 u y rfl rfl
  unfold asData at h
  split at h
  · rename_i cs
    split at h
    case isFalse => cases h
    rename_i hc
    obtain ⟨hsz, hok⟩ := hc
    cases h
    cases hx with
    | agg vs _ hl hr =>
    have hr' := frz hblk h1 h2 T vs cs ⟨hl, hr⟩ (by omega) hok
    rw [List.take_of_length_le (by omega)] at hr'
    exact .agg vs _ hr'.1 hr'.2
  · exact one h

theorem asDatas_rel {ι ι' : Iota} {φ : Phi} {w : World} {hp : Nat → Option AB} (hblk : ∀ i b, hp i = some b → ∃ loc, φ i = some loc ∧ BRel ι φ w loc b) (h1 : ∀ b o, ι b = some o → ι' b = some o)
    (h2 : ∀ id blk, hp id = some blk → ∀ b off sz lim len, φ id = some (.at b off sz lim len) → ι' b = w.heap[b]?) :
    ∀ {Ts : List Ty} {us : List Value} {xs ys : List AV}, ARels ι φ us xs → asDatas hp Ts xs = some ys → ARels ι' Phi.none us ys
  | [], us, [], ys, h, hy => by
    simp [asDatas] at hy; subst hy; rw [h.nil_inv]; exact ARels.nil
  | [], us, x :: xs, ys, h, hy => by simp [asDatas] at hy
  | T :: Ts, us, [], ys, h, hy => by simp [asDatas] at hy
  | T :: Ts, us, x :: xs, ys, h, hy => by
    simp only [asDatas] at hy
    cases hd : asData hp T x with
    | none => rw [hd] at hy; cases hy
    | some y =>
    cases hds : asDatas hp Ts xs with
    | none => rw [hd, hds] at hy; cases hy
    | some zs =>
    rw [hd, hds] at hy
    cases hy
    obtain ⟨u, us', rfl, ha, hb⟩ := h.uncons
    exact (asDatas_rel hblk h1 h2 hb hds).cons (asData_rel hblk h1 h2 ha hd)
end Go.AMach
