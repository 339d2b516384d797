/- The abstract machine: regions, runs, calls. -/
import Derived.Test.YtbkbifpjckippaaAm12b
import Derived.LoopNIn
namespace Go.AMach
set_option linter.unusedVariables false
set_option linter.unusedSimpArgs false
set_option linter.unnecessarySimpa false
set_option linter.unusedSectionVars false
variable [Sites]
open Go.RowKit
set_option linter.unusedVariables false
set_option linter.unusedSimpArgs false
variable {P : Program}

/-- The marks of this activation's ranges over functions: blocks that nobody owns, without a call in them. -/
def Marks (ι : Iota) (H : AH) (φ : Phi) (w0 w : World) : List Deferred → Prop
  | [] => True
  | d :: ds => (∃ r, d = { target := .collected r, args := #[] } ∧ w0.heap.size ≤ r ∧ w.heap[r]? = some (.deferred (some [])) ∧ ¬ Owned H φ r ∧ ι r = none ∧ ∀ d' ∈ ds, d'.target ≠ .collected r) ∧ Marks ι H φ w0 w ds

theorem Marks.frm {ι H φ w0 w ι' H' φ' w'} : ∀ {ds : List Deferred}, Marks ι H φ w0 w ds → Frm ι H φ w ι' H' φ' w' → Marks ι' H' φ' w0 w' ds
  | [], _, _ => trivial
  | d :: ds, ⟨⟨r, h1, h2, h3, h4, h5, h6⟩, hr⟩, hf => by
    have hlt : r < w.heap.size := (Array.getElem?_eq_some_iff.1 h3).1
    refine ⟨⟨r, h1, h2, (hf.keep r hlt h4).trans h3, fun ho => ?_, ?_, h6⟩, hr.frm hf⟩
    · rcases hf.sub r ho with h | h
      · omega
      · exact h4 h
    · cases hι : ι' r with
      | none => rfl
      | some o =>
        rcases hf.grow r h5 (by rw [hι]; simp) with h | h
        · omega
        · exact absurd h h4
theorem Marks.heap {ι H φ w0 w w'} : ∀ {ds : List Deferred}, Marks ι H φ w0 w ds → w'.heap = w.heap → Marks ι H φ w0 w' ds
  | [], _, _ => trivial
  | d :: ds, ⟨⟨r, h1, h2, h3, h4, h5, h6⟩, hr⟩, hf => ⟨⟨r, h1, h2, by rw [hf]; exact h3, h4, h5, h6⟩, hr.heap hf⟩
theorem Marks.own {ι H φ w0 w H'} (hH : ∀ b, Owned H' φ b → Owned H φ b) : ∀ {ds : List Deferred}, Marks ι H φ w0 w ds → Marks ι H' φ w0 w ds
  | [], _ => trivial
  | d :: ds, ⟨⟨r, h1, h2, h3, h4, h5, h6⟩, hr⟩ => ⟨⟨r, h1, h2, h3, fun h => h4 (hH r h), h5, h6⟩, hr.own hH⟩

structure Inv (ι0 : Iota) (φ0 : Phi) (n0 : Nat) (H0 : AH) (w0 : World) (N : Nat) (ι : Iota) (φ : Phi) (s : St) (a : Act) (w : World) : Prop where
  base : ∀ k, k < n0 → φ k = φ0 k
  fresh : ∀ k, s.nx ≤ k → φ k = .none
  le : n0 ≤ s.nx
  rel : SRel ι φ s.heap w
  env : ERel ι φ a.tmps s.env
  size : a.tmps.size = N
  defers : Marks ι s.heap φ w0 w a.defers
  frm : Frm ι0 H0 φ0 w0 ι s.heap φ w

def XRel (ι : Iota) (φ : Phi) : AX → Exit → Prop
  | .nm, .normal => True
  | .ex i, .exit j => i = j
  | .gt i, .goto j => i = j
  | .rt, .ret => True
  | .pn x, .panic ch => ∃ u, ch = [{ v := u, recovered := false }] ∧ ARel ι φ u x
  | _, _ => False

def RPost (ι0 : Iota) (φ0 : Phi) (n0 : Nat) (H0 : AH) (w0 : World) (N : Nat) (x : AX) (s : St) : Exit → Act → World → Prop :=
  fun e a w => ∃ ι φ, Inv ι0 φ0 n0 H0 w0 N ι φ s a w ∧ XRel ι φ x e

theorem Inv.step {ι0 φ0 n0 H0 w0 N ι φ s a w} (h : Inv ι0 φ0 n0 H0 w0 N ι φ s a w) {ι' : Iota} {φ' : Phi} {H' : AH} {n' : Nat} {w' : World} (he : Ext φ φ' s.nx n') (hS : SRel ι' φ' H' w') (hf : Frm ι s.heap φ w ι' H' φ' w')
    {env : Env} {a' : Act} (henv : ERel ι' φ' a'.tmps env) (hN : a'.tmps.size = N) (hd : a'.defers = a.defers) : Inv ι0 φ0 n0 H0 w0 N ι' φ' ⟨env, H', n'⟩ a' w' where
  base k hk := by rw [he.out k (by have := h.le; omega)]; exact h.base k hk
  fresh k hk := by
    have hk : n' ≤ k := hk
    have := he.le
    rw [he.out k (by omega)]; exact h.fresh k (by omega)
  le := Nat.le_trans h.le he.le
  rel := hS
  env := henv
  size := hN
  defers := by rw [hd]; exact h.defers.frm hf
  frm := h.frm.trans hf

theorem runOps_sound {cf : CallF} (hcf : CallSound P cf) {ι0 φ0 n0 H0 w0 N} {ops : Array Oper} : ∀ (r : List Oper) (l : List Nat) (s : St) (a : Act) (w : World) (ι : Iota) (φ : Phi) (x : AX) (s' : St),
    l.map (fun i => ops[i]?) = r.map some → Inv ι0 φ0 n0 H0 w0 N ι φ s a w → runOps P cf N ops r s = some (x, s') → wpOpsIn (FR none) 0 P ops (RPost ι0 φ0 n0 H0 w0 N x s') l a w := by
  intro r
  induction r with
  | nil =>
    intro l s a w ι φ x s' hl hI hr
    simp at hl; subst hl
    simp [runOps] at hr
    obtain ⟨rfl, rfl⟩ := hr
    exact ⟨ι, φ, hI, trivial⟩
  | cons o r ih =>
    intro l s a w ι φ x s' hl hI hr
    cases l with
    | nil => simp at hl
    | cons i l =>
      simp only [List.map_cons, List.cons.injEq] at hl
      obtain ⟨ho, hl⟩ := hl
      simp only [wpOpsIn, ho]
      have step : stepO P cf N o s (runOps P cf N ops r) = some (x, s') → o.wpIn (FR none) 0 P a w (wpOpsIn (FR none) 0 P ops (RPost ι0 φ0 n0 H0 w0 N x s') l) (RPost ι0 φ0 n0 H0 w0 N x s') := fun hr => by
        unfold stepO at hr
        cases hop : (opA P cf s.env o).run s.heap s.nx with
        | none => rw [hop] at hr; cases hr
        | some res =>
          obtain ⟨rr, H', n'⟩ := res
          rw [hop] at hr
          refine opA_sound hcf hI.env hI.rel hop (fun i h1 _ => hI.fresh i h1) ?_
          cases rr with
          | ok y =>
            intro u w' ι' φ' h1 h2 h3 h4
            simp only [Option.bind_eq_some_iff] at hr
            obtain ⟨env', hput, hr⟩ := hr
            obtain ⟨p1, p2⟩ := put_env ((hI.env.mono h1.mono).imm h4.imm) hI.size h3 hput
            exact ih l _ _ w' ι' φ' x s' hl (hI.step h1 h2 h4 p1 p2 (put_defers _ _)) hr
          | pn y =>
            intro u w' ι' φ' h1 h2 h3 h4
            simp at hr
            obtain ⟨rfl, rfl⟩ := hr
            exact ⟨ι', φ', hI.step h1 h2 h4 ((hI.env.mono h1.mono).imm h4.imm) hI.size rfl, u, rfl, h3⟩
      simp only [runOps] at hr
      cases hg : o.guard with
      | none =>
        rw [hg] at hr
        rw [if_pos (by simp [Region.wanted, hg])]
        exact step hr
      | some g =>
        obtain ⟨j, want⟩ := g
        rw [hg] at hr
        simp only [] at hr
        cases hy : yieldA ops s.env j with
        | none => rw [hy] at hr; cases hr
        | some y =>
          rw [hy] at hr
          simp only [] at hr
          have hyy := yieldA_rel hI.env hy
          by_cases hw : y = some want
          · rw [if_pos hw] at hr
            rw [if_pos (by simp [Region.wanted, hg, hyy, hw])]
            exact step hr
          · rw [if_neg hw] at hr
            rw [if_neg (by simp [Region.wanted, hg, hyy, hw])]
            simp only [Option.bind_eq_some_iff] at hr
            obtain ⟨env', hput, hr⟩ := hr
            obtain ⟨p1, p2⟩ := put_env hI.env hI.size (ARel.v undef) hput
            exact ⟨fun _ _ => trivial, ih l ⟨env', s.heap, s.nx⟩ _ w ι φ x s' hl ⟨hI.base, hI.fresh, hI.le, hI.rel, p1, p2, by rw [put_defers]; exact hI.defers, hI.frm⟩ hr⟩

theorem gcTo_get {n0 : Nat} {l : List Nat} {H : AH} {k : Nat} (h : k < n0) : (gcTo n0 l H)[k]? = some k := by
  unfold gcTo
  rw [List.getElem?_append_left (by simpa using h)]
  simp [h]
theorem gcTo_length {n0 : Nat} {l : List Nat} {H : AH} : n0 ≤ (gcTo n0 l H).length := by
  unfold gcTo; simp

theorem at_stay (H : AH) (ids : List Nat) (i : Nat) : (H.stay ids).at i = if ids.contains i then H.at i else none := by
  unfold AH.stay
  conv => lhs; unfold AH.at
  rw [List.getD_eq_getElem?_getD, List.getElem?_map]
  by_cases h : i < H.length
  · rw [List.getElem?_range h]; rfl
  · rw [List.getElem?_eq_none (by simp; omega)]
    have : H.at i = none := by unfold AH.at; rw [List.getD_eq_getElem?_getD, List.getElem?_eq_none (by omega)]; rfl
    rw [this]
    simp

theorem kpAll_sound {ι ι' : Iota} {φ : Phi} {w : World} {hp : Nat → Option AB} (h1 : ∀ b o, ι b = some o → ι' b = some o) (hblk : ∀ i b, hp i = some b → ∃ loc, φ i = some loc ∧ BRel ι φ w loc b)
    (h2 : ∀ id blk, hp id = some blk → ∀ b off sz lim len, φ id = some (.at b off sz lim len) → ι' b = w.heap[b]?) :
    ∀ (l : List (AV × Kp)) (vs : List Value) (G : AH) (nx : Nat) (ψ : Phi) (xs : List AV) (G' : AH) (nx' : Nat), ARels ι φ vs (l.map (·.1)) → (∀ i l, φ i = some l → ψ i = some l) → SRel ι' ψ G w → (∀ k, nx ≤ k → ψ k = .none) →
      kpAll hp l G nx = some (xs, G', nx') → ∃ ψ', Ext ψ ψ' nx nx' ∧ SRel ι' ψ' G' w ∧ ARels ι' ψ' vs xs ∧ Frm ι' G ψ w ι' G' ψ' w
  | [], vs, G, nx, ψ, xs, G', nx', hv, hφ, hS, hfr, h => by
    simp [kpAll] at h
    obtain ⟨rfl, rfl, rfl⟩ := h
    rw [hv.nil_inv]
    exact ⟨ψ, Ext.refl _ _, hS, ARels.nil, Frm.refl _ _ _ _⟩
  | (x, .keep) :: l, vs, G, nx, ψ, xs, G', nx', hv, hφ, hS, hfr, h => by
    simp only [kpAll] at h
    obtain ⟨u, us, rfl, ha, hb⟩ := ARels.uncons (cs := l.map (·.1)) hv
    split at h
    case h_2 => cases h
    rename_i ys H1 n1 hk
    cases h
    obtain ⟨ψ', g1, g2, g3, g4⟩ := kpAll_sound h1 hblk h2 l us G nx ψ _ _ _ hb hφ hS hfr hk
    exact ⟨ψ', g1, g2, g3.cons (((ha.imm h1).mono hφ).mono g1.mono), g4⟩
  | (x, .drop) :: l, vs, G, nx, ψ, xs, G', nx', hv, hφ, hS, hfr, h => by
    simp only [kpAll] at h
    obtain ⟨u, us, rfl, ha, hb⟩ := ARels.uncons (cs := l.map (·.1)) hv
    split at h
    case h_2 => cases h
    rename_i ys H1 n1 hk
    cases h
    obtain ⟨ψ', g1, g2, g3, g4⟩ := kpAll_sound h1 hblk h2 l us G nx ψ _ _ _ hb hφ hS hfr hk
    exact ⟨ψ', g1, g2, g3.cons (.junk _), g4⟩
  | (x, .data T) :: l, vs, G, nx, ψ, xs, G', nx', hv, hφ, hS, hfr, h => by
    simp only [kpAll] at h
    obtain ⟨u, us, rfl, ha, hb⟩ := ARels.uncons (cs := l.map (·.1)) hv
    split at h
    case h_2 => cases h
    rename_i y hy
    split at h
    case h_2 => cases h
    rename_i ys H1 n1 hk
    cases h
    obtain ⟨ψ', g1, g2, g3, g4⟩ := kpAll_sound h1 hblk h2 l us G nx ψ _ _ _ hb hφ hS hfr hk
    exact ⟨ψ', g1, g2, g3.cons (asData_rel hblk h1 h2 ha hy).of_none, g4⟩
  | (x, .own T) :: l, vs, G, nx, ψ, xs, G', nx', hv, hφ, hS, hfr, h => by
    simp only [kpAll] at h
    obtain ⟨u, us, rfl, ha, hb⟩ := ARels.uncons (cs := l.map (·.1)) hv
    split at h
    · split at h
      case isFalse => cases h
      rename_i hT
      split at h
      case h_2 => cases h
      rename_i ys H1 n1 hk
      cases h
      have hn := hfr nx (Nat.le_refl _)
      have hS1 : SRel ι' (updφ ψ nx .virt) (G.setAt nx (some (.row true T.size (.ty T [])))) w := hS.add hn (fun _ _ _ => rfl) (fun b o s l n e => by cases e) rfl
      have hF1 : Frm ι' G ψ w ι' (G.setAt nx (some (.row true T.size (.ty T [])))) (updφ ψ nx .virt) w := Frm.add hS hn (fun _ _ => rfl) (fun b o s l n e => by cases e) rfl rfl rfl (Nat.le_refl _)
      obtain ⟨ψ', g1, g2, g3, g4⟩ := kpAll_sound h1 hblk h2 l us _ (nx + 1) (updφ ψ nx .virt) _ _ _ hb (fun i l hl => (Ext.upd _ hn).mono i l (hφ i l hl)) hS1 (fun k hk => by unfold updφ; rw [if_neg (by omega)]; exact hfr k (by omega)) hk
      refine ⟨ψ', (Ext.upd .virt hn).trans g1, g2, g3.cons ?_, hF1.trans g4⟩
      cases ha
      exact .hs false nx 0 0 none 0 .virt (g1.mono _ _ (updφ_same _ _ _)) (Nat.le_refl _) (fun h => by cases h) (.inl rfl)
    · rename_i tg id e n
      split at h
      case h_2 => cases h
      rename_i p sz es hid
      split at h
      case isFalse => cases h
      rename_i hc
      obtain ⟨rfl, hok⟩ := hc
      split at h
      case h_2 => cases h
      rename_i ys H1 n1 hk
      cases h
      cases ha with
      | hs _ _ _ _ a cap loc hl hcap ht hm =>
      have hl' := hφ _ _ hl
      obtain ⟨loc', hloc, hbr⟩ := hS.blk id _ hid
      rw [hl'] at hloc; cases hloc
      have hnew : BRel ι' ψ w loc (.row true T.size (.ty T (decL (T.dec hp) es))) := by
        cases loc with
        | virt => exact (decL_get (d := T.dec hp) hok).1.trans hbr
        | «at» b off sz lim len =>
          obtain ⟨⟨rfl, rfl⟩, hpos, hlim, cs, T', F, hb0, hF, hcs, hr⟩ := hbr
          have hlen : (Rows.ty T (decL (T.dec hp) es) : Rows AV).len = es.len := (decL_get hok).1
          refine ⟨⟨rfl, hlen.symm⟩, hpos, by rw [hlen]; exact hlim, cs, T', F, hb0, hF, hcs, toL_ty_len, fun e' j c x hc hx => ?_⟩
          obtain ⟨he, rfl⟩ := toL_decL hok hc
          have hblk' : ∀ i b, hp i = some b → ∃ loc, ψ i = some loc ∧ BRel ι' ψ w loc b := fun i b hb => by
            obtain ⟨loc, hl, hbr⟩ := hblk i b hb
            exact ⟨loc, hφ _ _ hl, (hbr.mono hφ).imm h1⟩
          refine typed_row (ι := ι') (ι' := ι') (ψ := pφ p ψ) (d := T.dec hp) (fun _ _ h => h) (fun us c hrel hlen hp' => ?_) (.inr (enc_pure T)) hok hr he hx
          simp only [Bool.and_eq_true] at hp'
          have hpm : ∀ i l, pφ p ψ i = some l → ψ i = some l := fun i l hl => by
            cases p
            · exact hl
            · cases hl
          have := frz (ι := ι') (ι' := ι') (φ := ψ) hblk' (fun _ _ h => h) (fun id blk hid b off sz lim len hl => by
            obtain ⟨loc, hl0, _⟩ := hblk id blk hid
            have := hφ _ _ hl0
            rw [hl] at this
            cases this
            exact h2 id blk hid b off sz lim len hl0) T us c (hrel.mono hpm) (by omega) hp'.2
          rw [List.take_of_length_le (by rw [hrel.1]; omega)] at this
          exact this
      have hS1 := hS.redo hid hl' hnew
      have hF1 : Frm ι' G ψ w ι' (G.setAt id (some (.row true T.size (.ty T (decL (T.dec hp) es))))) ψ w := ⟨rfl, rfl, rfl, Nat.le_refl _, fun _ _ _ => rfl, fun k hk => .inr (hk.mono_set ⟨_, hid⟩), fun _ _ h => h, fun _ h h' => absurd h h'⟩
      obtain ⟨ψ', g1, g2, g3, g4⟩ := kpAll_sound h1 hblk h2 l us _ nx ψ _ _ _ hb hφ hS1 hfr hk
      exact ⟨ψ', g1, g2, g3.cons (.hs false id e n a cap loc (g1.mono _ _ hl') hcap (fun h => by cases h) hm), hF1.trans g4⟩
    · rename_i id e j0
      split at h
      case h_2 => cases h
      rename_i p sz es hid
      split at h
      case isFalse => cases h
      rename_i hc
      obtain ⟨rfl, hok⟩ := hc
      split at h
      case h_2 => cases h
      rename_i ys H1 n1 hk
      cases h
      cases ha with
      | ptr _ _ _ b0 off0 sz0 lim0 len0 hl he0 =>
      generalize hloc0 : Loc.at b0 off0 sz0 lim0 len0 = loc at hl
      have hl' := hφ _ _ hl
      obtain ⟨loc', hloc, hbr⟩ := hS.blk id _ hid
      rw [hl'] at hloc
      have hloc := Option.some.inj hloc
      subst hloc
      have hnew : BRel ι' ψ w loc (.row true T.size (.ty T (decL (T.dec hp) es))) := by
        cases loc with
        | virt => exact (decL_get (d := T.dec hp) hok).1.trans hbr
        | «at» b off sz lim len =>
          obtain ⟨⟨rfl, rfl⟩, hpos, hlim, cs, T', F, hb0, hF, hcs, hr⟩ := hbr
          have hlen : (Rows.ty T (decL (T.dec hp) es) : Rows AV).len = es.len := (decL_get hok).1
          refine ⟨⟨rfl, hlen.symm⟩, hpos, by rw [hlen]; exact hlim, cs, T', F, hb0, hF, hcs, toL_ty_len, fun e' j c x hc hx => ?_⟩
          obtain ⟨he, rfl⟩ := toL_decL hok hc
          have hblk' : ∀ i b, hp i = some b → ∃ loc, ψ i = some loc ∧ BRel ι' ψ w loc b := fun i b hb => by
            obtain ⟨loc, hl, hbr⟩ := hblk i b hb
            exact ⟨loc, hφ _ _ hl, (hbr.mono hφ).imm h1⟩
          refine typed_row (ι := ι') (ι' := ι') (ψ := pφ p ψ) (d := T.dec hp) (fun _ _ h => h) (fun us c hrel hlen hp' => ?_) (.inr (enc_pure T)) hok hr he hx
          simp only [Bool.and_eq_true] at hp'
          have hpm : ∀ i l, pφ p ψ i = some l → ψ i = some l := fun i l hl => by
            cases p
            · exact hl
            · cases hl
          have := frz (ι := ι') (ι' := ι') (φ := ψ) hblk' (fun _ _ h => h) (fun id blk hid b off sz lim len hl => by
            obtain ⟨loc, hl0, _⟩ := hblk id blk hid
            have := hφ _ _ hl0
            rw [hl] at this
            cases this
            exact h2 id blk hid b off sz lim len hl0) T us c (hrel.mono hpm) (by omega) hp'.2
          rw [List.take_of_length_le (by rw [hrel.1]; omega)] at this
          exact this
      have hS1 := hS.redo hid hl' hnew
      have hF1 : Frm ι' G ψ w ι' (G.setAt id (some (.row true T.size (.ty T (decL (T.dec hp) es))))) ψ w := ⟨rfl, rfl, rfl, Nat.le_refl _, fun _ _ _ => rfl, fun k hk => .inr (hk.mono_set ⟨_, hid⟩), fun _ _ h => h, fun _ h h' => absurd h h'⟩
      obtain ⟨ψ', g1, g2, g3, g4⟩ := kpAll_sound h1 hblk h2 l us _ nx ψ _ _ _ hb hφ hS1 hfr hk
      exact ⟨ψ', g1, g2, g3.cons (.ptr id e j0 b0 off0 sz0 lim0 len0 (by rw [hloc0]; exact g1.mono _ _ hl') he0), hF1.trans g4⟩
    · cases h
  | (x, .flds ks) :: l, vs, G, nx, ψ, xs, G', nx', hv, hφ, hS, hfr, h => by
    simp only [kpAll] at h
    cases h

theorem kpZip_fst : ∀ (xs : List AV) (ks : List Kp), (kpZip xs ks).map (·.1) = xs
  | [], ks => by simp [kpZip]
  | x :: xs, [] => by simp [kpZip, kpZip_fst xs []]
  | x :: xs, k :: ks => by simp [kpZip, kpZip_fst xs ks]

theorem kpAll2_sound {ι ι' : Iota} {φ : Phi} {w : World} {hp : Nat → Option AB} (h1 : ∀ b o, ι b = some o → ι' b = some o) (hblk : ∀ i b, hp i = some b → ∃ loc, φ i = some loc ∧ BRel ι φ w loc b)
    (h2 : ∀ id blk, hp id = some blk → ∀ b off sz lim len, φ id = some (.at b off sz lim len) → ι' b = w.heap[b]?) :
    ∀ (l : List (AV × Kp)) (vs : List Value) (G : AH) (nx : Nat) (ψ : Phi) (xs : List AV) (G' : AH) (nx' : Nat), ARels ι φ vs (l.map (·.1)) → (∀ i l, φ i = some l → ψ i = some l) → SRel ι' ψ G w → (∀ k, nx ≤ k → ψ k = .none) →
      kpAll2 hp l G nx = some (xs, G', nx') → ∃ ψ', Ext ψ ψ' nx nx' ∧ SRel ι' ψ' G' w ∧ ARels ι' ψ' vs xs ∧ Frm ι' G ψ w ι' G' ψ' w
  | [], vs, G, nx, ψ, xs, G', nx', hv, hφ, hS, hfr, h => by
    simp [kpAll2] at h
    obtain ⟨rfl, rfl, rfl⟩ := h
    rw [hv.nil_inv]
    exact ⟨ψ, Ext.refl _ _, hS, ARels.nil, Frm.refl _ _ _ _⟩
  | (x, .keep) :: l, vs, G, nx, ψ, xs, G', nx', hv, hφ, hS, hfr, h => by
    simp only [kpAll2] at h
    obtain ⟨u, us, rfl, ha, hb⟩ := ARels.uncons (cs := l.map (·.1)) hv
    split at h
    case h_2 => cases h
    rename_i ys H1 n1 hk
    cases h
    obtain ⟨ψ', g1, g2, g3, g4⟩ := kpAll2_sound h1 hblk h2 l us G nx ψ _ _ _ hb hφ hS hfr hk
    exact ⟨ψ', g1, g2, g3.cons (((ha.imm h1).mono hφ).mono g1.mono), g4⟩
  | (x, .drop) :: l, vs, G, nx, ψ, xs, G', nx', hv, hφ, hS, hfr, h => by
    simp only [kpAll2] at h
    obtain ⟨u, us, rfl, ha, hb⟩ := ARels.uncons (cs := l.map (·.1)) hv
    split at h
    case h_2 => cases h
    rename_i ys H1 n1 hk
    cases h
    obtain ⟨ψ', g1, g2, g3, g4⟩ := kpAll2_sound h1 hblk h2 l us G nx ψ _ _ _ hb hφ hS hfr hk
    exact ⟨ψ', g1, g2, g3.cons (.junk _), g4⟩
  | (x, .data T) :: l, vs, G, nx, ψ, xs, G', nx', hv, hφ, hS, hfr, h => by
    simp only [kpAll2] at h
    obtain ⟨u, us, rfl, ha, hb⟩ := ARels.uncons (cs := l.map (·.1)) hv
    split at h
    case h_2 => cases h
    rename_i y hy
    split at h
    case h_2 => cases h
    rename_i ys H1 n1 hk
    cases h
    obtain ⟨ψ', g1, g2, g3, g4⟩ := kpAll2_sound h1 hblk h2 l us G nx ψ _ _ _ hb hφ hS hfr hk
    exact ⟨ψ', g1, g2, g3.cons (asData_rel hblk h1 h2 ha hy).of_none, g4⟩
  | (x, .own T) :: l, vs, G, nx, ψ, xs, G', nx', hv, hφ, hS, hfr, h => by
    simp only [kpAll2] at h
    obtain ⟨u, us, rfl, ha, hb⟩ := ARels.uncons (cs := l.map (·.1)) hv
    split at h
    case h_2 => cases h
    rename_i ys H1 n1 hk
    split at h
    case h_2 => cases h
    rename_i zs H2 n2 hk2
    cases h
    obtain ⟨ψ1, g1, g2, g3, g4⟩ := kpAll_sound h1 hblk h2 [(x, .own T)] [u] G nx ψ _ _ _ (ARels.nil.cons ha) hφ hS hfr hk
    have hfr1 : ∀ k, n1 ≤ k → ψ1 k = .none := fun k hk => by
      rw [g1.out k (by omega)]; exact hfr k (by have := g1.le; omega)
    obtain ⟨ψ', f1, f2, f3, f4⟩ := kpAll2_sound h1 hblk h2 l us H1 n1 ψ1 _ _ _ hb (fun i l hl => g1.mono i l (hφ i l hl)) g2 hfr1 hk2
    have := (g3.mono f1.mono).append f3
    exact ⟨ψ', g1.trans f1, f2, this, g4.trans f4⟩
  | (x, .flds ks) :: l, vs, G, nx, ψ, xs, G', nx', hv, hφ, hS, hfr, h => by
    simp only [kpAll2] at h
    obtain ⟨u, us, rfl, ha, hb⟩ := ARels.uncons (cs := l.map (·.1)) hv
    split at h
    case h_2 => cases h
    rename_i id e j
    split at h
    case h_2 => cases h
    rename_i p sz cs hid
    split at h
    case h_2 => cases h
    rename_i cs' H1 n1 hk
    split at h
    case h_2 => cases h
    rename_i blk1 hid1
    split at h
    case h_2 => cases h
    rename_i zs H2 n2 hk2
    cases h
    cases ha with
    | ptr _ _ _ b0 off0 sz0 lim0 len0 hl he0 =>
    have hl' := hφ _ _ hl
    obtain ⟨loc', hloc, hbr⟩ := hS.blk id _ hid
    rw [hl'] at hloc
    cases hloc
    obtain ⟨⟨e1, e2⟩, hpos, hlim, cc, T', F, hb0, hF, hcs, hw, hr⟩ := hbr
    rw [toL_lit] at hw hr
    have hcl : cs.length = sz := hw cs (List.mem_singleton.2 rfl)
    -- the struct's parts
    have hpm : ∀ i l, pφ p ψ i = some l → ψ i = some l := fun i l hl => by
      cases p
      · exact hl
      · cases hl
    have hvs : ∃ vs : List Value, ARels ι' ψ vs cs ∧ ∀ (k : Nat) v, vs[k]? = some v → cc[off0 + 0 * sz + k]? = some v ∧ v.oneCell' = true := by
      have key : ∀ k, k < cs.length → ∃ v, cc[off0 + 0 * sz + k]? = some v ∧ (∀ c, cs[k]? = some c → ARel ι' ψ v c) ∧ v.oneCell' = true := fun k hk => by
        obtain ⟨v, a1, a2, a3⟩ := hr 0 k cs (cs[k]'hk) rfl (List.getElem?_eq_getElem hk)
        exact ⟨v, a1, fun c hc => by rw [List.getElem?_eq_getElem hk] at hc; cases hc; exact a2.mono hpm, a3⟩
      refine ⟨(List.range cs.length).map fun k => (cc[off0 + 0 * sz + k]?).getD undef, ⟨by simp, fun i u c hu hc => ?_⟩, fun k v hv => ?_⟩
      · have hi : i < cs.length := (List.getElem?_eq_some_iff.1 hc).1
        obtain ⟨v, a1, a2, a3⟩ := key i hi
        simp [hi] at hu
        subst hu
        have := a2 c hc
        simp at a1
        rw [a1]; exact this
      · have hk : k < cs.length := by
          have := (List.getElem?_eq_some_iff.1 hv).1
          simpa using this
        obtain ⟨v', a1, a2, a3⟩ := key k hk
        simp [hk] at hv
        simp at a1 ⊢
        rw [a1] at hv
        simp at hv
        subst hv
        exact ⟨a1, a3⟩
    obtain ⟨ws, hws, hcells⟩ := hvs
    have hblk' : ∀ i b, hp i = some b → ∃ loc, ψ i = some loc ∧ BRel ι' ψ w loc b := fun i b hb => by
      obtain ⟨loc, hl, hbr⟩ := hblk i b hb
      exact ⟨loc, hφ _ _ hl, (hbr.mono hφ).imm h1⟩
    obtain ⟨ψ1, g1, g2, g3, g4⟩ := kpAll_sound (ι := ι') (ι' := ι') (φ := ψ) (fun _ _ h => h) hblk' (fun id blk hid b off sz lim len hl => by
      obtain ⟨loc, hl0, _⟩ := hblk id blk hid
      have := hφ _ _ hl0
      rw [hl] at this
      cases this
      exact h2 id blk hid b off sz lim len hl0) (kpZip cs ks) ws G nx ψ _ _ _ (by rw [kpZip_fst]; exact hws) (fun _ _ h => h) hS hfr hk
    have hfr1 : ∀ k, n1 ≤ k → ψ1 k = .none := fun k hk => by
      rw [g1.out k (by omega)]; exact hfr k (by have := g1.le; omega)
    have hlen' : cs'.length = sz := by rw [← g3.1, hws.1, hcl]
    have hnew : BRel ι' ψ1 w (.at b0 off0 sz0 lim0 len0) (.row false sz (.lit [cs'])) := by
      refine ⟨⟨e1, e2⟩, hpos, hlim, cc, T', F, hb0, hF, hcs, ?_⟩
      rw [toL_lit]
      refine ⟨fun c hc => by rw [List.mem_singleton.1 hc]; exact hlen', fun e j c x hc hx => ?_⟩
      match e, hc with
      | 0, hc =>
        cases hc
        obtain ⟨v, hv, hrel⟩ := g3.get hx
        obtain ⟨a1, a2⟩ := hcells j v hv
        exact ⟨v, a1, hrel, a2⟩
      | e + 1, hc => simp at hc
    have hl1 := g1.mono _ _ hl'
    have hS1 := g2.redo hid1 hl1 hnew
    have hF1 : Frm ι' H1 ψ1 w ι' (H1.setAt id (some (.row false sz (.lit [cs'])))) ψ1 w := Frm.redo hid1
    obtain ⟨ψ', f1, f2, f3, f4⟩ := kpAll2_sound h1 hblk h2 l us _ n1 ψ1 _ _ _ hb (fun i l hl => g1.mono i l (hφ i l hl)) hS1 hfr1 hk2
    exact ⟨ψ', g1.trans f1, f2, f3.cons (.ptr id e j b0 off0 sz0 lim0 len0 (f1.mono _ _ hl1) he0), (g4.trans hF1).trans f4⟩

/-- Values kept, the heap with them. -/
theorem keepAll_sound {ι : Iota} {φ : Phi} {H : AH} {w : World} (hS : SRel ι φ H w) {n0 nx : Nat} (hle : n0 ≤ nx) (hfr : ∀ k, nx ≤ k → φ k = .none) {l : List (AV × Kp)} {vs : List Value} (hv : ARels ι φ vs (l.map (·.1)))
    {xs : List AV} {H' : AH} {nx' : Nat} (h : keepAll n0 l H nx = some (xs, H', nx')) :
    ∃ ι' φ', (∀ k, k < n0 → φ' k = φ k) ∧ (∀ k, nx' ≤ k → φ' k = .none) ∧ n0 ≤ nx' ∧ nx' = H'.length ∧ SRel ι' φ' H' w ∧ ARels ι' φ' vs xs ∧ Frm ι H φ w ι' H' φ' w := by
  classical
  unfold keepAll at h
  simp only [] at h
  generalize gcTo n0 (kpIds l) (kpBlank2 l H) = ids at h
  split at h
  case h_1 => cases h
  rename_i ys G' n1 hk
  split at h
  case isFalse => cases h
  rename_i hnd
  simp only [Option.some.injEq, Prod.mk.injEq] at h
  obtain ⟨rfl, rfl, rfl⟩ := h
  let ι' : Iota := fun b => if ∃ id blk off sz lim len, without H ids id = some blk ∧ φ id = some (.at b off sz lim len) then w.heap[b]? else ι b
  have hwo : ∀ i b, without H ids i = some b → H.at i = some b ∧ ¬ ids.contains i = true := fun i b h => by
    unfold without at h
    split at h
    · cases h
    · rename_i hn; exact ⟨h, hn⟩
  have h1 : ∀ b o, ι b = some o → ι' b = some o := fun b o hb => by
    show (if _ then _ else _) = _
    rw [if_neg]
    · exact hb
    · rintro ⟨id, blk, off, sz, lim, len, hw, hl⟩
      rw [hS.own id blk b off sz lim len (hwo _ _ hw).1 hl] at hb
      cases hb
  have h2 : ∀ id blk, without H ids id = some blk → ∀ b off sz lim len, φ id = some (.at b off sz lim len) → ι' b = w.heap[b]? := fun id blk hw b off sz lim len hl => if_pos ⟨id, blk, off, sz, lim, len, hw, hl⟩
  have hblk : ∀ i b, without H ids i = some b → ∃ loc, φ i = some loc ∧ BRel ι φ w loc b := fun i b hw => hS.blk i b (hwo _ _ hw).1
  have hst : ∀ {i b}, (H.stay ids).at i = some b → H.at i = some b ∧ ids.contains i = true := fun {i b} h => by
    rw [at_stay] at h
    split at h
    · rename_i hc; exact ⟨h, hc⟩
    · cases h
  have hSa : SRel ι' φ (H.stay ids) w := by
    refine ⟨fun b o hb => ?_, fun id b hb => ?_, fun id x b off sz lim len hx hl => ?_, fun id id' x x' b o1 s1 l1 n1 o2 s2 l2 n2 hx hx' hl hl' => hS.inj id id' x x' _ _ _ _ _ _ _ _ _ (hst hx).1 (hst hx').1 hl hl'⟩
    · have hb : (if _ then _ else _) = some o := hb
      split at hb
      · exact hb
      · exact hS.imm b o hb
    · obtain ⟨loc, hl, hbr⟩ := hS.blk id b (hst hb).1
      exact ⟨loc, hl, hbr.imm h1⟩
    · show (if _ then _ else _) = _
      rw [if_neg]
      · exact hS.own id x _ _ _ _ _ (hst hx).1 hl
      · rintro ⟨id', blk, off', sz', lim', len', hw, hl'⟩
        have := hS.inj id id' x blk _ _ _ _ _ _ _ _ _ (hst hx).1 (hwo _ _ hw).1 hl hl'
        subst this
        exact (hwo _ _ hw).2 (hst hx).2
  have hFa : Frm ι H φ w ι' (H.stay ids) φ w := by
    refine ⟨rfl, rfl, rfl, Nat.le_refl _, fun _ _ _ => rfl, fun b hb => ?_, h1, fun b hb hb' => ?_⟩
    · obtain ⟨id, blk, off, sz, lim, len, hx, hl⟩ := hb
      exact .inr ⟨id, blk, off, sz, lim, len, (hst hx).1, hl⟩
    · right
      have hb' : (if _ then _ else _) ≠ none := hb'
      split at hb'
      · rename_i hex
        obtain ⟨id, blk, off, sz, lim, len, hw, hl⟩ := hex
        exact ⟨id, blk, off, sz, lim, len, (hwo _ _ hw).1, hl⟩
      · exact absurd hb hb'
  obtain ⟨ψ', g1, g2, g3, g4⟩ := kpAll2_sound h1 hblk h2 l vs (H.stay ids) nx φ _ _ _ hv (fun _ _ h => h) hSa hfr hk
  refine ⟨ι', onlyφ ψ' (gcTo n0 (AV.idss ys) G'), fun k hk => ?_, fun k hk => ?_, gcTo_length, by simp [AH.only], g2.only hnd, ARels.ren onlyφ_of g3, hFa.trans (g4.only _)⟩
  · unfold onlyφ
    rw [gcTo_get hk]
    exact g1.out k (by omega)
  · unfold onlyφ
    rw [List.getElem?_eq_none hk]; rfl

theorem zipEnv_look {ι φ} {tmps : Array Value} : ∀ (m : Keep) (xs : List AV), ARels ι φ (m.map fun k => tmps.getD k.1 undef) xs → ERel ι φ tmps (zipEnv m xs)
  | [], xs, h => fun t => .junk _
  | k :: m, [], h => fun t => .junk _
  | (t0, kp) :: m, x :: xs, h => fun t => by
    obtain ⟨u, us, he, ha, hb⟩ := ARels.uncons h
    simp only [List.map_cons, List.cons.injEq] at he
    obtain ⟨he1, he2⟩ := he
    simp only [zipEnv]
    rw [look_cons]
    split
    · rename_i e; subst e; rw [he1]; exact ha
    · rw [← he2] at hb; exact zipEnv_look m xs hb t

theorem gc_sound {ι0 φ0 n0 H0 w0 N ι φ s a w} (h : Inv ι0 φ0 n0 H0 w0 N ι φ s a w) {keep : Option Keep} {s' : St} (hg : gc n0 keep s = some s') : ∃ ι' φ', Inv ι0 φ0 n0 H0 w0 N ι' φ' s' a w := by
  unfold gc at hg
  cases keep with
  | none => simp at hg; subst hg; exact ⟨ι, φ, h⟩
  | some m =>
    simp only [] at hg
    split at hg
    case h_2 => cases hg
    rename_i xs H' nx' hk
    cases hg
    have hv : ARels ι φ (m.map fun k => a.tmps.getD k.1 undef) ((m.map fun k => (look s.env k.1, k.2)).map (·.1)) := by
      rw [List.map_map]
      exact ARels.mk_map m _ _ fun k _ => h.env k.1
    obtain ⟨ι', φ', g1, g2, g3, g4, g5, g6, g7⟩ := keepAll_sound h.rel h.le h.fresh hv hk
    exact ⟨ι', φ', fun k hk => by rw [g1 k hk]; exact h.base k hk, g2, g3, g5, zipEnv_look m xs g6, h.size, h.defers.frm g7, h.frm.trans g7⟩

end Go.AMach
