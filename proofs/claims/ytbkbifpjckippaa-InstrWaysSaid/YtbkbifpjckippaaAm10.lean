/- The abstract machine: append. -/
import Derived.Test.YtbkbifpjckippaaAm9
namespace Go.AMach
set_option linter.unusedVariables false
set_option linter.unusedSimpArgs false
set_option linter.unnecessarySimpa false
set_option linter.unusedSectionVars false
variable [Sites]
open Go.RowKit
set_option linter.unusedVariables false
set_option linter.unusedSimpArgs false
variable {P : Program}

/-- What the second argument of an append yields, and what it is here. -/
structure SrcX (P : Program) (ι : Iota) (φ : Phi) (s : Nat) (tx : TypeId) (v : Value) (xs : List (List AV)) (w : World) : Prop where
  len : ∀ c ∈ xs, c.length = s
  src : ∃ news : List Value, Src P s tx v xs.length news w ∧ ARels ι φ news xs.flatten

theorem rows_flat {ι φ} {cs : Array Value} {off sz : Nat} : ∀ {es : List (List AV)}, (∀ c ∈ es, c.length = sz) → (∀ (e j : Nat) c x, es[e]? = some c → c[j]? = some x → ∃ u, cs[off + e * sz + j]? = some u ∧ ARel ι φ u x ∧ u.oneCell' = true) →
    ∃ vs : List Value, vs.length = es.length * sz ∧ (∀ j u, vs[j]? = some u → cs[off + j]? = some u) ∧ ARels ι φ vs es.flatten ∧ ∀ v ∈ vs, v.oneCell' = true := by
  intro es
  induction es generalizing off with
  | nil => intro _ _; exact ⟨[], by simp, fun j u h => by simp at h, ARels.nil, fun v hv => by simp at hv⟩
  | cons c es ih =>
    intro hw h
    have hc : c.length = sz := hw c List.mem_cons_self
    obtain ⟨vs, h1, h2, h3, h4⟩ := ih (off := off + sz) (fun c hc => hw c (List.mem_cons_of_mem _ hc)) (fun e j c' x hc' hx => by
      obtain ⟨u, hu, hr⟩ := h (e + 1) j c' x (by simpa using hc') hx
      refine ⟨u, ?_, hr⟩
      rw [← hu]; congr 1; rw [Nat.add_mul]; omega)
    have hrow : ∀ (c' : List AV) (k : Nat), (∀ j x, c'[j]? = some x → ∃ u, cs[off + k + j]? = some u ∧ ARel ι φ u x ∧ u.oneCell' = true) →
        ∃ us : List Value, us.length = c'.length ∧ (∀ j u, us[j]? = some u → cs[off + k + j]? = some u) ∧ ARels ι φ us c' ∧ ∀ v ∈ us, v.oneCell' = true := by
      intro c'
      induction c' with
      | nil => intro k _; exact ⟨[], rfl, fun j u h => by simp at h, ARels.nil, fun v hv => by simp at hv⟩
      | cons y c' ihc =>
        intro k hk
        obtain ⟨us, g1, g2, g3, g4⟩ := ihc (k + 1) fun j x hx => by
          obtain ⟨u, hu, hr⟩ := hk (j + 1) x (by simpa using hx)
          exact ⟨u, by rw [← hu]; congr 1; omega, hr⟩
        obtain ⟨u, hu, hr, ho⟩ := hk 0 y rfl
        refine ⟨u :: us, by simp [g1], fun j v hv => ?_, g3.cons hr, fun v hv => ?_⟩
        · cases j with
          | zero => simp at hv; subst hv; simpa using hu
          | succ j => simp at hv; rw [← g2 j v hv]; congr 1; omega
        · simp at hv; rcases hv with rfl | hv
          · exact ho
          · exact g4 v hv
    obtain ⟨us, g1, g2, g3, g4⟩ := hrow c 0 fun j x hx => by
      obtain ⟨u, hu, hr⟩ := h 0 j c x rfl hx
      exact ⟨u, by rw [← hu]; congr 1; omega, hr⟩
    refine ⟨us ++ vs, by simp [g1, h1, hc, Nat.add_mul]; omega, fun j u hu => ?_, g3.append h3, fun v hv => ?_⟩
    · by_cases hj : j < us.length
      · rw [List.getElem?_append_left hj] at hu
        simpa using g2 j u hu
      · rw [List.getElem?_append_right (by omega)] at hu
        rw [← h2 _ u hu]; congr 1; omega
    · rcases List.mem_append.1 hv with hv | hv
      · exact g4 v hv
      · exact h4 v hv

theorem SrcX.nil {ι φ s tx e' w} (hk : P.underlying tx = some (.slice e')) : SrcX P ι φ s tx (.slice none 0 0) [] w :=
  ⟨fun c hc => by simp at hc, [], Src.ofNil w hk 0, ARels.nil⟩
theorem SrcX.ofRow {ι φ s tx e' w} (hk : P.underlying tx = some (.slice e')) {b off : Nat} {cs : Array Value} {T : TypeId} {F : Nat × Nat} {xs : List (List AV)} (a : Option Addr) (cap : Nat)
    (hw : ∀ c ∈ xs, c.length = s) (ha : xs ≠ [] → a = some ⟨b, off, none⟩ ∧ w.heap[b]? = some (.cells cs T F))
    (h : ∀ (e j : Nat) c x, xs[e]? = some c → c[j]? = some x → ∃ u, cs[off + e * s + j]? = some u ∧ ARel ι φ u x ∧ u.oneCell' = true) : SrcX P ι φ s tx (.slice a xs.length cap) xs w := by
  refine ⟨hw, ?_⟩
  obtain ⟨vs, h1, h2, h3, h4⟩ := rows_flat hw h
  refine ⟨vs, ?_, h3⟩
  cases a with
  | none =>
    have : xs = [] := by
      cases xs with
      | nil => rfl
      | cons x xs => have := (ha (by simp)).1; cases this
    subst this
    have : vs = [] := by simpa using h1
    subst this
    exact Src.ofNil w hk cap
  | some a =>
    refine Src.ofSlice w hk a _ _ vs h1 (fun j u hu => ?_) h4
    by_cases hx : xs = []
    · subst hx; simp at h1; subst h1; simp at hu
    · obtain ⟨e1, e2⟩ := ha hx
      cases e1
      rw [Addr.add_at, cell_of e2]
      exact h2 j u hu

theorem RowRel.sub {ι φ cs off sz es} (h : RowRel ι φ cs off sz es) (e n : Nat) : RowRel ι φ cs (off + e * sz) sz ((es.drop e).take n) :=
  ⟨fun c hc => h.1 c (List.mem_of_mem_drop (List.mem_of_mem_take hc)), fun k j c x hc hx => by
    rw [List.getElem?_take] at hc
    split at hc
    · rw [List.getElem?_drop] at hc
      obtain ⟨u, hu, hr⟩ := h.2 (e + k) j c x hc hx
      exact ⟨u, by rw [← hu]; congr 1; rw [Nat.add_mul]; omega, hr⟩
    · cases hc⟩

theorem pφ_and' {ι} {φ : Phi} {p q : Bool} {u : Value} {x : AV} (h : ARel ι (pφ q φ) u x) : ARel ι (pφ (p && q) φ) u x := by
  rw [Bool.and_comm]; exact pφ_and h

theorem flat_append {ι φ} {vs us : List Value} {xs ys : List (List AV)} (h : ARels ι φ vs xs.flatten) (k : ARels ι φ us ys.flatten) : ARels ι φ (vs ++ us) (xs ++ ys).flatten := by
  rw [List.flatten_append]; exact h.append k

/-- The arm that grows (or finds nothing to do where there is no room at all). -/
theorem sound_appNew {ι φ H w n} {s bt : Nat} {old xs : Rows AV} {p : Bool} {sem : Sem Value} {e : TypeId} {z : Value} {base : Option Addr} {sLen sCap : Nat} {olds : List Value} {news : List Value} {i : TypeInfo}
    (hi : P.info? e = some i) (hsz : i.size = s) (hbt : i.bytes = bt) (hzl : z.cells.size = s)
    (hol : old.len = sLen) (hw1 : ∀ c ∈ old.toL, c.length = s) (hw2 : ∀ c ∈ xs.toL, c.length = s) (hlo : olds.length = sLen * s) (hln : news.length = xs.len * s) (hone1 : ∀ v ∈ olds, v.oneCell' = true) (hone2 : ∀ v ∈ news, v.oneCell' = true)
    (hr : ARels ι (pφ p φ) (olds ++ news) (old.toL ++ xs.toL).flatten)
    (hgrow : sCap < sLen + xs.len → ((sLen + xs.len : Nat) : Int) ≤ 9223372036854775807 → Builtin.nextslicecap (sLen + xs.len) sCap * i.bytes ≤ 281474976710656 →
      sem.run P w = .ok (.slice (some ⟨w.heap.size, 0, none⟩) (sLen + xs.len) (grownCap w (sLen + xs.len) sCap e))
        (w.drew.alloc (.cells ((olds ++ news).toArray ++ Builtin.zeroCells z.cells (grownCap w (sLen + xs.len) sCap e - (sLen + xs.len))) e)))
    (hstay : sLen + xs.len ≤ sCap → sLen + xs.len = 0 ∧ ∃ a, sem.run P w = .ok (.slice a 0 0) w) :
    SoundM P ι φ H w n sem (appNew s bt old xs p) := by
  intro hS
  unfold appNew
  split
  case isFalse => exact SoundM.fail hS
  rename_i h0
  refine SoundM.cond (fun hc => ?_) hS
  obtain ⟨hby, hlen⟩ := hc
  intro hS
  rw [hol] at hby hlen
  by_cases hg : sCap < sLen + xs.len
  · have hrun := hgrow hg (by omega) (growslice_fits hg (by rw [hbt]; omega))
    have hcap : sLen + xs.len ≤ grownCap w (sLen + xs.len) sCap e := by simp [grownCap, Question.cut]
    rw [hol]
    have hcells : ((olds ++ news).toArray ++ Builtin.zeroCells z.cells (grownCap w (sLen + xs.len) sCap e - (sLen + xs.len))) = ((olds ++ news) ++ (Builtin.zeroCells z.cells (grownCap w (sLen + xs.len) sCap e - (sLen + xs.len))).toList).toArray := by
      apply Array.ext'; simp
    have hsize : ((olds ++ news) ++ (Builtin.zeroCells z.cells (grownCap w (sLen + xs.len) sCap e - (sLen + xs.len))).toList).length = grownCap w (sLen + xs.len) sCap e * s := by
      simp only [List.length_append, hlo, hln, Array.length_toList, size_zeroCells, hzl]
      rw [← Nat.add_mul, ← Nat.add_mul]; congr 1; omega
    rw [hcells] at hrun
    refine SoundM.newRow (lim := grownCap w (sLen + xs.len) sCap e) (X := fun id => .hs false id 0 (sLen + xs.len)) (noF _) hrun rfl rfl rfl rfl h0 (by rw [len_cat, hol]; omega) (by simp only [List.size_toArray, hsize]; exact Nat.le_refl _) ?_ (fun φ' h => ?_) hS
    · rw [toL_cat]
      have hflat := RowRel.of_flat (ι := ι) (φ := pφ p φ) (sz := s) (es := old.toL ++ xs.toL) (fun c hc => by rcases List.mem_append.1 hc with h | h; exact hw1 c h; exact hw2 c h) hr (fun v hv => by rcases List.mem_append.1 hv with h | h; exact hone1 v h; exact hone2 v h)
      refine ⟨hflat.1, fun e' j c x hc hx => ?_⟩
      obtain ⟨u, hu, hru⟩ := hflat.2 e' j c x hc hx
      refine ⟨u, ?_, hru⟩
      simp only [List.getElem?_toArray] at hu ⊢
      rw [List.getElem?_append_left (List.getElem?_eq_some_iff.1 hu).1]
      exact hu
    · exact .hs false n 0 _ _ _ _ h hcap (fun h => by cases h) (.inr ⟨_, _, _, _, _, rfl, by simp, by omega, by rw [len_cat, hol]; omega⟩)
  · obtain ⟨hz, a, hrun⟩ := hstay (by omega)
    have e1 : old.len = 0 := by omega
    have e2 : xs.len = 0 := by omega
    intro r H' n' h hf
    simp only [AM.run, Option.some.injEq, Prod.mk.injEq] at h
    obtain ⟨rfl, rfl, rfl⟩ := h
    have hn : φ n = .none := hf n (Nat.le_refl _) (Nat.lt_succ_self _)
    rw [e1, e2]
    refine ⟨_, w, updφ φ n .virt, hrun, Ext.upd _ hn, ?_, .hs false n 0 0 a 0 .virt (updφ_same _ _ _) (Nat.le_refl _) (fun h => by cases h) (.inl rfl), ?_⟩
    · exact hS.add hn (fun _ _ _ => rfl) (fun b o s l n e => by cases e) (by show (old.cat xs).len = 0; rw [len_cat]; omega)
    · exact Frm.add hS hn (fun _ _ => rfl) (fun b o s l n e => by cases e) rfl rfl rfl (Nat.le_refl _)

theorem run_append_same (w : World) (t tx ty e : TypeId) (i : TypeInfo) (ht : P.underlying t = some (.slice e)) (hi : P.info? e = some i) (base : Option Addr) (sLen sCap : Nat) (hle : sLen ≤ sCap) (x : Value) (hs : Src P i.size tx x 0 [] w) :
    (Builtin.append_ #[t, tx] ty #[.slice base sLen sCap, x]).run P w = .ok (.slice base sLen sCap) w := by
  rcases hs.kind with ⟨e', hk⟩ | hk <;> cases base <;> simp [Builtin.append_, run_underlying ht, run_underlying hk, sizeOf, typeInfo, hi, hs.len, hle, hs.cells, storeCells]

theorem firstCells_zero (w : World) (size : Nat) (a : Option Addr) (c : Nat) : (Builtin.firstCells size 0 (.slice a 0 c)).run P w = .ok #[] w := by
  cases a <;> simp [Builtin.firstCells, loadCells, loadCellsFrom]

theorem firstCells_some (w : World) {b off size n c : Nat} {cs : Array Value} {T : TypeId} {F : Nat × Nat} (hb : w.heap[b]? = some (.cells cs T F)) (olds : List Value) (hl : olds.length = n * size)
    (h : ∀ j u, olds[j]? = some u → cs[off + j]? = some u) : (Builtin.firstCells size n (.slice (some ⟨b, off, none⟩) n c)).run P w = .ok olds.toArray w :=
  run_firstCells_some w size n _ n c olds hl fun j u hu => by rw [Addr.add_at, cell_of hb]; exact h j u hu

theorem ARels.pand {ι φ} {p q : Bool} {vs cs} (h : ARels ι (pφ p φ) vs cs) : ARels ι (pφ (p && q) φ) vs cs := ⟨h.1, fun i u c hu hc => pφ_and (h.2 i u c hu hc)⟩
theorem ARels.pand' {ι φ} {p q : Bool} {vs cs} (h : ARels ι (pφ q φ) vs cs) : ARels ι (pφ (p && q) φ) vs cs := ⟨h.1, fun i u c hu hc => pφ_and' (h.2 i u c hu hc)⟩

theorem Owned.kill {H : AH} {φ : Phi} {i b : Nat} (h : Owned (H.setAt i none) φ b) : Owned H φ b := by
  obtain ⟨id, blk, off, sz, lim, len, h1, h2⟩ := h
  rw [at_setAt] at h1
  split at h1
  · cases h1
  · exact ⟨id, blk, off, sz, lim, len, h1, h2⟩

theorem sound_appOnto {ι φ H w n} {t tx ty e : TypeId} {z : Value} {i : TypeInfo} {s bt : Nat} {p2 : Bool} {xs : Rows AV} {v vx : Value} {a : AV}
    (ht : P.underlying t = some (.slice e)) (hi : P.info? e = some i) (hz : i.zero = some z) (hsz : i.size = s) (hbt : i.bytes = bt) (hzl : z.cells.size = s)
    (hsrc : SrcX P ι (pφ p2 φ) s tx vx xs.toL w) (ha : ARel ι φ v a) :
    SoundM P ι φ H w n (Builtin.append_ #[t, tx] ty #[v, vx]) (appOnto s bt p2 xs a) := by
  intro hS
  obtain ⟨hxl, news, hs, hnr⟩ := hsrc
  rw [toL_length] at hs
  have hln := hs.newsLen
  have hs' : Src P i.size tx vx xs.len news w := by rw [hsz]; exact hs
  have hnil : xs.len = 0 → Src P i.size tx vx 0 [] w := fun e => by
    rw [e] at hs' hln
    have : news = [] := by simpa using hln
    subst this
    exact hs'
  have hlit : (Rows.lit ([] : List (List AV))).toL = [] := toL_lit _
  -- the arm that grows, whatever is there
  have grow : ∀ (base : Option Addr) (sLen sCap : Nat) (olds : List Value), (Builtin.firstCells i.size sLen (.slice base sLen sCap)).run P w.drew = .ok olds.toArray w.drew →
      sCap < sLen + xs.len → ((sLen + xs.len : Nat) : Int) ≤ 9223372036854775807 → Builtin.nextslicecap (sLen + xs.len) sCap * i.bytes ≤ 281474976710656 →
      (Builtin.append_ #[t, tx] ty #[.slice base sLen sCap, vx]).run P w = .ok (.slice (some ⟨w.heap.size, 0, none⟩) (sLen + xs.len) (grownCap w (sLen + xs.len) sCap e))
        (w.drew.alloc (.cells ((olds ++ news).toArray ++ Builtin.zeroCells z.cells (grownCap w (sLen + xs.len) sCap e - (sLen + xs.len))) e)) :=
    fun base sLen sCap olds hold hg h63 hfit => run_append_grow_src w t tx ty e i z ht hi hz base sLen sCap olds hold vx xs.len news hs' hg h63 hfit
  have nothing : ∀ (base : Option Addr) (n0 : Nat) {sem : Sem Value}, n0 = 0 → sem = Builtin.append_ #[t, tx] ty #[.slice base 0 n0, vx] → SoundM P ι φ H w n sem (appNew s bt (.lit []) xs p2) := fun base n0 sem h0 hsem => by
    subst h0; subst hsem
    refine sound_appNew (base := base) (sLen := 0) (sCap := 0) (olds := []) (news := news) (z := z) (e := e) hi hsz hbt hzl rfl (fun c hc => by rw [hlit] at hc; simp at hc) hxl (by simp) hln (fun v hv => by simp at hv) hs.one (by rw [hlit]; simpa using hnr) ?_ ?_
    · exact grow base 0 0 [] (firstCells_zero _ _ _ _)
    · intro hle
      have hx : xs.len = 0 := by omega
      exact ⟨by omega, base, run_append_same w t tx ty e i ht hi base 0 0 (Nat.le_refl _) vx (hnil hx)⟩
  cases ha with
  | v =>
    cases v with
    | slice a len cap =>
      cases a with
      | some a => exact SoundM.fail hS
      | none => cases len with
        | succ _ => exact SoundM.fail hS
        | zero => cases cap with
          | succ _ => exact SoundM.fail hS
          | zero => exact nothing none 0 rfl rfl hS
    | _ => exact SoundM.fail hS
  | sl a cap tg sz es hc htg hw b off cs T F us hm g1 g2 g3 =>
    cases tg with
    | false => exact SoundM.fail hS
    | true =>
    simp only [appOnto]
    split
    case isFalse => exact SoundM.fail hS
    rename_i hszs
    subst hszs
    refine SoundM.br (fun h0 => ?_) (fun h0 => ?_) hS
    · have h0' : es.len = 0 := by simpa using h0
      rw [h0'] at htg ⊢
      exact nothing a cap (htg rfl) rfl
    have h0' : es.len ≠ 0 := by simpa using h0
    refine SoundM.br (fun hx0 => ?_) (fun hx0 => ?_)
    · exact SoundM.ret (run_append_same w t tx ty e i ht hi a _ cap hc vx (hnil (by simpa using hx0))) (.sl a cap true sz es hc htg hw b off cs T F us hm g1 g2 g3)
    · have hx0' : xs.len ≠ 0 := by simpa using hx0
      intro hS
      obtain ⟨ea, hb⟩ := hm h0'
      subst ea
      have hb' := hS.imm _ _ hb
      obtain ⟨olds, o1, o2, o3, o4⟩ := rows_flat (ι := ι) (φ := Phi.none) (cs := cs) (off := off) hw fun e j c x hc hx => ⟨us e j, g1 e j c x hc hx, g2 e j c x hc hx, g3 e j c x hc hx⟩
      rw [toL_length] at o1
      have hcap := htg rfl
      refine sound_appNew (sLen := es.len) (sCap := cap) (olds := olds) (news := news) (z := z) (e := e) (base := some ⟨b, off, none⟩) hi hsz hbt hzl rfl hw hxl o1 hln o4 hs.one ?_ ?_ ?_ hS
      · exact flat_append (by
          cases p2
          · exact ⟨o3.1, fun i u c hu hc => (o3.2 i u c hu hc).of_none⟩
          · exact o3) hnr
      · exact grow _ _ _ olds (by rw [hsz]; exact firstCells_some w.drew (by exact hb') olds o1 o2)
      · intro hle; omega
  | hs tg id e0 k a cap loc hφ hc htg hm =>
    cases tg with
    | true =>
      have hcap := htg rfl
      subst hcap
      simp only [appOnto]
      refine SoundM.br (fun hk => ?_) (fun hk => ?_) hS
      · have hk' : cap = 0 := by simpa using hk
        subst hk'; exact nothing a 0 rfl rfl
      · have hk' : cap ≠ 0 := by simpa using hk
        intro hS
        refine SoundM.get ?_ hS
        cases hid : H.at id with
        | none => exact SoundM.fail
        | some blk =>
        cases blk with
        | mp p es => exact SoundM.fail
        | mf K V g => exact SoundM.fail
        | lp bz k caps => exact SoundM.fail
        | row p sz es =>
        simp only []
        split
        case isFalse => exact SoundM.fail
        rename_i hszs
        subst hszs
        rcases hm with hm | ⟨b, off, sz', lim, len, rfl, rfl, e2, e3⟩
        · exact absurd hm hk'
        obtain ⟨loc', hl', hbl'⟩ := hS.blk id _ hid
        rw [hφ] at hl'; cases hl'
        obtain ⟨⟨rfl, rfl⟩, hpos, hlim, cs, T, F, hb, hF, hcs, hr⟩ := hbl'
        refine SoundM.br (fun hx0 => ?_) (fun hx0 => ?_)
        · exact SoundM.ret (run_append_same w t tx ty e i ht hi _ _ cap (Nat.le_refl _) vx (hnil (by simpa using hx0))) (.hs true id e0 cap _ cap _ hφ hc htg (.inr ⟨b, off, sz', lim, _, rfl, rfl, e2, e3⟩))
        · have hx0' : xs.len ≠ 0 := by simpa using hx0
          have hsub := RowRel.sub hr e0 cap
          obtain ⟨olds, o1, o2, o3, o4⟩ := rows_flat hsub.1 hsub.2
          have htoL := toL_cut (r := es) (l := e0) (n := cap) (by omega)
          rw [← htoL] at o1 o3 hsub
          rw [toL_length, len_cut] at o1
          refine sound_appNew (sLen := cap) (sCap := cap) (olds := olds) (news := news) (z := z) (e := e) (base := some ⟨b, off + e0 * sz', none⟩) hi hsz hbt hzl (len_cut _ _ _) hsub.1 hxl o1 hln o4 hs.one ?_ ?_ ?_
          · exact flat_append o3.pand hnr.pand'
          · exact grow _ _ _ olds (by rw [hsz]; exact firstCells_some w.drew (by exact hb) olds o1 o2)
          · intro hle; exfalso; omega
    | false =>
      simp only [appOnto]
      refine SoundM.get ?_ hS
      cases hid : H.at id with
      | none => exact SoundM.fail
      | some blk =>
      cases blk with
      | mp p es => exact SoundM.fail
      | mf K V g => exact SoundM.fail
      | lp bz k caps => exact SoundM.fail
      | row p sz es =>
      simp only []
      split
      case isFalse => exact SoundM.fail
      rename_i hszs
      subst hszs
      have hlen : (Rows.cut es e0 k).len = k := len_cut _ _ _
      -- what is there
      obtain ⟨loc', hl', hbl'⟩ := hS.blk id _ hid
      rw [hφ] at hl'; cases hl'
      have hSk := hS.kill ⟨_, hid⟩
      -- the way of the kill
      have lift : SoundM P ι φ (H.setAt id none) w n (Builtin.append_ #[t, tx] ty #[.slice a k cap, vx]) (appNew sz bt (Rows.cut es e0 k) xs (p && p2)) →
          SoundM P ι φ H w n (Builtin.append_ #[t, tx] ty #[.slice a k cap, vx]) (.kill id (appNew sz bt (Rows.cut es e0 k) xs (p && p2))) := by
        intro h hS r H' n' hrun hfr
        simp only [AM.run, hid] at hrun
        have := h hSk r H' n' hrun hfr
        cases r with
        | ok x => obtain ⟨u, w', φ', q1, q2, q3, q4, q5⟩ := this; exact ⟨u, w', φ', q1, q2, q3, q4, (Frm.kill ⟨_, hid⟩).trans q5⟩
        | pn x => obtain ⟨u, w', φ', q1, q2, q3, q4, q5⟩ := this; exact ⟨u, w', φ', q1, q2, q3, q4, (Frm.kill ⟨_, hid⟩).trans q5⟩
      by_cases hcap0 : cap = 0
      · subst hcap0
        have hk0 : k = 0 := by omega
        subst hk0
        refine lift ?_
        have hsub0 : (Rows.cut es e0 0).toL = [] := toL_cut0 _ _
        refine sound_appNew (base := a) (sLen := 0) (sCap := 0) (olds := []) (news := news) (z := z) (e := e) hi hsz hbt hzl hlen (fun c hc => by rw [hsub0] at hc; simp at hc) hxl (by simp) hln (fun v hv => by simp at hv) hs.one (by rw [hsub0]; simpa using hnr.pand') ?_ ?_
        · exact grow a 0 0 [] (firstCells_zero _ _ _ _)
        · intro hle'
          have hx : xs.len = 0 := by omega
          exact ⟨by omega, a, run_append_same w t tx ty e i ht hi a 0 0 (Nat.le_refl _) vx (hnil hx)⟩
      · rcases hm with hm | ⟨b, off, sz', lim, len, rfl, rfl, e2, e3⟩
        · exact absurd hm hcap0
        obtain ⟨⟨rfl, rfl⟩, hpos, hlim, cs, T, F, hb, hF, hcs, hr⟩ := hbl'
        have hsub := RowRel.sub hr e0 k
        obtain ⟨olds, o1, o2, o3, o4⟩ := rows_flat hsub.1 hsub.2
        have htoL := toL_cut (r := es) (l := e0) (n := k) (by omega)
        rw [← htoL] at o1 o3 hsub
        rw [toL_length] at o1
        rw [hlen] at o1
        by_cases hg : cap < k + xs.len
        · refine lift ?_
          refine sound_appNew (sLen := k) (sCap := cap) (olds := olds) (news := news) (z := z) (e := e) (base := some ⟨b, off + e0 * sz', none⟩) hi hsz hbt hzl hlen hsub.1 hxl o1 hln o4 hs.one ?_ ?_ ?_
          · exact flat_append o3.pand hnr.pand'
          · exact grow _ _ _ olds (by rw [hsz]; exact firstCells_some w.drew (by exact hb) olds o1 o2)
          · intro hle; omega
        · -- there is room: what is appended is stored behind
          intro hS r H' n' hrun hfr
          simp only [AM.run, hid, appNew] at hrun
          rw [if_pos hpos] at hrun
          simp only [AM.run] at hrun
          split at hrun
          case isFalse => cases hrun
          simp only [Option.some.injEq, Prod.mk.injEq] at hrun
          obtain ⟨rfl, rfl, rfl⟩ := hrun
          have hn : φ n = .none := hfr n (Nat.le_refl _) (Nat.lt_succ_self _)
          have hroom : k + xs.len ≤ cap := by omega
          have hlimsz : off + e0 * sz' + cap * sz' ≤ off + lim * sz' := by
            have := Nat.mul_le_mul_right sz' e2
            rw [Nat.add_mul] at this; omega
          have hroomsz : k * sz' + xs.len * sz' ≤ cap * sz' := by rw [← Nat.add_mul]; exact Nat.mul_le_mul_right _ hroom
          have hcell : ∀ j, j < news.length → off + e0 * sz' + k * i.size + j < cs.size := fun j hj => by rw [hsz]; omega
          have hrun := run_append_room_src (P := P) w t tx ty e i ht hi b (off + e0 * sz') k cap vx xs.len news hs' hroom
            (fun j hj => by rw [cell_of hb]; simp [hcell j hj]) (fun j hj => frozen_of hb hF _ (hcell j hj))
          rw [hsz] at hrun
          obtain ⟨cs', h1, h2, h3, h4⟩ := heap_setCells news (off + e0 * sz' + k * sz') w cs hb
          obtain ⟨r1, r2, r3, r4⟩ := setCells_rest (b := b) news (off + e0 * sz' + k * sz') w
          have hne : ∀ q, q ≠ b → (w.setCells b (off + e0 * sz' + k * sz') news).heap[q]? = w.heap[q]? := fun q hq => heap_setCells_ne news _ w q hq
          refine ⟨_, _, updφ φ n (.at b (off + e0 * sz') sz' (lim - e0) ((Rows.cut es e0 k).cat xs).len), hrun, Ext.upd _ hn, ?_, ?_, ?_⟩
          · refine hSk.add hn (fun q _ hq => hne q fun e => ?_) (fun b' o s l n e => ?_) ?_
            · subst e; exact hq _ _ _ _ rfl
            · cases e
              refine ⟨fun ⟨id', blk, o', s', l', n', g1, g2⟩ => ?_, hS.own id _ _ _ _ _ _ hid hφ⟩
              rw [at_setAt] at g1
              split at g1
              · cases g1
              · rename_i hne'; exact hne' (hS.inj id' id _ _ _ _ _ _ _ _ _ _ _ g1 hid g2 hφ)
            · have hnrow := RowRel.of_flat (ι := ι) (φ := pφ p2 φ) hxl hnr hs.one
              refine ⟨⟨rfl, rfl⟩, hpos, by rw [len_cat, hlen]; omega, cs', T, F, h1, by rw [h2]; exact hF, ?_, ?_⟩
              · rw [h2]
                have : (lim - e0) * sz' + e0 * sz' = lim * sz' := by rw [← Nat.add_mul]; congr 1; omega
                omega
              · rw [toL_cat]
                refine RowRel.mono (pφ_mono (Ext.upd _ hn).mono) ⟨fun c hc => ?_, fun q j c x hc hx => ?_⟩
                · rcases List.mem_append.1 hc with h | h
                  · exact hsub.1 c h
                  · exact hxl c h
                · by_cases hq : q < k
                  · rw [List.getElem?_append_left (by rw [toL_length, len_cut]; exact hq)] at hc
                    obtain ⟨u, hu, hru, ho⟩ := hsub.2 q j c x hc hx
                    have hj : j < sz' := by rw [← hsub.1 c (List.mem_of_getElem? hc)]; exact (List.getElem?_eq_some_iff.1 hx).1
                    refine ⟨u, ?_, pφ_and hru, ho⟩
                    rw [h3 _ (.inl ?_)]
                    · exact hu
                    · have := Nat.mul_le_mul_right sz' (show q + 1 ≤ k from hq)
                      rw [Nat.add_mul, Nat.one_mul] at this
                      omega
                  · rw [List.getElem?_append_right (by rw [toL_length, hlen]; omega), toL_length, hlen] at hc
                    obtain ⟨u, hu, hru, ho⟩ := hnrow.2 (q - k) j c x hc hx
                    refine ⟨u, ?_, pφ_and' hru, ho⟩
                    simp only [Nat.zero_add, List.getElem?_toArray] at hu
                    have hidx : (q - k) * sz' + j < news.length := (List.getElem?_eq_some_iff.1 hu).1
                    have h5 := h4 _ hidx (by have := hcell _ hidx; rw [hsz] at this; exact this)
                    rw [← hu, ← h5]
                    congr 1
                    have : (q - k) * sz' + k * sz' = q * sz' := by rw [← Nat.add_mul]; congr 1; omega
                    omega
          · rw [hlen]
            exact .hs false n 0 _ _ cap _ (updφ_same _ _ _) hroom (fun h => by cases h) (.inr ⟨b, _, sz', _, _, rfl, by simp, by omega, by rw [len_cat, hlen]; omega⟩)
          · refine ⟨r1, r2, r3, by rw [r4]; exact Nat.le_refl _, fun q hq hno => hne q fun e => ?_, fun q hq => ?_, fun _ _ h => h, fun _ h h' => absurd h h'⟩
            · subst e; exact hno ⟨id, _, _, _, _, _, hid, hφ⟩
            · obtain ⟨id', blk, o', s', l', n', g1, g2⟩ := hq
              rw [at_setAt] at g1
              split at g1
              · rename_i e; subst e; rw [updφ_same] at g2; cases g2; exact .inr ⟨id, _, _, _, _, _, hid, hφ⟩
              · right
                refine Owned.kill (i := id) ⟨id', blk, o', s', l', n', g1, ?_⟩
                unfold updφ at g2
                rw [if_neg (by assumption)] at g2
                exact g2
  | _ => exact SoundM.fail hS

theorem sound_append {ι φ H w n} {ts : Array TypeId} {ty : TypeId} {vs : List Value} {xs : List AV} (h : ARels ι φ vs xs) :
    SoundM P ι φ H w n (Builtin.append_ ts ty vs.toArray) (appendM P ts xs) := by
  intro hS
  unfold appendM
  split
  case h_2 => exact SoundM.fail hS
  rename_i e e' he he'
  split
  case h_2 => exact SoundM.fail hS
  rename_i s bt z hs hbt hz
  split
  case isFalse => exact SoundM.fail hS
  rename_i hc
  obtain ⟨rfl, hzl⟩ := hc
  obtain ⟨i, zv, hinf, hz0, rfl⟩ := zeroO_some hz
  obtain ⟨i', hinf', hs'⟩ := szO_some hs
  rw [hinf] at hinf'; cases hinf'
  have hb' : i.bytes = bt := by simpa [byO, hinf] using hbt
  have hzl' : zv.cells.size = s := by simpa using hzl
  simp only [Option.bind_eq_some_iff] at he he'
  obtain ⟨t, ht0, ht1⟩ := he
  obtain ⟨tx, htx0, htx1⟩ := he'
  have hu := elemO_some ht1
  have hux := elemO_some htx1
  have two : ∀ {a b : AV}, xs = [a, b] → ∃ va vb, vs = [va, vb] ∧ ARel ι φ va a ∧ ARel ι φ vb b := fun {a b} e => by
    subst e
    obtain ⟨u1, us1, rfl, h1, h2⟩ := h.uncons
    obtain ⟨u2, us2, rfl, h3, h4⟩ := h2.uncons
    rw [h4.nil_inv]
    exact ⟨u1, u2, rfl, h1, h3⟩
  have hargs : ∀ {va vb : Value}, (Builtin.append_ ts ty #[va, vb]).run P w = (Builtin.append_ #[t, tx] ty #[va, vb]).run P w := fun {va vb} => by
    simp [Builtin.append_, ht0, htx0]
  have conv : ∀ {va vb : Value} {m : AM AV}, SoundM P ι φ H w n (Builtin.append_ #[t, tx] ty #[va, vb]) m → SoundM P ι φ H w n (Builtin.append_ ts ty #[va, vb]) m := fun {va vb m} h hS r H' n' hrun hfr => by
    have := h hS r H' n' hrun hfr
    cases r <;> simpa [Post, hargs] using this
  split
  · obtain ⟨va, vb, rfl, h1, h2⟩ := two rfl
    cases h2
    exact conv (sound_appOnto hu hinf hz0 hs' hb' hzl' (by rw [toL_lit]; exact SrcX.nil hux) h1) hS
  · obtain ⟨va, vb, rfl, h1, h2⟩ := two rfl
    split
    case isFalse => exact SoundM.fail hS
    rename_i a0 tg0 sz0 xs0 hsz
    cases h2 with
    | sl a cap tg sz es hc htg hw b off cs T F us hm g1 g2 g3 =>
    have hsrc := SrcX.ofRow (P := P) (ι := ι) (φ := Phi.none) (s := sz0) hux a cap hw (fun hne => by
      have hne' : xs0.len ≠ 0 := fun e => hne (by rw [← List.length_eq_zero_iff, toL_length]; exact e)
      exact ⟨(hm hne').1, hS.imm _ _ (hm hne').2⟩) (fun e j c x hc hx => ⟨us e j, g1 e j c x hc hx, g2 e j c x hc hx, g3 e j c x hc hx⟩)
    rw [toL_length] at hsrc
    subst hsz
    exact conv (sound_appOnto (p2 := true) hu hinf hz0 hs' hb' hzl' hsrc h1) hS
  · rename_i a0 tg0 i0 e0 k
    obtain ⟨va, vb, rfl, h1, h2⟩ := two rfl
    refine SoundM.get ?_ hS
    split
    case h_2 => exact SoundM.fail
    rename_i p sz es hid
    split
    case isFalse => exact SoundM.fail
    rename_i hszs
    subst hszs
    cases h2 with
    | hs _ _ _ _ a cap loc hφ hc htg hm =>
    obtain ⟨loc', hl', hbl'⟩ := hS.blk _ _ hid
    rw [hφ] at hl'; cases hl'
    refine conv ?_
    by_cases hk : k = 0
    · subst hk
      have hx : (Rows.cut es e0 0).toL = [] := toL_cut0 _ _
      refine sound_appOnto hu hinf hz0 hs' hb' hzl' ?_ h1
      rw [hx]
      exact SrcX.ofRow (xs := []) (b := 0) (off := 0) (cs := #[]) (T := 0) (F := (0, 0)) hux a cap (fun c hc => by simp at hc) (fun hne => absurd rfl hne) (fun e j c x hc hx => by simp at hc)
    · rcases hm with hm | ⟨b, off, sz', lim, len, rfl, rfl, e2, e3⟩
      · omega
      obtain ⟨⟨rfl, rfl⟩, hpos, hlim, cs, T, F, hb, hF, hcs, hr⟩ := hbl'
      have hsub := RowRel.sub hr e0 k
      have htoL := toL_cut (r := es) (l := e0) (n := k) (by omega)
      rw [← htoL] at hsub
      refine sound_appOnto hu hinf hz0 hs' hb' hzl' ?_ h1
      have := SrcX.ofRow (P := P) (ι := ι) (φ := pφ p φ) (s := sz') hux (xs := (Rows.cut es e0 k).toL) (some ⟨b, off + e0 * sz', none⟩) cap hsub.1 (fun _ => ⟨rfl, hb⟩) hsub.2
      rw [toL_length, len_cut] at this
      exact this
  · exact SoundM.fail hS

/-! ### len, max, min -/
theorem sound_len {ι φ H w n} {ts : Array TypeId} {ty : TypeId} {vs : List Value} {xs : List AV} (h : ARels ι φ vs xs) :
    SoundM P ι φ H w n (Builtin.len_ ts ty vs.toArray) (lenM P ts xs) := by
  intro hS
  unfold lenM
  have one : ∀ {a : AV}, xs = [a] → ∃ va, vs = [va] ∧ ARel ι φ va a := fun {a} e => by
    subst e
    obtain ⟨u1, us1, rfl, h1, h2⟩ := h.uncons
    rw [h2.nil_inv]
    exact ⟨u1, rfl, h1⟩
  split
  · obtain ⟨va, rfl, h1⟩ := one rfl
    split
    case isFalse => exact SoundM.fail hS
    rename_i hc
    cases ht : ts[0]? with
    | none => simp [ht] at hc
    | some t =>
    simp [ht] at hc
    have hu := strO_true hc
    cases h1
    exact SoundM.ret (by simp [Builtin.len_, ht, run_underlying hu, goInt]) (.v _) hS
  · obtain ⟨va, rfl, h1⟩ := one rfl
    split
    case isFalse => exact SoundM.fail hS
    rename_i hc
    obtain ⟨e, he⟩ := Option.isSome_iff_exists.1 hc
    simp only [Option.bind_eq_some_iff] at he
    obtain ⟨t, ht, he⟩ := he
    have hu := elemO_some he
    cases h1
    exact SoundM.ret (by simp [Builtin.len_, ht, run_underlying hu, goInt]) (.v _) hS
  · obtain ⟨va, rfl, h1⟩ := one rfl
    split
    case isFalse => exact SoundM.fail hS
    rename_i hc
    obtain ⟨e, he⟩ := Option.isSome_iff_exists.1 hc
    simp only [Option.bind_eq_some_iff] at he
    obtain ⟨t, ht, he⟩ := he
    have hu := elemO_some he
    cases h1
    exact SoundM.ret (by simp [Builtin.len_, ht, run_underlying hu, goInt]) (.v _) hS
  · obtain ⟨va, rfl, h1⟩ := one rfl
    split
    case isFalse => exact SoundM.fail hS
    rename_i hc
    obtain ⟨e, he⟩ := Option.isSome_iff_exists.1 hc
    simp only [Option.bind_eq_some_iff] at he
    obtain ⟨t, ht, he⟩ := he
    have hu := elemO_some he
    cases h1
    exact SoundM.ret (by simp [Builtin.len_, ht, run_underlying hu, goInt]) (.v _) hS
  · obtain ⟨va, rfl, h1⟩ := one rfl
    split
    case isFalse => exact SoundM.fail hS
    rename_i hc
    obtain ⟨e, he⟩ := Option.isSome_iff_exists.1 hc
    simp only [Option.bind_eq_some_iff] at he
    obtain ⟨t, ht, he⟩ := he
    have hu := mapO_some (k := e.1) (e := e.2) he
    refine SoundM.get ?_ hS
    split
    case h_2 => exact SoundM.fail
    rename_i p es hid
    cases h1 with
    | mp _ b off sz lim len hφ =>
    obtain ⟨loc, hl, hb⟩ := hS.blk _ _ hid
    rw [hφ] at hl; cases hl
    obtain ⟨ms, clk, hheap, h1, h2⟩ := hb
    have hobj : (getObj b).run P w = .ok (.map ms clk) w := by simp [getObj, Sem.run, hheap]
    have hl : ms.size = es.length := by have := h1.1; simpa using this
    exact SoundM.ret (by simp [Builtin.len_, ht, run_underlying hu, goInt, hobj, hl]) (.v _)
  · exact SoundM.fail hS
end Go.AMach
