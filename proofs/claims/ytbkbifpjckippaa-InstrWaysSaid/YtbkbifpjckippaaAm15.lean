/- The abstract machine: a region that draws its order comes to the same in every order. -/
import Derived.Test.YtbkbifpjckippaaAm14
namespace Go.AMach
set_option linter.unusedVariables false
set_option linter.unusedSimpArgs false
set_option linter.unnecessarySimpa false
set_option linter.unusedSectionVars false
variable [Sites]
open Go.RowKit
set_option linter.unusedVariables false
set_option linter.unusedSimpArgs false
variable {P : Program}

theorem bitsOf_bit {acc : List Nat} {o : Oper} {j : Nat} (h : (bitsOf acc o).testBit j = true) : ∃ e ∈ o.after.toList, Region.binds .any e = true ∧ (e.on = j ∨ (acc.getD e.on 0).testBit j = true) := by
  unfold bitsOf at h
  have gen : ∀ (l : List Edge) (s : Nat), (l.foldl (fun s e => if Region.binds .any e then s ||| 2 ^ e.on ||| acc.getD e.on 0 else s) s).testBit j = true →
      s.testBit j = true ∨ ∃ e ∈ l, Region.binds .any e = true ∧ (e.on = j ∨ (acc.getD e.on 0).testBit j = true) := by
    intro l
    induction l with
    | nil => intro s h; exact .inl h
    | cons e l ih =>
      intro s h
      simp only [List.foldl_cons] at h
      rcases ih _ h with h | ⟨e', he', h⟩
      · split at h
        · rename_i hb
          rw [Nat.testBit_or, Nat.testBit_or, Nat.testBit_two_pow] at h
          simp only [Bool.or_eq_true, decide_eq_true_eq] at h
          rcases h with (h | h) | h
          · exact .inl h
          · exact .inr ⟨e, List.mem_cons_self, hb, .inl h⟩
          · exact .inr ⟨e, List.mem_cons_self, hb, .inr h⟩
        · exact .inl h
      · exact .inr ⟨e', List.mem_cons_of_mem _ he', h⟩
  rcases gen o.after.toList 0 h with h | h
  · simp at h
  · exact h

theorem befs_spec : ∀ (ops : List Oper) (acc : List Nat), (befs ops acc).length = acc.length + ops.length ∧ (∀ k, k < acc.length → (befs ops acc)[k]? = acc[k]?) ∧
    ∀ k o, ops[k]? = some o → ∃ acc' : List Nat, (befs ops acc)[acc.length + k]? = some (bitsOf acc' o) ∧ ∀ m, m < acc'.length → acc'[m]? = (befs ops acc)[m]?
  | [], acc => ⟨by simp [befs], fun _ _ => rfl, fun k o h => by simp at h⟩
  | o :: r, acc => by
    obtain ⟨h1, h2, h3⟩ := befs_spec r (acc ++ [bitsOf acc o])
    simp only [befs]
    refine ⟨by simp at h1 ⊢; omega, fun k hk => ?_, fun k o' hk => ?_⟩
    · rw [h2 k (by simp; omega), List.getElem?_append_left hk]
    · cases k with
      | zero =>
        simp at hk; subst hk
        refine ⟨acc, ?_, fun m hm => ?_⟩
        · rw [Nat.add_zero, h2 _ (by simp)]; simp
        · rw [h2 m (by simp; omega), List.getElem?_append_left hm]
      | succ k =>
        obtain ⟨acc', g1, g2⟩ := h3 k o' (by simpa using hk)
        refine ⟨acc', ?_, g2⟩
        rw [← g1]; congr 1; simp; omega

/-- What a bit says: an operation ahead, or one ahead of one ahead. -/
theorem befs_bit {ops : List Oper} {k j : Nat} (h : ((befs ops []).getD k 0).testBit j = true) : ∃ o, ops[k]? = some o ∧ ∃ e ∈ o.after.toList, Region.binds .any e = true ∧ (e.on = j ∨ ((befs ops []).getD e.on 0).testBit j = true) := by
  obtain ⟨h1, _, h3⟩ := befs_spec ops []
  have hk : k < ops.length := by
    rcases Nat.lt_or_ge k ops.length with hk | hk
    · exact hk
    · rw [List.getD_eq_getElem?_getD, List.getElem?_eq_none (by simp at h1; omega)] at h
      simp at h
  obtain ⟨acc', g1, g2⟩ := h3 k _ (List.getElem?_eq_getElem hk)
  simp only [List.length_nil, Nat.zero_add] at g1
  rw [List.getD_eq_getElem?_getD, g1] at h
  obtain ⟨e, he, hb, hj⟩ := bitsOf_bit (by simpa using h)
  refine ⟨_, List.getElem?_eq_getElem hk, e, he, hb, hj.imp id fun hj => ?_⟩
  by_cases hm : e.on < acc'.length
  · rw [List.getD_eq_getElem?_getD, g2 _ hm] at hj
    rw [List.getD_eq_getElem?_getD]; exact hj
  · rw [List.getD_eq_getElem?_getD, List.getElem?_eq_none (by omega)] at hj
    simp at hj

theorem slotsOk_edge {ops : Array Oper} (h : slotsOk ops = true) {i : Nat} {o : Oper} (ho : ops[i]? = some o) {e : Edge} (he : e ∈ o.after.toList) (hb : Region.binds .any e = true) : e.on < i := by
  unfold slotsOk at h
  rw [List.all_eq_true] at h
  have hm : (o, i) ∈ ops.toList.zipIdx := by
    rw [List.mem_zipIdx_iff_getElem?]; simpa using ho
  have := h (o, i) hm
  simp only [Bool.and_eq_true] at this
  have h1 := this.1
  rw [List.all_eq_true] at h1
  have := h1 e he
  simp [hb] at this
  exact this
theorem slotsOk_apart {ops : Array Oper} (h : slotsOk ops = true) {i j : Nat} {o p : Oper} (ho : ops[i]? = some o) (hp : ops[j]? = some p) (hij : j < i) (hn : ¬ ((befs ops.toList []).getD i 0).testBit j = true) : p.apart ops o = true := by
  unfold slotsOk at h
  rw [List.all_eq_true] at h
  have hm : (o, i) ∈ ops.toList.zipIdx := by
    rw [List.mem_zipIdx_iff_getElem?]; simpa using ho
  have hm2 : (p, j) ∈ ops.toList.zipIdx := by
    rw [List.mem_zipIdx_iff_getElem?]; simpa using hp
  have := h (o, i) hm
  simp only [Bool.and_eq_true] at this
  have h2 := this.2
  rw [List.all_eq_true] at h2
  have := h2 (p, j) hm2
  simp only [Bool.or_eq_true, decide_eq_true_eq] at this
  rcases this with (h | h) | h
  · omega
  · exact absurd h hn
  · exact h
theorem befs_lt {ops : Array Oper} (h : slotsOk ops = true) : ∀ {k j : Nat}, ((befs ops.toList []).getD k 0).testBit j = true → j < k := by
  intro k
  induction k using Nat.strongRecOn with
  | _ k ih =>
    intro j hj
    obtain ⟨o, ho, e, he, hb, hor⟩ := befs_bit hj
    have he' := slotsOk_edge h (by simpa using ho) he hb
    rcases hor with rfl | hor
    · exact he'
    · exact Nat.lt_trans (ih e.on he' hor) he'

theorem disj_nil (a : List Nat) : disj a [] = true := by
  unfold disj; rw [List.all_eq_true]; intro i _; simp
theorem disj_nil' (a : List Nat) : disj [] a = true := rfl
theorem disj_comm {a b : List Nat} (h : disj a b = true) : disj b a = true := by
  unfold disj
  rw [List.all_eq_true]
  intro i hi
  simp
  exact fun ha => mem_disj h ha hi
theorem apartL_comm {x y : Log} (h : apartL x y = true) : apartL y x = true := by
  simp only [apartL, Bool.and_eq_true] at h ⊢
  exact ⟨⟨h.2, disj_comm h.1.2⟩, h.1.1⟩
theorem apartL_nil (x : Log) : apartL x ([], []) = true := by simp [apartL, disj_nil, disj_nil']

theorem loud_mem : ∀ {logs : List Log} {k i : Nat} {l : Log}, logs[i]? = some l → l ≠ ([], []) → (l, k + i) ∈ loud logs k
  | [], k, i, l, h, _ => by simp at h
  | x :: r, k, 0, l, h, hne => by
    simp at h; subst h
    match x with
    | ([], []) => exact absurd rfl hne
    | (a :: as, b) => simp [loud]
    | ([], b :: bs) => simp [loud]
  | x :: r, k, i + 1, l, h, hne => by
    have := loud_mem (k := k + 1) (i := i) (by simpa using h) hne
    rw [show k + 1 + i = k + (i + 1) by omega] at this
    match x with
    | ([], []) => simpa [loud] using this
    | (a :: as, b) => simp [loud]; exact this
    | ([], b :: bs) => simp [loud]; exact this

theorem logsOk_apart {ops : Array Oper} {logs : List Log} (hs : slotsOk ops = true) (h : logsOk (befs ops.toList []) logs = true) {i j : Nat} {li lj : Log} (hi : logs[i]? = some li) (hj : logs[j]? = some lj) (hij : j < i)
    (hn : ¬ ((befs ops.toList []).getD i 0).testBit j = true) : apartL lj li = true := by
  by_cases e1 : li = ([], [])
  · subst e1; exact apartL_nil _
  by_cases e2 : lj = ([], [])
  · subst e2; exact apartL_comm (apartL_nil _)
  unfold logsOk at h
  simp only [] at h
  rw [List.all_eq_true] at h
  have m1 := loud_mem (k := 0) hi e1
  have m2 := loud_mem (k := 0) hj e2
  simp only [Nat.zero_add] at m1 m2
  have hn' : ¬ ((befs ops.toList []).getD j 0).testBit i = true := fun hb => by have := befs_lt hs hb; omega
  by_cases w1 : li.2 = []
  · by_cases w2 : lj.2 = []
    · simp [apartL, w1, w2, disj_nil']
    · have := h (lj, j) m2
      simp only [Bool.or_eq_true] at this
      rcases this with h' | h'
      · simp at h'; exact absurd h' w2
      · rw [List.all_eq_true] at h'
        have := h' (li, i) m1
        simp only [Bool.or_eq_true, beq_iff_eq] at this
        rcases this with ((h' | h') | h') | h'
        · omega
        · exact apartL_comm h'
        · exact absurd h' hn'
        · exact absurd h' hn
  · have := h (li, i) m1
    simp only [Bool.or_eq_true] at this
    rcases this with h' | h'
    · simp at h'; exact absurd h' w1
    · rw [List.all_eq_true] at h'
      have := h' (lj, j) m2
      simp only [Bool.or_eq_true, beq_iff_eq] at this
      rcases this with ((h' | h') | h') | h'
      · omega
      · exact h'
      · exact absurd h' hn
      · exact absurd h' hn'

/-! ### The relation hangs on what the heap reads, no more -/
theorem SRel.eqv {ι φ H H' w} (h : SRel ι φ H w) (he : ∀ i, H.at i = H'.at i) : SRel ι φ H' w :=
  ⟨h.imm, fun id b hb => h.blk id b (by rw [he]; exact hb), fun id b _ _ _ _ _ hb hl => h.own id b _ _ _ _ _ (by rw [he]; exact hb) hl,
    fun i j b b' _ _ _ _ _ _ _ _ _ hb hb' hl hl' => h.inj i j b b' _ _ _ _ _ _ _ _ _ (by rw [he]; exact hb) (by rw [he]; exact hb') hl hl'⟩
theorem Owned.eqv {H H' : AH} {φ : Phi} {b : Nat} (he : ∀ i, H.at i = H'.at i) (h : Owned H' φ b) : Owned H φ b := by
  obtain ⟨id, blk, o, s, l, n, h1, h2⟩ := h
  exact ⟨id, blk, o, s, l, n, by rw [he]; exact h1, h2⟩
theorem SRel.world {ι φ H} {w w' : World} (h : SRel ι φ H w) (he : w'.heap = w.heap) : SRel ι φ H w' := by
  refine ⟨fun b o hb => by rw [he]; exact h.imm b o hb, fun id b hb => ?_, h.own, h.inj⟩
  obtain ⟨loc, hl, hbr⟩ := h.blk id b hb
  refine ⟨loc, hl, ?_⟩
  cases loc with
  | virt => exact hbr.virt
  | «at» => exact BRel.heap (by rw [he]) hbr

/-- What holds while a region that draws is gone through, in whatever order. -/
structure DInv (ι0 : Iota) (φ0 : Phi) (n0 : Nat) (H0 : AH) (w0 : World) (N : Nat) (ι : Iota) (φ : Phi) (base top : Nat) (t : List Item) (s : DS) (a : Act) (w : World) : Prop where
  bas : ∀ k, k < n0 → φ k = φ0 k
  le : n0 ≤ base
  fresh : ∀ k, top ≤ k → φ k = .none
  mine : ∀ x ∈ t, ∀ k, base + roomEach * x.1.2 ≤ k → k < base + roomEach * (x.1.2 + 1) → φ k = .none
  below : ∀ x ∈ t, base + roomEach * (x.1.2 + 1) ≤ top
  rel : SRel ι φ s.heap w
  env : ERel ι φ a.tmps s.env
  size : a.tmps.size = N
  defers : Marks ι s.heap φ w0 w a.defers
  frm : Frm ι0 H0 φ0 w0 ι s.heap φ w

theorem any_sound {cf : CallF} (hcf : CallSound P cf) {ι0 φ0 n0 H0 w0 N} {ops : Array Oper} (hso : slotsOk ops = true) {base : Nat} {sF : DS} :
    ∀ (fuel : Nat) (t : List Item) (listed : Array Bool) (s : DS) (a : Act) (w : World) (ι : Iota) (φ : Phi), t.Pairwise (fun x y => x.1.2 < y.1.2) → (∀ x ∈ t, ops[x.1.2]? = some x.1.1) →
    listed.size = ops.size → (∀ j, listed.getD j true = false ↔ ∃ x ∈ t, x.1.2 = j) →
    (∀ k, k < ops.size → (∀ x ∈ t, x.1.2 ≠ k) → ∀ j, ((befs ops.toList []).getD k 0).testBit j = true → ∀ x ∈ t, x.1.2 ≠ j) →
    (∀ x ∈ t, ∀ y ∈ t, y.1.2 < x.1.2 → ¬ ((befs ops.toList []).getD x.1.2 0).testBit y.1.2 = true → Apart2 ops y x) →
    RunT P cf N ops base t s sF → fuel = t.length → DInv ι0 φ0 n0 H0 w0 N ι φ base (base + roomEach * ops.size) t s a w →
    wpAny P .any ops (RPost ι0 φ0 n0 H0 w0 N .nm ⟨sF.env, sF.heap, base + roomEach * ops.size⟩) fuel listed a w := by
  intro fuel
  induction fuel with
  | zero =>
    intro t listed s a w ι φ h1 h2 hsz h3 h4 h5 h6 hf hI
    have ht : t = [] := by rw [← List.length_eq_zero_iff]; omega
    subst ht
    cases h6 with
    | nil he =>
    refine ⟨?_, ι, φ, ⟨hI.bas, hI.fresh, by have := hI.le; show n0 ≤ base + _; omega, hI.rel.eqv he.2, fun k => by show ARel _ _ _ (look sF.env k); rw [← he.1 k]; exact hI.env k, hI.size, hI.defers.own (fun b hb => hb.eqv he.2), ?_⟩, trivial⟩
    · rw [List.eq_nil_iff_forall_not_mem]
      intro j hj
      obtain ⟨hj, _⟩ := mem_ready.1 hj
      obtain ⟨x, hx, _⟩ := (h3 j).1 hj
      simp at hx
    · exact ⟨hI.frm.os, hI.frm.tape, hI.frm.output, hI.frm.size, hI.frm.keep, fun b hb => hI.frm.sub b (hb.eqv he.2), hI.frm.imm, hI.frm.grow⟩
  | succ fuel ih =>
    intro t listed s a w ι φ h1 h2 hsz h3 h4 h5 h6 hf hI
    have hlisted : ∀ j, j < ops.size → (∀ x ∈ t, x.1.2 ≠ j) → listed.getD j false = true := fun j hj hx => by
      have h : ¬ listed.getD j true = false := fun h => by obtain ⟨x, hm, he⟩ := (h3 j).1 h; exact hx x hm he
      have hj' : j < listed.size := by omega
      simp [Array.getD, hj'] at h ⊢
      exact h
    refine ⟨fun hr => ?_, fun i hi => ?_⟩
    · -- there is one that may go on
      exfalso
      cases t with
      | nil => simp at hf
      | cons x t =>
        have hx := h2 x List.mem_cons_self
        have : x.1.2 ∈ Region.ready .any ops listed := by
          refine mem_ready.2 ⟨(h3 _).2 ⟨x, List.mem_cons_self, rfl⟩, x.1.1, hx, fun e he hb => ?_⟩
          have hlt := slotsOk_edge hso hx (by simpa using he) hb
          have hi : x.1.2 < ops.size := (Array.getElem?_eq_some_iff.1 hx).1
          refine hlisted e.on (by omega) fun y hy => ?_
          rcases List.mem_cons.1 hy with rfl | hy
          · omega
          · have := List.rel_of_pairwise_cons h1 hy
            omega
        rw [hr] at this
        simp at this
    · obtain ⟨hun, o, ho, hedges⟩ := mem_ready.1 hi
      obtain ⟨x, hx, hxi⟩ := (h3 i).1 hun
      subst hxi
      have hox := h2 x hx
      rw [ho] at hox
      have hox : o = x.1.1 := by simpa using hox
      subst hox
      have hisz : x.1.2 < ops.size := (Array.getElem?_eq_some_iff.1 ho).1
      obtain ⟨r1, r2, rfl⟩ := List.append_of_mem hx
      have hlt : ∀ y ∈ r1, y.1.2 < x.1.2 := fun y hy => (List.pairwise_append.1 h1).2.2 y hy x List.mem_cons_self
      have hgt : ∀ y ∈ r2, x.1.2 < y.1.2 := fun y hy => List.rel_of_pairwise_cons (List.pairwise_append.1 h1).2.1 hy
      have hmem : ∀ y, y ∈ r1 ++ r2 → y ∈ r1 ++ x :: r2 := fun y hy => by
        rcases List.mem_append.1 hy with hy | hy
        · exact List.mem_append_left _ hy
        · exact List.mem_append_right _ (List.mem_cons_of_mem _ hy)
      have hne : ∀ y, y ∈ r1 ++ r2 → y.1.2 ≠ x.1.2 := fun y hy => by
        rcases List.mem_append.1 hy with hy | hy
        · have := hlt y hy; omega
        · have := hgt y hy; omega
      have hback : ∀ y, y ∈ r1 ++ x :: r2 → y.1.2 ≠ x.1.2 → y ∈ r1 ++ r2 := fun y hy hn => by
        rcases List.mem_append.1 hy with hy | hy
        · exact List.mem_append_left _ hy
        · rcases List.mem_cons.1 hy with rfl | hy
          · exact absurd rfl hn
          · exact List.mem_append_right _ hy
      -- what stands ahead of it is listed
      have hanc : ∀ j, ((befs ops.toList []).getD x.1.2 0).testBit j = true → ∀ y ∈ r1 ++ x :: r2, y.1.2 ≠ j := fun j hj => by
        obtain ⟨o', ho', e, he, hb, hor⟩ := befs_bit hj
        have : o' = x.1.1 := by
          have := ho'.symm.trans (by simpa using ho)
          simpa using this
        subst this
        have hl := hedges e (by simpa using he) hb
        have hlt' := slotsOk_edge hso ho he hb
        have hnot : ∀ y ∈ r1 ++ x :: r2, y.1.2 ≠ e.on := fun y hy hye => by
          have := (h3 e.on).2 ⟨y, hy, hye⟩
          have he' : e.on < listed.size := by omega
          simp [Array.getD, he'] at this hl
          rw [this] at hl; cases hl
        rcases hor with rfl | hor
        · exact hnot
        · exact h4 e.on (by omega) hnot j hor
      have hfront := RunT.front h6 fun y hy => h5 x hx y (List.mem_append_left _ hy) (hlt y hy) fun hb => hanc _ hb y (List.mem_append_left _ hy) rfl
      obtain ⟨p, l⟩ := x
      cases hfront with
      | cons hstep hrest =>
      rename_i s1
      -- what is there behind the step
      have next : ∀ (x' : AV) (H' : AH) (u : Value) (w' : World) (ι' : Iota) (φ' : Phi) (n' : Nat), dOk N p.1.dst = true → s1 = ⟨pushO s.env p.1.dst x', H'⟩ → Ext φ φ' (base + roomEach * p.2) n' → n' ≤ base + roomEach * (p.2 + 1) → SRel ι' φ' H' w' → ARel ι' φ' u x' → Frm ι s.heap φ w ι' H' φ' w' →
          wpAny P .any ops (RPost ι0 φ0 n0 H0 w0 N .nm ⟨sF.env, sF.heap, base + roomEach * ops.size⟩) fuel (listed.setIfInBounds p.2 true) (a.put p.1.dst u) w' := fun x' H' u w' ι' φ' n' hd hs1 hE hn' hS' hu hF => by
        have hEle := hE.le
        have hout : ∀ k, ¬ (base + roomEach * p.2 ≤ k ∧ k < base + roomEach * (p.2 + 1)) → φ' k = φ k := fun k hk => hE.out k (by omega)
        have hpt := hI.below _ hx
        refine ih (r1 ++ r2) _ s1 _ w' ι' φ' ?_ (fun y hy => h2 y (hmem y hy)) (by simpa using hsz) (fun j => ?_) (fun k hk hkx j hj y hy => ?_) (fun x1 hx1 y hy => h5 x1 (hmem _ hx1) y (hmem _ hy)) hrest (by simp at hf ⊢; omega) ?_
        · rw [List.pairwise_append] at h1 ⊢
          exact ⟨h1.1, (List.pairwise_cons.1 h1.2.1).2, fun y hy z hz => h1.2.2 y hy z (List.mem_cons_of_mem _ hz)⟩
        · by_cases hj : p.2 = j
          · subst hj
            have hp2 : p.2 < listed.size := by have : p.2 < ops.size := hisz; omega
            constructor
            · intro h
              simp [Array.getD, hp2] at h
            · rintro ⟨y, hy, he⟩
              exact absurd he (hne y hy)
          · rw [getD_set_ne true hj, h3 j]
            constructor
            · rintro ⟨y, hy, he⟩
              exact ⟨y, hback y hy (fun e => hj (e.symm.trans he)), he⟩
            · rintro ⟨y, hy, he⟩
              exact ⟨y, hmem y hy, he⟩
        · by_cases hkp : k = p.2
          · subst hkp
            exact hanc j hj y (hmem y hy)
          · exact h4 k hk (fun z hz hze => by
              by_cases hzp : z.1.2 = p.2
              · exact hkp (hze.symm.trans hzp)
              · exact hkx z (hback z hz hzp) hze) j hj y (hmem y hy)
        · subst hs1
          have hpush := push_env ((hI.env.mono hE.mono).imm hF.imm) hI.size hu hd
          refine ⟨fun k hk => ?_, hI.le, fun k hk => ?_, fun y hy k hk1 hk2 => ?_, fun y hy => hI.below y (hmem y hy), hS', hpush.1, hpush.2, by rw [put_defers]; exact hI.defers.frm hF, hI.frm.trans hF⟩
          · rw [hout k (by have := hI.le; omega)]; exact hI.bas k hk
          · have hpt' : base + roomEach * (p.2 + 1) ≤ base + roomEach * ops.size := hpt
            rw [hout k (by omega)]; exact hI.fresh k hk
          · have hd : ¬ (base + roomEach * p.2 ≤ k ∧ k < base + roomEach * (p.2 + 1)) := by
              have := hne y hy
              unfold roomEach at hk1 hk2 ⊢
              have : y.1.2 ≠ p.2 := this
              omega
            rw [hout k hd]; exact hI.mine y (hmem y hy) k hk1 hk2
      have hmine : ∀ k, base + roomEach * p.2 ≤ k → k < base + roomEach * (p.2 + 1) → φ k = .none := hI.mine _ hx
      have done : (match (opM P cf s.env p.1).runL s.heap (base + roomEach * p.2) [] [] with
          | some (.ok x, H, n, R, W) => if n ≤ base + roomEach * (p.2 + 1) ∧ dOk N p.1.dst = true then some ((⟨pushO s.env p.1.dst x, H⟩ : DS), ((R, W) : Log)) else none
          | _ => none) = some (s1, l) → p.1.wp P a w (wpAny P .any ops (RPost ι0 φ0 n0 H0 w0 N .nm ⟨sF.env, sF.heap, base + roomEach * ops.size⟩) fuel (listed.setIfInBounds p.2 true)) (RPost ι0 φ0 n0 H0 w0 N .nm ⟨sF.env, sF.heap, base + roomEach * ops.size⟩) := fun h => by
        split at h
        case h_2 => cases h
        split at h
        case isFalse => cases h
        rename_i x' H' n' R W heq hn'
        simp only [Option.some.injEq, Prod.mk.injEq] at h
        obtain ⟨rfl, rfl⟩ := h
        have hrun := runL_run _ _ _ _ _ _ _ _ _ _ heq
        refine op_sound hcf hI.env hI.rel hrun (fun k h1 h2 => hmine k h1 (by omega)) ?_
        intro u w' ι' φ' g1 g2 g3 g4
        exact next x' H' u w' ι' φ' n' hn'.2 rfl g1 hn'.1 g2 g3 g4
      show wpOp P ops _ p.2 _ a w
      unfold wpOp
      have ho' : ops[p.2]? = some p.1 := ho
      rw [ho']
      simp only []
      unfold stepD at hstep
      cases hg : p.1.guard with
      | none =>
        rw [hg] at hstep
        rw [if_pos (by simp [Region.wanted, hg])]
        exact .inl (done hstep)
      | some g =>
        obtain ⟨j, want⟩ := g
        rw [hg] at hstep
        simp only [] at hstep
        cases hy : yieldA ops s.env j with
        | none => rw [hy] at hstep; cases hstep
        | some y =>
          rw [hy] at hstep
          simp only [] at hstep
          have hyy := yieldA_rel hI.env hy
          by_cases hw : y = some want
          · rw [if_pos hw] at hstep
            rw [if_pos (by simp [Region.wanted, hg, hyy, hw])]
            exact .inl (done hstep)
          · rw [if_neg hw] at hstep
            rw [if_neg (by simp [Region.wanted, hg, hyy, hw])]
            split at hstep
            case isFalse => cases hstep
            rename_i hd
            simp only [Option.some.injEq, Prod.mk.injEq] at hstep
            exact next _ _ undef w ι φ _ hd hstep.1.symm (Ext.refl _ _) (by unfold roomEach; omega) hI.rel (.v _) (Frm.refl _ _ _ _)

theorem draw_sound (hm : P.follows .mixedOrders = true) {cf : CallF} (hcf : CallSound P cf) : DrawSound P cf := by
  intro ι0 φ0 n0 H0 w0 N id ops s a w ι φ x s' hI hr
  unfold runDrawn at hr
  split at hr
  case isFalse => cases hr
  rename_i hso
  split at hr
  case h_2 => cases hr
  rename_i env' H' logs hdraw
  split at hr
  case isFalse => cases hr
  rename_i hlo
  simp only [Option.some.injEq, Prod.mk.injEq] at hr
  obtain ⟨rfl, rfl⟩ := hr
  obtain ⟨t, ht1, ht2, ht3⟩ := runDraw_trace _ _ _ _ _ _ _ _ hdraw
  simp only [List.nil_append] at ht2
  have hget : ∀ (i : Nat) (x : Item), t[i]? = some x → x.1.2 = i ∧ ops[i]? = some x.1.1 ∧ logs[i]? = some x.2 := fun i x hx => by
    have h1 : (t.map (·.1))[i]? = some x.1 := by simp [hx]
    rw [ht1, List.getElem?_zipIdx] at h1
    simp only [Option.map_eq_some_iff] at h1
    obtain ⟨o, ho, he⟩ := h1
    have e1 : x.1 = (o, 0 + i) := he.symm
    refine ⟨by rw [e1]; simp, by rw [e1]; simpa using ho, by rw [ht2]; simp [hx]⟩
  have hlen : t.length = ops.size := by
    have := congrArg List.length ht1
    simpa using this
  have hmem : ∀ x ∈ t, ∃ i, t[i]? = some x := fun x hx => List.getElem?_of_mem hx
  refine wp_region_any hm ?_
  refine any_sound hcf hso ops.size t _ ⟨s.env, s.heap⟩ a _ ι φ ?_ ?_ (by simp) ?_ ?_ ?_ ht3 hlen.symm ?_
  · rw [List.pairwise_iff_getElem]
    intro i j hi hj hij
    have h1 := (hget i _ (List.getElem?_eq_getElem hi)).1
    have h2 := (hget j _ (List.getElem?_eq_getElem hj)).1
    omega
  · intro x hx
    obtain ⟨i, hi⟩ := hmem x hx
    obtain ⟨h1, h2, _⟩ := hget i x hi
    rw [h1]; exact h2
  · intro j
    constructor
    · intro h
      have hj : j < ops.size := by
        rcases Nat.lt_or_ge j ops.size with hj | hj
        · exact hj
        · simp [Array.getD, Nat.not_lt.2 hj] at h
      have hj' : j < t.length := by omega
      exact ⟨_, List.getElem_mem hj', (hget j _ (List.getElem?_eq_getElem hj')).1⟩
    · rintro ⟨x, hx, rfl⟩
      obtain ⟨i, hi⟩ := hmem x hx
      obtain ⟨h1, _, _⟩ := hget i x hi
      have : i < t.length := (List.getElem?_eq_some_iff.1 hi).1
      rw [h1]
      have hi' : i < ops.size := by omega
      simp [Array.getD, hi']
  · intro k hk hx
    have hk' : k < t.length := by omega
    exact absurd (hget k _ (List.getElem?_eq_getElem hk')).1 (hx _ (List.getElem_mem hk'))
  · intro x hx y hy hlt hn
    obtain ⟨i, hi⟩ := hmem x hx
    obtain ⟨j, hj⟩ := hmem y hy
    obtain ⟨a1, a2, a3⟩ := hget i x hi
    obtain ⟨b1, b2, b3⟩ := hget j y hj
    rw [a1, b1] at hlt hn
    exact ⟨slotsOk_apart hso a2 b2 hlt hn, logsOk_apart hso hlo a3 b3 hlt hn⟩
  · have hb : ∀ x ∈ t, x.1.2 < ops.size := fun x hx => by
      obtain ⟨i, hi⟩ := hmem x hx
      have := (hget i x hi).1
      have h2 : i < t.length := (List.getElem?_eq_some_iff.1 hi).1
      omega
    refine ⟨hI.base, hI.le, fun k hk => hI.fresh k (by omega), fun x hx k h1 _ => hI.fresh k (by omega), fun x hx => ?_, hI.rel.world rfl, hI.env, hI.size, hI.defers.heap rfl, hI.frm.trans ⟨rfl, rfl, rfl, Nat.le_refl _, fun _ _ _ => rfl, fun _ h => .inr h, fun _ _ h => h, fun _ h h' => absurd h h'⟩⟩
    have := hb x hx
    unfold roomEach; omega

/-- THE ABSTRACT MACHINE TELLS THE TRUTH: of one function, of the functions that it calls. -/
theorem sound (hm : P.follows .mixedOrders = true) {cf : CallF} (hcf : CallSound P cf) {n : Nat} {pol : Pol} {ι : Iota} {φ : Phi} {H : AH} {w : World} {f : FuncId} {args : List AV} {vs : List Value} {r : AR AV} {H' : AH}
    (hS : SRel ι φ H w) (hfr : ∀ i, H.length ≤ i → φ i = .none) (hv : ARels ι φ vs args) (h : runF P cf n pol f args H = some (r, H')) : Calls P f vs.toArray w (CallPost ι φ H w r H') :=
  runF_sound (fun _ h => draw_sound hm h) hcf hS hfr hv h
#print axioms sound
end Go.AMach
