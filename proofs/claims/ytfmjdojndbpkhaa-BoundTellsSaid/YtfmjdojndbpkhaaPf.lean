/- Parts of the proof. -/
import Derived.Test.YtfmjdojndbpkhaaPe
import Derived.KernelRfl
import Derived.Test.YtfmjdojndbpkhaaPe
/- Layer 24: less leads to less. -/
namespace Go.AMach
set_option linter.unusedVariables false
set_option linter.unusedSimpArgs false
set_option linter.unnecessarySimpa false
open Go
set_option linter.unusedVariables false

theorem jgQ {a b : Int} (h : a ≤ b) : cut7 a ≤ cut7 b := by unfold cut7; split <;> split <;> omega
theorem jBp {a b c d : Int} (h : a ≤ c) (k : b ≤ d) : mx a b ≤ mx c d := by unfold mx; split <;> split <;> omega
theorem jDT {f : ObjS → Int} (l : List Int) : 0 ≤ jeZ f l ∧ ∀ a ∈ l, f (1, (a, ())) ≤ jeZ f l := by
  have : ∀ (l : List Int) (n : Int), n ≤ l.foldl (fun n b => mx n (f (1, (b, ())))) n ∧ ∀ a ∈ l, f (1, (a, ())) ≤ l.foldl (fun n b => mx n (f (1, (b, ())))) n := by
    intro l
    induction l with
    | nil => intro n; exact ⟨Int.le_refl _, fun a ha => by cases ha⟩
    | cons x r ih =>
      intro n
      obtain ⟨i1, i2⟩ := ih (mx n (f (1, (x, ()))))
      have h1 : n ≤ mx n (f (1, (x, ()))) := by unfold mx; split <;> omega
      have h2 : f (1, (x, ())) ≤ mx n (f (1, (x, ()))) := by unfold mx; split <;> omega
      refine ⟨Int.le_trans h1 i1, fun a ha => ?_⟩
      rcases List.mem_cons.1 ha with rfl | ha
      · exact Int.le_trans h2 i1
      · exact i2 a ha
  exact this l 0
theorem jDS {f : ObjS → Int} {M : Int} (l : List Int) (h0 : 0 ≤ M) (h : ∀ a ∈ l, f (1, (a, ())) ≤ M) : jeZ f l ≤ M := by
  have : ∀ (l : List Int) (n : Int), n ≤ M → (∀ a ∈ l, f (1, (a, ())) ≤ M) → l.foldl (fun n b => mx n (f (1, (b, ())))) n ≤ M := by
    intro l
    induction l with
    | nil => intro n h _; exact h
    | cons x r ih =>
      intro n h hh
      refine ih _ ?_ fun a ha => hh a (List.mem_cons_of_mem _ ha)
      have := hh x List.mem_cons_self
      show mx n (f (1, (x, ()))) ≤ M
      unfold mx; split <;> omega
  exact this l 0 h0 h
theorem jAk {f f' : ObjS → Int} (h : ∀ y, f' y ≤ f y) (k : Int) (l : List jbt) : jcP f' k l ≤ jcP f k l := by
  have : ∀ (l : List jbt) (n n' : Int), n' ≤ n → l.foldl (fun n (b : jbt) => if k = 1 then cut7 (n + f' (1, b.2)) else mx n (f' (1, b.2))) n' ≤ l.foldl (fun n (b : jbt) => if k = 1 then cut7 (n + f (1, b.2)) else mx n (f (1, b.2))) n := by
    intro l
    induction l with
    | nil => intro n n' h; exact h
    | cons x r ih =>
      intro n n' hn
      refine ih _ _ ?_
      have hx := h (1, x.2)
      show (if k = 1 then cut7 (n' + f' (1, x.2)) else mx n' (f' (1, x.2))) ≤ (if k = 1 then cut7 (n + f (1, x.2)) else mx n (f (1, x.2)))
      by_cases c : k = 1
      · rw [if_pos c, if_pos c]; exact jgQ (by omega)
      · rw [if_neg c, if_neg c]; exact jBp hn hx
  exact this l 0 0 (Int.le_refl _)
theorem jkP {f f' : ObjS → Int} (h : ∀ y, f' y ≤ f y) : ∀ (l : List jaj) (i : Nat), rdd 0 (jbb f' l) i ≤ rdd 0 (jbb f l) i
  | [], i => Int.le_refl _
  | x :: r, 0 => by
    show cut7 (1 + jcr f' x r.length (jbb f' r)) ≤ cut7 (1 + jcr f x r.length (jbb f r))
    refine jgQ ?_
    have ih := jkP h r
    have : jcr f' x r.length (jbb f' r) ≤ jcr f x r.length (jbb f r) := by
      unfold jcr
      by_cases c1 : x.1 = 23
      · rw [if_pos c1, if_pos c1]; exact Int.le_refl _
      rw [if_neg c1, if_neg c1]
      by_cases c2 : x.1 = 22
      · rw [if_pos c2, if_pos c2]; exact Int.le_refl _
      rw [if_neg c2, if_neg c2]
      by_cases c3 : x.1 = 13
      · rw [if_pos c3, if_pos c3]; exact h _
      rw [if_neg c3, if_neg c3]
      by_cases c4 : x.1 = 14
      · rw [if_pos c4, if_pos c4]; exact h _
      rw [if_neg c4, if_neg c4]
      by_cases c5 : x.1 = 12
      · rw [if_pos c5, if_pos c5]
        split
        · exact jBp (ih _) (ih _)
        · exact ih _
      · rw [if_neg c5, if_neg c5]; exact ih _
    omega
  | x :: r, i + 1 => by
    have e : ∀ g : ObjS → Int, rdd 0 (jbb g (x :: r)) (i + 1) = rdd 0 (jbb g r) i := fun g => by
      by_cases c : i < (jbb g r).length
      · rw [jbz c, jbz (l := jbb g (x :: r)) (by show i + 1 < (jbb g r).length + 1; omega)]; rfl
      · rw [juv (l := jbb g r) (by omega), juv (l := jbb g (x :: r)) (by show (jbb g r).length + 1 ≤ i + 1; omega)]
    rw [e, e]
    exact jkP h r i

/-- One configuration has, of another one, only less. -/
structure Less (t' t : TabM) (b' b : BlkM) (g' g : GrpM) : Prop where
  t : ∀ k, (t' k = none ∧ t k = none) ∨ ∃ l' l, t' k = some l' ∧ t k = some l ∧ ∀ a ∈ l', a ∈ l
  b : ∀ k, b' k = b k ∨ (b' k).getD [] = []
  g : ∀ k, g' k = g k
theorem Less.leads {t' t : TabM} {b' b : BlkM} {g' g : GrpM} (h : Less t' t b' b g' g) (x : ObjS) : ∀ y ∈ jaE t' b' g' x, y ∈ jaE t b g x := by
  intro y hy
  unfold jaE at hy ⊢
  by_cases c0 : x.1 = 0
  · rw [if_pos c0] at hy ⊢
    rcases h.t x.2.1 with ⟨h1, h2⟩ | ⟨l', l, h1, h2, h3⟩
    · rw [h1] at hy; cases hy
    · rw [h1] at hy
      rw [h2]
      obtain ⟨a, ha, rfl⟩ := List.mem_map.1 hy
      exact List.mem_map.2 ⟨a, h3 a ha, rfl⟩
  · rw [if_neg c0] at hy ⊢
    by_cases c1 : x.1 = 1
    · rw [if_pos c1] at hy ⊢
      rcases h.b x.2.1 with e | e
      · rw [e] at hy; exact hy
      · rw [e] at hy; cases hy
    · rw [if_neg c1] at hy ⊢
      rw [h.g] at hy; exact hy
theorem Less.step {t' t : TabM} {b' b : BlkM} {g' g : GrpM} (h : Less t' t b' b g' g) {f f' : ObjS → Int} (hr : ∀ y, InR (f y)) (hf : ∀ y, f' y ≤ f y) (x : ObjS) : jfd t' b' g' f' x ≤ jfd t b g f x := by
  unfold jfd
  by_cases c0 : x.1 = 0
  · rw [if_pos c0, if_pos c0]
    rcases h.t x.2.1 with ⟨h1, h2⟩ | ⟨l', l, h1, h2, h3⟩
    · rw [h1, h2]; exact Int.le_refl _
    · rw [h1, h2]
      refine jgQ ?_
      show jeZ f' l' + 1 ≤ jeZ f l + 1
      have hg := jDT (f := f) l
      have := jDS (f := f') (M := jeZ f l) l' hg.1 fun a ha => Int.le_trans (hf _) (hg.2 a (h3 a ha))
      omega
  · rw [if_neg c0, if_neg c0]
    by_cases c1 : x.1 = 1
    · rw [if_pos c1, if_pos c1]
      refine jgQ ?_
      rcases h.b x.2.1 with e | e
      · rw [e]; exact jkP hf _ 0
      · rw [e]
        exact (jfB (jcZ hr _) 0).1
    · rw [if_neg c1, if_neg c1, h.g]
      exact jgQ (jAk hf _ _)
theorem Less.ring {t' t : TabM} {b' b : BlkM} {g' g : GrpM} (h : Less t' t b' b g' g) (k : Ring (jaE t' b' g')) : Ring (jaE t b g) := by
  obtain ⟨z, hz⟩ := k
  exact ⟨z, hz.mono h.leads⟩
theorem Less.ends {t' t : TabM} {b' b : BlkM} {g' g : GrpM} (h : Less t' t b' b g' g) {x : ObjS} (k : Ends (jaE t b g) x) : Ends (jaE t' b' g') x := by
  induction k with
  | intro x _ ih => exact Acc.intro _ fun y hy => ih y (h.leads x y hy)
open Classical in
theorem Less.H {t' t : TabM} {b' b : BlkM} {g' g : GrpM} (h : Less t' t b' b g' g) {x : ObjS} (k : Ends (jaE t b g) x) : H t' b' g' x ≤ H t b g x := by
  induction k with
  | intro x hx ih =>
    rw [H_eq (h.ends (Acc.intro x hx)), H_eq (Acc.intro x hx)]
    rw [jeR (f := AMach.H t' b' g') (f' := fun y => if y ∈ jaE t b g x then AMach.H t' b' g' y else 0) (fun y hy => (if_pos (h.leads x y hy)).symm),
      jeR (f := AMach.H t b g) (f' := fun y => if y ∈ jaE t b g x then AMach.H t b g y else 0) (fun y hy => (if_pos hy).symm)]
    refine h.step (fun y => ?_) (fun y => ?_) x
    · show InR (if y ∈ jaE t b g x then AMach.H t b g y else 0)
      split
      · exact H_in t b g y
      · exact ⟨by omega, by omega⟩
    · show (if y ∈ jaE t b g x then AMach.H t' b' g' y else 0) ≤ (if y ∈ jaE t b g x then AMach.H t b g y else 0)
      by_cases c : y ∈ jaE t b g x
      · rw [if_pos c, if_pos c]; exact ih y c
      · rw [if_neg c, if_neg c]; exact Int.le_refl _

/-! ### Of configurations -/
abbrev LessC (d c : jaa) : Prop := Less (jdb d) (jdb c) (jcf d) (jcf c) (jdt d) (jdt c)
theorem lessC_of {d c : jaa} (ht : cT d = cT c) (he : ∀ x ∈ cE d, x ∈ cE c) (hb : ∀ k, jcf d k = jcf c k ∨ (jcf d k).getD [] = []) (hg : cG d = cG c) : LessC d c where
  t := fun k => by
    unfold jdb
    rw [ht]
    cases jbI (cT c) k with
    | none => exact .inl ⟨rfl, rfl⟩
    | some t =>
      refine .inr ⟨_, _, rfl, rfl, fun a ha => ?_⟩
      simp only [List.mem_cons, List.mem_map, List.mem_filter] at ha ⊢
      rcases ha with rfl | ⟨x, ⟨hx, hy⟩, hz⟩
      · exact .inl rfl
      · exact .inr ⟨x, ⟨he x hx, hy⟩, hz⟩
  b := hb
  g := fun k => by unfold jdt; rw [hg]
/-- With one block emptied. -/
theorem blks_set (l : List jbB) (i : Nat) (hi : i < l.length) (k : Int) :
    ((jbf (l.set i ((rdd jap l i).1, ([], ()))) k).map fun x => x.2.1) = ((jbf l k).map fun x => x.2.1) ∨ (((jbf (l.set i ((rdd jap l i).1, ([], ()))) k).map fun x => x.2.1)).getD [] = [] := by
  induction l generalizing i with
  | nil => simp at hi
  | cons x r ih =>
    cases i with
    | zero =>
      show ((jbf ((x.1, ([], ())) :: r) k).map fun x => x.2.1) = _ ∨ ((jbf ((x.1, ([], ())) :: r) k).map fun x => x.2.1).getD [] = []
      by_cases c : x.1 = k
      · right; simp [jbf, List.find?_cons, c]
      · left; simp [jbf, List.find?_cons, c]
    | succ i =>
      have hi' : i < r.length := by simpa using hi
      have e : rdd jap (x :: r) (i + 1) = rdd jap r i := by rw [jbz hi', jbz hi]; rfl
      rw [e]
      show ((jbf (x :: r.set i _) k).map fun x => x.2.1) = _ ∨ ((jbf (x :: r.set i _) k).map fun x => x.2.1).getD [] = []
      by_cases c : x.1 = k
      · left; simp [jbf, List.find?_cons, c]
      · have := ih i hi'
        simp only [jbf, List.find?_cons, c, decide_false] at this ⊢
        exact this
theorem ofV_less {d c : jaa} (h : LessC d c) (hc : Cfg c) (hn : ¬ jcx c) (x : ObjS) : HC d x ≤ HC c x ∧ ¬ jcx d :=
  ⟨h.H (hc.sol.ends hn x), fun k => hn (h.ring k)⟩
end Go.AMach

/- Layer 24: BoundParts: what a block and a table come to. -/
namespace Go.AMach
set_option linter.unusedVariables false
set_option linter.unusedSimpArgs false
set_option linter.unnecessarySimpa false
open Go
set_option linter.unusedVariables false

theorem jrs {x : Int} (h : InR x) : cut7 x = x := by unfold InR at h; unfold cut7; split <;> omega
theorem jBI {z : jbB} {k : Int} : ∀ {l : List jbB} {i : Nat}, (∀ j, j < i → (rdd z l j).1 ≠ k) → i < l.length → (rdd z l i).1 = k → jbf l k = some (rdd z l i)
  | [], i, _, h, _ => by simp at h
  | x :: r, 0, _, _, h => by
    have : (rdd z (x :: r) 0) = x := rfl
    rw [this] at h ⊢
    simp [jbf, List.find?_cons, h]
  | x :: r, i + 1, hj, hl, h => by
    have h0 : x.1 ≠ k := hj 0 (by omega)
    have e : rdd z (x :: r) (i + 1) = rdd z r i := by
      have hl' : i < r.length := by simpa using hl
      rw [jbz hl', jbz hl]; rfl
    rw [e] at h ⊢
    have ih := jBI (z := z) (k := k) (l := r) (i := i) (fun j hj' => by
      have := hj (j + 1) (by omega)
      have e2 : rdd z (x :: r) (j + 1) = rdd z r j := by
        have hl' : j < r.length := by simp at hl; omega
        rw [jbz hl', jbz (by simp; omega)]; rfl
      rwa [e2] at this) (by simpa using hl) h
    rw [← ih]
    simp [jbf, List.find?_cons, h0]
theorem jvl {z : jbl} {k : Int} : ∀ {l : List jbl} {i : Nat}, (∀ j, j < i → (rdd z l j).1 ≠ k) → i < l.length → (rdd z l i).1 = k → jbI l k = some (rdd z l i)
  | [], i, _, h, _ => by simp at h
  | x :: r, 0, _, _, h => by
    have : (rdd z (x :: r) 0) = x := rfl
    rw [this] at h ⊢
    simp [jbI, List.find?_cons, h]
  | x :: r, i + 1, hj, hl, h => by
    have h0 : x.1 ≠ k := hj 0 (by omega)
    have e : rdd z (x :: r) (i + 1) = rdd z r i := by
      have hl' : i < r.length := by simpa using hl
      rw [jbz hl', jbz hl]; rfl
    rw [e] at h ⊢
    have ih := jvl (z := z) (k := k) (l := r) (i := i) (fun j hj' => by
      have := hj (j + 1) (by omega)
      have e2 : rdd z (x :: r) (j + 1) = rdd z r j := by
        have hl' : j < r.length := by simp at hl; omega
        rw [jbz hl', jbz (by simp; omega)]; rfl
      rwa [e2] at this) (by simpa using hl) h
    rw [← ih]
    simp [jbI, List.find?_cons, h0]

/-- A block's number, by its first instruction. -/
theorem H_block {c : jaa} (hc : Cfg c) (hn : ¬ jcx c) {id : Int} {x : jbB} (hf : jbf (cB c) id = some x) {i : jaj} {r : List jaj} (hx : x.2.1 = i :: r) :
    HC c (1, (id, ())) = cut7 (1 + jcr (HC c) i r.length (jbb (HC c) r)) := by
  refine Eq.trans (H_eq (hc.sol.ends hn (1, (id, ())))) ?_
  unfold jfd
  rw [if_neg (by show ¬ ((1 : Int) = 0); omega), if_pos rfl]
  have : jcf c id = some (i :: r) := by unfold jcf; rw [hf, ← hx]; rfl
  show cut7 (rdd 0 (jbb (HC c) ((jcf c id).getD [])) 0) = _
  rw [this]
  have hi : InR (jcr (HC c) i r.length (jbb (HC c) r)) := jyx (H_in (jdb c) (jcf c) (jdt c)) i r.length (jcZ (H_in (jdb c) (jcf c) (jdt c)) r)
  exact jrs (jfs (by have := hi.1; show 0 ≤ 1 + _; omega))
/-- With the rest of a block's code in its place. -/
abbrev jkz (c : jaa) (id : Int) (r : List jaj) : jaa := (c.1, (c.2.1, (c.2.2.1, (c.2.2.2.1, ((id, (r, ())) :: c.2.2.2.2.1, c.2.2.2.2.2)))))
theorem jnd (c : jaa) (id : Int) (r : List jaj) (k : Int) : jcf (jkz c id r) k = if k = id then some r else jcf c k := by
  unfold jcf jbf
  show (((id, (r, ())) :: cB c).find? _).map _ = _
  rw [List.find?_cons]
  by_cases h : k = id
  · rw [if_pos h]; simp [h]
  · rw [if_neg h]
    have : ¬ id = k := fun e => h e.symm
    simp [this]
theorem jpl {c : jaa} {id : Int} {x : jbB} (hf : jbf (cB c) id = some x) {i : jaj} {r : List jaj} (hx : x.2.1 = i :: r) (z : ObjS) : ∀ y ∈ jbH (jkz c id r) z, y ∈ jbH c z := by
  intro y hy
  unfold jbH jaE at hy ⊢
  by_cases c0 : z.1 = 0
  · rw [if_pos c0] at hy ⊢; exact hy
  · rw [if_neg c0] at hy ⊢
    by_cases c1 : z.1 = 1
    · rw [if_pos c1] at hy ⊢
      rw [jnd] at hy
      by_cases h : z.2.1 = id
      · rw [if_pos h] at hy
        have : jcf c z.2.1 = some (i :: r) := by unfold jcf; rw [h, hf, ← hx]; rfl
        rw [this]
        obtain ⟨j, hj, hjy⟩ := List.mem_flatMap.1 hy
        exact List.mem_flatMap.2 ⟨j, List.mem_cons_of_mem _ hj, hjy⟩
      · rw [if_neg h] at hy; exact hy
    · rw [if_neg c1] at hy ⊢; exact hy
theorem Ends.mono {N N' : ObjS → List ObjS} (h : ∀ x, ∀ y ∈ N' x, y ∈ N x) {x : ObjS} (k : Ends N x) : Ends N' x := by
  induction k with
  | intro x _ ih => exact Acc.intro _ fun y hy => ih y (h x y hy)
theorem jAT {c : jaa} {id : Int} {x : jbB} (hf : jbf (cB c) id = some x) {i : jaj} {r : List jaj} (hx : x.2.1 = i :: r) (hn : ¬ jcx c) : ¬ jcx (jkz c id r) :=
  fun ⟨z, hz⟩ => hn ⟨z, hz.mono (jpl hf hx)⟩
theorem rest_H {c : jaa} {id : Int} {x : jbB} (hf : jbf (cB c) id = some x) {i : jaj} {r : List jaj} (hx : x.2.1 = i :: r) {z : ObjS} (hz : Ends (jbH c) z) :
    (∀ w, (w = z ∨ Reach (jbH c) z w) → w ≠ (1, (id, ()))) → HC (jkz c id r) z = HC c z := by
  induction hz with
  | intro z hh ih =>
    intro hw
    have h1 := H_eq (Acc.intro z hh : Ends (jbH c) z)
    have h2 := H_eq (Ends.mono (jpl hf hx) (Acc.intro z hh : Ends (jbH c) z))
    refine Eq.trans h2 (Eq.trans ?_ h1.symm)
    have e1 : jfd (jdb (jkz c id r)) (jcf (jkz c id r)) (jdt (jkz c id r)) (HC (jkz c id r)) z = jfd (jdb c) (jcf c) (jdt c) (HC (jkz c id r)) z := by
      unfold jfd
      by_cases c0 : z.1 = 0
      · rw [if_pos c0, if_pos c0]; rfl
      · rw [if_neg c0, if_neg c0]
        by_cases c1 : z.1 = 1
        · rw [if_pos c1, if_pos c1, jnd]
          have : ¬ z.2.1 = id := fun e => hw z (.inl rfl) (by
            obtain ⟨a, b, u⟩ := z
            simp only at c1 e
            subst c1; subst e; rfl)
          rw [if_neg this]
        · rw [if_neg c1, if_neg c1]; rfl
    refine Eq.trans e1 (jeR fun y hy => ih y hy fun w h => hw w ?_)
    rcases h with rfl | h
    · exact .inr (.one hy)
    · exact .inr ((Reach.one hy).trans h)
theorem H_rest {c : jaa} (hc : Cfg c) (hn : ¬ jcx c) {id : Int} {x : jbB} (hf : jbf (cB c) id = some x) {i : jaj} {r : List jaj} (hx : x.2.1 = i :: r) (hd : Cfg (jkz c id r)) :
    HC (jkz c id r) (1, (id, ())) = rdd 0 (jbb (HC c) r) 0 := by
  have hnd := jAT hf hx hn
  refine Eq.trans (H_eq (hd.sol.ends hnd (1, (id, ())))) ?_
  unfold jfd
  rw [if_neg (by show ¬ ((1 : Int) = 0); omega), if_pos rfl, jnd, if_pos rfl]
  show cut7 (rdd 0 (jbb (HC (jkz c id r)) r) 0) = _
  have e : jbb (HC (jkz c id r)) r = jbb (HC c) r := jif fun j hj y hy => by
    have hy1 : y ∈ jbH c (1, (id, ())) := by
      unfold jbH jaE
      rw [if_neg (by show ¬ ((1 : Int) = 0); omega), if_pos rfl]
      have : jcf c id = some (i :: r) := by unfold jcf; rw [hf, ← hx]; rfl
      show y ∈ ((jcf c id).getD []).flatMap jfr
      rw [this]
      exact List.mem_flatMap.2 ⟨j, List.mem_cons_of_mem _ hj, hy⟩
    refine rest_H hf hx (hc.sol.ends hn y) fun w h e => hn ⟨(1, (id, ())), ?_⟩
    subst e
    rcases h with h | h
    · exact .one (by rw [← h] at hy1; exact hy1)
    · exact (Reach.one hy1).trans h
  rw [e]
  exact jrs (jfB (jcZ (H_in _ _ _) r) 0)
/-- A table's number. -/
theorem H_table {c : jaa} (hc : Cfg c) (hn : ¬ jcx c) {id : Int} {t : jbl} (hf : jbI (cT c) id = some t) :
    HC c (0, (id, ())) = cut7 (1 + ((cE c).filter fun x => decide (x.1 = id)).foldl (fun n x => mx n (HC c (1, (eB x, ())))) (HC c (1, (tM t, ())))) := by
  refine Eq.trans (H_eq (hc.sol.ends hn (0, (id, ())))) ?_
  unfold jfd
  rw [if_pos rfl]
  have : jdb c id = some (tM t :: ((cE c).filter fun x => decide (x.1 = id)).map eB) := by unfold jdb; rw [hf]; rfl
  show cut7 (match jdb c id with | none => 0 | some l => jeZ (HC c) l + 1) = _
  rw [this]
  show cut7 (jeZ (HC c) (tM t :: ((cE c).filter fun x => decide (x.1 = id)).map eB) + 1) = _
  unfold jeZ
  rw [List.foldl_cons, List.foldl_map, Int.add_comm]
  have h0 : mx 0 (HC c (1, (tM t, ()))) = HC c (1, (tM t, ())) := by
    have : InR (HC c (1, (tM t, ()))) := H_in _ _ _ _
    unfold InR at this; unfold mx; split <;> omega
  rw [h0]
end Go.AMach

/- Layer 24: BoundParts, the law. -/
namespace Go.AMach
set_option linter.unusedVariables false
set_option linter.unusedSimpArgs false
set_option linter.unnecessarySimpa false
open Go
set_option linter.unusedVariables false

theorem jzr {c : jaa} (h : Cfg c) (hn : ¬ jcx c) (k : Int) : jCq c k = some ((HC c (1, (k, ())), (0, ())), ()) := by
  have := jxY h k
  have e : ofV c (1, (k, ())) = (HC c (1, (k, ())), 0) := by unfold ofV; rw [if_neg hn]
  rw [e] at this; exact this
theorem jEZ {c : jaa} (h : Cfg c) (hn : ¬ jcx c) (k : Int) : jCp c k = some ((HC c (0, (k, ())), (0, ())), ()) := by
  have := jxV h k
  have e : ofV c (0, (k, ())) = (HC c (0, (k, ())), 0) := by unfold ofV; rw [if_neg hn]
  rw [e] at this; exact this
theorem Q_Group' {c : jaa} (h : Cfg c) (hn : ¬ jcx c) (k : Int) : jCo c k = some ((HC c (2, (k, ())), (0, ())), ()) := by
  have := jxW h k
  have e : ofV c (2, (k, ())) = (HC c (2, (k, ())), 0) := by unfold ofV; rw [if_neg hn]
  rw [e] at this; exact this
theorem cutW {x : Int} (h : InR x) : (if (IntKind.wrap .i64 ((1 : Int) + x)) < (65537 : Int) then (IntKind.wrap .i64 ((1 : Int) + x)) else (65537 : Int)) = cut7 (1 + x) := by
  rw [jbA (by unfold InR at h; omega)]; rfl
theorem beqSelf {a b : Int} (h : a = b) : (a == b) = true := jbV h

/-! ### The table -/
theorem L_BP5 (kt : Int → Option Res) {c : jaa} (h : Cfg c) (hn : ¬ jcx c) (id : Int) : ∀ (m i : Nat) (n : Int), i ≤ (cE c).length → (cE c).length - i < m →
    jkU FUEL kt id c m n (i : Int) = kt ((((cE c).drop i).filter fun x => decide (x.1 = id)).foldl (fun n x => mx n (HC c (1, (eB x, ())))) n)
  | 0, _, _, _, h => by omega
  | m + 1, i, n, hi, hm => by
    have hle := h.e
    show jsI FUEL kt id c (jkU FUEL kt id c m) n (i : Int) = _
    unfold jsI
    by_cases hlt : i < (cE c).length
    · refine jai (decide_eq_true (by show (i : Int) < ((cE c).length : Int); omega)) ?_
      refine jai (decide_eq_true (by show (0 : Int) ≤ (i : Int) ∧ (i : Int) < ((cE c).length : Int); omega)) ?_
      rw [jan, jaF jaT hlt, List.filter_cons]
      by_cases he : (rdd jaT (cE c) i).1 = id
      · refine jai (jbV he) ?_
        refine jai (decide_eq_true (by show (0 : Int) ≤ (i : Int) ∧ (i : Int) < ((cE c).length : Int); omega)) ?_
        have e1 := jzr h hn (rdd jaT (cE c) i).2.2.2.2.2.1
        extract_lets -merge +onlyGivenNames y20
        have e_y : y20 = _ := (congrArg RS.get e1).trans (jaw _)
        clear_value y20; subst e_y
        refine jaL e1 ?_
        rw [jaA (by omega), if_pos (decide_eq_true he), List.foldl_cons]
        exact L_BP5 kt h hn id m (i + 1) (mx n (HC c (1, (eB (rdd jaT (cE c) i), ())))) (by omega) (by omega)
      · refine jaq (jbi he) ?_
        rw [jaA (by omega), if_neg (by rw [decide_eq_false he]; decide)]
        exact L_BP5 kt h hn id m (i + 1) n (by omega) (by omega)
    · refine jaq (decide_eq_false (by show ¬ (i : Int) < ((cE c).length : Int); omega)) ?_
      rw [List.drop_of_length_le (by omega)]
      rfl
theorem L_BP3 (kr : Bool → Option Res) (kt : Unit → Option Res) {c : jaa} (h : Cfg c) (hn : ¬ jcx c) (id : Int) : ∀ (m i : Nat), i ≤ (cT c).length → (cT c).length - i < m → (∀ j, j < i → (rdd jaD (cT c) j).1 ≠ id) →
    jgT FUEL kr kt id c m (i : Int) = kt () ∨ jgT FUEL kr kt id c m (i : Int) = kr true
  | 0, _, _, h, _ => by omega
  | m + 1, i, hi, hm, hj => by
    have hle := h.t
    have hle2 := h.e
    show joo FUEL kr kt id c (jgT FUEL kr kt id c m) (i : Int) = _ ∨ joo FUEL kr kt id c (jgT FUEL kr kt id c m) (i : Int) = _
    unfold joo
    by_cases hlt : i < (cT c).length
    · by_cases he : (rdd jaD (cT c) i).1 = id
      · right
        refine jai (decide_eq_true (by show (i : Int) < ((cT c).length : Int); omega)) ?_
        refine jai (decide_eq_true (by show (0 : Int) ≤ (i : Int) ∧ (i : Int) < ((cT c).length : Int); omega)) ?_
        rw [jan]
        refine jaq (by show ((rdd jaD (cT c) i).1 != id) = false; rw [jcs, decide_eq_true he]; rfl) ?_
        have e1 := jEZ h hn id
        have e2 := jzr h hn (rdd jaD (cT c) i).2.2.2.2.1
        have hv := H_table h hn (jvl hj hlt he)
        extract_lets -merge +onlyGivenNames y18
        have e_y : y18 = _ := (congrArg RS.get e1).trans (jaw _)
        clear_value y18; subst e_y
        refine jaL e1 ?_
        refine jai (decide_eq_true (by show (0 : Int) ≤ (i : Int) ∧ (i : Int) < ((cT c).length : Int); omega)) ?_
        extract_lets -merge +onlyGivenNames y19
        have e_y : y19 = _ := (congrArg RS.get e2).trans (jaw _)
        clear_value y19; subst e_y
        refine jaL e2 ?_
        refine Eq.trans (L_BP5 _ h hn id FUEL 0 _ (by omega) (jaU (by omega))) ?_
        rw [List.drop_zero]
        have hin : InR (((cE c).filter fun x => decide (x.1 = id)).foldl (fun n x => mx n (HC c (1, (eB x, ())))) (HC c (1, ((rdd jaD (cT c) i).2.2.2.2.1, ())))) := by
          have : ∀ (l : List jgm) (n : Int), InR n → InR (l.foldl (fun n x => mx n (HC c (1, (eB x, ())))) n) := by
            intro l
            induction l with
            | nil => intro n h; exact h
            | cons x r ih => intro n h; exact ih _ (jre h (H_in _ _ _ _))
          exact this _ _ (H_in _ _ _ _)
        show kr (HC c (0, (id, ())) == (if (IntKind.wrap .i64 ((1 : Int) + ((cE c).filter fun x => decide (x.1 = id)).foldl (fun n x => mx n (HC c (1, (eB x, ())))) (HC c (1, ((rdd jaD (cT c) i).2.2.2.2.1, ()))))) < (65537 : Int) then (IntKind.wrap .i64 ((1 : Int) + ((cE c).filter fun x => decide (x.1 = id)).foldl (fun n x => mx n (HC c (1, (eB x, ())))) (HC c (1, ((rdd jaD (cT c) i).2.2.2.2.1, ()))))) else (65537 : Int))) = _
        rw [cutW hin, beqSelf hv]
      · rcases L_BP3 kr kt h hn id m (i + 1) (by omega) (by omega) (fun j hj' => by
          by_cases e : j = i
          · rw [e]; exact he
          · exact hj j (by omega)) with e | e
        · left
          refine jai (decide_eq_true (by show (i : Int) < ((cT c).length : Int); omega)) ?_
          refine jai (decide_eq_true (by show (0 : Int) ≤ (i : Int) ∧ (i : Int) < ((cT c).length : Int); omega)) ?_
          rw [jan]
          refine jai (by show ((rdd jaD (cT c) i).1 != id) = true; rw [jcs, decide_eq_false he]; rfl) ?_
          rw [jaA (by omega)]
          exact e
        · right
          refine jai (decide_eq_true (by show (i : Int) < ((cT c).length : Int); omega)) ?_
          refine jai (decide_eq_true (by show (0 : Int) ≤ (i : Int) ∧ (i : Int) < ((cT c).length : Int); omega)) ?_
          rw [jan]
          refine jai (by show ((rdd jaD (cT c) i).1 != id) = true; rw [jcs, decide_eq_false he]; rfl) ?_
          rw [jaA (by omega)]
          exact e
    · left
      refine jaq (decide_eq_false (by show ¬ (i : Int) < ((cT c).length : Int); omega)) ?_
      rfl
end Go.AMach

/- Layer 24: the reference's numbers of a table and a group. -/
namespace Go.AMach
set_option linter.unusedVariables false
set_option linter.unusedSimpArgs false
set_option linter.unnecessarySimpa false
open Go
set_option linter.unusedVariables false

theorem jzq (a : Int) : jEx a = some ((cut7 a, ()), ()) := by
  refine fin ?_
  unfold jFp cut7
  have : (if (65537 : Int) < a then (65537 : Int) else a) = if a < 65537 then a else 65537 := by split <;> split <;> omega
  rw [this]
/-- What is reckoned so far, of an object. -/
def FL (l : List jao) (x : ObjS) : Int := jbE l (x.1 + 1) x.2.1
def SpOk (l : List jao) : Prop := ∀ x ∈ l, InR x.2.2.1
theorem jdc {l : List jao} (h : SpOk l) (k id : Int) : InR (jbE l k id) := by
  unfold jbE
  cases hf : jbg l k id with
  | none => exact (show InR 0 from ⟨by omega, by omega⟩)
  | some j => exact h _ (jbn (jcO hf).1)

theorem jsF (kt : Int → Option Res) (l : List jao) (hl : l.length < 9223372036854775807) {c : jaa} (hle : (cE c).length ≤ 1000) (t : jbl) : ∀ (m i : Nat) (n : Int), i ≤ (cE c).length → (cE c).length - i < m →
    jlh FUEL kt l c t m n (i : Int) = kt ((((cE c).drop i).filter fun x => decide (x.1 = t.1)).foldl (fun n x => mx n (FL l (1, (eB x, ())))) n)
  | 0, _, _, _, h => by omega
  | m + 1, i, n, hi, hm => by
    show jtc FUEL kt l c t (jlh FUEL kt l c t m) n (i : Int) = _
    unfold jtc
    by_cases hlt : i < (cE c).length
    · refine jai (decide_eq_true (by show (i : Int) < ((cE c).length : Int); omega)) ?_
      refine jai (decide_eq_true (by show (0 : Int) ≤ (i : Int) ∧ (i : Int) < ((cE c).length : Int); omega)) ?_
      rw [jan, jaF jaT hlt, List.filter_cons]
      by_cases he : (rdd jaT (cE c) i).1 = t.1
      · refine jai (jbV he) ?_
        refine jai (decide_eq_true (by show (0 : Int) ≤ (i : Int) ∧ (i : Int) < ((cE c).length : Int); omega)) ?_
        have e1 := jhn l hl 2 (rdd jaT (cE c) i).2.2.2.2.2.1
        extract_lets -merge +onlyGivenNames y2
        have e_y : y2 = _ := (congrArg RS.get e1).trans (jaw _)
        clear_value y2; subst e_y
        refine jaL e1 ?_
        rw [jaA (by omega), if_pos (decide_eq_true he), List.foldl_cons]
        exact jsF kt l hl hle t m (i + 1) (mx n (FL l (1, (eB (rdd jaT (cE c) i), ())))) (by omega) (by omega)
      · refine jaq (jbi he) ?_
        rw [jaA (by omega), if_neg (by rw [decide_eq_false he]; decide)]
        exact jsF kt l hl hle t m (i + 1) n (by omega) (by omega)
    · refine jaq (decide_eq_false (by show ¬ (i : Int) < ((cE c).length : Int); omega)) ?_
      rw [List.drop_of_length_le (by omega)]
      rfl
def tabR (l : List jao) (c : jaa) (t : jbl) : Int := cut7 (1 + ((cE c).filter fun x => decide (x.1 = t.1)).foldl (fun n x => mx n (FL l (1, (eB x, ())))) (FL l (1, (tM t, ()))))
theorem jEU {l : List jao} (hl : l.length < 9223372036854775807) (hs : SpOk l) {c : jaa} (hle : (cE c).length ≤ 1000) (t : jbl) : jEw l c t = some ((tabR l c t, ()), ()) := by
  have e1 := jhn l hl 2 t.2.2.2.2.1
  have hin : InR (((cE c).filter fun x => decide (x.1 = t.1)).foldl (fun n x => mx n (FL l (1, (eB x, ())))) (FL l (1, (tM t, ())))) := by
    have : ∀ (q : List jgm) (n : Int), InR n → InR (q.foldl (fun n x => mx n (FL l (1, (eB x, ())))) n) := by
      intro q
      induction q with
      | nil => intro n h; exact h
      | cons x r ih => intro n h; exact ih _ (jre h (jdc hs _ _))
    exact this _ _ (jdc hs _ _)
  refine fin ?_
  unfold jFo
  extract_lets -merge +onlyGivenNames y1
  have e_y : y1 = _ := (congrArg RS.get e1).trans (jaw _)
  clear_value y1; subst e_y
  refine jaL e1 ?_
  refine Eq.trans (jsF _ l hl hle t FUEL 0 (FL l (1, (tM t, ()))) (by omega) (jaU (by omega))) ?_
  rw [List.drop_zero]
  have w : IntKind.wrap .i64 ((1 : Int) + ((cE c).filter fun x => decide (x.1 = t.1)).foldl (fun n x => mx n (FL l (1, (eB x, ())))) (FL l (1, (tM t, ())))) = 1 + ((cE c).filter fun x => decide (x.1 = t.1)).foldl (fun n x => mx n (FL l (1, (eB x, ())))) (FL l (1, (tM t, ()))) := jbA (by unfold InR at hin; omega)
  have e2 := jzq (1 + ((cE c).filter fun x => decide (x.1 = t.1)).foldl (fun n x => mx n (FL l (1, (eB x, ())))) (FL l (1, (tM t, ()))))
  rw [← w] at e2
  extract_lets -merge +onlyGivenNames y4
  have e_y : y4 = _ := (congrArg RS.get e2).trans (jaw _)
  clear_value y4; subst e_y
  refine jaL e2 ?_
  rw [w]
  rfl
theorem jzu (kt : Int → Int → Option Res) (l : List jao) (hl : l.length < 9223372036854775807) (hs : SpOk l) (g : jal) (hg : g.2.2.2.1.length ≤ 100000) : ∀ (m i : Nat) (n k : Int), i ≤ g.2.2.2.1.length → g.2.2.2.1.length - i < m → InR n →
    jlg FUEL kt l g m n k (i : Int) = kt ((g.2.2.2.1.drop i).foldl (fun n (b : jbt) => cut7 (n + FL l (1, b.2))) n) ((g.2.2.2.1.drop i).foldl (fun n (b : jbt) => mx n (FL l (1, b.2))) k)
  | 0, _, _, _, _, h, _ => by omega
  | m + 1, i, n, k, hi, hm, hn => by
    show jtb FUEL kt l g (jlg FUEL kt l g m) n k (i : Int) = _
    unfold jtb
    by_cases hlt : i < g.2.2.2.1.length
    · refine jai (decide_eq_true (by omega)) ?_
      refine jai (decide_eq_true (by omega)) ?_
      rw [jan, jaF jba hlt, List.foldl_cons, List.foldl_cons]
      have e1 := jhn l hl 2 (rdd jba g.2.2.2.1 i).2.1
      have hst : InR (FL l (1, (rdd jba g.2.2.2.1 i).2)) := jdc hs _ _
      have w : IntKind.wrap .i64 (n + FL l (1, (rdd jba g.2.2.2.1 i).2)) = n + FL l (1, (rdd jba g.2.2.2.1 i).2) := jbA (by unfold InR at hst hn; omega)
      have e2 := jzq (n + FL l (1, (rdd jba g.2.2.2.1 i).2))
      rw [← w] at e2
      extract_lets -merge +onlyGivenNames y1
      have e_y : y1 = _ := (congrArg RS.get e1).trans (jaw _)
      clear_value y1; subst e_y
      refine jaL e1 ?_
      extract_lets -merge +onlyGivenNames y2
      have e_y : y2 = _ := (congrArg RS.get e2).trans (jaw _)
      clear_value y2; subst e_y
      refine jaL e2 ?_
      rw [w, jaA (by omega)]
      exact jzu kt l hl hs g hg m (i + 1) (cut7 (n + FL l (1, (rdd jba g.2.2.2.1 i).2))) (mx k (FL l (1, (rdd jba g.2.2.2.1 i).2))) (by omega) (by omega) (jfs (by unfold InR at hst hn; omega))
    · refine jaq (decide_eq_false (by omega)) ?_
      rw [List.drop_of_length_le (by omega)]
      rfl
theorem jEX {l : List jao} (hl : l.length < 9223372036854775807) (hs : SpOk l) (g : jal) (hg : g.2.2.2.1.length ≤ 100000) : jEu l g = some ((jcP (FL l) g.2.1 g.2.2.2.1, ()), ()) := by
  refine fin ?_
  unfold jFm
  refine Eq.trans (jzu _ l hl hs g hg FUEL 0 0 0 (by omega) (jaU (by omega)) ⟨by omega, by omega⟩) ?_
  rw [List.drop_zero]
  unfold jcP
  by_cases c : g.2.1 = 1
  · refine jai (jbV c) ?_
    simp only [c, if_true]
  · refine jaq (jbi c) ?_
    simp only [c, if_false]
end Go.AMach
