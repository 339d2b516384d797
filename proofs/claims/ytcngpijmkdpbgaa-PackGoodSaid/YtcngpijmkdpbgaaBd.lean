/- Keys of a packet. -/
import Derived.Test.YtcngpijmkdpbgaaBb
import Derived.Test.YtcngpijmkdpbgaaBc
namespace Go.AMach
set_option linter.unusedVariables false
set_option linter.unusedSimpArgs false
set_option linter.unnecessarySimpa false
open Go
set_option linter.unusedVariables false

theorem sizeV_at {x : NodeS} {s : ByteArray} {a : Int} (h : (sizeV x s a).2 = 0) : 0 ≤ a ∧ a ≤ (s.size : Int) := by
  unfold sizeV at h
  by_cases h1 : ¬ mayL x
  · rw [if_pos h1] at h; simp at h
  rw [if_neg h1] at h
  by_cases h2 : x.2.2.2.1 > 0
  · rw [if_pos h2] at h
    split at h
    · simp at h
    · have := finV_fine h; omega
  · rw [if_neg h2] at h
    have := finV_fine h; omega
theorem W_at (l : List NodeS) (s : ByteArray) : ∀ (f : Nat) (at_ : Int) (x : NodeS), ∀ h ∈ (W l s f at_ x).1, 0 ≤ h.2.1 ∧ h.2.1 ≤ (s.size : Int)
  | 0, at_, x => by simp [W]
  | f + 1, at_, x => by
    simp only [W]
    by_cases c1 : (sizeV x s at_).2 ≠ 0
    · rw [if_pos c1]; simp
    rw [if_neg c1]
    have ha := sizeV_at (Classical.byContradiction fun k => c1 k)
    by_cases c2 : (nextV l x s at_).2 ≠ 0
    · rw [if_pos c2]; simpa using ha
    rw [if_neg c2]
    split
    · simpa using ha
    · rename_i y _
      intro h hh
      rcases List.mem_cons.1 hh with rfl | hh
      · exact ha
      · exact W_at l s f _ y h hh
theorem walkV_at (l : List NodeS) (s : ByteArray) : ∀ h ∈ (walkV l s).1, 0 ≤ h.2.1 ∧ h.2.1 ≤ (s.size : Int) := by
  unfold walkV
  split
  · split
    · exact W_at l s 64 0 _
    · simp
  · simp

/-! ### The bytes of a packet's fields -/
theorem getB_some {b : List Int} {off w : Int} {v : Nat} (h : getB b off w = some v) : 1 ≤ w ∧ w ≤ 128 ∧ v < 2 ^ w.toNat ∧ v < 340282366920938463463374607431768211456 := by
  unfold getB at h
  split at h
  · rename_i k
    cases h
    exact ⟨k.2.1, k.2.2.1, bv_lt _ _ _, bv128 _ _ (by omega)⟩
  · cases h
theorem getF_ok {hs : List HeadS} {b mt : List Int} {f : FieldS} {v : Nat} (h : getF hs b mt f = .ok v) : 1 ≤ f.2.2.2.2.1 ∧ f.2.2.2.2.1 ≤ 128 ∧ v < 2 ^ f.2.2.2.2.1.toNat ∧ v < 340282366920938463463374607431768211456 := by
  unfold getF at h
  split at h
  · cases h
  · split at h
    · cases h
    · rename_i v' hv
      cases h
      exact getB_some hv
theorem getF_err {hs : List HeadS} {b mt : List Int} {f : FieldS} {r : Int} (h : getF hs b mt f = .error r) : r = 1 ∨ r = 3 := by
  unfold getF at h
  split at h
  · cases h; exact .inr rfl
  · split at h
    · cases h; exact .inl rfl
    · cases h
theorem nB_pos {w : Int} (h : 1 ≤ w ∧ w ≤ 128) : nB w ≠ 0 := by unfold nB; rw [if_neg (by omega)]; omega

def keyT (hs : List HeadS) (b mt : List Int) (f : FieldS) : Except Int ByteArray := match getF hs b mt f with
  | .ok v => .ok (textV v f.2.2.2.2.1)
  | .error r => .error r
/-- A key. -/
def keyL (hs : List HeadS) (b mt : List Int) : List FieldS → Except Int ByteArray
  | [] => .ok ByteArray.empty
  | f :: r => match keyT hs b mt f with
    | .error e => .error e
    | .ok s => match keyL hs b mt r with
      | .error e => .error e
      | .ok t => .ok (s ++ t)
abbrev exS (x : Except Int ByteArray) : ByteArray × (Int × Unit) := match x with
  | .ok s => (s, (0, ()))
  | .error e => (ByteArray.empty, (e, ()))

theorem keyL_size {hs : List HeadS} {b mt : List Int} : ∀ {l : List FieldS} {s : ByteArray}, keyL hs b mt l = .ok s → s.size ≤ 16 * l.length
  | [], s, h => by cases h; exact Nat.le_refl 0
  | f :: r, s, h => by
    simp only [keyL] at h
    cases h1 : keyT hs b mt f with
    | error e => rw [h1] at h; cases h
    | ok x =>
      rw [h1] at h
      cases h2 : keyL hs b mt r with
      | error e => rw [h2] at h; cases h
      | ok t =>
        rw [h2] at h
        cases h
        have := keyL_size h2
        have hx : x.size ≤ 16 := by
          unfold keyT at h1
          split at h1
          · rename_i v hv
            cases h1
            rw [textV_size]; have := getF_ok hv; unfold nB; rw [if_neg (by omega)]; omega
          · cases h1
        rw [ByteArray.size_append, List.length_cons]; omega

theorem ofL_key {hs : List HeadS} {b mt : List Int} (P : PkOk hs b mt) (pt : Int) (T : FieldS → HK.sems rh_z17 → Option ((ByteArray × (Int × Unit)) × HK.sems rh_z17))
    (hT : ∀ f, FieldT.good f → T f (pkS hs pt b mt) = some (exS (keyT hs b mt f), pkS hs pt b mt)) : ∀ (l : List FieldS) (acc : ByteArray), (∀ f ∈ l, FieldT.good f) → acc.size + 16 * l.length ≤ 100000000 →
      ofL T l (pkS hs pt b mt) acc = some ((match keyL hs b mt l with | .ok s => (acc ++ s, (0, ())) | .error e => (ByteArray.empty, (e, ()))), pkS hs pt b mt)
  | [], acc, _, _ => by
    simp only [ofL, keyL]
    rw [show acc ++ ByteArray.empty = acc by apply ba_ext'; simp]
  | f :: r, acc, hg, hs' => by
    rw [List.length_cons] at hs'
    simp only [ofL, keyL, hT f (hg f List.mem_cons_self)]
    cases h1 : keyT hs b mt f with
    | error e =>
      have hne : e ≠ 0 := by
        unfold keyT at h1
        split at h1
        · cases h1
        · rename_i r' hr
          cases h1
          have := getF_err hr; omega
      simp only [exS, if_neg hne]
    | ok x =>
      have hx : x.size ≤ 16 := by
        have := keyL_size (hs := hs) (b := b) (mt := mt) (l := [f]) (s := x) (by simp only [keyL, h1]; congr 1; apply ba_ext'; simp)
        simpa using this
      simp only [exS, if_true]
      rw [if_pos (by omega), ofL_key P pt T hT r (acc ++ x) (fun y hy => hg y (List.mem_cons_of_mem _ hy)) (by rw [ByteArray.size_append]; omega)]
      cases keyL hs b mt r with
      | error e => rfl
      | ok t =>
        simp only []
        rw [show acc ++ x ++ t = acc ++ (x ++ t) by apply ba_ext'; simp]

def numX (x : Except Int ByteArray) : Int × (Int × Unit) := match x with
  | .ok s => (((numT s : Nat) : Int), (0, ()))
  | .error e => (0, (e, ()))
theorem keyL_one (hs : List HeadS) (b mt : List Int) (f : FieldS) : keyL hs b mt [f] = keyT hs b mt f := by
  simp only [keyL]
  cases keyT hs b mt f with
  | error e => rfl
  | ok s => simp only []; congr 1; apply ba_ext'; simp
theorem keyL_append (hs : List HeadS) (b mt : List Int) : ∀ (l m : List FieldS), keyL hs b mt (l ++ m) = match keyL hs b mt l with
    | .error e => .error e
    | .ok s => match keyL hs b mt m with
      | .error e => .error e
      | .ok t => .ok (s ++ t)
  | [], m => by
    simp only [List.nil_append, keyL]
    cases keyL hs b mt m with
    | error e => rfl
    | ok t => simp only []; congr 1
  | f :: r, m => by
    simp only [List.cons_append, keyL, keyL_append hs b mt r m]
    cases keyT hs b mt f with
    | error e => rfl
    | ok s =>
      cases keyL hs b mt r with
      | error e => rfl
      | ok t =>
        cases keyL hs b mt m with
        | error e => rfl
        | ok u => simp only []; congr 1; apply ba_ext'; simp
end Go.AMach
