/- Layer 18: the parts of a key; texts joined. -/
import Derived.Test.YtcngpijmkdpbgaaDx
import Derived.Test.YtcngpijmkdpbgaaAm23
import Derived.Laws.Strings
namespace Go.AMach
set_option linter.unusedVariables false
set_option linter.unusedSimpArgs false
set_option linter.unnecessarySimpa false
set_option linter.unusedVariables false

/-! -: Texts -/
theorem ba_ext {a b : ByteArray} (h : a.data.toList = b.data.toList) : a = b := by
  cases a; cases b; simpa using h
theorem toList_beq (a b : ByteArray) : (ByteArray.toList a == ByteArray.toList b) = decide (a = b) := by
  rw [ByteArray.toList_eq, ByteArray.toList_eq]
  by_cases h : a = b
  · simp [h]
  · rw [decide_eq_false h]
    have : a.data.toList ≠ b.data.toList := fun e => h (ba_ext e)
    simpa using this
theorem ex_list (s : ByteArray) (a b : Nat) : (s.extract a b).data.toList = (s.data.toList.take b).drop a := by
  simp [ByteArray.data_extract, List.drop_take]
theorem ex_size (s : ByteArray) (a b : Nat) : (s.extract a b).size = min b s.size - a := by simp
theorem size_list (s : ByteArray) : s.data.toList.length = s.size := by simp
theorem app_list (a b : ByteArray) : (a ++ b).data.toList = a.data.toList ++ b.data.toList := by simp
theorem app_size (a b : ByteArray) : (a ++ b).size = a.size + b.size := by simp
theorem app_empty (a : ByteArray) : a ++ ByteArray.empty = a := ba_ext (by simp)
theorem empty_app (a : ByteArray) : ByteArray.empty ++ a = a := ba_ext (by simp)
theorem app_assoc (a b c : ByteArray) : a ++ b ++ c = a ++ (b ++ c) := ba_ext (by simp)
theorem ex_left (a b : ByteArray) : (a ++ b).extract 0 a.size = a := ba_ext (by rw [ex_list, app_list, List.drop_zero, ← size_list]; simp)
theorem ex_right (a b : ByteArray) : (a ++ b).extract a.size (a ++ b).size = b := ba_ext (by rw [ex_list, app_size, app_list, ← size_list, ← size_list, List.take_of_length_le (by simp)]; simp)
theorem ex_join (s : ByteArray) (k : Nat) (h : k ≤ s.size) : s.extract 0 k ++ s.extract k s.size = s := ba_ext (by
  rw [app_list, ex_list, ex_list, List.drop_zero, List.take_of_length_le (i := s.size) (l := s.data.toList) (by rw [size_list]; omega)]; exact List.take_append_drop _ _)
theorem size_zero {s : ByteArray} (h : s.size = 0) : s = ByteArray.empty := ba_ext (by
  have := size_list s; rw [h] at this
  rw [List.eq_nil_of_length_eq_zero this]; rfl)

/-- Texts, one behind the other. -/
def cat : List ByteArray → ByteArray
  | [] => ByteArray.empty
  | x :: r => x ++ cat r
theorem cat_append (l m : List ByteArray) : cat (l ++ m) = cat l ++ cat m := by
  induction l with
  | nil => exact (empty_app _).symm
  | cons x l ih => show x ++ cat (l ++ m) = x ++ cat l ++ cat m; rw [ih, app_assoc]
theorem joinL_cat : ∀ l : List ByteArray, joinL l (ByteArray.mk #[]) = cat l
  | [] => rfl
  | [x] => (app_empty x).symm
  | x :: y :: r => by
    show x ++ ByteArray.empty ++ joinL (y :: r) (ByteArray.mk #[]) = x ++ cat (y :: r)
    rw [joinL_cat (y :: r), app_empty]

/-! ### The same texts? -/
/-! -: Segments -/
/-- May these be widths? -/
def wOk (l : List Int) : Prop := ∀ w ∈ l, 0 ≤ w ∧ w ≤ 16
instance (l : List Int) : Decidable (wOk l) := by unfold wOk; infer_instance
def wSum : List Int → Nat
  | [] => 0
  | w :: r => w.toNat + wSum r
def parts : ByteArray → List Int → List ByteArray
  | _, [] => []
  | s, w :: r => s.extract 0 w.toNat :: parts (s.extract w.toNat s.size) r
theorem parts_length : ∀ (s : ByteArray) (l : List Int), (parts s l).length = l.length
  | _, [] => rfl
  | s, w :: r => by simp [parts, parts_length]
theorem wOk_cons {w : Int} {r : List Int} : wOk (w :: r) ↔ (0 ≤ w ∧ w ≤ 16) ∧ wOk r := by simp [wOk]
theorem wSum_le : ∀ {l : List Int}, wOk l → wSum l ≤ 16 * l.length
  | [], _ => by simp [wSum]
  | w :: r, h => by
    have := wSum_le (wOk_cons.1 h).2
    have := (wOk_cons.1 h).1
    simp only [wSum, List.length_cons]; omega
/-- What Segments tells: parts and number. -/
def segV (s : ByteArray) (l : List Int) : List ByteArray × Int :=
  if wOk l then (if s.size < wSum l then ([], 4) else if wSum l < s.size then ([], 5) else (parts s l, 0)) else ([], 1)

/-! ### There and back -/
theorem parts_cat : ∀ l : List ByteArray, parts (cat l) (l.map fun x => (x.size : Int)) = l
  | [] => rfl
  | x :: r => by
    show (x ++ cat r).extract 0 x.size :: parts ((x ++ cat r).extract x.size (x ++ cat r).size) _ = _
    rw [ex_left, ex_right, parts_cat r]
theorem cat_parts : ∀ (l : List Int) (s : ByteArray), wOk l → wSum l = s.size → cat (parts s l) = s
  | [], s, _, h => (size_zero h.symm).symm
  | w :: r, s, hw, h => by
    simp only [wSum] at h
    show s.extract 0 w.toNat ++ cat (parts (s.extract w.toNat s.size) r) = s
    rw [cat_parts r _ (wOk_cons.1 hw).2 (by rw [ex_size]; omega), ex_join _ _ (by omega)]
theorem wSum_sizes : ∀ l : List ByteArray, wSum (l.map fun x => (x.size : Int)) = (cat l).size
  | [] => rfl
  | x :: r => by
    show (x.size : Int).toNat + wSum _ = (x ++ cat r).size
    rw [wSum_sizes r, app_size, Int.toNat_natCast]
theorem wOk_sizes {l : List ByteArray} (h : ∀ x ∈ l, x.size ≤ 16) : wOk (l.map fun x => (x.size : Int)) := by
  intro w hw
  simp only [List.mem_map] at hw
  obtain ⟨x, hx, rfl⟩ := hw
  have := h x hx
  omega

end Go.AMach
