/- Layer 18: the parts of a key; texts joined. -/
import Derived.Test.YtphmidhlgkclgaaDx
import Derived.Test.YtphmidhlgkclgaaAm23
import Derived.Laws.Strings
namespace Go.AMach
set_option linter.unusedVariables false
set_option linter.unusedSimpArgs false
set_option linter.unnecessarySimpa false
set_option linter.unusedVariables false

theorem awake18 : Q_z0v = some ((true, ()), ()) := by kernel_rfl

/-! -: Texts -/
theorem ba_ext {a b : ByteArray} (h : a.data.toList = b.data.toList) : a = b := by
  cases a; cases b; simpa using h
theorem toList_beq (a b : ByteArray) : (ByteArray.toList a == ByteArray.toList b) = decide (a = b) := by
  rw [ByteArray.toList_eq, ByteArray.toList_eq]
  by_cases h : a = b
  · simp [h]
  · rw [decide_eq_false h]
    have : a.data.toList ≠ b.data.toList := fun e => h (ba_ext e)
    simpa using this
theorem ex_list (s : ByteArray) (a b : Nat) : (s.extract a b).data.toList = (s.data.toList.take b).drop a := by
  simp [ByteArray.data_extract, List.drop_take]
theorem ex_size (s : ByteArray) (a b : Nat) : (s.extract a b).size = min b s.size - a := by simp
theorem size_list (s : ByteArray) : s.data.toList.length = s.size := by simp
theorem app_list (a b : ByteArray) : (a ++ b).data.toList = a.data.toList ++ b.data.toList := by simp
theorem app_size (a b : ByteArray) : (a ++ b).size = a.size + b.size := by simp
theorem app_empty (a : ByteArray) : a ++ ByteArray.empty = a := ba_ext (by simp)
theorem empty_app (a : ByteArray) : ByteArray.empty ++ a = a := ba_ext (by simp)
theorem app_assoc (a b c : ByteArray) : a ++ b ++ c = a ++ (b ++ c) := ba_ext (by simp)
theorem ex_left (a b : ByteArray) : (a ++ b).extract 0 a.size = a := ba_ext (by rw [ex_list, app_list, List.drop_zero, ← size_list]; simp)
theorem ex_right (a b : ByteArray) : (a ++ b).extract a.size (a ++ b).size = b := ba_ext (by rw [ex_list, app_size, app_list, ← size_list, ← size_list, List.take_of_length_le (by simp)]; simp)
theorem ex_join (s : ByteArray) (k : Nat) (h : k ≤ s.size) : s.extract 0 k ++ s.extract k s.size = s := ba_ext (by
  rw [app_list, ex_list, ex_list, List.drop_zero, List.take_of_length_le (i := s.size) (l := s.data.toList) (by rw [size_list]; omega)]; exact List.take_append_drop _ _)
theorem size_zero {s : ByteArray} (h : s.size = 0) : s = ByteArray.empty := ba_ext (by
  have := size_list s; rw [h] at this
  rw [List.eq_nil_of_length_eq_zero this]; rfl)

/-- Texts, one behind the other. -/
def cat : List ByteArray → ByteArray
  | [] => ByteArray.empty
  | x :: r => x ++ cat r
theorem cat_append (l m : List ByteArray) : cat (l ++ m) = cat l ++ cat m := by
  induction l with
  | nil => exact (empty_app _).symm
  | cons x l ih => show x ++ cat (l ++ m) = x ++ cat l ++ cat m; rw [ih, app_assoc]
theorem joinL_cat : ∀ l : List ByteArray, joinL l (ByteArray.mk #[]) = cat l
  | [] => rfl
  | [x] => (app_empty x).symm
  | x :: y :: r => by
    show x ++ ByteArray.empty ++ joinL (y :: r) (ByteArray.mk #[]) = x ++ cat (y :: r)
    rw [joinL_cat (y :: r), app_empty]

theorem Q_Join (l : List ByteArray) (h1 : l.length ≤ 1000000) (h2 : (cat l).size ≤ 1000000000) : Q_z0x l = some ((cat l, ()), ()) := by
  have hj : Q_z0w l (ByteArray.mk #[]) = some ((cat l, ()), ()) := by
    unfold Q_z0w joinQ
    rw [joinL_cat, if_pos ⟨by omega, by omega⟩]
  refine fin ?_
  unfold M_z0x
  simp only [ok_z0w, q_z0w, hj, Option.isSome_some, cond_true, RS.get, Option.getD_some]

/-! ### The same texts? -/
theorem L_Texts (l l' : List ByteArray) (hl : l.length = l'.length) (hb : l.length ≤ 1000000) (k : Bool → Option Res) (k0 : Unit → Option Res) : ∀ (m j : Nat), j ≤ l.length → l.length - j < m →
    L_z0u_0 FUEL k k0 l l' m (j : Int) = if l.drop j = l'.drop j then k0 () else k false
  | 0, _, _, h => by omega
  | m + 1, j, hj, hm => by
    show F_z0u_0 FUEL k k0 l l' (L_z0u_0 FUEL k k0 l l' m) (j : Int) = _
    unfold F_z0u_0
    simp only [cond_dec]
    by_cases h : j < l.length
    · rw [if_pos (by omega), if_pos ⟨by omega, by omega⟩, if_pos ⟨by omega, by omega⟩]
      simp only [toNat_cast, toList_beq, i64_succ (show j < 9223372036854775807 by omega)]
      rw [L_Texts l l' hl hb k k0 m (j + 1) (by omega) (by omega), drop_rdd ByteArray.empty h, drop_rdd (l := l') (i := j) ByteArray.empty (by omega)]
      by_cases e : rdd ByteArray.empty l j = rdd ByteArray.empty l' j
      · simp [e]
      · simp [e]
    · rw [if_neg (by omega), List.drop_of_length_le (by omega), List.drop_of_length_le (by omega), if_pos rfl]
theorem Q_Texts (l l' : List ByteArray) (hb : l.length ≤ 1000000) : Q_z0u l l' = some ((decide (l = l'), ()), ()) := by
  refine fin ?_
  unfold M_z0u
  simp only [int_bne]
  by_cases h : l.length = l'.length
  · have : decide (((List.length l : Nat) : Int) = ((List.length l' : Nat) : Int)) = true := by simp [h]
    rw [this, Bool.not_true, cond_false]
    refine Eq.trans (L_Texts l l' h hb _ _ FUEL 0 (by omega) (by unfold FUEL; omega)) ?_
    simp only [List.drop_zero]
    by_cases e : l = l' <;> simp [e]
  · have : decide (((List.length l : Nat) : Int) = ((List.length l' : Nat) : Int)) = false := by simp; omega
    rw [this, Bool.not_false, cond_true]
    have e : l ≠ l' := fun e => h (by rw [e])
    simp [e]

/-! -: Segments -/
/-- May these be widths? -/
def wOk (l : List Int) : Prop := ∀ w ∈ l, 0 ≤ w ∧ w ≤ 16
instance (l : List Int) : Decidable (wOk l) := by unfold wOk; infer_instance
def wSum : List Int → Nat
  | [] => 0
  | w :: r => w.toNat + wSum r
def parts : ByteArray → List Int → List ByteArray
  | _, [] => []
  | s, w :: r => s.extract 0 w.toNat :: parts (s.extract w.toNat s.size) r
theorem parts_length : ∀ (s : ByteArray) (l : List Int), (parts s l).length = l.length
  | _, [] => rfl
  | s, w :: r => by simp [parts, parts_length]
theorem wOk_cons {w : Int} {r : List Int} : wOk (w :: r) ↔ (0 ≤ w ∧ w ≤ 16) ∧ wOk r := by simp [wOk]
theorem wSum_le : ∀ {l : List Int}, wOk l → wSum l ≤ 16 * l.length
  | [], _ => by simp [wSum]
  | w :: r, h => by
    have := wSum_le (wOk_cons.1 h).2
    have := (wOk_cons.1 h).1
    simp only [wSum, List.length_cons]; omega
/-- What Segments tells: parts and number. -/
def segV (s : ByteArray) (l : List Int) : List ByteArray × Int :=
  if wOk l then (if s.size < wSum l then ([], 4) else if wSum l < s.size then ([], 5) else (parts s l, 0)) else ([], 1)

theorem L_Seg0 (l : List Int) (hl : l.length ≤ 1000000) (kr : Nat → Int → List ByteArray → Option Res) (k0 : Int → Option Res) : ∀ (m j a : Nat), j ≤ l.length → l.length - j < m → a ≤ 16 * j →
    L_z0p_0 FUEL kr k0 l (l.length : Int) m (a : Int) (j : Int) = if wOk (l.drop j) then k0 ((a + wSum (l.drop j) : Nat) : Int) else kr 0 1 []
  | 0, _, _, _, h, _ => by omega
  | m + 1, j, a, hj, hm, ha => by
    show F_z0p_0 FUEL kr k0 l (l.length : Int) (L_z0p_0 FUEL kr k0 l (l.length : Int) m) (a : Int) (j : Int) = _
    unfold F_z0p_0
    simp only [cond_dec]
    by_cases h : j < l.length
    · rw [if_pos (by omega), if_pos ⟨by omega, by omega⟩]
      simp only [toNat_cast]
      rw [drop_rdd (0 : Int) h]
      generalize rdd (0 : Int) l j = w
      by_cases h1 : w < 0
      · rw [if_pos h1, if_neg (fun k => by have := (wOk_cons.1 k).1; omega)]
      · rw [if_neg h1]
        by_cases h2 : w > 16
        · rw [if_pos h2, if_neg (fun k => by have := (wOk_cons.1 k).1; omega)]
        · rw [if_neg h2, i64_succ (by omega), IntWalk.i64_in _ (by omega), show (a : Int) + w = ((a + w.toNat : Nat) : Int) by omega, L_Seg0 l hl kr k0 m (j + 1) _ (by omega) (by omega) (by omega)]
          have : wOk (w :: l.drop (j + 1)) ↔ wOk (l.drop (j + 1)) := ⟨fun k => (wOk_cons.1 k).2, fun k => wOk_cons.2 ⟨by omega, k⟩⟩
          simp only [this, wSum, Nat.add_assoc]
    · rw [if_neg (by omega), List.drop_of_length_le (by omega), if_pos (by intro w hw; simp at hw)]
      rfl

theorem L_Seg3 (l : List Int) (hl : l.length ≤ 1000000) (k : Nat → List ByteArray → Option Res) : ∀ (m j : Nat) (s : ByteArray) (acc : List ByteArray), j ≤ l.length → l.length - j < m → acc.length = j → wOk (l.drop j) → wSum (l.drop j) ≤ s.size →
    L_z0p_3 FUEL k l (l.length : Int) m s acc.length (j : Int) acc = k l.length (acc ++ parts s (l.drop j))
  | 0, _, _, _, _, h, _, _, _ => by omega
  | m + 1, j, s, acc, hj, hm, ha, hw, hs => by
    show F_z0p_3 FUEL k l (l.length : Int) (L_z0p_3 FUEL k l (l.length : Int) m) s acc.length (j : Int) acc = _
    unfold F_z0p_3
    simp only [cond_dec, cutL_all]
    by_cases h : j < l.length
    · rw [if_pos (by omega), if_pos ⟨by omega, by omega⟩]
      rw [drop_rdd (0 : Int) h] at hw hs ⊢
      simp only [toNat_cast]
      generalize rdd (0 : Int) l j = w at hw hs ⊢
      simp only [wSum] at hs
      have hw1 := (wOk_cons.1 hw).1
      rw [if_pos ⟨by omega, by omega, by omega⟩, if_pos ⟨by omega, by omega⟩, if_pos ⟨by omega, by omega, by omega⟩, i64_succ (by omega)]
      have hlen : (acc ++ [s.extract (Int.toNat 0) w.toNat]).length = j + 1 := by simp [ha]
      rw [ha] at *
      have := L_Seg3 l hl k m (j + 1) (s.extract w.toNat s.size) (acc ++ [s.extract (Int.toNat 0) w.toNat]) (by omega) (by omega) hlen (wOk_cons.1 hw).2 (by rw [ex_size]; omega)
      rw [hlen] at this
      rw [this]
      simp [parts]
    · rw [if_neg (by omega), List.drop_of_length_le (by omega)]
      simp only [parts, List.append_nil, ha]
      congr 1; omega

theorem Q_Seg (s : ByteArray) (l : List Int) (hl : l.length ≤ 1000000) (hs : s.size ≤ 1000000000) : Q_z0p s l = some (((segV s l).1.length, ((segV s l).2, ())), ((segV s l).1, ())) := by
  refine fin ?_
  unfold M_z0p
  refine Eq.trans (L_Seg0 l hl _ _ FUEL 0 0 (by omega) (by unfold FUEL; omega) (by omega)) ?_
  simp only [List.drop_zero, Nat.zero_add]
  unfold segV
  by_cases h : wOk l
  · rw [if_pos h, if_pos h]
    simp only [cond_dec]
    by_cases h1 : s.size < wSum l
    · rw [if_pos (by omega), if_pos h1]; rfl
    · rw [if_neg (by omega), if_neg h1]
      by_cases h2 : wSum l < s.size
      · rw [if_pos (by omega), if_pos h2]; rfl
      · rw [if_neg (by omega), if_neg h2]
        refine Eq.trans (L_Seg3 l hl _ FUEL 0 s [] (by omega) (by unfold FUEL; omega) rfl h (by rw [List.drop_zero]; omega)) ?_
        simp only [List.drop_zero, List.nil_append, parts_length]
  · rw [if_neg h, if_neg h]; rfl

/-! ### There and back -/
theorem parts_cat : ∀ l : List ByteArray, parts (cat l) (l.map fun x => (x.size : Int)) = l
  | [] => rfl
  | x :: r => by
    show (x ++ cat r).extract 0 x.size :: parts ((x ++ cat r).extract x.size (x ++ cat r).size) _ = _
    rw [ex_left, ex_right, parts_cat r]
theorem cat_parts : ∀ (l : List Int) (s : ByteArray), wOk l → wSum l = s.size → cat (parts s l) = s
  | [], s, _, h => (size_zero h.symm).symm
  | w :: r, s, hw, h => by
    simp only [wSum] at h
    show s.extract 0 w.toNat ++ cat (parts (s.extract w.toNat s.size) r) = s
    rw [cat_parts r _ (wOk_cons.1 hw).2 (by rw [ex_size]; omega), ex_join _ _ (by omega)]
theorem wSum_sizes : ∀ l : List ByteArray, wSum (l.map fun x => (x.size : Int)) = (cat l).size
  | [] => rfl
  | x :: r => by
    show (x.size : Int).toNat + wSum _ = (x ++ cat r).size
    rw [wSum_sizes r, app_size, Int.toNat_natCast]
theorem wOk_sizes {l : List ByteArray} (h : ∀ x ∈ l, x.size ≤ 16) : wOk (l.map fun x => (x.size : Int)) := by
  intro w hw
  simp only [List.mem_map] at hw
  obtain ⟨x, hx, rfl⟩ := hw
  have := h x hx
  omega

theorem L_Back (l : List ByteArray) (hl : l.length ≤ 1000000) (kr : Bool → Option Res) (k0 : Nat → List Int → Option Res) : ∀ (m j : Nat) (acc : List Int), j ≤ l.length → l.length - j < m → acc = (l.take j).map (fun x => (x.size : Int)) →
    L_z0y_0 FUEL kr k0 l m acc.length (j : Int) acc = if ∀ x ∈ l.drop j, x.size ≤ 16 then k0 l.length (l.map fun x => (x.size : Int)) else kr true
  | 0, _, _, _, h, _ => by omega
  | m + 1, j, acc, hj, hm, ha => by
    have hal : acc.length = j := by rw [ha]; simp; omega
    show F_z0y_0 FUEL kr k0 l (L_z0y_0 FUEL kr k0 l m) acc.length (j : Int) acc = _
    unfold F_z0y_0
    simp only [cond_dec, cutL_all]
    by_cases h : j < l.length
    · rw [if_pos (by omega), if_pos ⟨by omega, by omega⟩, drop_rdd ByteArray.empty h]
      simp only [toNat_cast]
      have htake := take_rdd ByteArray.empty h
      generalize rdd ByteArray.empty l j = x at htake ⊢
      by_cases h1 : x.size ≤ 16
      · rw [if_neg (by omega), if_pos ⟨by omega, by omega⟩, if_pos ⟨by omega, by omega⟩, i64_succ (by omega)]
        have hlen : (acc ++ [((x.size : Nat) : Int)]).length = acc.length + 1 := by simp
        rw [← hlen, L_Back l hl kr k0 m (j + 1) _ (by omega) (by omega) (by rw [htake, ha]; simp)]
        have : (∀ y ∈ x :: l.drop (j + 1), y.size ≤ 16) ↔ ∀ y ∈ l.drop (j + 1), y.size ≤ 16 := by simp [h1]
        simp only [this]
      · rw [if_pos (by omega), if_neg (fun k => h1 (k x List.mem_cons_self))]
    · rw [if_neg (by omega), List.drop_of_length_le (by omega), if_pos (by simp)]
      rw [hal, ha, List.take_of_length_le (by omega)]
      congr 1; omega

theorem Pure.KeyBack (l : List ByteArray) (gl : (Ty.slice .str).good l) (s : ByteArray) (gs : Ty.str.good s) (ws : List Int) (gw : (Ty.slice (.int .i64)).good ws) : Q_z0y l s ws = some ((true, ()), ()) := by
  refine fin ?_
  unfold M_z0y
  simp only [ok_z0v, q_z0v, awake18, RS.get, Option.getD_some, Option.isSome_some, cond_true, Bool.not_true, cond_false, cond_dec]
  refine ite_eq (fun _ => rfl) fun c1 => ?_
  refine ite_eq (fun _ => rfl) fun c2 => ?_
  refine ite_eq (fun _ => rfl) fun c3 => ?_
  refine Eq.trans (L_Back l (by omega) _ _ FUEL 0 [] (by omega) (by unfold FUEL; omega) rfl) ?_
  rw [List.drop_zero]
  refine ite_eq (fun h16 => ?_) fun _ => rfl
  have hcat : ∀ (m : List ByteArray), (∀ x ∈ m, x.size ≤ 16) → (cat m).size ≤ 16 * m.length := by
    intro m
    induction m with
    | nil => intro _; simp [cat]
    | cons x m ih =>
      intro h
      have := ih fun y hy => h y (List.mem_cons_of_mem _ hy)
      have := h x List.mem_cons_self
      show (x ++ cat m).size ≤ _
      rw [app_size, List.length_cons]; omega
  have hc := hcat l h16
  simp only [ok_z0x, q_z0x, Q_Join l (by omega) (by omega), RS.get, Option.getD_some, Option.isSome_some, cond_true]
  have hlen : (l.map fun x : ByteArray => (x.size : Int)).length = l.length := by simp
  have hcut : cutL (0 : Int) (l.map fun x : ByteArray => (x.size : Int)) 0 l.length = l.map fun x : ByteArray => (x.size : Int) := by
    rw [← hlen, cutL_all]
  rw [hcut]
  have hseg : segV (cat l) (l.map fun x : ByteArray => (x.size : Int)) = (l, 0) := by
    unfold segV
    rw [if_pos (wOk_sizes h16), if_neg (by rw [wSum_sizes]; omega), if_neg (by rw [wSum_sizes]; omega), parts_cat]
  simp only [ok_z0p, q_z0p, Q_Seg (cat l) _ (show (l.map fun x : ByteArray => (x.size : Int)).length ≤ 1000000 by rw [hlen]; omega) (show (cat l).size ≤ 1000000000 by omega), hseg, RS.get, Option.getD_some, Option.isSome_some, cond_true, cutL_all]
  rw [show ((0 : Int) != 0) = false from rfl, cond_false]
  simp only [ok_z0u, q_z0u, Q_Texts l l (by omega), RS.get, Option.getD_some, Option.isSome_some, cond_true, decide_true, Bool.not_true, cond_false]
  simp only [Q_Seg s ws (by omega) (by omega), RS.get, Option.getD_some, Option.isSome_some, cond_true, cutL_all]
  unfold segV
  by_cases hw : wOk ws
  · rw [if_pos hw]
    by_cases h1 : s.size < wSum ws
    · rw [if_pos h1]; rfl
    · rw [if_neg h1]
      by_cases h2 : wSum ws < s.size
      · rw [if_pos h2]; rfl
      · rw [if_neg h2]
        have hcp := cat_parts ws s hw (by omega)
        simp only [Q_Join (parts s ws) (by rw [parts_length]; omega) (by rw [hcp]; omega), hcp, RS.get, Option.getD_some, Option.isSome_some, cond_true, toList_beq, decide_true, parts_length]
        simp
  · rw [if_neg hw]; rfl
end Go.AMach
