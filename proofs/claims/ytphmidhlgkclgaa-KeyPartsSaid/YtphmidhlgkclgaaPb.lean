/- Layer 18: the parts of keys, joined texts, and the fields of tables, are the document's. -/
import Derived.Test.YtphmidhlgkclgaaPa
namespace Go.AMach
set_option linter.unusedVariables false
set_option linter.unusedSimpArgs false
set_option linter.unnecessarySimpa false
set_option linter.unusedVariables false

/-! ### The document's Segments and Join -/
theorem L_rSeg0 (l : List Int) (hl : l.length ≤ 1000000) (kr : Nat → Int → List ByteArray → Option Res) (k0 : Int → Option Res) : ∀ (m j a : Nat), j ≤ l.length → l.length - j < m → a ≤ 16 * j →
    L_turnoutref18_Segments_0 FUEL kr k0 l m (a : Int) (j : Int) = if wOk (l.drop j) then k0 ((a + wSum (l.drop j) : Nat) : Int) else kr 0 1 []
  | 0, _, _, _, h, _ => by omega
  | m + 1, j, a, hj, hm, ha => by
    show F_turnoutref18_Segments_0 FUEL kr k0 l (L_turnoutref18_Segments_0 FUEL kr k0 l m) (a : Int) (j : Int) = _
    unfold F_turnoutref18_Segments_0
    simp only [cond_dec]
    by_cases h : j < l.length
    · have hb : (0 : Int) ≤ (j : Int) ∧ (j : Int) < (l.length : Int) := ⟨by omega, by omega⟩
      rw [if_pos (by omega), if_pos hb]
      simp only [toNat_cast, if_pos hb]
      rw [drop_rdd (0 : Int) h]
      generalize rdd (0 : Int) l j = w
      by_cases h1 : w < 0
      · rw [if_pos h1, if_neg (fun k => by have := (wOk_cons.1 k).1; omega)]
      · rw [if_neg h1]
        by_cases h2 : w > 16
        · rw [if_pos h2, if_neg (fun k => by have := (wOk_cons.1 k).1; omega)]
        · rw [if_neg h2, i64_succ (by omega), IntWalk.i64_in _ (by omega), show (a : Int) + w = ((a + w.toNat : Nat) : Int) by omega, L_rSeg0 l hl kr k0 m (j + 1) _ (by omega) (by omega) (by omega)]
          have : wOk (w :: l.drop (j + 1)) ↔ wOk (l.drop (j + 1)) := ⟨fun k => (wOk_cons.1 k).2, fun k => wOk_cons.2 ⟨by omega, k⟩⟩
          simp only [this, wSum, Nat.add_assoc]
    · rw [if_neg (by omega), List.drop_of_length_le (by omega), if_pos (by intro w hw; simp at hw)]
      rfl

theorem L_rSeg2 (l : List Int) (hl : l.length ≤ 1000000) (k : Nat → List ByteArray → Option Res) : ∀ (m j : Nat) (s : ByteArray) (acc : List ByteArray), j ≤ l.length → l.length - j < m → acc.length = j → wOk (l.drop j) → wSum (l.drop j) ≤ s.size →
    L_turnoutref18_Segments_2 FUEL k l m s acc.length (j : Int) acc = k l.length (acc ++ parts s (l.drop j))
  | 0, _, _, _, _, h, _, _, _ => by omega
  | m + 1, j, s, acc, hj, hm, ha, hw, hs => by
    show F_turnoutref18_Segments_2 FUEL k l (L_turnoutref18_Segments_2 FUEL k l m) s acc.length (j : Int) acc = _
    unfold F_turnoutref18_Segments_2
    simp only [cond_dec, cutL_all]
    by_cases h : j < l.length
    · have hb : (0 : Int) ≤ (j : Int) ∧ (j : Int) < (l.length : Int) := ⟨by omega, by omega⟩
      rw [if_pos (by omega), if_pos hb]
      rw [drop_rdd (0 : Int) h] at hw hs ⊢
      simp only [toNat_cast, if_pos hb]
      generalize rdd (0 : Int) l j = w at hw hs ⊢
      simp only [wSum] at hs
      have hw1 := (wOk_cons.1 hw).1
      rw [if_pos ⟨by omega, by omega, by omega⟩, if_pos ⟨by omega, by omega⟩, if_pos ⟨by omega, by omega, by omega⟩, i64_succ (by omega)]
      have hlen : (acc ++ [s.extract (Int.toNat 0) w.toNat]).length = j + 1 := by simp [ha]
      rw [ha] at *
      have := L_rSeg2 l hl k m (j + 1) (s.extract w.toNat s.size) (acc ++ [s.extract (Int.toNat 0) w.toNat]) (by omega) (by omega) hlen (wOk_cons.1 hw).2 (by rw [ex_size]; omega)
      rw [hlen] at this
      rw [this]
      simp [parts]
    · rw [if_neg (by omega), List.drop_of_length_le (by omega)]
      simp only [parts, List.append_nil, ha]
      congr 1; omega

theorem Q_rSeg (s : ByteArray) (l : List Int) (hl : l.length ≤ 1000000) (hs : s.size ≤ 1000000000) : Q_turnoutref18_Segments s l = some (((segV s l).1.length, ((segV s l).2, ())), ((segV s l).1, ())) := by
  refine fin ?_
  unfold M_turnoutref18_Segments
  refine Eq.trans (L_rSeg0 l hl _ _ FUEL 0 0 (by omega) (by unfold FUEL; omega) (by omega)) ?_
  simp only [List.drop_zero, Nat.zero_add]
  unfold segV
  by_cases h : wOk l
  · rw [if_pos h, if_pos h]
    simp only [cond_dec]
    by_cases h1 : s.size < wSum l
    · rw [if_pos (by omega), if_pos h1]; rfl
    · rw [if_neg (by omega), if_neg h1]
      by_cases h2 : wSum l < s.size
      · rw [if_pos (by omega), if_pos h2]; rfl
      · rw [if_neg (by omega), if_neg h2]
        refine Eq.trans (L_rSeg2 l hl _ FUEL 0 s [] (by omega) (by unfold FUEL; omega) rfl h (by rw [List.drop_zero]; omega)) ?_
        simp only [List.drop_zero, List.nil_append, parts_length]
  · rw [if_neg h, if_neg h]; rfl

theorem L_rJoin (l : List ByteArray) (hl : l.length ≤ 1000000) (k : ByteArray → Option Res) : ∀ (m j : Nat) (acc : ByteArray), j ≤ l.length → l.length - j < m → acc.size + (cat (l.drop j)).size ≤ 1000000000 →
    L_turnoutref18_Join_0 FUEL k l m acc (j : Int) = k (acc ++ cat (l.drop j))
  | 0, _, _, _, h, _ => by omega
  | m + 1, j, acc, hj, hm, hs => by
    show F_turnoutref18_Join_0 FUEL k l (L_turnoutref18_Join_0 FUEL k l m) acc (j : Int) = _
    unfold F_turnoutref18_Join_0
    simp only [cond_dec]
    by_cases h : j < l.length
    · rw [if_pos (by omega), if_pos ⟨by omega, by omega⟩]
      rw [drop_rdd ByteArray.empty h] at hs ⊢
      simp only [toNat_cast]
      generalize rdd ByteArray.empty l j = x at hs ⊢
      simp only [cat, app_size] at hs
      rw [if_pos (by omega), i64_succ (by omega), L_rJoin l hl k m (j + 1) _ (by omega) (by omega) (by rw [app_size]; omega), app_assoc]
      rfl
    · rw [if_neg (by omega), List.drop_of_length_le (by omega)]
      show k acc = k (acc ++ ByteArray.empty)
      rw [app_empty]
theorem Q_rJoin (l : List ByteArray) (h1 : l.length ≤ 1000000) (h2 : (cat l).size ≤ 1000000000) : Q_turnoutref18_Join l = some ((cat l, ()), ()) := by
  refine fin ?_
  unfold M_turnoutref18_Join
  refine Eq.trans (L_rJoin l h1 _ FUEL 0 _ (by omega) (by unfold FUEL; omega) (by rw [List.drop_zero]; show 0 + (cat l).size ≤ 1000000000; omega)) ?_
  rw [List.drop_zero]
  exact congrArg (fun x => some (encRes ro_turnoutref18_Join rh_turnoutref18_Join ((x, ()), ()))) (empty_app _)

/-! ### The fields of a table -/
/-- Where the first field of an ID is; -1: there is none. -/
def fnd (n : Int) : List FieldS → Nat → Int
  | [], _ => -1
  | f :: r, j => if f.1 = n then (j : Int) else fnd n r (j + 1)
theorem fnd_range (n : Int) : ∀ (l : List FieldS) (j : Nat), fnd n l j = -1 ∨ ((j : Int) ≤ fnd n l j ∧ fnd n l j < ((j + l.length : Nat) : Int))
  | [], j => .inl rfl
  | f :: r, j => by
    unfold fnd
    split
    · right; simp only [List.length_cons]; omega
    · rcases fnd_range n r (j + 1) with h | h
      · exact .inl h
      · right; simp only [List.length_cons]; omega
theorem L_apiF (l : List FieldS) (hl : l.length ≤ 1000000) (n : Int) (kr : Int → Int → Option Res) (k0 : Int → Option Res) : ∀ (m j : Nat), j ≤ l.length → l.length - j < m →
    L_api_Field_0 FUEL kr k0 l (l.length : Int) m (j : Int) n = if fnd n (l.drop j) j < 0 then k0 n else kr (fnd n (l.drop j) j) n
  | 0, _, _, h => by omega
  | m + 1, j, hj, hm => by
    show F_api_Field_0 FUEL kr k0 l (l.length : Int) (L_api_Field_0 FUEL kr k0 l (l.length : Int) m) (j : Int) n = _
    unfold F_api_Field_0
    simp only [cond_dec]
    have hf : ∀ x, Q_key_Fields_1 x n = some ((decide (x.1 = n), ()), ((n, ()), ())) := fun x => fin rfl
    by_cases h : j < l.length
    · rw [if_pos (by omega), if_pos ⟨by omega, by omega⟩, drop_rdd zFieldS h]
      simp only [toNat_cast, ok_key_Fields_1, q_key_Fields_1, hf, RS.get, Option.getD_some, Option.isSome_some, cond_true, cond_dec]
      unfold fnd
      by_cases e : (rdd zFieldS l j).1 = n
      · rw [if_pos e, if_pos e, if_neg (by omega)]
      · rw [if_neg e, if_neg e, i64_succ (by omega), L_apiF l hl n kr k0 m (j + 1) (by omega) (by omega)]
    · rw [if_neg (by omega), List.drop_of_length_le (by omega), if_pos (by simp [fnd])]
theorem Q_apiF (l : List FieldS) (hl : l.length ≤ 1000000) (n : Int) : Q_api_Field l n = some ((fnd n l 0, ()), ((n, ()), ())) := by
  refine fin ?_
  unfold M_api_Field
  refine Eq.trans (L_apiF l hl n _ _ FUEL 0 (by omega) (by unfold FUEL; omega)) ?_
  rw [List.drop_zero]
  rcases fnd_range n l 0 with h | h
  · rw [h, if_pos (by omega)]
  · rw [if_neg (by omega)]

def fV (l : List FieldS) : List Int → Option (List FieldS)
  | [] => some []
  | n :: r => if fnd n l 0 < 0 then none else (fV l r).map (rdd zFieldS l (fnd n l 0).toNat :: ·)
def fR (l : List FieldS) (ks : List Int) : List FieldS × Int := match fV l ks with
  | some r => (r, 0)
  | none => ([], 8)
theorem fV_length (l : List FieldS) : ∀ (ks : List Int) (r : List FieldS), fV l ks = some r → r.length = ks.length
  | [], r, h => by cases h; rfl
  | n :: ks, r, h => by
    unfold fV at h
    split at h
    · cases h
    · cases hf : fV l ks with
      | none => rw [hf] at h; cases h
      | some r' => rw [hf] at h; cases h; simp [fV_length l ks r' hf]
theorem L_kF (c : ConfigS) (ks : List Int) (hl : c.2.1.length ≤ 1000000) (hk : ks.length ≤ 1000000) (kr : Nat → Int → List FieldS → Option Res) (k0 : Nat → List FieldS → Option Res) : ∀ (m j : Nat) (acc : List FieldS), j ≤ ks.length → ks.length - j < m → acc.length = j →
    L_key_Fields_0 FUEL kr k0 ks (ks.length : Int) c m acc.length (j : Int) acc = match fV c.2.1 (ks.drop j) with
      | some r => k0 (acc ++ r).length (acc ++ r)
      | none => kr 0 8 []
  | 0, _, _, _, h, _ => by omega
  | m + 1, j, acc, hj, hm, ha => by
    show F_key_Fields_0 FUEL kr k0 ks (ks.length : Int) c (L_key_Fields_0 FUEL kr k0 ks (ks.length : Int) c m) acc.length (j : Int) acc = _
    unfold F_key_Fields_0
    simp only [cond_dec, cutL_all]
    by_cases h : j < ks.length
    · rw [if_pos (by omega), if_pos ⟨by omega, by omega⟩, drop_rdd (0 : Int) h]
      simp only [toNat_cast, ok_api_Field, q_api_Field, Q_apiF c.2.1 hl, RS.get, Option.getD_some, Option.isSome_some, cond_true, fV]
      generalize rdd (0 : Int) ks j = n
      by_cases e : fnd n c.2.1 0 < 0
      · rw [if_pos e, if_pos e]
      · rw [if_neg e, if_neg e]
        rcases fnd_range n c.2.1 0 with h' | h'
        · omega
        rw [if_pos ⟨by omega, by omega⟩, if_pos ⟨by omega, by omega⟩, i64_succ (by omega)]
        have hlen : (acc ++ [rdd zFieldS c.2.1 (fnd n c.2.1 0).toNat]).length = acc.length + 1 := by simp
        rw [← hlen, L_kF c ks hl hk kr k0 m (j + 1) _ (by omega) (by omega) (by rw [hlen, ha])]
        cases fV c.2.1 (ks.drop (j + 1)) <;> simp
    · rw [if_neg (by omega), List.drop_of_length_le (by omega)]
      simp [fV]
theorem Q_kF (c : ConfigS) (t : TableS) (hl : c.2.1.length ≤ 1000000) (hk : t.2.2.1.length ≤ 1000000) : Q_key_Fields c t = some (((fR c.2.1 t.2.2.1).1.length, ((fR c.2.1 t.2.2.1).2, ())), ((fR c.2.1 t.2.2.1).1, ())) := by
  refine fin ?_
  unfold M_key_Fields
  refine Eq.trans (L_kF c t.2.2.1 hl hk _ _ FUEL 0 [] (by omega) (by unfold FUEL; omega) rfl) ?_
  rw [List.drop_zero]
  unfold fR
  cases fV c.2.1 t.2.2.1 <;> rfl

theorem L_rF2 (c : ConfigS) (t : TableS) (i : Nat) (hi : i < t.2.2.1.length) (hk : t.2.2.1.length ≤ 1000000) (hl : c.2.1.length ≤ 1000000) (k0 : Int → Option Res) : ∀ (m j : Nat) (at_ : Int), j ≤ c.2.1.length → c.2.1.length - j < m → -1 ≤ at_ →
    L_turnoutref18_Fields_2 FUEL k0 (i : Int) c t m at_ (j : Int) = k0 (if at_ < 0 then fnd (rdd (0 : Int) t.2.2.1 i) (c.2.1.drop j) j else at_)
  | 0, _, _, _, h, _ => by omega
  | m + 1, j, at_, hj, hm, hat => by
    show F_turnoutref18_Fields_2 FUEL k0 (i : Int) c t (L_turnoutref18_Fields_2 FUEL k0 (i : Int) c t m) at_ (j : Int) = _
    unfold F_turnoutref18_Fields_2
    simp only [cond_dec]
    by_cases h : j < c.2.1.length
    · rw [if_pos (by omega), drop_rdd zFieldS h]
      have e2 : IntKind.wrap .i64 ((j : Int) + 1) = ((j + 1 : Nat) : Int) := i64_succ (by omega)
      by_cases ha : at_ < 0
      · rw [if_pos ha, if_pos ⟨by omega, by omega⟩, if_pos ⟨by omega, by omega⟩]
        simp only [toNat_cast, e2, int_beq, cond_dec, fnd]
        by_cases e : (rdd zFieldS c.2.1 j).1 = rdd (0 : Int) t.2.2.1 i
        · rw [if_pos e, L_rF2 c t i hi hk hl k0 m (j + 1) _ (by omega) (by omega) (by omega), if_neg (by omega), if_pos ha, if_pos e]
        · rw [if_neg e, L_rF2 c t i hi hk hl k0 m (j + 1) _ (by omega) (by omega) (by omega), if_pos ha, if_pos ha, if_neg e]
      · rw [if_neg ha, e2, L_rF2 c t i hi hk hl k0 m (j + 1) _ (by omega) (by omega) (by omega), if_neg ha, if_neg ha]
    · rw [if_neg (by omega), List.drop_of_length_le (by omega)]
      by_cases ha : at_ < 0
      · rw [if_pos ha]
        have : at_ = -1 := by omega
        rw [this]; rfl
      · rw [if_neg ha]
theorem L_rF0 (c : ConfigS) (t : TableS) (hl : c.2.1.length ≤ 1000000) (hk : t.2.2.1.length ≤ 1000000) (kr : Nat → Int → List FieldS → Option Res) (k0 : Nat → List FieldS → Option Res) : ∀ (m j : Nat) (acc : List FieldS), j ≤ t.2.2.1.length → t.2.2.1.length - j < m → acc.length = j →
    L_turnoutref18_Fields_0 FUEL kr k0 c t m acc.length (j : Int) acc = match fV c.2.1 (t.2.2.1.drop j) with
      | some r => k0 (acc ++ r).length (acc ++ r)
      | none => kr 0 8 []
  | 0, _, _, _, h, _ => by omega
  | m + 1, j, acc, hj, hm, ha => by
    show F_turnoutref18_Fields_0 FUEL kr k0 c t (L_turnoutref18_Fields_0 FUEL kr k0 c t m) acc.length (j : Int) acc = _
    unfold F_turnoutref18_Fields_0
    simp only [cond_dec, cutL_all]
    by_cases h : j < t.2.2.1.length
    · rw [if_pos (by omega)]
      have hstart := fun k => L_rF2 c t j h hk hl k FUEL 0 (-1) (by omega) (by unfold FUEL; omega) (by omega)
      simp only [List.drop_zero, show ((-1 : Int) < 0) = True from by simp, if_true] at hstart
      refine Eq.trans (hstart _) ?_
      rw [drop_rdd (0 : Int) h]
      simp only [fV]
      generalize rdd (0 : Int) t.2.2.1 j = n
      by_cases e : fnd n c.2.1 0 < 0
      · rw [if_pos e, if_pos e]
      · rw [if_neg e, if_neg e]
        rcases fnd_range n c.2.1 0 with h' | h'
        · omega
        rw [if_pos ⟨by omega, by omega⟩, if_pos ⟨by omega, by omega⟩, i64_succ (by omega)]
        have hlen : (acc ++ [rdd zFieldS c.2.1 (fnd n c.2.1 0).toNat]).length = acc.length + 1 := by simp
        rw [← hlen, L_rF0 c t hl hk kr k0 m (j + 1) _ (by omega) (by omega) (by rw [hlen, ha])]
        cases fV c.2.1 (t.2.2.1.drop (j + 1)) <;> simp
    · rw [if_neg (by omega), List.drop_of_length_le (by omega)]
      simp [fV]
theorem Q_rF (c : ConfigS) (t : TableS) (hl : c.2.1.length ≤ 1000000) (hk : t.2.2.1.length ≤ 1000000) : Q_turnoutref18_Fields c t = some (((fR c.2.1 t.2.2.1).1.length, ((fR c.2.1 t.2.2.1).2, ())), ((fR c.2.1 t.2.2.1).1, ())) := by
  refine fin ?_
  unfold M_turnoutref18_Fields
  refine Eq.trans (L_rF0 c t hl hk _ _ FUEL 0 [] (by omega) (by unfold FUEL; omega) rfl) ?_
  rw [List.drop_zero]
  unfold fR
  cases fV c.2.1 t.2.2.1 <;> rfl

/-! ### The law -/
theorem L_P0 (l : List ByteArray) (hl : l.length ≤ 1000000) (kr : Bool → Option Res) (k0 : Unit → Option Res) : ∀ (m j : Nat), j ≤ l.length → l.length - j < m →
    L_turnoutlaw18_KeyParts_0 FUEL kr k0 l m (j : Int) = if ∀ x ∈ l.drop j, x.size ≤ 300 then k0 () else kr true
  | 0, _, _, h => by omega
  | m + 1, j, hj, hm => by
    show F_turnoutlaw18_KeyParts_0 FUEL kr k0 l (L_turnoutlaw18_KeyParts_0 FUEL kr k0 l m) (j : Int) = _
    unfold F_turnoutlaw18_KeyParts_0
    simp only [cond_dec, ok_turnoutlaw18_awake, q_turnoutlaw18_awake, awake18, RS.get, Option.getD_some, Option.isSome_some, cond_true]
    by_cases h : j < l.length
    · rw [if_pos (by omega), if_pos ⟨by omega, by omega⟩, drop_rdd ByteArray.empty h]
      simp only [toNat_cast]
      generalize rdd ByteArray.empty l j = x
      by_cases h1 : x.size ≤ 300
      · rw [if_neg (by omega), i64_succ (by omega), L_P0 l hl kr k0 m (j + 1) (by omega) (by omega)]
        have : (∀ y ∈ x :: l.drop (j + 1), y.size ≤ 300) ↔ ∀ y ∈ l.drop (j + 1), y.size ≤ 300 := by simp [h1]
        simp only [this]
      · rw [if_pos (by omega), if_neg (fun k => h1 (k x List.mem_cons_self))]
    · rw [if_neg (by omega), List.drop_of_length_le (by omega), if_pos (by simp)]

theorem L_P6 (k0 : Unit → Option Res) (n : Nat) (hn : n ≤ 1000000) : ∀ (m j : Nat) (l : List ByteArray), j ≤ n → n - j < m → L_turnoutlaw18_KeyParts_6 FUEL k0 n m (j : Int) l = k0 ()
  | 0, _, _, _, h => by omega
  | m + 1, j, l, hj, hm => by
    show F_turnoutlaw18_KeyParts_6 FUEL k0 n (L_turnoutlaw18_KeyParts_6 FUEL k0 n m) (j : Int) l = _
    unfold F_turnoutlaw18_KeyParts_6
    simp only [cond_dec]
    by_cases h : j < n
    · rw [if_pos (by omega), if_pos ⟨by omega, by omega⟩, i64_succ (by omega), L_P6 k0 n hn m (j + 1) _ (by omega) (by omega)]
    · rw [if_neg (by omega)]

theorem L_P4 (kr : Bool → Option Res) (k0 : Unit → Option Res) (y : List FieldS) (hn : y.length ≤ 1000000) : ∀ (m j : Nat) (b : List FieldS), j ≤ y.length → y.length - j < m → b.length = y.length → b.drop j = y.drop j →
    L_turnoutlaw18_KeyParts_4 FUEL kr k0 y.length y.length y m (j : Int) b = k0 ()
  | 0, _, _, _, h, _, _ => by omega
  | m + 1, j, b, hj, hm, hb, hd => by
    show F_turnoutlaw18_KeyParts_4 FUEL kr k0 y.length y.length y (L_turnoutlaw18_KeyParts_4 FUEL kr k0 y.length y.length y m) (j : Int) b = _
    unfold F_turnoutlaw18_KeyParts_4
    simp only [cond_dec]
    by_cases h : j < y.length
    · have hin : (0 : Int) ≤ (j : Int) ∧ (j : Int) < (y.length : Int) := ⟨by omega, by omega⟩
      rw [if_pos (by omega), if_pos hin, if_pos hin]
      rw [drop_rdd zFieldS h, drop_rdd (l := b) zFieldS (by omega)] at hd
      simp only [List.cons.injEq] at hd
      simp only [toNat_cast, hd.1]
      rw [i64_succ (by omega), L_P4 kr k0 y hn m (j + 1) _ (by omega) (by omega) (by simp [hb]) (by rw [List.drop_set_of_lt (by omega)]; exact hd.2)]
      simp [hin]
    · rw [if_neg (by omega)]

theorem L_P2 (s : ByteArray) (hs : s.size ≤ 1000000000) (ws : List Int) (hw : ws.length ≤ 1000000) (c : ConfigS) (t : TableS) (hl : c.2.1.length ≤ 1000000) (hk : t.2.2.1.length ≤ 1000000) (kr : Bool → Option Res) (k0 : Unit → Option Res) : ∀ (m j : Nat), j ≤ 2 → 2 - j < m →
    L_turnoutlaw18_KeyParts_2 FUEL kr k0 s ws (segV s ws).1.length (segV s ws).2 (fR c.2.1 t.2.2.1).1.length (fR c.2.1 t.2.2.1).2 c t (segV s ws).1 (fR c.2.1 t.2.2.1).1 m (j : Int) = k0 ()
  | 0, _, _, h => by omega
  | m + 1, j, hj, hm => by
    show F_turnoutlaw18_KeyParts_2 FUEL kr k0 s ws (segV s ws).1.length (segV s ws).2 (fR c.2.1 t.2.2.1).1.length (fR c.2.1 t.2.2.1).2 c t (segV s ws).1 (fR c.2.1 t.2.2.1).1 (L_turnoutlaw18_KeyParts_2 FUEL kr k0 s ws (segV s ws).1.length (segV s ws).2 (fR c.2.1 t.2.2.1).1.length (fR c.2.1 t.2.2.1).2 c t (segV s ws).1 (fR c.2.1 t.2.2.1).1 m) (j : Int) = _
    unfold F_turnoutlaw18_KeyParts_2
    simp only [cond_dec]
    by_cases h : j < 2
    · rw [if_pos (by omega)]
      have hseg : (segV s ws).1.length ≤ 1000000 := by
        unfold segV
        split
        · split
          · simp
          · split
            · simp
            · rw [parts_length]; exact hw
        · simp
      have hfr : (fR c.2.1 t.2.2.1).1.length ≤ 1000000 := by
        unfold fR
        cases hf : fV c.2.1 t.2.2.1 with
        | none => simp
        | some r => have := fV_length _ _ _ hf; simp only []; omega
      simp only [ok_key_Segments, q_key_Segments, Q_Seg s ws hw hs, RS.get, Option.getD_some, Option.isSome_some, cond_true, cutL_all, int_bne, decide_true, Bool.not_true, cond_false, ok_turnoutref06_Texts, q_turnoutref06_Texts, Q_Texts _ _ hseg, ok_key_Fields, q_key_Fields, Q_kF c t hl hk]
      refine Eq.trans (L_P4 _ _ (fR c.2.1 t.2.2.1).1 hfr FUEL 0 _ (by omega) (by unfold FUEL; omega) rfl rfl) ?_
      refine Eq.trans (L_P6 _ (segV s ws).1.length hseg FUEL 0 _ (by omega) (by unfold FUEL; omega)) ?_
      rw [i64_succ (by omega)]
      exact L_P2 s hs ws hw c t hl hk kr k0 m (j + 1) (by omega) (by omega)
    · rw [if_neg (by omega)]

theorem cat_size_le (b : Nat) : ∀ (m : List ByteArray), (∀ x ∈ m, x.size ≤ b) → (cat m).size ≤ b * m.length
  | [], _ => by simp [cat]
  | x :: m, h => by
    have := cat_size_le b m fun y hy => h y (List.mem_cons_of_mem _ hy)
    have := h x List.mem_cons_self
    show (x ++ cat m).size ≤ _
    rw [app_size, List.length_cons, Nat.mul_succ]; omega

theorem Pure.KeyParts (s : ByteArray) (gs : Ty.str.good s) (ws : List Int) (gw : (Ty.slice (.int .i64)).good ws) (l : List ByteArray) (gl : (Ty.slice .str).good l) (fs : List FieldS) (gf : (Ty.slice FieldT).good fs) (ks : List Int) (gk : (Ty.slice (.int .i64)).good ks) :
    Q_turnoutlaw18_KeyParts s ws l fs ks = some ((true, ()), ()) := by
  refine fin ?_
  unfold M_turnoutlaw18_KeyParts
  simp only [ok_turnoutlaw18_awake, q_turnoutlaw18_awake, awake18, RS.get, Option.getD_some, Option.isSome_some, cond_true, cond_dec]
  refine ite_eq (fun _ => rfl) fun c1 => ?_
  refine ite_eq (fun _ => rfl) fun c2 => ?_
  refine ite_eq (fun _ => rfl) fun c3 => ?_
  refine ite_eq (fun _ => rfl) fun c4 => ?_
  refine ite_eq (fun _ => rfl) fun c5 => ?_
  refine Eq.trans (L_P0 l (by omega) _ _ FUEL 0 (by omega) (by unfold FUEL; omega)) ?_
  rw [List.drop_zero]
  refine ite_eq (fun h3 => ?_) fun _ => rfl
  have hc := cat_size_le 300 l h3
  have hF := Q_rF ([], (fs, ([], ([], ([], ([], ([], ([], ([], ()))))))))) (0, (0, (ks, (0, (0, ()))))) (show fs.length ≤ 1000000 by omega) (show ks.length ≤ 1000000 by omega)
  simp only [ok_turnoutref18_Segments, q_turnoutref18_Segments, Q_rSeg s ws (by omega) (by omega), RS.get, Option.getD_some, Option.isSome_some, cond_true, ok_turnoutref18_Fields, q_turnoutref18_Fields, hF]
  refine Eq.trans (L_P2 s (by omega) ws (by omega) ([], (fs, ([], ([], ([], ([], ([], ([], ([], ()))))))))) (0, (0, (ks, (0, (0, ()))))) (show fs.length ≤ 1000000 by omega) (show ks.length ≤ 1000000 by omega) _ _ FUEL 0 (by omega) (by unfold FUEL; omega)) ?_
  simp only [ok_key_Join, q_key_Join, Q_Join l (by omega) (by omega), ok_turnoutref18_Join, q_turnoutref18_Join, Q_rJoin l (by omega) (by omega), RS.get, Option.getD_some, Option.isSome_some, cond_true, toList_beq, decide_true]
end Go.AMach
