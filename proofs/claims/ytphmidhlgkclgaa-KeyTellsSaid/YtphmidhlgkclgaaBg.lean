/- Layer 18: KeyWhole. -/
import Derived.Test.YtphmidhlgkclgaaBe
namespace Go.AMach
set_option linter.unusedVariables false
set_option linter.unusedSimpArgs false
set_option linter.unnecessarySimpa false
open Go
set_option linter.unusedVariables false

/-- How many bytes fields need. -/
def widV (l : List FieldS) : List Int := l.map fun f => ((nB f.2.2.2.2.1 : Nat) : Int)
theorem L_Widths (k : Nat → List Int → Option Res) (l : List FieldS) (hl : l.length ≤ 1000000) : ∀ (m j : Nat) (acc : List Int), acc.length = j → j ≤ l.length → l.length - j < m →
    L_z0o_0 FUEL k l (l.length : Int) m acc.length (j : Int) acc = k l.length (acc ++ widV (l.drop j))
  | 0, _, _, _, _, h => by omega
  | m + 1, j, acc, ha, hj, hm => by
    show F_z0o_0 FUEL k l (l.length : Int) (L_z0o_0 FUEL k l (l.length : Int) m) acc.length (j : Int) acc = _
    unfold F_z0o_0
    simp only [cond_dec, cutL_all]
    by_cases h : j < l.length
    · rw [if_pos (by omega), if_pos ⟨by omega, by omega⟩]
      simp only [toNat_cast, ok_z0j, q_z0j, Q_Bytes, RS.get, Option.getD_some, Option.isSome_some, cond_true]
      rw [if_pos (by omega), i64_succ (by omega)]
      have := L_Widths k l hl m (j + 1) (acc ++ [((nB (rdd zFieldS l j).2.2.2.2.1 : Nat) : Int)]) (by simp [ha]) (by omega) (by omega)
      rw [show (acc ++ [((nB (rdd zFieldS l j).2.2.2.2.1 : Nat) : Int)]).length = acc.length + 1 by simp] at this
      rw [this, drop_rdd zFieldS h]
      simp [widV]
    · rw [if_neg (by omega), List.drop_of_length_le (by omega)]
      simp only [widV, List.map_nil, List.append_nil]
      rw [show acc.length = l.length by omega]
theorem Q_Widths (l : List FieldS) (hl : l.length ≤ 1000000) : Q_z0o l = some ((l.length, ()), (widV l, ())) := by
  refine fin ?_
  unfold M_z0o
  have := L_Widths (fun y2 y3 => some (encRes ro_z0o rh_z0o ((y2, ()), (y3, ())))) l hl FUEL 0 [] rfl (by omega) (by unfold FUEL; omega)
  exact this.trans rfl

/-- A field's text. -/
def txt (hs : List HeadS) (b mt : List Int) (f : FieldS) : ByteArray := (exS (keyT hs b mt f)).1
theorem keyT_nB {hs : List HeadS} {b mt : List Int} {f : FieldS} {s : ByteArray} (h : keyT hs b mt f = .ok s) : s.size = nB f.2.2.2.2.1 ∧ nB f.2.2.2.2.1 ≤ 16 ∧ ∃ v, getF hs b mt f = .ok v ∧ s = textV v f.2.2.2.2.1 := by
  unfold keyT at h
  split at h
  · rename_i v hv
    cases h
    have := getF_ok hv
    exact ⟨textV_size _ _, by unfold nB; rw [if_neg (by omega)]; omega, v, hv, rfl⟩
  · cases h
theorem parts_key {hs : List HeadS} {b mt : List Int} : ∀ {l : List FieldS} {s : ByteArray}, keyL hs b mt l = .ok s → wOk (widV l) ∧ wSum (widV l) = s.size ∧ parts s (widV l) = l.map (txt hs b mt) ∧ ∀ f ∈ l, ∃ x, keyT hs b mt f = .ok x
  | [], s, h => by
    cases h
    exact ⟨by intro w hw; simp [widV] at hw, rfl, rfl, by simp⟩
  | f :: r, s, h => by
    simp only [keyL] at h
    cases h1 : keyT hs b mt f with
    | error e => rw [h1] at h; cases h
    | ok x =>
      rw [h1] at h
      cases h2 : keyL hs b mt r with
      | error e => rw [h2] at h; cases h
      | ok t =>
        rw [h2] at h
        cases h
        obtain ⟨a1, a2, a3, a4⟩ := parts_key h2
        obtain ⟨z1, z2, _⟩ := keyT_nB h1
        have ht : ((nB f.2.2.2.2.1 : Nat) : Int).toNat = x.size := by rw [z1, toNat_cast]
        refine ⟨wOk_cons.2 ⟨(show 0 ≤ ((nB f.2.2.2.2.1 : Nat) : Int) ∧ ((nB f.2.2.2.2.1 : Nat) : Int) ≤ 16 by omega), a1⟩, ?_, ?_, ?_⟩
        · show ((nB f.2.2.2.2.1 : Nat) : Int).toNat + wSum (widV r) = _
          rw [ht, a2, app_size]
        · show (x ++ t).extract 0 ((nB f.2.2.2.2.1 : Nat) : Int).toNat :: parts ((x ++ t).extract ((nB f.2.2.2.2.1 : Nat) : Int).toNat (x ++ t).size) (widV r) = txt hs b mt f :: r.map (txt hs b mt)
          rw [ht, ex_left, ex_right, a3]
          congr 1
          unfold txt; rw [h1]
        · intro g hg
          rcases List.mem_cons.1 hg with rfl | hg
          · exact ⟨x, h1⟩
          · exact a4 g hg
theorem rdd_mapT {hs : List HeadS} {b mt : List Int} {l : List FieldS} {i : Nat} (h : i < l.length) : rdd ByteArray.empty (l.map (txt hs b mt)) i = txt hs b mt (rdd zFieldS l i) := by
  rw [rdd_lt (by simpa using h), rdd_lt h, List.getElem_map]

theorem L_Whole (kr : Bool → Option Res) (k : Unit → Option Res) {hs : List HeadS} {b mt : List Int} (P : PkOk hs b mt) (pt : Int) (l : List FieldS) (hl : l.length ≤ 1000000) (hg : ∀ f ∈ l, FieldT.good f) (ho : ∀ f ∈ l, ∃ x, keyT hs b mt f = .ok x) : ∀ (m j : Nat), j ≤ l.length → l.length - j < m →
    L_z2n_0 FUEL kr k l l.length (l.map (txt hs b mt)) m (j : Int) hs.length pt b.length b hs mt.length mt = k ()
  | 0, _, _, h => by omega
  | m + 1, j, hj, hm => by
    show F_z2n_0 FUEL kr k l l.length (l.map (txt hs b mt)) (L_z2n_0 FUEL kr k l l.length (l.map (txt hs b mt)) m) (j : Int) hs.length pt b.length b hs mt.length mt = _
    unfold F_z2n_0
    simp only [cond_dec]
    by_cases h : j < l.length
    · have hmem := rdd_mem (d := zFieldS) h
      obtain ⟨x, hx⟩ := ho _ hmem
      have hgood := hg _ hmem
      obtain ⟨z1, z2, v, hv, hxv⟩ := keyT_nB hx
      obtain ⟨w1, w2, w3, w4⟩ := getF_ok hv
      rw [if_pos (by omega)]
      simp only [if_pos (show (0 : Int) ≤ (j : Int) ∧ (j : Int) < ((l.length : Nat) : Int) by omega), toNat_cast, rdd_mapT h]
      have htx : txt hs b mt (rdd zFieldS l j) = x := by unfold txt; rw [hx]
      rw [htx]
      have k1 := Q_kOf P pt [rdd zFieldS l j] (by simp) (fun y hy => by rw [List.mem_singleton.1 hy]; exact hgood)
      rw [keyL_one, hx] at k1
      have k2 := Q_pGet P pt (rdd zFieldS l j) hgood
      rw [hv] at k2
      have k3 := Q_fText v w4 (rdd zFieldS l j).2.2.2.2.1
      rw [if_neg (nB_pos ⟨w1, w2⟩), if_neg (nB_pos ⟨w1, w2⟩), ← hxv] at k3
      simp only [exS] at k1 k2
      simp only [ok_z25, q_z25, k1, ok_z23, q_z23, k2, ok_z0l, q_z0l, k3, RS.get, Option.getD_some, Option.isSome_some, cond_true, int_bne, decide_true, Bool.not_true, cond_false, toList_beq]
      rw [i64_succ (by omega)]
      exact L_Whole kr k P pt l hl hg ho m (j + 1) (by omega) (by omega)
    · rw [if_neg (by omega)]

theorem whole_bad (r9 r10 r11 : Int) (s9 s11 : ByteArray) (R : Option Res) (h : r9 ≠ 0 ∨ r10 ≠ 0) (h1 : r11 ≠ 0) (h2 : s11 = ByteArray.empty) (h3 : r9 ≠ 0 → s9 = ByteArray.empty ∧ r11 = r9) :
   (cond (r9 != (0 : Int))
 (cond (ByteArray.toList s11 == ByteArray.toList (ByteArray.mk #[]))
 (cond (r11 != (0 : Int))
 (cond (r9 == (0 : Int))
 (some (encRes ro_z2n rh_z2n ((true, ()), ())))
 (cond (ByteArray.toList s9 == ByteArray.toList (ByteArray.mk #[]))
 (some (encRes ro_z2n rh_z2n (((r11 == r9), ()), ())))
 (some (encRes ro_z2n rh_z2n ((false, ()), ())))))
 (some (encRes ro_z2n rh_z2n ((false, ()), ()))))
 (some (encRes ro_z2n rh_z2n ((false, ()), ()))))
 (cond (r10 != (0 : Int))
 (cond (ByteArray.toList s11 == ByteArray.toList (ByteArray.mk #[]))
 (cond (r11 != (0 : Int))
 (cond (r9 == (0 : Int))
 (some (encRes ro_z2n rh_z2n ((true, ()), ())))
 (cond (ByteArray.toList s9 == ByteArray.toList (ByteArray.mk #[]))
 (some (encRes ro_z2n rh_z2n (((r11 == r9), ()), ())))
 (some (encRes ro_z2n rh_z2n ((false, ()), ())))))
 (some (encRes ro_z2n rh_z2n ((false, ()), ()))))
 (some (encRes ro_z2n rh_z2n ((false, ()), ()))))
 R)) = some (encRes ro_z2n rh_z2n ((true, ()), ())) := by
  have e0 : (ByteArray.toList s11 == ByteArray.toList (ByteArray.mk #[])) = true := by rw [toList_beq, h2]; exact decide_eq_true rfl
  simp only [int_bne, int_beq, e0, cond_true, decide_eq_false h1, Bool.not_false]
  by_cases a : r9 = 0
  · have b : r10 ≠ 0 := by omega
    simp [a, b]
  · obtain ⟨c1, c2⟩ := h3 a
    have e1 : (ByteArray.toList s9 == ByteArray.toList (ByteArray.mk #[])) = true := by rw [toList_beq, c1]; exact decide_eq_true rfl
    simp only [decide_eq_false a, Bool.not_false, cond_true, cond_false, e1, c2, decide_true]

theorem Pure.KeyWhole (s : ByteArray) (hs : Ty.str.good s) (l : List NodeS) (h : (Ty.slice NodeT).good l) (fs : List FieldS) (hf : (Ty.slice FieldT).good fs) (gs : List FieldS) (hg : (Ty.slice FieldT).good gs) : Q_z2n s l fs gs = some ((true, ()), ()) := by
  refine fin ?_
  unfold M_z2n
  obtain ⟨bb, hb, hb2⟩ := Q_large l (good_len h)
  simp only [ok_z0z, q_z0z, hb, ok_z0v, q_z0v, awake18, RS.get, Option.getD_some, Option.isSome_some, cond_true, Bool.not_true, cond_false]
  cases bb with
  | true => rfl
  | false =>
  obtain ⟨_, ha⟩ := hb2 rfl
  have hl := nodes_of h ha
  simp only [cond_false]
  rw [cond_dec, cond_dec, cond_dec]
  refine ite_eq (fun _ => rfl) fun c1 => ite_eq (fun _ => rfl) fun c2 => ite_eq (fun _ => rfl) fun c3 => ?_
  by_cases h9 : s.size ≤ 9216
  · obtain ⟨f0, f1⟩ := Q_found s l hl h9
    have P := pk_ok l s h9
    have gf : ∀ f ∈ fs, FieldT.good f := hf.2
    have gg : ∀ f ∈ gs, FieldT.good f := hg.2
    have k1 := Q_kOf P 1 fs (by omega) gf
    have k2 := Q_kOf P 1 gs (by omega) gg
    have k3 := Q_kOf P 1 (fs ++ gs) (by simp; omega) (fun x hx => (List.mem_append.1 hx).elim (gf x) (gg x))
    have hc1 : cutL zFieldS fs 0 (0 + fs.length) = fs := by rw [Nat.zero_add]; exact cutL_all _ _
    have hc2 : cutL zFieldS (fs ++ gs) 0 (fs.length + gs.length) = fs ++ gs := by
      have := cutL_all zFieldS (fs ++ gs)
      rw [List.length_append] at this; exact this
    have d1 : decide ((0 + fs.length) * 40 ≤ 2 ^ 46 ∧ 0 + fs.length ≤ 2 ^ 46) = true := by rw [decide_eq_true_eq]; omega
    have d2 : decide ((fs.length + gs.length) * 40 ≤ 2 ^ 46 ∧ fs.length + gs.length ≤ 2 ^ 46) = true := by rw [decide_eq_true_eq]; omega
    simp only [ok_z2m, ok_z2m_1, q_z2m_1, f0, f1, RS.get, Option.getD_some, Option.isSome_some, Option.isSome_none, cond_true, cond_false]
    simp only [ok_z25, q_z25, k1, k2, hc1, hc2, d1, d2, k3, RS.get, Option.getD_some, Option.isSome_some, cond_true]
    rw [keyL_append]
    have e1 : ∀ {q : List FieldS} {e : Int}, keyL (hdsV l s) (bytesL s) zeros q = .error e → e ≠ 0 := by
      intro q
      induction q with
      | nil => intro e h; cases h
      | cons x r ih =>
        intro e h
        simp only [keyL] at h
        cases h1 : keyT (hdsV l s) (bytesL s) zeros x with
        | error e' =>
          rw [h1] at h; cases h
          unfold keyT at h1
          split at h1
          · cases h1
          · rename_i r' hr; cases h1; have := getF_err hr; omega
        | ok y =>
          rw [h1] at h
          cases h2 : keyL (hdsV l s) (bytesL s) zeros r with
          | error e' => rw [h2] at h; cases h; exact ih h2
          | ok t => rw [h2] at h; cases h
    cases hx : keyL (hdsV l s) (bytesL s) zeros fs with
    | error e =>
      have := e1 hx
      exact whole_bad _ _ _ _ _ _ (.inl this) this rfl fun _ => ⟨rfl, rfl⟩
    | ok x =>
      cases hy : keyL (hdsV l s) (bytesL s) zeros gs with
      | error e =>
        have := e1 hy
        exact whole_bad _ _ _ _ _ _ (.inr this) this rfl fun k => absurd rfl k
      | ok y =>
        have sx := keyL_size hx
        have sy := keyL_size hy
        obtain ⟨a1, a2, a3, a4⟩ := parts_key hx
        have hw := Q_Widths fs (by omega)
        have hcw : cutL (0 : Int) (widV fs) 0 fs.length = widV fs := by
          have := cutL_all (0 : Int) (widV fs)
          rw [show (widV fs).length = fs.length by simp [widV]] at this
          exact this
        have hseg := Q_Seg x (widV fs) (by simp [widV]; omega) (by omega)
        have hv : segV x (widV fs) = (fs.map (txt (hdsV l s) (bytesL s) zeros), 0) := by
          unfold segV
          rw [if_pos a1, if_neg (by omega), if_neg (by omega), a3]
        rw [hv] at hseg
        have d3 : decide (x.size + y.size ≤ 9223372036854775807) = true := by rw [decide_eq_true_eq]; omega
        simp only [exS, int_bne, decide_true, Bool.not_true, cond_false, d3, cond_true, toList_beq, ok_z0o, q_z0o, hw, hcw, ok_z0p, q_z0p, hseg, List.length_map, RS.get, Option.getD_some, Option.isSome_some]
        exact L_Whole _ _ P 1 fs (by omega) gf a4 FUEL 0 (by omega) (by unfold FUEL; omega)
  · simp only [ok_z2m, Q_foundBad s l (by omega), Option.isSome_some, cond_true]
end Go.AMach
