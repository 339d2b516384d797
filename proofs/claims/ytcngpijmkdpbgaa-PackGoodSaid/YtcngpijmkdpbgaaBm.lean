/- A number put into a field of a packet. -/
import Derived.Test.YtcngpijmkdpbgaaBl
namespace Go.AMach
set_option linter.unusedVariables false
set_option linter.unusedSimpArgs false
set_option linter.unnecessarySimpa false
open Go
set_option linter.unusedVariables false

/-- A packet with a number put into a field: why not; its bytes; its metadata. -/
def putF (hs : List HeadS) (b mt : List Int) (f : FieldS) (v : Nat) : Int × (List Int × List Int) := match whereF hs b mt f with
  | none => (3, (b, mt))
  | some (c, a) => if (getB c (bitV a f.2.2.2.1) f.2.2.2.2.1).isSome then (0, (if f.2.1 = 3 then (b, putB mt (bitV a f.2.2.2.1) f.2.2.2.2.1 v) else (putB b (bitV a f.2.2.2.1) f.2.2.2.2.1 v, mt))) else (1, (b, mt))
theorem putB_length (b : List Int) (off w : Int) (v : Nat) : (putB b off w v).length = b.length := putN_length _ _ _ _
theorem putF_len (hs : List HeadS) (b mt : List Int) (f : FieldS) (v : Nat) : (putF hs b mt f v).2.1.length = b.length ∧ (putF hs b mt f v).2.2.length = mt.length := by
  unfold putF
  split
  · exact ⟨rfl, rfl⟩
  · split
    · split
      · exact ⟨rfl, putB_length _ _ _ _⟩
      · exact ⟨putB_length _ _ _ _, rfl⟩
    · exact ⟨rfl, rfl⟩
theorem putF_ok {hs : List HeadS} {b mt : List Int} (P : PkOk hs b mt) (f : FieldS) (v : Nat) : PkOk hs (putF hs b mt f v).2.1 (putF hs b mt f v).2.2 := by
  obtain ⟨l1, l2⟩ := putF_len hs b mt f v
  refine ⟨?_, ?_, by rw [l1]; exact P.bl, by rw [l2]; exact P.ml, P.hl, P.at_⟩
  · unfold putF
    split
    · exact P.bB
    · split
      · split
        · exact P.bB
        · exact putN_isB _ _ _ _
      · exact P.bB
  · unfold putF
    split
    · exact P.mB
    · split
      · split
        · exact putN_isB _ _ _ _
        · exact P.mB
      · exact P.mB
theorem putF_why (hs : List HeadS) (b mt : List Int) (f : FieldS) (v : Nat) : (putF hs b mt f v).1 = match getF hs b mt f with | .ok _ => 0 | .error e => e := by
  unfold putF getF
  cases whereF hs b mt f with
  | none => rfl
  | some ca =>
    obtain ⟨c, a⟩ := ca
    simp only
    cases getB c (bitV a f.2.2.2.1) f.2.2.2.2.1 <;> rfl
theorem putF_no {hs : List HeadS} {b mt : List Int} {f : FieldS} {v : Nat} (h : (putF hs b mt f v).1 ≠ 0) : (putF hs b mt f v).2 = (b, mt) := by
  unfold putF at h ⊢
  split
  · rfl
  · rename_i c a hw
    rw [hw] at h
    simp only at h
    split
    · rename_i k
      rw [if_pos k] at h; exact absurd rfl h
    · rfl
theorem where_in {hs : List HeadS} {b mt c : List Int} {a : Int} {f : FieldS} (h : whereF hs b mt f = some (c, a)) : (f.2.1 = 3 ∧ c = mt ∧ a = 0) ∨ (f.2.1 ≠ 3 ∧ c = b ∧ (a = 0 ∨ atOf hs f.2.2.1 = some a)) := by
  unfold whereF at h
  by_cases c1 : f.2.1 = 1
  · rw [if_pos c1] at h; cases h; exact .inr ⟨by omega, rfl, .inl rfl⟩
  rw [if_neg c1] at h
  by_cases c3 : f.2.1 = 3
  · rw [if_pos c3] at h; cases h; exact .inl ⟨c3, rfl, rfl⟩
  rw [if_neg c3] at h
  by_cases c2 : f.2.1 = 2
  · rw [if_pos c2] at h
    cases ha : atOf hs f.2.2.1 with
    | none => rw [ha] at h; cases h
    | some x => rw [ha] at h; cases h; exact .inr ⟨c3, rfl, .inr rfl⟩
  · rw [if_neg c2] at h; cases h
theorem where_put {hs : List HeadS} {b mt b' mt' c : List Int} {a : Int} {f : FieldS} (h : whereF hs b mt f = some (c, a)) : whereF hs b' mt' f = some (if f.2.1 = 3 then mt' else b', a) := by
  unfold whereF at h ⊢
  by_cases c1 : f.2.1 = 1
  · rw [if_pos c1] at h ⊢; cases h; rw [if_neg (by omega)]
  rw [if_neg c1] at h ⊢
  by_cases c3 : f.2.1 = 3
  · rw [if_pos c3] at h ⊢; cases h; rw [if_pos c3]
  rw [if_neg c3] at h ⊢
  by_cases c2 : f.2.1 = 2
  · rw [if_pos c2] at h ⊢
    cases ha : atOf hs f.2.2.1 with
    | none => rw [ha] at h; cases h
    | some x => rw [ha] at h; cases h; rw [if_neg c3]; rfl
  · rw [if_neg c2] at h; cases h
/-- What was put in is got. -/
theorem getF_put {hs : List HeadS} {b mt : List Int} {f : FieldS} (v : Nat) (h : (putF hs b mt f v).1 = 0) : getF hs (putF hs b mt f v).2.1 (putF hs b mt f v).2.2 f = .ok (v % 2 ^ f.2.2.2.2.1.toNat) := by
  cases hw : whereF hs b mt f with
  | none => unfold putF at h; rw [hw] at h; cases h
  | some ca =>
    obtain ⟨c, a⟩ := ca
    have hp : (getB c (bitV a f.2.2.2.1) f.2.2.2.2.1).isSome = true := by
      cases hg : getB c (bitV a f.2.2.2.1) f.2.2.2.2.1 with
      | some x => rfl
      | none => unfold putF at h; rw [hw] at h; simp [hg] at h
    have hk : 0 ≤ bitV a f.2.2.2.1 ∧ 1 ≤ f.2.2.2.2.1 ∧ f.2.2.2.2.1 ≤ 128 ∧ bitV a f.2.2.2.1 + f.2.2.2.2.1 ≤ 8 * (c.length : Int) := by
      unfold getB at hp
      split at hp
      · assumption
      · cases hp
    have key : ∀ x : List Int, x.length = c.length → getB (putB x (bitV a f.2.2.2.1) f.2.2.2.2.1 v) (bitV a f.2.2.2.1) f.2.2.2.2.1 = some (v % 2 ^ f.2.2.2.2.1.toNat) := fun x hx => by
      have := getB_put (b := x) (off := (bitV a f.2.2.2.1).toNat) (w := f.2.2.2.2.1.toNat) v (by omega) (by omega) (by omega)
      rw [show (((bitV a f.2.2.2.1).toNat : Nat) : Int) = bitV a f.2.2.2.1 by omega, show ((f.2.2.2.2.1.toNat : Nat) : Int) = f.2.2.2.2.1 by omega] at this
      exact this
    have hput : (putF hs b mt f v).2 = if f.2.1 = 3 then (b, putB mt (bitV a f.2.2.2.1) f.2.2.2.2.1 v) else (putB b (bitV a f.2.2.2.1) f.2.2.2.2.1 v, mt) := by
      unfold putF; rw [hw]; simp only; rw [if_pos hp]
    unfold getF
    rw [where_put hw, hput]
    rcases where_in hw with ⟨c3, rfl, _⟩ | ⟨c3, rfl, _⟩
    · simp only [if_pos c3]; rw [key _ rfl]
    · simp only [if_neg c3]; rw [key _ rfl]

theorem dec_q0 {y z : Int} {x : HK.sems rh_z17} : decRes ro_z17 rh_z17 (some (encRes ro_z17_1 rh_z17_1 (((), (y, (z, ()))), x))) = none := rfl

/-- Where a field is, as the program tells it. -/
theorem Q_place {hs : List HeadS} {b mt : List Int} (P : PkOk hs b mt) (pt : Int) (f : FieldS) :
    (whereF hs b mt f = none → Q_z17 f hs.length pt b.length b hs mt.length mt = none ∧ Q_z17_1 f hs.length pt b.length b hs mt.length mt = none ∧ Q_z17_2 f hs.length pt b.length b hs mt.length mt = some (((), (0, (3, ()))), pkS hs pt b mt)) ∧
    (∀ c a, whereF hs b mt f = some (c, a) → f.2.1 = 3 → Q_z17 f hs.length pt b.length b hs mt.length mt = none ∧ Q_z17_1 f hs.length pt b.length b hs mt.length mt = some (((), (a, (0, ()))), pkS hs pt b mt)) ∧
    (∀ c a, whereF hs b mt f = some (c, a) → f.2.1 ≠ 3 → Q_z17 f hs.length pt b.length b hs mt.length mt = some (((), (a, (0, ()))), pkS hs pt b mt)) := by
  have hM : M_z17 FUEL f hs.length pt b.length b hs mt.length mt = if f.2.1 = 3 then some (encRes ro_z17_1 rh_z17_1 (((), (0, (0, ()))), pkS hs pt b mt))
      else (match whereF hs b mt f with | some (c, a) => some (encRes ro_z17 rh_z17 (((), (a, (0, ()))), pkS hs pt b mt)) | none => some (encRes ro_z17_2 rh_z17_2 (((), (0, (3, ()))), pkS hs pt b mt))) := by
    unfold M_z17 whereF
    simp only [int_beq, cond_dec]
    by_cases c1 : f.2.1 = 1
    · rw [if_pos c1, if_pos c1, if_neg (by omega)]
    rw [if_neg c1, if_neg c1]
    by_cases c3 : f.2.1 = 3
    · rw [if_pos c3, if_pos c3]
    rw [if_neg c3, if_neg c3, if_neg c3]
    by_cases c2 : f.2.1 = 2
    · rw [if_pos c2, if_pos c2]
      refine Eq.trans (L_place _ _ hs P.hl f FUEL 0 (by omega) (by have := P.hl; unfold FUEL; omega)) ?_
      rw [List.drop_zero]
      cases atOf hs f.2.2.1 <;> rfl
    · rw [if_neg c2, if_neg c2]
  refine ⟨fun hw => ?_, fun c a hw c3 => ?_, fun c a hw c3 => ?_⟩
  · have c3 : ¬ f.2.1 = 3 := fun k => by unfold whereF at hw; rw [if_neg (by omega), if_pos k] at hw; cases hw
    rw [if_neg c3, hw] at hM
    exact ⟨by unfold Q_z17; rw [hM]; exact dec_p1, by unfold Q_z17_1; rw [hM]; exact dec_p2, fin hM⟩
  · rw [if_pos c3] at hM
    have ha : a = 0 := by rcases where_in hw with ⟨_, _, h⟩ | ⟨h, _⟩; exact h; exact absurd c3 h
    subst ha
    exact ⟨by unfold Q_z17; rw [hM]; exact dec_p0, fin hM⟩
  · rw [if_neg c3, hw] at hM
    exact fin hM

theorem Q_pPut {hs : List HeadS} {b mt : List Int} (P : PkOk hs b mt) (pt : Int) (f : FieldS) (hf : FieldT.good f) (v : Nat) (hv : v < 340282366920938463463374607431768211456) :
    Q_z20 f (wN v) hs.length pt b.length b hs mt.length mt = some (((putF hs b mt f v).1, ()), pkS hs pt (putF hs b mt f v).2.1 (putF hs b mt f v).2.2) := by
  obtain ⟨h1, h2, h3, h4, h5, _⟩ := hf
  have r4 := wf_i64 h4
  obtain ⟨p1, p2, p3⟩ := Q_place P pt f
  have hbit : ∀ a, 0 ≤ a ∧ a ≤ 1000000 → Q_z18 a f.2.2.2.1 = some ((bitV a f.2.2.2.1, ()), ()) := fun a ha => Q_bit a _ ha r4.2
  have rbit : ∀ a, 0 ≤ a ∧ a ≤ 1000000 → -9223372036854775808 ≤ bitV a f.2.2.2.1 ∧ bitV a f.2.2.2.1 ≤ 9223372036854775807 := fun a ha => by unfold bitV; split <;> omega
  refine fin ?_
  unfold M_z20 putF
  cases hw : whereF hs b mt f with
  | none =>
    obtain ⟨q0, q1, q2⟩ := p1 hw
    simp only [ok_z17, ok_z17_1, ok_z17_2, q_z17_2, q0, q1, q2, RS.get, Option.getD_some, Option.isSome_some, Option.isSome_none, cond_true, cond_false]
    rfl
  | some ca =>
    obtain ⟨c, a⟩ := ca
    rcases where_in hw with ⟨c3, rfl, rfl⟩ | ⟨c3, rfl, ha⟩
    · obtain ⟨q0, q1⟩ := p2 _ _ hw c3
      simp only [ok_z17, ok_z17_1, q_z17_1, q0, q1, RS.get, Option.getD_some, Option.isSome_some, Option.isSome_none, cond_true, cond_false]
      simp only [int_beq, int_bne, decide_true, cond_true, ok_z18, q_z18, hbit 0 (by omega), ok_z1z, q_z1z, Q_bPut P.mB (bitV 0 f.2.2.2.1) f.2.2.2.2.1 v hv (by have := P.ml; omega) (rbit 0 (by omega)), RS.get, Option.getD_some, Option.isSome_some]
      cases getB c (bitV 0 f.2.2.2.1) f.2.2.2.2.1 with
      | none =>
        simp only [Option.isSome_none, Bool.false_eq_true, if_false, decide_eq_false (getE_ne _ _), Bool.not_false, cond_true]
      | some x =>
        simp only [Option.isSome_some, if_true, decide_true, Bool.not_true, cond_false, if_pos c3]
        unfold pkS
        rw [putB_length]
    · have q0 := p3 _ _ hw c3
      have ha' : 0 ≤ a ∧ a ≤ 1000000 := by
        rcases ha with h | h
        · omega
        · exact atOf_ok P h
      simp only [ok_z17, q_z17, q0, RS.get, Option.getD_some, Option.isSome_some, cond_true]
      simp only [int_beq, int_bne, decide_true, cond_true, ok_z18, q_z18, hbit a ha', ok_z1z, q_z1z, Q_bPut P.bB (bitV a f.2.2.2.1) f.2.2.2.2.1 v hv (by have := P.bl; omega) (rbit a ha'), RS.get, Option.getD_some, Option.isSome_some]
      cases getB c (bitV a f.2.2.2.1) f.2.2.2.2.1 with
      | none =>
        simp only [Option.isSome_none, Bool.false_eq_true, if_false, decide_eq_false (getE_ne _ _), Bool.not_false, cond_true]
      | some x =>
        simp only [Option.isSome_some, if_true, decide_true, Bool.not_true, cond_false, if_neg c3]
        unfold pkS
        rw [putB_length]

/-- A word of the program. -/
theorem word_N {w : WordS} (h : WordT.good w) : ∃ v, w = wN v ∧ v < 340282366920938463463374607431768211456 := by
  obtain ⟨h1, h2, _⟩ := h
  have r1 := wf_u64 h1
  have r2 := wf_u64 h2
  refine ⟨w.1.toNat * 18446744073709551616 + w.2.1.toNat, ?_, by omega⟩
  rw [← wN_of _ _ (by omega)]
  unfold W2
  rw [show ((w.1.toNat : Nat) : Int) = w.1 by omega, show ((w.2.1.toNat : Nat) : Int) = w.2.1 by omega]
theorem textV_mod (v : Nat) (w : Int) : textV (v % 2 ^ w.toNat) w = textV v w := by unfold textV; rw [Nat.mod_mod]
end Go.AMach
