/- Layer 16: headers: how long one is, where a node goes on, the walk. -/
import Derived.Test.YtcakaagbhngkhaaPf
namespace Go.AMach
set_option linter.unusedVariables false
set_option linter.unusedSimpArgs false
set_option linter.unnecessarySimpa false
open Go
set_option linter.unusedVariables false

theorem byteAt_extract {s : ByteArray} {a i : Nat} (h : a + i < s.size) : byteAt (s.extract a s.size) i = byteAt s (a + i) := by
  unfold byteAt
  rw [List.getD_eq_getElem?_getD, List.getD_eq_getElem?_getD]
  have hs : (s.extract a s.size).data = s.data.extract a s.size := by simp
  rw [hs]
  have hsz : s.size = s.data.size := rfl
  have e1 : (s.data.extract a s.size).toList[i]? = s.data.toList[a + i]? := by
    rw [Array.getElem?_toList, Array.getElem?_toList, Array.getElem?_extract, if_pos (by rw [hsz] at h ⊢; omega)]
  rw [e1]
theorem size_extract {s : ByteArray} {a : Nat} : (s.extract a s.size).size = s.size - a := by simp

/-- The number of bits of a text, from a byte on. -/
noncomputable def numV (s : ByteArray) (at_ : Int) (off w : Nat) : Int × Bool :=
  if 0 ≤ at_ ∧ at_ ≤ (s.size : Int) ∧ off + w ≤ 8 * (s.size - at_.toNat) then (IntKind.wrap .i64 (getP (fun i => byteAt s (at_.toNat + i)) off w).2.1, true) else (0, false)

theorem Q_number (s : ByteArray) (at_ : Int) (off w : Nat) (hs : s.size < 1000000000) (h1 : 1 ≤ w) (h2 : w ≤ 128) (h3 : off < 1000000000) :
    Q_walk_number s at_ (off : Int) (w : Int) = some (((numV s at_ off w).1, ((numV s at_ off w).2, ())), ()) := by
  refine fin ?_
  unfold M_walk_number numV
  simp only [cond_dec]
  by_cases a1 : at_ < 0
  · rw [if_pos a1, if_neg (by omega)]
  rw [if_neg a1]
  by_cases a2 : at_ > (s.size : Int)
  · rw [if_pos a2, if_neg (by omega)]
  rw [if_neg a2, if_pos (by omega)]
  obtain ⟨a, rfl⟩ := Int.eq_ofNat_of_zero_le (Int.not_lt.1 a1)
  simp only [Int.ofNat_eq_natCast, toNat_cast] at *
  have hQ := Q_Get (s.extract a s.size) off w (by rw [size_extract]; omega) h1 h2 h3
  rw [size_extract] at hQ
  simp only [ok_field_Get, q_field_Get, hQ, RS.get, Option.getD_some, Option.isSome_some, cond_true]
  by_cases h : off + w ≤ 8 * (s.size - a)
  · rw [if_pos h, if_pos ⟨by omega, by omega, h⟩]
    have : getP (byteAt (s.extract a s.size)) off w = getP (fun i => byteAt s (a + i)) off w := getP_congr h1 fun i hi => byteAt_extract (by omega)
    rw [this]
    rfl
  · rw [if_neg h, if_neg (fun k => h k.2.2)]
    rfl

def mayL (x : NodeS) : Prop := (0 ≤ x.2.1 ∧ x.2.1 ≤ 256) ∧ (0 ≤ x.2.2.1 ∧ x.2.2.1 ≤ 2048) ∧ (0 ≤ x.2.2.2.1 ∧ x.2.2.2.1 ≤ 16) ∧ (if x.2.2.2.1 = 0 then x.2.2.1 = 0 ∧ x.2.2.2.2.1 = 0 else 1 ≤ x.2.2.2.2.1 ∧ x.2.2.2.2.1 ≤ 256)
instance (x : NodeS) : Decidable (mayL x) := by unfold mayL; infer_instance

theorem Q_wmay (x : NodeS) : Q_walk_may x = some ((decide (mayL x), ()), ()) := by
  refine fin ?_
  unfold M_walk_may
  simp only [cond_dec, int_beq]
  have no : ¬ mayL x → some (encRes ro_walk_may rh_walk_may ((false, ()), ())) = some (encRes ro_walk_may rh_walk_may ((decide (mayL x), ()), ())) := fun h => by rw [decide_eq_false h]
  refine ite_eq (fun h => no fun k => ?_) fun c1 => ?_
  · have := k.1; omega
  refine ite_eq (fun h => no fun k => ?_) fun c2 => ?_
  · have := k.1; omega
  refine ite_eq (fun h => no fun k => ?_) fun c3 => ?_
  · have := k.2.1; omega
  refine ite_eq (fun h => no fun k => ?_) fun c4 => ?_
  · have := k.2.1; omega
  refine ite_eq (fun h => no fun k => ?_) fun c5 => ?_
  · have := k.2.2.1; omega
  refine ite_eq (fun h => no fun k => ?_) fun c6 => ?_
  · have := k.2.2.1; omega
  have base : ∀ (b : Prop) [Decidable b], (b ↔ (if x.2.2.2.1 = 0 then x.2.2.1 = 0 ∧ x.2.2.2.2.1 = 0 else 1 ≤ x.2.2.2.2.1 ∧ x.2.2.2.2.1 ≤ 256)) → some (encRes ro_walk_may rh_walk_may ((decide b, ()), ())) = some (encRes ro_walk_may rh_walk_may ((decide (mayL x), ()), ())) := fun b _ hb => by
    have : (b ↔ mayL x) := by
      rw [hb]
      unfold mayL
      constructor
      · exact fun h => ⟨by omega, by omega, by omega, h⟩
      · exact fun h => h.2.2.2
    rw [decide_eq_decide.2 this]
  refine ite_eq (fun c7 => ?_) fun c7 => ?_
  · refine ite_eq (fun c8 => base _ ?_) fun c8 => no fun k => ?_
    · rw [if_pos c7]; simp [c8]
    · have := k.2.2.2; rw [if_pos c7] at this; exact c8 this.1
  · refine ite_eq (fun c8 => base _ ?_) fun c8 => no fun k => ?_
    · rw [if_neg c7]
      exact ⟨fun h => ⟨by omega, h⟩, fun h => h.2⟩
    · have := k.2.2.2; rw [if_neg c7] at this; omega

def finV (s : ByteArray) (at_ sz : Int) : Int × Int :=
  if sz > 256 then (0, 2) else if at_ < 0 then (0, 1) else if at_ > (s.size : Int) then (0, 1) else if sz > (s.size : Int) - at_ then (0, 1) else (sz, 0)
noncomputable def sizeV (x : NodeS) (s : ByteArray) (at_ : Int) : Int × Int :=
  if ¬ mayL x then (0, 4) else
  if x.2.2.2.1 > 0 then
    if (numV s at_ x.2.2.1.toNat x.2.2.2.1.toNat).2 = false then (0, 1) else finV s at_ (IntKind.wrap .i64 (x.2.1 + IntKind.wrap .i64 (x.2.2.2.2.1 * (numV s at_ x.2.2.1.toNat x.2.2.2.1.toNat).1)))
  else finV s at_ x.2.1

theorem fin_size (s : ByteArray) (at_ sz : Int) (hs : s.size < 1000000000) :
    (cond (decide (sz > 256)) (some (encRes ro_walk_Size rh_walk_Size ((0, (2, ())), ())))
      (cond (decide (at_ < 0)) (some (encRes ro_walk_Size rh_walk_Size ((0, (1, ())), ())))
      (cond (decide (at_ > (s.size : Int))) (some (encRes ro_walk_Size rh_walk_Size ((0, (1, ())), ())))
      (cond (decide (sz > IntKind.wrap .i64 ((s.size : Int) - at_))) (some (encRes ro_walk_Size rh_walk_Size ((0, (1, ())), ())))
      (some (encRes ro_walk_Size rh_walk_Size ((sz, (0, ())), ()))))))) = some (encRes ro_walk_Size rh_walk_Size (((finV s at_ sz).1, ((finV s at_ sz).2, ())), ())) := by
  unfold finV
  simp only [cond_dec]
  refine ite_eq (fun h => by rw [if_pos h]) fun h1 => ?_
  refine ite_eq (fun h => by rw [if_neg h1, if_pos h]) fun h2 => ?_
  refine ite_eq (fun h => by rw [if_neg h1, if_neg h2, if_pos h]) fun h3 => ?_
  rw [IntWalk.i64_in _ (by omega)]
  refine ite_eq (fun h => by rw [if_neg h1, if_neg h2, if_neg h3, if_pos h]) fun h4 => ?_
  rw [if_neg h1, if_neg h2, if_neg h3, if_neg h4]

theorem Q_Size (x : NodeS) (s : ByteArray) (at_ : Int) (hs : s.size < 1000000000) : Q_walk_Size x s at_ = some (((sizeV x s at_).1, ((sizeV x s at_).2, ())), ()) := by
  refine fin ?_
  unfold M_walk_Size sizeV
  simp only [ok_walk_may, q_walk_may, Q_wmay, RS.get, Option.getD_some, Option.isSome_some, cond_true]
  by_cases hm : mayL x
  · rw [if_neg (fun h => h hm)]
    simp only [hm, decide_true, Bool.not_true, cond_false]
    by_cases hw : x.2.2.2.1 > 0
    · rw [if_pos hw]
      simp only [hw, decide_true, cond_true]
      have e1 : ((x.2.2.1.toNat : Nat) : Int) = x.2.2.1 := by have := hm.2.1; omega
      have e2 : ((x.2.2.2.1.toNat : Nat) : Int) = x.2.2.2.1 := by omega
      have hQ := Q_number s at_ x.2.2.1.toNat x.2.2.2.1.toNat hs (by omega) (by have := hm.2.2.1; omega) (by have := hm.2.1; omega)
      rw [e1, e2] at hQ
      simp only [ok_walk_number, q_walk_number, hQ, RS.get, Option.getD_some, Option.isSome_some, cond_true]
      cases hv : (numV s at_ x.2.2.1.toNat x.2.2.2.1.toNat).2 with
      | false => rw [if_pos rfl]; rfl
      | true =>
        rw [if_neg (by simp)]
        simp only [Bool.not_true, cond_false]
        exact fin_size s at_ _ hs
    · rw [if_neg hw]
      simp only [hw, decide_false, cond_false]
      exact fin_size s at_ _ hs
  · rw [if_pos hm]
    simp only [hm, decide_false, Bool.not_false, cond_true]

noncomputable def nextT (l : List NodeS) (x : NodeS) (v : Int) : Int := (q_graph_Next l x.1 v).1.1
theorem nextT_ok (l : List NodeS) (hl : Nodes l) {x : NodeS} (hf : findP l x.1 = some x) (v : Int) : nextT l x v ∈ goesP x ∧ Q_graph_Next l x.1 v = some ((nextT l x v, ()), ()) := by
  obtain ⟨t, ht, hq⟩ := Q_Next l hl hf v
  have : nextT l x v = t := by unfold nextT q_graph_Next; rw [hq]; rfl
  rw [this]; exact ⟨ht, hq⟩
noncomputable def goV (l : List NodeS) (x : NodeS) (v : Int) : Int × Int := if nextT l x v = 65535 then (0, 4) else (nextT l x v, 0)
noncomputable def nextV (l : List NodeS) (x : NodeS) (s : ByteArray) (at_ : Int) : Int × Int :=
  if x.2.2.2.2.2.2.1 > 0 then
    if (numV s at_ x.2.2.2.2.2.1.toNat x.2.2.2.2.2.2.1.toNat).2 = false then (0, 1) else goV l x (IntKind.wrap .u32 (numV s at_ x.2.2.2.2.2.1.toNat x.2.2.2.2.2.2.1.toNat).1)
  else goV l x (IntKind.wrap .u32 0)

theorem Q_next (l : List NodeS) (hl : Nodes l) {x : NodeS} (hf : findP l x.1 = some x) (s : ByteArray) (at_ : Int) (hs : s.size < 1000000000) (h1 : 0 ≤ x.2.2.2.2.2.1 ∧ x.2.2.2.2.2.1 ≤ 2048) (h2 : x.2.2.2.2.2.2.1 ≤ 32) :
    Q_walk_next l x s at_ = some (((nextV l x s at_).1, ((nextV l x s at_).2, ())), ()) := by
  refine fin ?_
  unfold M_walk_next nextV
  have go : ∀ v, (cond (nextT l x v == 65535) (some (encRes ro_walk_next rh_walk_next ((0, (4, ())), ()))) (some (encRes ro_walk_next rh_walk_next ((nextT l x v, (0, ())), ())))) = some (encRes ro_walk_next rh_walk_next (((goV l x v).1, ((goV l x v).2, ())), ())) := fun v => by
    unfold goV
    rw [int_beq, cond_dec]
    split <;> rfl
  simp only [ok_graph_Next, q_graph_Next, fun v => (nextT_ok l hl hf v).2, RS.get, Option.getD_some, Option.isSome_some, cond_true]
  by_cases hw : x.2.2.2.2.2.2.1 > 0
  · rw [if_pos hw]
    simp only [hw, decide_true, cond_true]
    have e1 : ((x.2.2.2.2.2.1.toNat : Nat) : Int) = x.2.2.2.2.2.1 := by omega
    have e2 : ((x.2.2.2.2.2.2.1.toNat : Nat) : Int) = x.2.2.2.2.2.2.1 := by omega
    have hQ := Q_number s at_ x.2.2.2.2.2.1.toNat x.2.2.2.2.2.2.1.toNat hs (by omega) (by omega) (by omega)
    rw [e1, e2] at hQ
    simp only [ok_walk_number, q_walk_number, hQ, RS.get, Option.getD_some, Option.isSome_some, cond_true]
    cases hv : (numV s at_ x.2.2.2.2.2.1.toNat x.2.2.2.2.2.2.1.toNat).2 with
    | false => rw [if_pos rfl]; rfl
    | true =>
      rw [if_neg (by simp)]
      simp only [Bool.not_true, cond_false]
      exact go _
  · rw [if_neg hw]
    simp only [hw, decide_false, cond_false]
    exact go _
end Go.AMach
