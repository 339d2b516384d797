/- Layer 17: a checksum in a packet. -/
import Derived.Test.YtcngpijmkdpbgaaBs
namespace Go.AMach
set_option linter.unusedVariables false
set_option linter.unusedSimpArgs false
set_option linter.unnecessarySimpa false
open Go
set_option linter.unusedVariables false

theorem Q_bLen (n : Nat) (row : List Int) : Q_z1f n row = some ((((n : Nat) : Int), ()), ((n, ()), (row, ()))) := fin rfl
/-- A field's byte; or why not. -/
def atV (fr off : Int) (len : Nat) : Int × Int := if off < 0 then (0, 1) else if off / 8 > (len : Int) - fr then (0, 1) else (fr + off / 8, 0)
theorem Q_atB (fr : Int) (f : FieldS) (n : Nat) (row : List Int) (hf : 0 ≤ fr ∧ fr ≤ 1000000) (ho : f.2.2.2.1 ≤ 9223372036854775807) (hn : n ≤ 1000000) :
    Q_z1g fr f n row = some (((atV fr f.2.2.2.1 n).1, ((atV fr f.2.2.2.1 n).2, ())), ((n, ()), (row, ()))) := by
  refine fin ?_
  unfold M_z1g atV
  simp only [cond_dec]
  by_cases h0 : f.2.2.2.1 < 0
  · rw [if_pos h0, if_pos h0]
  rw [if_neg h0, if_neg h0]
  have h8 : ((8 : Int) != 0) = true := by decide
  have e : IntKind.wrap .i64 (Int.tdiv f.2.2.2.1 8) = f.2.2.2.1 / 8 := by
    rw [Int.tdiv_eq_ediv_of_nonneg (by omega), IntWalk.i64_in _ (by omega)]
  have e2 : IntKind.wrap .i64 (((n : Nat) : Int) - fr) = (n : Int) - fr := IntWalk.i64_in _ (by omega)
  simp only [h8, cond_true, ok_z1f, q_z1f, Q_bLen, RS.get, Option.getD_some, Option.isSome_some, e, e2]
  by_cases h1 : f.2.2.2.1 / 8 > (n : Int) - fr
  · rw [if_pos h1, if_pos h1]
  · rw [if_neg h1, if_neg h1, IntWalk.i64_in _ (by omega)]
/-- A field's byte in a packet. -/
def atF (hs : List HeadS) (b mt : List Int) (f : FieldS) : Int × Int := match whereF hs b mt f with
  | none => (0, 3)
  | some (c, a) => atV a f.2.2.2.1 c.length
theorem Q_pAt {hs : List HeadS} {b mt : List Int} (P : PkOk hs b mt) (pt : Int) (f : FieldS) (hf : FieldT.good f) :
    Q_z1h f hs.length pt b.length b hs mt.length mt = some (((atF hs b mt f).1, ((atF hs b mt f).2, ())), pkS hs pt b mt) := by
  obtain ⟨h1, h2, h3, h4, h5, _⟩ := hf
  have r4 := wf_i64 h4
  obtain ⟨p1, p2, p3⟩ := Q_place P pt f
  refine fin ?_
  unfold M_z1h atF
  cases hw : whereF hs b mt f with
  | none =>
    obtain ⟨q0, q1, q2⟩ := p1 hw
    simp only [ok_z17, ok_z17_1, ok_z17_2, q_z17_2, q0, q1, q2, RS.get, Option.getD_some, Option.isSome_some, Option.isSome_none, cond_true, cond_false]
    rfl
  | some ca =>
    obtain ⟨c, a⟩ := ca
    rcases where_in hw with ⟨c3, rfl, rfl⟩ | ⟨c3, rfl, ha⟩
    · obtain ⟨q0, q1⟩ := p2 _ _ hw c3
      simp only [ok_z17, ok_z17_1, q_z17_1, q0, q1, RS.get, Option.getD_some, Option.isSome_some, Option.isSome_none, cond_true, cond_false, int_bne, decide_true, Bool.not_true, ok_z1g, q_z1g, Q_atB 0 f c.length c (by omega) r4.2 (by have := P.ml; omega)]
    · have q0 := p3 _ _ hw c3
      have ha' : 0 ≤ a ∧ a ≤ 1000000 := by
        rcases ha with h | h
        · omega
        · exact atOf_ok P h
      simp only [ok_z17, q_z17, q0, RS.get, Option.getD_some, Option.isSome_some, cond_true, cond_false, int_bne, decide_true, Bool.not_true, ok_z1g, q_z1g, Q_atB a f c.length c ha' r4.2 (by have := P.bl; omega)]
def spotF (hs : List HeadS) (b mt : List Int) (f : FieldS) : Int × Int := if f.2.1 = 3 then (0, 3) else atF hs b mt f
theorem Q_pSpot {hs : List HeadS} {b mt : List Int} (P : PkOk hs b mt) (pt : Int) (f : FieldS) (hf : FieldT.good f) :
    Q_z1i f hs.length pt b.length b hs mt.length mt = some (((spotF hs b mt f).1, ((spotF hs b mt f).2, ())), pkS hs pt b mt) := by
  refine fin ?_
  unfold M_z1i spotF
  simp only [int_beq, cond_dec]
  by_cases c3 : f.2.1 = 3
  · rw [if_pos c3, if_pos c3]
  · rw [if_neg c3, if_neg c3]
    simp only [ok_z1h, q_z1h, Q_pAt P pt f hf, RS.get, Option.getD_some, Option.isSome_some, cond_true]

theorem Q_bSum {b : List Int} (hb : isB b) (k n : Nat) (hk : k + n ≤ b.length) (hl : b.length ≤ 1000000) :
    Q_z23 (k : Int) (n : Int) b.length b = some ((((foldV (ws true (natL ((b.drop k).take n))) : Nat) : Int), (0, ())), ((b.length, ()), (b, ()))) := by
  have ho : Q_z1j (k : Int) (n : Int) b.length b = some ((0, ()), ((b.length, ()), (b, ()))) := by
    refine fin ?_
    unfold M_z1j
    simp only [cond_dec]
    rw [if_neg (by omega), if_neg (by omega), if_neg (by omega), IntWalk.i64_in _ (by omega), if_neg (by omega)]
  refine fin ?_
  unfold M_z23
  have e : IntKind.wrap .i64 ((k : Int) + (n : Int)) = ((k + n : Nat) : Int) := by rw [IntWalk.i64_in _ (by omega)]; omega
  have hc : cutL (0 : Int) b (0 + k) (k + n - k) = (b.drop k).take n := by rw [cutL_eq (by omega), Nat.zero_add, Nat.add_sub_cancel_left]
  have hB : isB ((b.drop k).take n) := fun x hx => hb x (List.mem_of_mem_drop (List.mem_of_mem_take hx))
  have hl2 : ((b.drop k).take n).length = n := by rw [List.length_take, List.length_drop]; omega
  have d : decide ((0 : Int) ≤ (k : Int) ∧ (k : Int) ≤ ((k + n : Nat) : Int) ∧ ((k + n : Nat) : Int) ≤ ((b.length : Nat) : Int) ∧ ((b.length : Nat) : Int) ≤ ((b.length : Nat) : Int)) = true := by rw [decide_eq_true_eq]; omega
  simp only [ok_z1j, q_z1j, ho, RS.get, Option.getD_some, Option.isSome_some, cond_true, int_bne, decide_true, Bool.not_true, cond_false, e, d, toNat_cast, hc, ok_z22, q_z22, Q_Sum1 _ (show (bytesOf ((b.drop k).take n)).size ≤ 1000000 by rw [bytesOf_size, hl2]; omega), nats_bytesOf hB]

theorem not16 (c : Nat) (h : c ≤ 65535) : IntKind.wrap .u16 ((BitVec.toNat (BitVec.ofInt (IntKind.bits .u16) (IntKind.max .u16) ^^^ BitVec.ofInt (IntKind.bits .u16) (c : Int)) : Nat) : Int) = ((65535 - c : Nat) : Int) := by
  have e : BitVec.toNat (BitVec.ofInt (IntKind.bits .u16) (IntKind.max .u16) ^^^ BitVec.ofInt (IntKind.bits .u16) (c : Int)) = 65535 - c := by
    show BitVec.toNat (BitVec.ofInt 16 65535 ^^^ BitVec.ofInt 16 (c : Int)) = _
    have e1 : BitVec.ofInt 16 65535 = BitVec.allOnes 16 := by decide
    rw [e1, BitVec.allOnes_xor, BitVec.toNat_not, BitVec.toNat_ofInt]
    omega
  rw [e]
  simp [IntKind.wrap, IntKind.bits, IntKind.signed]; omega

/-- A field of the packet, whole bytes. -/
abbrev fldP (off w : Int) : FieldS := (0, (1, (0, (off, (w, ())))))
theorem putF_P {hs : List HeadS} {b mt : List Int} (m w v : Nat) (h : 8 * m + w ≤ 8 * b.length) (hw : 1 ≤ w ∧ w ≤ 128) (hm : m ≤ 9216) : putF hs b mt (fldP ((8 * m : Nat) : Int) (w : Int)) v = (0, (putN b (8 * m) w v, mt)) := by
  unfold putF
  have hwh : whereF hs b mt (fldP ((8 * m : Nat) : Int) (w : Int)) = some (b, 0) := rfl
  rw [hwh]
  have hbit : bitV 0 ((8 * m : Nat) : Int) = ((8 * m : Nat) : Int) := by unfold bitV; rw [if_neg (by omega)]; omega
  simp only [fldP, hbit]
  have hg : (getB b ((8 * m : Nat) : Int) (w : Int)).isSome = true := by unfold getB; rw [if_pos (by omega)]; rfl
  rw [if_pos hg, if_neg (by decide)]
  unfold putB
  rw [toNat_cast, toNat_cast]

theorem Q_pSum {hs : List HeadS} {b mt : List Int} (P : PkOk hs b mt) (pt : Int) (k n m : Nat) (hn : n ≠ 0) (hk : k + n ≤ b.length) (hm : m + 2 ≤ b.length) (hbl : b.length ≤ 9216) :
    ∃ c : Nat, c = foldV (ws true (natL (((putN b (8 * m) 16 0).drop k).take n))) ∧ Q_z24 (fldP ((8 * m : Nat) : Int) 16) (fldP ((8 * k : Nat) : Int) 8) (n : Int) hs.length pt b.length b hs mt.length mt =
      some ((0, ()), pkS hs pt (putN (putN b (8 * m) 16 0) (8 * m) 16 (65535 - c)) mt) := by
  refine ⟨_, rfl, ?_⟩
  have g1 : FieldT.good (fldP ((8 * m : Nat) : Int) 16) := by
    refine ⟨(show (Lit.int .i64 0).wf = true by decide), (show (Lit.int .u8 1).wf = true by decide), (show (Lit.int .i64 0).wf = true by decide), ?_, (show (Lit.int .i64 16).wf = true by decide), trivial⟩
    show (Lit.int .i64 ((8 * m : Nat) : Int)).wf = true
    simp [Lit.wf, IntKind.min, IntKind.max, IntKind.bits, IntKind.signed]; omega
  have g2 : FieldT.good (fldP ((8 * k : Nat) : Int) 8) := by
    refine ⟨(show (Lit.int .i64 0).wf = true by decide), (show (Lit.int .u8 1).wf = true by decide), (show (Lit.int .i64 0).wf = true by decide), ?_, (show (Lit.int .i64 8).wf = true by decide), trivial⟩
    show (Lit.int .i64 ((8 * k : Nat) : Int)).wf = true
    simp [Lit.wf, IntKind.min, IntKind.max, IntKind.bits, IntKind.signed]; omega
  have qs := Q_pSpot P pt _ g2
  have hsp : spotF hs b mt (fldP ((8 * k : Nat) : Int) 8) = ((k : Int), 0) := by
    unfold spotF atF
    have hwh : whereF hs b mt (fldP ((8 * k : Nat) : Int) 8) = some (b, 0) := rfl
    rw [if_neg (show ¬ (1 : Int) = 3 by decide), hwh]
    unfold atV
    simp only [fldP]
    rw [if_neg (by omega), if_neg (by omega)]
    congr 1; omega
  rw [hsp] at qs
  have q1 := Q_bSum P.bB k n hk (by omega)
  have q2 := Q_pPut P pt _ g1 0 (by decide)
  have hp0 := putF_P (hs := hs) (mt := mt) (b := b) m 16 0 (by omega) (by omega) (by omega)
  have w16 : ((16 : Nat) : Int) = 16 := rfl
  rw [w16] at hp0
  rw [hp0] at q2
  have P1 := putF_ok P (fldP ((8 * m : Nat) : Int) 16) 0
  rw [hp0] at P1
  have q3 := Q_bSum P1.bB k n (by show k + n ≤ (putN b (8 * m) 16 0).length; rw [putN_length]; exact hk) (by show (putN b (8 * m) 16 0).length ≤ _; rw [putN_length]; omega)
  simp only at q2 q3 P1
  generalize hc : foldV (ws true (natL (((putN b (8 * m) 16 0).drop k).take n))) = c at q3 ⊢
  have hcl : c ≤ 65535 := by rw [← hc]; exact foldV_le _
  have q4 := Q_pPut P1 pt _ g1 (65535 - c) (by omega)
  have hp1 := putF_P (hs := hs) (mt := mt) (b := putN b (8 * m) 16 0) m 16 (65535 - c) (by rw [putN_length]; omega) (by omega) (by omega)
  rw [w16] at hp1
  rw [hp1] at q4
  have hw : (((0 : Int), (((65535 - c : Nat) : Int), ())) : WordS) = wN (65535 - c) := by
    unfold wN W2
    rw [Nat.div_eq_of_lt (by omega), Nat.mod_eq_of_lt (by omega)]; rfl
  have hw0 : (((0 : Int), ((0 : Int), ())) : WordS) = wN 0 := rfl
  have hu : IntKind.wrap .u64 ((65535 - c : Nat) : Int) = ((65535 - c : Nat) : Int) := u64_in _ (by omega)
  refine fin ?_
  unfold M_z24
  have hn0 : decide ((n : Int) = 0) = false := decide_eq_false (by omega)
  simp only [ok_z1i, q_z1i, qs, RS.get, Option.getD_some, Option.isSome_some, cond_true, int_bne, int_beq, decide_true, Bool.not_true, cond_false, hn0, ok_z23, q_z23, q1, ok_z20, q_z20, hw0, q2, q3, not16 c hcl, hu, ok_z0k, q_z0k, Q_New, hw, q4]
end Go.AMach
