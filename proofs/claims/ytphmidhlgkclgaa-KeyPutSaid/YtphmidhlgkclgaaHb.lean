/- Key.Of and strings.Join, met by their contracts. -/
import Derived.Test.YtphmidhlgkclgaaHa
import Derived.Test.YtphmidhlgkclgaaAm23
import Derived.Test.YtphmidhlgkclgaaDx
import Derived.BigCall
import Derived.WalkKit
namespace Go.AMach.H18
set_option linter.unusedVariables false
set_option linter.unusedSimpArgs false
set_option linter.unnecessarySimpa false
open Go Go.Proofs Go.RowKit
set_option linter.unusedVariables false
set_option linter.unusedSectionVars false
variable [Sites]

theorem specQ_val {es : List EK} {hs : List HK} {eo : List EK} {ho : List HK} {Q : EK.sems es → HK.sems hs → Option (RS eo ho)} {a : EK.sems es} {b : HK.sems hs} {q : RS eo ho} (h1 : EK.okks es = true) (h2 : HK.okks hs = true) (h : Q a b = some q) :
    (specQ es hs eo ho Q (EK.encs es a) (HK.encs hs b)).val = some (encRes eo ho q) := by
  unfold specQ
  rw [EK.decs_of_encs es a h1, HK.decs_of_encs hs b h2]
  simp only [Tr.val, h, Option.isSome_some, if_true, RS.get, Option.getD_some]

theorem specQ_inv {es : List EK} {hs : List HK} {eo : List EK} {ho : List HK} {Q : EK.sems es → HK.sems hs → Option (RS eo ho)} {args : List AV} {H : AH} {r : Res} (h : (specQ es hs eo ho Q args H).val = some r) :
    ∃ a b q, args = EK.encs es a ∧ H = HK.encs hs b ∧ Q a b = some q ∧ encRes eo ho q = r := by
  unfold specQ at h
  split at h
  case h_2 => simp [Tr.val] at h
  rename_i a b h1 h2
  refine ⟨a, b, ?_⟩
  cases hq : Q a b with
  | none => rw [hq] at h; simp [Tr.val] at h
  | some q =>
    rw [hq] at h
    simp only [RS.get, Option.getD_some, Option.isSome_some, Tr.val, if_true, Option.some.injEq] at h
    exact ⟨q, EK.decs_encs _ _ _ h1, HK.decs_encs _ _ _ h2, rfl, h⟩

theorem joinL_eq (sep : ByteArray) : ∀ l : List ByteArray, (⟨(Lib.join (l.map (·.data.toList)) sep.data.toList).toArray⟩ : ByteArray) = joinL l sep
  | [] => rfl
  | [x] => by
    simp only [List.map_cons, List.map_nil, Lib.join_one, joinL]
  | x :: y :: r => by
    have ih := joinL_eq sep (y :: r)
    have e : Lib.join ((x :: y :: r).map (·.data.toList)) sep.data.toList = x.data.toList ++ (sep.data.toList ++ Lib.join ((y :: r).map (·.data.toList)) sep.data.toList) := by
      simp only [List.map_cons]
      rw [Lib.join_cons, Lib.join_cons, Lib.joinTail, Lib.joinTail]
      simp
    rw [e]
    show _ = x ++ sep ++ joinL (y :: r) sep
    rw [← ih]
    apply ByteArray.ext
    simp

theorem below_frm {ι : Iota} {φ : Phi} {w w' : World} (h : Below w.heap.size w w') : Frm ι [] φ w ι [] φ w' :=
  ⟨h.os, h.tape, h.output, h.size, fun b hb _ => h.block b hb, fun b ⟨id, blk, o, s, l, n, h1, h2⟩ => by simp [AH.at] at h1, fun _ _ h => h, fun _ h h' => absurd h h'⟩
theorem below_srel {ι : Iota} {φ : Phi} {w w' : World} (hS : SRel ι φ [] w) (h : Below w.heap.size w w') : SRel ι φ [] w' :=
  ⟨fun b o hb => by
    have h1 := hS.imm b o hb
    have hlt : b < w.heap.size := (Array.getElem?_eq_some_iff.1 h1).1
    rw [h.block b hlt]; exact h1, fun id blk h => by simp [AH.at] at h, fun id blk b off sz lim len h => by simp [AH.at] at h, fun id id' blk blk' b off sz lim len off' sz' lim' len' h => by simp [AH.at] at h⟩

theorem join_ok : SpecOk Try.prog 36 (specQ [.ty (.slice .str), .ty .str] [] [.ty .str] [] fun a b => joinQ a.1 a.2.1) := by
  intro ι φ H w args vs r H' hS hfr hv hc
  obtain ⟨⟨l, sep, _⟩, b, q, rfl, rfl, hq, hr⟩ := specQ_inv hc
  have hH : HK.encs [] b = [] := rfl
  rw [hH] at hS hfr ⊢
  have hargs : EK.encs [.ty (.slice .str), .ty .str] (l, sep, ()) = [AV.sl false 1 (.ty .str l), .v (.string sep)] := rfl
  rw [hargs] at hv
  obtain ⟨u1, us, rfl, h1, h2⟩ := hv.uncons
  obtain ⟨u2, us, rfl, h3, h4⟩ := h2.uncons
  have := h4.nil_inv; subst this
  cases h3
  have hq : joinQ l sep = some q := hq
  unfold joinQ at hq
  split at hq
  case isFalse => cases hq
  rename_i hsz
  cases hq
  have hr' : (AR.ok (AV.v (.string (joinL l sep))), ([] : AH)) = (r, H') := hr
  cases hr'
  generalize hL : (Rows.ty .str l : Rows AV) = es at h1
  cases h1 with
  | sl a cap _ _ _ hcc htg hw b off cs T F us hm g1 g2 g3 =>
  subst hL
  have hlen : (Rows.ty .str l : Rows AV).len = l.length := rfl
  rw [hlen] at hm hcc
  rw [hlen]
  have fin : ∀ {s : ByteArray} {w' : World}, s = joinL l sep → Below w.heap.size w w' → CallPost ι φ [] w (AR.ok (AV.v (.string (joinL l sep)))) [] (.returned (.string s)) w' := fun {s w'} hs hb =>
    ⟨ι, φ, Ext.refl _ _, below_srel hS hb, below_frm hb, _, rfl, by rw [hs]; exact .v _⟩
  cases hl : l with
  | nil =>
    refine (Try.strings_Join_none a cap sep w).mono ?_
    rintro e w' ⟨rfl, rfl⟩
    rw [← hl]
    exact fin (by rw [hl]; rfl) (Below.refl _ _)
  | cons x l' =>
    rw [← hl]
    have hne : l.length ≠ 0 := by rw [hl]; simp
    obtain ⟨rfl, hb⟩ := hm hne
    have hb' := hS.imm _ _ hb
    refine (Try.strings_Join b off cap l sep w (fun j x hx => ?_) (Array.getElem?_eq_some_iff.1 hb').1 hsz.1 hcc ?_).mono ?_
    · have hj : j < l.length := (List.getElem?_eq_some_iff.1 hx).1
      have hrow : (Rows.ty .str l : Rows AV).toL[j]? = some [AV.v (.string x)] := by
        rw [toL_at (by exact hj)]
        show some [AV.v (.string (Ty.rd .str l j))] = _
        rw [rd_some hx]
      have e1 := g1 j 0 _ _ hrow rfl
      have e2 := g2 j 0 _ _ hrow rfl
      cases e2' : us j 0 <;> rw [e2'] at e2 <;> cases e2
      rw [cell_of hb']
      rw [e2'] at e1
      simpa using e1
    · have := congrArg ByteArray.size (joinL_eq sep l)
      have h2 : (⟨(Lib.join (l.map (·.data.toList)) sep.data.toList).toArray⟩ : ByteArray).size = (Lib.join (l.map (·.data.toList)) sep.data.toList).length := by simp [ByteArray.size]
      exact Nat.le_trans (Nat.le_of_eq (h2.symm.trans this)) hsz.2
    · rintro e w' ⟨rfl, hb2⟩
      exact fin (joinL_eq sep l) hb2

def liveH : List HK → Bool
  | [] => true
  | .gone :: _ => false
  | _ :: r => liveH r
theorem live_at : ∀ {hs : List HK} (b : HK.sems hs) (k : Nat), liveH hs = true → k < hs.length → ∃ blk, (HK.encs hs b).at k = some blk
  | [], b, k, h, hk => by simp at hk
  | h0 :: r, b, 0, h, hk => by
    rw [show HK.encs (h0 :: r) b = h0.enc b.1 :: HK.encs r b.2 from rfl, at_cons_zero]
    cases h0 <;> first | exact ⟨_, rfl⟩ | simp [liveH] at h
  | h0 :: r, b, k + 1, h, hk => by
    rw [show HK.encs (h0 :: r) b = h0.enc b.1 :: HK.encs r b.2 from rfl, at_cons_succ]
    refine live_at b.2 k ?_ (by simpa using hk)
    cases h0 <;> first | exact h | simp [liveH] at h
theorem encs_len : ∀ {hs : List HK} (b : HK.sems hs), (HK.encs hs b).length = hs.length
  | [], b => rfl
  | h0 :: r, b => by
    show (HK.encs r b.2).length + 1 = _
    rw [encs_len b.2]; rfl

/-- What stands at the head of the loop: the builder, the packet's blocks, and all that was there. -/
structure At (ι : Iota) (φ : Phi) (H : AH) (w : World) {hs : List HK} (b : HK.sems hs) (acc : ByteArray) (wr : World) : Prop where
  bld : Lib.IsBuilderF 95 5 w.heap.size w.heap.size (Lib.byteCells acc.data.toList) wr
  rel : SRel ι φ (HK.encs hs b) wr
  frm : Frm ι H φ w ι (HK.encs hs b) φ wr

/-- The owned blocks and the frozen ones lie below the call's own. -/
structure Low (ι : Iota) (φ : Phi) (n B : Nat) : Prop where
  own : ∀ id b off sz lim len, id < n → φ id = some (.at b off sz lim len) → b < B
  imm : ∀ b o, ι b = some o → b < B

theorem Below.srel {ι : Iota} {φ : Phi} {hs : List HK} {b : HK.sems hs} {B : Nat} {w w' : World} (hl : Low ι φ hs.length B) (h : SRel ι φ (HK.encs hs b) w) (hb : Below B w w') : SRel ι φ (HK.encs hs b) w' where
  imm k o ho := by rw [hb.block k (hl.imm k o ho)]; exact h.imm k o ho
  blk id x hx := by
    obtain ⟨loc, h1, h2⟩ := h.blk id x hx
    refine ⟨loc, h1, ?_⟩
    cases loc with
    | virt => exact h2.virt
    | «at» k o s l n =>
      have hid : id < hs.length := by
        rw [← encs_len b]
        rcases Nat.lt_or_ge id (HK.encs hs b).length with h' | h'
        · exact h'
        · simp [AH.at, List.getD_eq_getElem?_getD, List.getElem?_eq_none h'] at hx
      exact BRel.heap (hb.block k (hl.own id k o s l n hid h1)) h2
  own := h.own
  inj := h.inj
theorem Below.frm {ι : Iota} {φ : Phi} {H : AH} {w wr w' : World} {ι' : Iota} {H' : AH} {φ' : Phi} (h : Frm ι H φ w ι' H' φ' wr) (hb : Below w.heap.size wr w') : Frm ι H φ w ι' H' φ' w' where
  os := hb.os.trans h.os
  tape := hb.tape.trans h.tape
  output := hb.output.trans h.output
  size := Nat.le_trans h.size hb.size
  keep k hk ho := (hb.block k hk).trans (h.keep k hk ho)
  sub := h.sub
  imm := h.imm
  grow := h.grow

/-- A builder, where all its blocks stay. -/
theorem bld_kept {T e : TypeId} {B b : Nat} {bs : List Value} {w w' : World} (h : Lib.IsBuilderF T e B b bs w) (hk : ∀ k, B ≤ k → k < w.heap.size → w'.heap[k]? = w.heap[k]?) : Lib.IsBuilderF T e B b bs w' := by
  have main : ∀ {p : Value}, Lib.BuilderAtF T e B b p bs w → Lib.BuilderAtF T e B b p bs w' := fun {p} h => by
    have hlt := h.lt
    obtain ⟨hB, v, hb, hown, hne⟩ := h
    refine ⟨hB, v, (hk b hB hlt).trans hb, ⟨hown.1, ?_⟩, hne⟩
    rcases hown.2 with hn | ⟨g, cap, cur, fz, hv, hbg, hg, rest⟩
    · exact .inl hn
    · exact .inr ⟨g, cap, cur, fz, hv, hbg, (hk g hbg (Array.getElem?_eq_some_iff.1 hg).1).trans hg, rest⟩
  exact h.elim (fun x => .inl (main x)) (fun x => .inr (main x))

theorem At.below {ι : Iota} {φ : Phi} {H : AH} {w : World} {hs : List HK} {b : HK.sems hs} {acc acc' : ByteArray} {wr w' : World} (hl : Low ι φ hs.length w.heap.size) (h : At ι φ H w b acc wr) (hb : Below w.heap.size wr w')
    (hbl : Lib.IsBuilderF 95 5 w.heap.size w.heap.size (Lib.byteCells acc'.data.toList) w') : At ι φ H w b acc' w' := ⟨hbl, Below.srel hl h.rel hb, Below.frm h.frm hb⟩
theorem At.alloc {ι : Iota} {φ : Phi} {H : AH} {w : World} {hs : List HK} {b : HK.sems hs} {acc : ByteArray} {wr : World} (hl : Low ι φ hs.length w.heap.size) (h : At ι φ H w b acc wr) (o : Obj) : At ι φ H w b acc (wr.alloc o) :=
  h.below hl ((Below.refl _ wr).alloc h.frm.size _) (h.bld.alloc o)

/-- A call of a function that is told by a contract over the packet's blocks. -/
theorem call_at {f : FuncId} {es : List EK} {hs : List HK} {eo : List EK} {Q : EK.sems es → HK.sems hs → Option (RS eo hs)} (hf : SpecOk Try.prog f (specQ es hs eo hs Q)) (he : EK.okks es = true) (hh : HK.okks hs = true)
    (hsol : ∀ b : HK.sems hs, solidH (HK.encs hs b) = true) {ι : Iota} {φ : Phi} {H : AH} {w wr : World} {b : HK.sems hs} {acc : ByteArray} {a : EK.sems es} {vs : List Value} {q : RS eo hs}
    (hl : Low ι φ hs.length w.heap.size) (hfr : ∀ i, hs.length ≤ i → φ i = .none) (hA : At ι φ H w b acc wr) (hq : Q a b = some q) (hv : ARels ι φ vs (EK.encs es a)) (hso : (oneOr (EK.encs eo q.1)).solid = true) :
    Calls Try.prog f vs.toArray wr fun e w' => At ι φ H w q.2 acc w' ∧ ∃ u, e = .returned u ∧ ARel ι φ u (oneOr (EK.encs eo q.1)) := by
  refine (hf ι φ (HK.encs hs b) wr _ vs _ _ hA.rel (fun i hi => hfr i (by rwa [encs_len] at hi)) hv (specQ_val he hh hq)).mono fun e w' hp => ?_
  obtain ⟨ι', φ', hE, hS', hF, u, rfl, hu⟩ := hp
  have hlen : (encRes eo hs q).2.length = hs.length := encs_len q.2
  have hφ : φ' = φ := by
    funext i
    refine hE.out i ?_
    rw [encs_len, encs_len]; omega
  subst hφ
  have hS2 : SRel ι φ' (HK.encs hs q.2) w' := {
    imm := fun k o ho => hS'.imm k o (hF.imm k o ho)
    blk := fun id x hx => by
      obtain ⟨loc, h1, h2⟩ := hS'.blk id x hx
      obtain ⟨p, sz, es', rfl, hes⟩ := solidH_at (hsol q.2) hx
      exact ⟨loc, h1, h2.solid hes⟩
    own := fun id x k o s l n hx h1 => by
      cases hι : ι k with
      | none => rfl
      | some y => have := hF.imm k y hι; rw [hS'.own id x k o s l n hx h1] at this; cases this
    inj := hS'.inj }
  have hF2 : Frm ι (HK.encs hs b) φ' wr ι (HK.encs hs q.2) φ' w' := ⟨hF.os, hF.tape, hF.output, hF.size, hF.keep, hF.sub, fun _ _ h => h, fun _ h h' => absurd h h'⟩
  refine ⟨⟨bld_kept hA.bld fun k hk hk2 => hF.keep k hk2 ?_, hS2, hA.frm.trans hF2⟩, u, rfl, hu.solid hso⟩
  rintro ⟨id, blk, off, sz, lim, len, h1, h2⟩
  have hid : id < hs.length := by
    rw [← encs_len b]
    rcases Nat.lt_or_ge id (HK.encs hs b).length with h' | h'
    · exact h'
    · simp [AH.at, List.getD_eq_getElem?_getD, List.getElem?_eq_none h'] at h1
  have := hl.own id k off sz lim len hid h2
  omega

set_option maxHeartbeats 4000000 in
set_option maxRecDepth 1000000 in
theorem of_ok {e0 : EK} {cap : Nat × Nat × Nat} (he0 : ∀ s, e0.enc s = capAV cap) {hs : List HK} (hsol : ∀ b : HK.sems hs, solidH (HK.encs hs b) = true) (hlive : liveH hs = true) (hok : HK.okks hs = true) (Qt : FieldS → HK.sems hs → Option (RS [.ty .str, .ty (.int .i64)] hs))
    (ht : SpecOk Try.prog 40 (specQ [.mv 31 [cap], .agg FieldT] hs [.ty .str, .ty (.int .i64)] hs fun a b => Qt a.2.1 b)) :
    SpecOk Try.prog 20 (specQ [e0, .ty (.slice FieldT)] hs [.ty .str, .ty (.int .i64)] hs fun a b => ofQ Qt a.2.1 b) := by
  intro ι φ H w args vs r H' hS hfr hv hc
  obtain ⟨⟨p0, l, _⟩, b, q, rfl, rfl, hq, hr⟩ := specQ_inv hc
  have hargs : EK.encs [e0, .ty (.slice FieldT)] (p0, l, ()) = [e0.enc p0, .sl false 5 (.ty FieldT l)] := rfl
  rw [hargs] at hv
  obtain ⟨vp, us, rfl, h1, h2⟩ := hv.uncons
  obtain ⟨vl, us, rfl, h3, h4⟩ := h2.uncons
  have := h4.nil_inv; subst this
  rw [he0] at h1
  generalize hL : (Rows.ty FieldT l : Rows AV) = es at h3
  cases h3 with
  | sl a cp _ _ _ hcc htg hw bk off cs T F us hm g1 g2 g3 =>
  have hlen : es.len = l.length := by rw [← hL]; rfl
  rw [hlen] at hm hcc ⊢
  have hq : ofQ Qt l b = some q := hq
  unfold ofQ at hq
  split at hq
  case isFalse => cases hq
  rename_i hll
  clear hv h2 h4 hargs hc
  rw [encs_len] at hfr
  have hB : ∀ bk, ι bk ≠ none → bk < w.heap.size := fun bk hb => by
    cases h : ι bk with
    | none => exact absurd h hb
    | some o => exact (Array.getElem?_eq_some_iff.1 (hS.imm _ _ h)).1
  have hlow : Low ι φ hs.length w.heap.size := ⟨fun id k o s l n hid h => by
    obtain ⟨blk, hb⟩ := live_at b id hlive hid
    exact hS.lt hb h, fun k o ho => hB k (by rw [ho]; simp)⟩
  have hcell : ∀ {j : Nat}, j < l.length → ∀ {wr : World}, wr.heap[bk]? = some (.cells cs T F) → (Instr.indexAt 31 (.slice a l.length cp) (.int .i64 j)).run Try.prog wr = .ok (.pointer (some ⟨bk, off + j * 5, none⟩)) wr ∧
      wr.cell? ⟨bk, off + j * 5, none⟩ = some (.int .i64 (rdd zFieldS l j).1) ∧ wr.cell? ⟨bk, off + j * 5 + 1, none⟩ = some (.int .u8 (rdd zFieldS l j).2.1) ∧ wr.cell? ⟨bk, off + j * 5 + 2, none⟩ = some (.int .i64 (rdd zFieldS l j).2.2.1) ∧
      wr.cell? ⟨bk, off + j * 5 + 3, none⟩ = some (.int .i64 (rdd zFieldS l j).2.2.2.1) ∧ wr.cell? ⟨bk, off + j * 5 + 4, none⟩ = some (.int .i64 (rdd zFieldS l j).2.2.2.2.1) := by
    intro j hj wr hwr
    have hne : l.length ≠ 0 := by omega
    have hrow : es.toL[j]? = some (FieldT.enc (rdd zFieldS l j)) := by
      rw [← hL, toL_at (by exact hj)]
      show some (FieldT.enc (Ty.rd FieldT l j)) = _
      rfl
    have key : ∀ k (x : Value), (FieldT.enc (rdd zFieldS l j))[k]? = some (.v x) → wr.cell? ⟨bk, off + j * 5 + k, none⟩ = some x := fun k x hx => by
      have e1 := g1 j k _ _ hrow hx
      have e2 := g2 j k _ _ hrow hx
      generalize us j k = y at e1 e2
      cases e2
      rw [cell_of hwr]
      exact e1
    refine ⟨?_, key 0 _ rfl, key 1 _ rfl, key 2 _ rfl, key 3 _ rfl, key 4 _ rfl⟩
    obtain ⟨rfl, _⟩ := hm hne
    simp [Instr.indexAt, asIntOf, run_underlying Try.underlying31, run_sizeOf (P := Try.prog) (t := 46) (n := 5) (by kernel_rfl), hj, Addr.add_at]
  show Calls Try.prog 20 #[vp, .slice a l.length cp] w _
  go_enter Try.func20, Try.ntmps20
  go_wp2
  go_loopw [16] (fun v16 wr => ∃ (j : Nat) (bj : HK.sems hs) (acc : ByteArray), v16 = .int .i64 (j : Int) ∧ j ≤ l.length ∧ At ι φ (HK.encs hs b) w bj acc wr ∧ ofL Qt (l.drop j) bj acc = some q) (fun v16 wr => l.length - (Lib.intOf v16).toNat)
  case atStart =>
    refine ⟨0, b, ByteArray.empty, rfl, by omega, ⟨?_, ?_, ?_⟩, by simpa using hq⟩
    · exact Lib.IsBuilderF.of (Lib.fresh_isBuilder 95 5 w)
    · exact Below.srel hlow hS ((Below.refl _ w).alloc (Nat.le_refl _) _)
    · exact Below.frm (Frm.refl _ _ _ _) ((Below.refl _ w).alloc (Nat.le_refl _) _)
  case round =>
    obtain ⟨j, bj, acc, rfl, hjl, hAt, hof⟩ := hrel
    by_cases hj : j < l.length
    · have hne : l.length ≠ 0 := by omega
      obtain ⟨ha, hbk⟩ := hm hne
      subst ha
      obtain ⟨hidx, hc0, hc1, hc2, hc3, hc4⟩ := hcell hj (hAt.rel.imm _ _ hbk)
      rw [drop_rdd zFieldS hj] at hof
      simp only [ofL] at hof
      cases hT : Qt (rdd zFieldS l j) bj with
      | none => rw [hT] at hof; cases hof
      | some q1 =>
      obtain ⟨⟨s1, n1, _⟩, b1⟩ := q1
      rw [hT] at hof
      simp only [] at hof
      have hget : ARels ι φ [.func (.func 31) #[vp] #[], .agg #[.int .i64 (rdd zFieldS l j).1, .int .u8 (rdd zFieldS l j).2.1, .int .i64 (rdd zFieldS l j).2.2.1, .int .i64 (rdd zFieldS l j).2.2.2.1, .int .i64 (rdd zFieldS l j).2.2.2.2.1]] (EK.encs [.mv 31 [cap], .agg FieldT] ((), rdd zFieldS l j, ())) := by
        refine ARels.cons ?_ (ARels.cons ?_ ARels.nil)
        · exact .fn _ [vp] [] [capAV cap] [] rfl (fun i u c hu hc => (ARels.nil.cons h1).2 i u c hu hc) rfl (fun i u c hu => by simp at hu)
        · exact .agg [.int .i64 (rdd zFieldS l j).1, .int .u8 (rdd zFieldS l j).2.1, .int .i64 (rdd zFieldS l j).2.2.1, .int .i64 (rdd zFieldS l j).2.2.2.1, .int .i64 (rdd zFieldS l j).2.2.2.2.1] _ rfl (ARels.lits _).2
      have hcall : ∀ {W : World}, At ι φ (HK.encs hs b) w bj acc W → Calls Try.prog 40 #[.func (.func 31) #[vp] #[], .agg #[.int .i64 (rdd zFieldS l j).1, .int .u8 (rdd zFieldS l j).2.1, .int .i64 (rdd zFieldS l j).2.2.1, .int .i64 (rdd zFieldS l j).2.2.2.1, .int .i64 (rdd zFieldS l j).2.2.2.2.1]] W
          fun e w' => At ι φ (HK.encs hs b) w b1 acc w' ∧ e = .returned (.tuple #[.string s1, .int .i64 n1]) := fun {W} hA =>
        (call_at ht rfl hok hsol hlow hfr hA hT hget rfl).mono fun e w' ⟨h1, u, h2, h3⟩ => ⟨h1, by
          rw [h2]
          have h3 : ARel ι φ u (.tup [.v (.string s1), .v (.int .i64 n1)]) := h3
          cases h3 with
          | tup vs _ hl h =>
            match vs, hl with
            | [x, y], _ =>
              have e1 := h 0 x _ rfl rfl
              have e2 := h 1 y _ rfl rfl
              cases e1; cases e2; rfl⟩
      go_wp2_with (go_at_call 40; refine (hcall ?_).mono ?_)
      · exact hAt.alloc hlow _
      first | rintro e W1 ⟨hA1, rfl⟩ | rintro e W1 hA1 rfl
      by_cases hn : n1 = 0
      · rw [if_pos hn] at hof
        split at hof
        case isFalse => cases hof
        rename_i hle
        subst hn
        go_wp2_with (go_at_call 41; refine (Try.Builder_WriteString_k w.heap.size w.heap.size _ s1 _ hA1.bld (by rw [Lib.byteCells_length]; simpa using hle) hA1.frm.size).mono ?_)
        rintro e W2 ⟨rfl, hb2, hbw, _⟩
        go_wp2
        go_roundw
        case rel =>
          refine ⟨j + 1, b1, acc ++ s1, ?_, by omega, hA1.below hlow hbw ?_, hof⟩
          · rw [Int.natCast_succ]
          · rw [show (acc ++ s1).data.toList = acc.data.toList ++ s1.data.toList by simp, Lib.byteCells_append]
            exact Or.inr hb2
        case measure =>
          simp [Lib.intOf]; omega
      · rw [if_neg hn] at hof
        cases hof
        have hb : (n1 != 0) = true := by simp [hn]
        go_wp2_with (go_at_call 41; exfalso; rename_i hx _ _; simp [hn] at hx)
        go_ret2
        cases hr
        refine ⟨ι, φ, ?_, hA1.rel, hA1.frm, _, rfl, ?_⟩
        · rw [encs_len, encs_len]; exact Ext.refl _ _
        · show ARel ι φ (.tuple [Value.string ByteArray.empty, Value.int .i64 n1].toArray) (.tup [.v (.string ByteArray.empty), .v (.int .i64 n1)])
          exact .tup _ _ rfl (ARels.lits [Value.string ByteArray.empty, Value.int .i64 n1]).2
    · go_wp2_with (go_at_call 42; refine (Try.Builder_String_any_k w.heap.size w.heap.size acc.data.toList _ hAt.bld hAt.frm.size).mono ?_)
      rintro e W2 ⟨rfl, hb2, hbw, _⟩
      go_wp2
      go_ret2
      have hd : l.drop j = [] := List.drop_of_length_le (by omega)
      rw [hd] at hof
      simp only [ofL] at hof
      cases hof
      cases hr
      have hAt2 := hAt.below (acc' := acc) hlow hbw hb2
      refine ⟨ι, φ, ?_, hAt2.rel, hAt2.frm, _, rfl, ?_⟩
      · rw [encs_len, encs_len]; exact Ext.refl _ _
      · show ARel ι φ (.tuple [Value.string acc, Value.int .i64 0].toArray) (.tup [.v (.string acc), .v (.int .i64 0)])
        exact .tup _ _ rfl (ARels.lits [Value.string acc, Value.int .i64 0]).2
#print axioms of_ok
end Go.AMach.H18
