/- solve, met by its contract. -/
import Derived.Test.YtfmjdojndbpkhaaHc
namespace Go.AMach
set_option linter.unusedVariables false
set_option linter.unusedSimpArgs false
set_option linter.unnecessarySimpa false
open Go Go.Proofs Go.RowKit
set_option linter.unusedVariables false
set_option linter.unusedSectionVars false
set_option linter.unusedSimpArgs false

/-- A frozen slice: its cells. -/
theorem inp_of {ι : Iota} {φ : Phi} {H : AH} {w : World} {u : Value} {T : Ty} {l : List T.sem} {sz : Nat} (hsz : sz = T.size) (hS : SRel ι φ H w) (h : ARel ι φ u (.sl false sz (.ty T l))) :
    ∃ a cap, u = .slice a l.length cap ∧ ∃ us : Nat → Nat → Value, Inp w a l.length sz us ∧ ∀ j k x, j < l.length → (T.enc (T.rd l j))[k]? = some x → ARel ι Phi.none (us j k) x := by
  generalize hL : (Rows.ty T l : Rows AV) = es at h
  cases h with
  | sl a cp _ _ _ hcc htg hw b off cs TT F us hm g1 g2 g3 =>
  have hlen : es.len = l.length := by rw [← hL]; rfl
  rw [hlen] at hm ⊢
  have hrow : ∀ j, j < l.length → es.toL[j]? = some (T.enc (T.rd l j)) := fun j hj => by
    rw [← hL, toL_at (by exact hj)]; rfl
  refine ⟨a, cp, rfl, us, ⟨b, off, fun hne => (hm hne).1, fun j k hj hk => ?_⟩, fun j k x hj hx => g2 j k _ x (hrow j hj) hx⟩
  have hx : (T.enc (T.rd l j))[k]? = some ((T.enc (T.rd l j))[k]'(by rw [enc_length]; omega)) := List.getElem?_eq_getElem _
  rw [cell_of (hS.imm _ _ (hm (by omega)).2)]
  exact g1 j k _ _ (hrow j hj) hx

def sA : Value → Option Addr
  | .slice a _ _ => a
  | _ => none
def sN : Value → Nat
  | .slice _ n _ => n
  | _ => 0
def sC : Value → Nat
  | .slice _ _ c => c
  | _ => 0
theorem slice_eta {ι : Iota} {φ : Phi} {u : Value} {sz : Nat} {es : Rows AV} (h : ARel ι φ u (.sl false sz es)) : u = .slice (sA u) (sN u) (sC u) := by
  cases h; rfl

theorem tab_inp {ι : Iota} {φ : Phi} {H : AH} {w : World} {u : Value} {l : List TableS} (hS : SRel ι φ H w) (h : ARel ι φ u (.sl false 5 (.ty TableT l))) :
    ∃ a cap ka kn kc, u = .slice a l.length cap ∧ Inp w a l.length 5 (tabCell l ka kn kc) := by
  obtain ⟨a, cap, rfl, us, ⟨b, off, ha, hc⟩, hr⟩ := inp_of (T := TableT) (sz := 5) rfl hS h
  refine ⟨a, cap, fun j => sA (us j 2), fun j => sN (us j 2), fun j => sC (us j 2), rfl, b, off, ha, fun j k hj hk => ?_⟩
  rw [hc j k hj hk]
  have e : ∀ k x, (TableT.enc (rdd zTableS l j))[k]? = some x → ARel ι Phi.none (us j k) x := fun k x hx => hr j k x hj hx
  have e0 := e 0 _ rfl
  have e1 := e 1 _ rfl
  have e2 := slice_eta (e 2 _ rfl)
  have e3 := e 3 _ rfl
  have e4 := e 4 _ rfl
  match k, hk with
  | 0, _ => generalize us j 0 = y at e0 ⊢; cases e0; rfl
  | 1, _ => generalize us j 1 = y at e1 ⊢; cases e1; rfl
  | 2, _ => rw [e2]; rfl
  | 3, _ => generalize us j 3 = y at e3 ⊢; cases e3; rfl
  | 4, _ => generalize us j 4 = y at e4 ⊢; cases e4; rfl
theorem ent_inp {ι : Iota} {φ : Phi} {H : AH} {w : World} {u : Value} {l : List EntryS} (hS : SRel ι φ H w) (h : ARel ι φ u (.sl false 11 (.ty EntryT l))) :
    ∃ a cap ka kn kc, u = .slice a l.length cap ∧ Inp w a l.length 11 (entCell l ka kn kc) := by
  obtain ⟨a, cap, rfl, us, ⟨b, off, ha, hc⟩, hr⟩ := inp_of (T := EntryT) (sz := 11) rfl hS h
  refine ⟨a, cap, fun j => sA (us j 6), fun j => sN (us j 6), fun j => sC (us j 6), rfl, b, off, ha, fun j k hj hk => ?_⟩
  rw [hc j k hj hk]
  have e : ∀ k x, (EntryT.enc (rdd zEntryS l j))[k]? = some x → ARel ι Phi.none (us j k) x := fun k x hx => hr j k x hj hx
  have e0 := e 0 _ rfl
  have e1 := e 1 _ rfl
  have e2 := e 2 _ rfl
  have e3 := e 3 _ rfl
  have e4 := e 4 _ rfl
  have e5 := e 5 _ rfl
  have e6 := slice_eta (e 6 _ rfl)
  have e7 := e 7 _ rfl
  have e8 := e 8 _ rfl
  have e9 := e 9 _ rfl
  have e10 := e 10 _ rfl
  match k, hk with
  | 0, _ => generalize us j 0 = y at e0 ⊢; cases e0; rfl
  | 1, _ => generalize us j 1 = y at e1 ⊢; cases e1; rfl
  | 2, _ => generalize us j 2 = y at e2 ⊢; cases e2; rfl
  | 3, _ => generalize us j 3 = y at e3 ⊢; cases e3; rfl
  | 4, _ => generalize us j 4 = y at e4 ⊢; cases e4; rfl
  | 5, _ => generalize us j 5 = y at e5 ⊢; cases e5; rfl
  | 6, _ => rw [e6]; rfl
  | 7, _ => generalize us j 7 = y at e7 ⊢; cases e7; rfl
  | 8, _ => generalize us j 8 = y at e8 ⊢; cases e8; rfl
  | 9, _ => generalize us j 9 = y at e9 ⊢; cases e9; rfl
  | 10, _ => generalize us j 10 = y at e10 ⊢; cases e10; rfl
theorem blk_inp {ι : Iota} {φ : Phi} {H : AH} {w : World} {u : Value} {l : List BlockS} (hS : SRel ι φ H w) (h : ARel ι φ u (.sl false 2 (.ty BlockT l))) :
    ∃ a cap ka kn kc, u = .slice a l.length cap ∧ Inp w a l.length 2 (blkCell l ka kn kc) ∧ ∀ j, j < l.length → ARel ι Phi.none (.slice (ka j) (kn j) (kc j)) ((Ty.slice InstrT).av (rdd zBlockS l j).2.1) := by
  obtain ⟨a, cap, rfl, us, ⟨b, off, ha, hc⟩, hr⟩ := inp_of (T := BlockT) (sz := 2) rfl hS h
  have e : ∀ j k x, j < l.length → (BlockT.enc (rdd zBlockS l j))[k]? = some x → ARel ι Phi.none (us j k) x := fun j k x hj hx => hr j k x hj hx
  refine ⟨a, cap, fun j => sA (us j 1), fun j => sN (us j 1), fun j => sC (us j 1), rfl, ⟨b, off, ha, fun j k hj hk => ?_⟩, fun j hj => ?_⟩
  · rw [hc j k hj hk]
    have e0 := e j 0 _ hj rfl
    have e1 := slice_eta (e j 1 _ hj rfl)
    match k, hk with
    | 0, _ => generalize us j 0 = y at e0 ⊢; cases e0; rfl
    | 1, _ => rw [e1]; rfl
  · have e1 := e j 1 _ hj rfl
    rw [slice_eta e1] at e1
    exact e1
theorem grp_inp {ι : Iota} {φ : Phi} {H : AH} {w : World} {u : Value} {l : List GroupS} (hS : SRel ι φ H w) (h : ARel ι φ u (.sl false 4 (.ty GroupT l))) :
    ∃ a cap ka kn kc, u = .slice a l.length cap ∧ Inp w a l.length 4 (grpCell l ka kn kc) ∧ ∀ j, j < l.length → ARel ι Phi.none (.slice (ka j) (kn j) (kc j)) ((Ty.slice BucketT).av (rdd zGroupS l j).2.2.2.1) := by
  obtain ⟨a, cap, rfl, us, ⟨b, off, ha, hc⟩, hr⟩ := inp_of (T := GroupT) (sz := 4) rfl hS h
  have e : ∀ j k x, j < l.length → (GroupT.enc (rdd zGroupS l j))[k]? = some x → ARel ι Phi.none (us j k) x := fun j k x hj hx => hr j k x hj hx
  refine ⟨a, cap, fun j => sA (us j 3), fun j => sN (us j 3), fun j => sC (us j 3), rfl, ⟨b, off, ha, fun j k hj hk => ?_⟩, fun j hj => ?_⟩
  · rw [hc j k hj hk]
    have e0 := e j 0 _ hj rfl
    have e1 := e j 1 _ hj rfl
    have e2 := e j 2 _ hj rfl
    have e3 := slice_eta (e j 3 _ hj rfl)
    match k, hk with
    | 0, _ => generalize us j 0 = y at e0 ⊢; cases e0; rfl
    | 1, _ => generalize us j 1 = y at e1 ⊢; cases e1; rfl
    | 2, _ => generalize us j 2 = y at e2 ⊢; cases e2; rfl
    | 3, _ => rw [e3]; rfl
  · have e1 := e j 3 _ hj rfl
    rw [slice_eta e1] at e1
    exact e1

/-- An own row, frozen. -/
theorem own_sl {ι : Iota} {φ : Phi} {w : World} {B : Nat} {e : TypeId} {T : Ty} {l : List T.sem} {u : Value} {vs : List Value} {sz : Nat} (hsz : sz = T.size) (h0 : 0 < sz) (h : w.ownsRow B e sz u l.length vs)
    (hι : ∀ k, B ≤ k → k < w.heap.size → ι k = w.heap[k]?) (hv : ∀ (i j : Nat) x, i < l.length → (T.enc (T.rd l i))[j]? = some x → ∃ v, vs[i * sz + j]? = some v ∧ ARel ι Phi.none v x ∧ v.oneCell' = true) :
    ARel ι φ u (.sl false sz (.ty T l)) := by
  have hlen : (Rows.ty T l : Rows AV).len = l.length := rfl
  rcases h.2 with ⟨rfl, hn⟩ | ⟨g, cap, cur, rfl, hB, hg, hcap, _, hcs, htake⟩
  · have hl : l = [] := List.length_eq_zero_iff.1 hn
    subst hl
    exact .sl none 0 false sz (.ty T []) (Nat.le_refl _) (fun h => by cases h) (fun c hc => by rw [hsz]; exact toL_ty_len c hc) 0 0 #[] 0 (0, 0) (fun _ _ => undef) (fun hne => absurd rfl hne)
      (fun e j c x hc hx => absurd (toL_ty hc).1 (Nat.not_lt_zero _)) (fun e j c x hc hx => absurd (toL_ty hc).1 (Nat.not_lt_zero _)) (fun e j c x hc hx => absurd (toL_ty hc).1 (Nat.not_lt_zero _))
  · have hlt : g < w.heap.size := (Array.getElem?_eq_some_iff.1 hg).1
    have key : ∀ (i j : Nat) c x, (Rows.ty T l : Rows AV).toL[i]? = some c → c[j]? = some x → ∃ v, cur[0 + i * sz + j]? = some v ∧ ARel ι Phi.none v x ∧ v.oneCell' = true := fun i j c x hc hx => by
      obtain ⟨hi, rfl⟩ := toL_ty hc
      obtain ⟨v, h1, h2, h3⟩ := hv i j x hi hx
      refine ⟨v, ?_, h2, h3⟩
      rw [← htake, List.getElem?_take] at h1
      split at h1
      · rw [Nat.zero_add]; simpa using h1
      · cases h1
    have := ARel.sl (ι := ι) (φ := φ) (some ⟨g, 0, none⟩) cap false sz (.ty T l) hcap (fun h => by cases h) (fun c hc => by rw [hsz]; exact toL_ty_len c hc) g 0 cur e (0, 0) (fun i j => (cur[0 + i * sz + j]?).getD undef)
      (fun _ => ⟨rfl, by rw [hι g hB hlt]; exact hg⟩)
      (fun i j c x hc hx => by obtain ⟨v, h1, h2, h3⟩ := key i j c x hc hx; rw [h1]; rfl)
      (fun i j c x hc hx => by obtain ⟨v, h1, h2, h3⟩ := key i j c x hc hx; rw [h1]; exact h2)
      (fun i j c x hc hx => by obtain ⟨v, h1, h2, h3⟩ := key i j c x hc hx; rw [h1]; exact h3)
    exact this

theorem objs_at : ∀ (l : List ObjS) (i : Nat), i < l.length → (objs l)[i * 2]? = some (.int .i64 (rdd zObjS l i).1) ∧ (objs l)[i * 2 + 1]? = some (.int .i64 (rdd zObjS l i).2.1)
  | [], i, h => by simp at h
  | o :: l, 0, h => by simp [objs, rdd]
  | o :: l, i + 1, h => by
    obtain ⟨h1, h2⟩ := objs_at l i (by simpa using h)
    have e : objs (o :: l) = .int .i64 o.1 :: .int .i64 o.2.1 :: objs l := by simp [objs]
    rw [e]
    constructor
    · rw [show (i + 1) * 2 = i * 2 + 1 + 1 by omega, List.getElem?_cons_succ, List.getElem?_cons_succ, h1]; rfl
    · rw [show (i + 1) * 2 + 1 = i * 2 + 1 + 1 + 1 by omega, List.getElem?_cons_succ, List.getElem?_cons_succ, h2]; rfl

theorem obj_sl {ι : Iota} {φ : Phi} {w : World} {B : Nat} {l : List ObjS} {u : Value} (h : w.ownsRow B 84 2 u l.length (objs l)) (hι : ∀ k, B ≤ k → k < w.heap.size → ι k = w.heap[k]?) :
    ARel ι φ u (.sl false 2 (.ty ObjT l)) := own_sl (T := ObjT) rfl (by omega) h hι fun i j x hi hx => by
  obtain ⟨h1, h2⟩ := objs_at l i hi
  have hx : (ObjT.enc (rdd zObjS l i))[j]? = some x := hx
  match j, hx with
  | 0, hx => cases hx; exact ⟨_, h1, .v _, rfl⟩
  | 1, hx => cases hx; exact ⟨_, h2, .v _, rfl⟩
  | j + 2, hx => simp [Ty.enc] at hx
theorem int_sl {ι : Iota} {φ : Phi} {w : World} {B : Nat} {l : List Int} {u : Value} (h : w.ownsRow B 3 1 u l.length (l.map (.int .i64))) (hι : ∀ k, B ≤ k → k < w.heap.size → ι k = w.heap[k]?) :
    ARel ι φ u (.sl false 1 (.ty (.int .i64) l)) := own_sl (T := .int .i64) rfl (by omega) h hι fun i j x hi hx => by
  match j, hx with
  | 0, hx =>
    cases hx
    refine ⟨.int .i64 (Ty.rd (.int .i64) l i), ?_, .v _, rfl⟩
    rw [Nat.mul_one, Nat.add_zero, List.getElem?_map, List.getElem?_eq_getElem hi]
    simp only [Option.map_some]
    rw [rd_some (T := .int .i64) (List.getElem?_eq_getElem hi)]
  | j + 1, hx => simp [Ty.enc] at hx

/-- What solve leaves. -/
theorem solve_post {ι : Iota} {φ : Phi} {w wr : World} {xs : List Value} {g1 : Int → Option (List Int)} {g2 : Int → Option (List InstrS)} {g3 : Int → Option GroupS} {all : List ObjS} {sl : Value}
    (hS : SRel ι φ [] w) (hfr : ∀ i, φ i = .none) (h : SV ι w wr xs g1 g2 g3 all sl) :
    CallPost ι φ [] w (.ok (.ptr 0 0 0)) (HK.encs rh_z02 (((), ((), ((), (all, ())))), (g1, (g2, (g3, ()))))) (.returned (.pointer (some ⟨w.heap.size + 1 + 1 + 1 + 1, 0, none⟩))) wr := by
  have hsz := h.size
  let ι' : Iota := fun b => if b < w.heap.size then ι b else if b < w.heap.size + 5 then none else wr.heap[b]?
  let φ' : Phi := fun i => if i = 0 then some (.at (w.heap.size + 1 + 1 + 1 + 1) 0 4 1 1) else if i = 1 then some (.at (w.heap.size + 1) 0 0 0 0) else if i = 2 then some (.at (w.heap.size + 1 + 1) 0 0 0 0) else if i = 3 then some (.at (w.heap.size + 1 + 1 + 1) 0 0 0 0) else .none
  have hlt : ∀ b o, ι b = some o → b < w.heap.size := fun b o hb => (Array.getElem?_eq_some_iff.1 (hS.imm b o hb)).1
  have hιι : ∀ b o, ι b = some o → ι' b = some o := fun b o hb => by show (if b < w.heap.size then ι b else _) = _; rw [if_pos (hlt b o hb)]; exact hb
  have hιn : ∀ k, w.heap.size + 5 ≤ k → k < wr.heap.size → ι' k = wr.heap[k]? := fun k hk _ => by
    show (if k < w.heap.size then ι k else if k < w.heap.size + 5 then none else wr.heap[k]?) = _
    rw [if_neg (by omega), if_neg (by omega)]
  have hat : ∀ id blk, (HK.encs rh_z02 (((), ((), ((), (all, ())))), (g1, (g2, (g3, ()))))).at id = some blk →
      (id = 0 ∧ blk = .row false 4 (.lit [[.mp 1, .mp 2, .mp 3, .sl false 2 (.ty ObjT all)]])) ∨ (id = 1 ∧ blk = .mf (.int .i64) (.slice (.int .i64)) g1) ∨ (id = 2 ∧ blk = .mf (.int .i64) (.slice InstrT) g2) ∨ (id = 3 ∧ blk = .mf (.int .i64) GroupT g3) := by
    intro id blk hb
    match id, hb with
    | 0, hb => exact .inl ⟨rfl, by cases hb; rfl⟩
    | 1, hb => exact .inr (.inl ⟨rfl, by cases hb; rfl⟩)
    | 2, hb => exact .inr (.inr (.inl ⟨rfl, by cases hb; rfl⟩))
    | 3, hb => exact .inr (.inr (.inr ⟨rfl, by cases hb; rfl⟩))
    | n + 4, hb => exact absurd hb (by simp [AH.at, HK.encs])
  have hloc : ∀ id blk, (HK.encs rh_z02 (((), ((), ((), (all, ())))), (g1, (g2, (g3, ()))))).at id = some blk → ∀ b o s l n, φ' id = some (.at b o s l n) → (b = w.heap.size + 1 + 1 + 1 + 1 ∧ id = 0) ∨ (b = w.heap.size + 1 ∧ id = 1) ∨ (b = w.heap.size + 1 + 1 ∧ id = 2) ∨ (b = w.heap.size + 1 + 1 + 1 ∧ id = 3) := by
    intro id blk hb b o s l n hl
    rcases hat id blk hb with ⟨rfl, _⟩ | ⟨rfl, _⟩ | ⟨rfl, _⟩ | ⟨rfl, _⟩ <;> simp [φ'] at hl <;> obtain ⟨rfl, _⟩ := hl <;> simp
  refine ⟨ι', φ', ⟨by simp, fun i hi => ?_, fun i _ _ => hfr i⟩, ⟨fun b o hb => ?_, fun id blk hb => ?_, fun id blk b off sz lim len hb hl => ?_, fun id id' blk blk' b off sz lim len off' sz' lim' len' hb hb' hl hl' => ?_⟩,
    ⟨h.below.os, h.below.tape, h.below.output, h.below.size, fun b hb _ => h.below.block b hb, fun b hb => ?_, hιι, fun b hb hb' => ?_⟩, _, rfl, ?_⟩
  · have hi : ¬ (0 ≤ i ∧ i < 4) := hi
    have : ¬ i < 4 := fun h => hi ⟨Nat.zero_le _, h⟩
    rw [hfr i]
    simp only [φ']
    rw [if_neg (by omega), if_neg (by omega), if_neg (by omega), if_neg (by omega)]
  · have hb : (if b < w.heap.size then ι b else if b < w.heap.size + 5 then none else wr.heap[b]?) = some o := hb
    split at hb
    · rename_i hbl
      rw [h.below.block b hbl]; exact hS.imm b o hb
    · split at hb
      · cases hb
      · exact hb
  · rcases hat id blk hb with ⟨rfl, rfl⟩ | ⟨rfl, rfl⟩ | ⟨rfl, rfl⟩ | ⟨rfl, rfl⟩
    · refine ⟨_, rfl, ⟨rfl, rfl⟩, by omega, Nat.le_refl _, _, _, _, h.obj, noF _, by simp, ?_⟩
      rw [toL_lit]
      refine ⟨fun c hc => by simp at hc; subst hc; rfl, fun e j c x hc hx => ?_⟩
      match e, hc with
      | 0, hc =>
        cases hc
        match j, hx with
        | 0, hx => cases hx; exact ⟨_, rfl, .mp 1 _ _ _ _ _ rfl, rfl⟩
        | 1, hx => cases hx; exact ⟨_, rfl, .mp 2 _ _ _ _ _ rfl, rfl⟩
        | 2, hx => cases hx; exact ⟨_, rfl, .mp 3 _ _ _ _ _ rfl, rfl⟩
        | 3, hx =>
          cases hx
          refine ⟨sl, rfl, obj_sl h.row hιn, ?_⟩
          rcases h.row.2 with ⟨rfl, _⟩ | ⟨g, cap, cur, rfl, _⟩ <;> rfl
        | j + 4, hx => simp at hx
      | e + 1, hc => simp at hc
    · obtain ⟨ms, k, h1, h2, _⟩ := h.m1
      refine ⟨_, rfl, ms, k, h1, rfl, h2.1, fun x => ?_⟩
      rcases h2.2 x with ⟨a, b⟩ | ⟨i, u, s, a, b, hr⟩
      · exact .inl ⟨a, b⟩
      · exact .inr ⟨i, u, s, a, b, int_sl hr.2.1 hιn⟩
    · obtain ⟨ms, k, h1, h2⟩ := h.m2
      refine ⟨_, rfl, ms, k, h1, rfl, h2.1, fun x => ?_⟩
      rcases h2.2 x with ⟨a, b⟩ | ⟨i, u, s, a, b, hr⟩
      · exact .inl ⟨a, b⟩
      · exact .inr ⟨i, u, s, a, b, hr.imm hιι⟩
    · obtain ⟨ms, k, h1, h2⟩ := h.m3
      refine ⟨_, rfl, ms, k, h1, rfl, h2.1, fun x => ?_⟩
      rcases h2.2 x with ⟨a, b⟩ | ⟨i, u, s, a, b, hr⟩
      · exact .inl ⟨a, b⟩
      · exact .inr ⟨i, u, s, a, b, hr.imm hιι⟩
  · show (if b < w.heap.size then ι b else if b < w.heap.size + 5 then none else wr.heap[b]?) = none
    have := hloc id blk hb _ _ _ _ _ hl
    rw [if_neg (by omega), if_pos (by omega)]
  · have h1 := hloc id blk hb _ _ _ _ _ hl
    have h2 := hloc id' blk' hb' _ _ _ _ _ hl'
    omega
  · left
    obtain ⟨id, blk, o, s, l, n, h1, h2⟩ := hb
    have := hloc id blk h1 _ _ _ _ _ h2
    omega
  · left
    rcases Nat.lt_or_ge b w.heap.size with hlt' | hge
    · exfalso
      have : ι' b = ι b := if_pos hlt'
      rw [this] at hb'; exact hb' hb
    · exact hge
  · exact .ptr 0 0 0 (w.heap.size + 1 + 1 + 1 + 1) 0 4 1 1 rfl (by omega)

theorem H24.solve_ok (hm : Try.prog.follows .mixedOrders = true) : SpecOk Try.prog 30 (specQ [.agg ConfigT] [] ro_z02 rh_z02 fun a b => Q_z02 a.1) := by
  intro ι φ H w args vs r H' hS hfr hv hc
  unfold specQ at hc
  split at hc
  case h_2 => simp [Tr.val] at hc
  rename_i a b h1 h2
  have e1 := EK.decs_encs _ _ _ h1
  have e2 := HK.decs_encs _ _ _ h2
  subst e1; subst e2
  obtain ⟨c, _⟩ := a
  have hH : HK.encs [] b = [] := rfl
  rw [hH] at hS hfr ⊢
  cases hq : Q_z02 c with
  | none => simp only [hq] at hc; simp [Tr.val] at hc
  | some q =>
  simp only [hq] at hc
  simp only [RS.get, Option.getD_some, Option.isSome_some, Tr.val, if_true, Option.some.injEq] at hc
  have hr : encRes ro_z02 rh_z02 q = (r, H') := hc
  unfold Q_z02 solveQ at hq
  cases hd : decide (c.2.2.1.length ≤ 1000 ∧ c.2.2.2.1.length ≤ 1000 ∧ c.2.2.2.2.1.length ≤ 1000 ∧ c.2.2.2.2.2.1.length ≤ 1000) with
  | false => rw [hd] at hq; cases hq
  | true =>
  rw [hd] at hq
  simp only [decide_eq_true_eq] at hd
  obtain ⟨l2, l3, l4, l5⟩ := hd
  have hargs : EK.encs [.agg ConfigT] (c, ()) = [AV.agg (ConfigT.enc c)] := rfl
  rw [hargs] at hv
  obtain ⟨u, us, rfl, hu, hn⟩ := hv.uncons
  have := hn.nil_inv; subst this
  obtain ⟨c0, c1, lt, le, lb, lg, c6, c7, c8, cu⟩ := c
  cases hu with
  | agg vs _ hl hh =>
  match vs, hl with
  | [x0, x1, x2, x3, x4, x5, x6, x7, x8], _ =>
  obtain ⟨a2, k2, ka, kn, kc, rfl, i2⟩ := tab_inp hS (hh 2 _ _ rfl rfl)
  obtain ⟨a3, k3, ea, en, ec, rfl, i3⟩ := ent_inp hS (hh 3 _ _ rfl rfl)
  obtain ⟨a4, k4, ba, bn, bc, rfl, i4, hcode⟩ := blk_inp hS (hh 4 _ _ rfl rfl)
  obtain ⟨a5, k5, ga, gn, gc, rfl, i5, hbuck⟩ := grp_inp hS (hh 5 _ _ rfl rfl)
  refine solve_walk (ι := ι) x0 x1 x6 x7 x8 a2 a3 a4 a5 lt.length k2 le.length k3 lb.length k4 lg.length k5 w _ lt rfl l2 ka kn kc i2 le rfl l3 ea en ec i3 lb rfl l4 ba bn bc i4 hcode lg rfl l5 ga gn gc i5 hbuck ?_
  intro wr g1 g2 g3 all sl hSV e1 e2 e3
  have hp := solve_post hS (fun i => hfr i (Nat.zero_le _)) hSV
  have hq' : q = (((), ()), (((), ((), ((), (all, ())))), (g1, (g2, (g3, ()))))) := by
    have e3a : g3 = (solve4 lg (fun _ => none) (solve3 lb (fun _ => none) (solve1 lt (fun _ => none) []).2).2).1 := congrArg Prod.fst e3
    have e3b : all = (solve4 lg (fun _ => none) (solve3 lb (fun _ => none) (solve1 lt (fun _ => none) []).2).2).2 := congrArg Prod.snd e3
    rw [e1, e2, e3a, e3b]
    exact (Option.some.inj hq).symm
  subst hq'
  cases hr
  exact hp
#print axioms H24.solve_ok
end Go.AMach
