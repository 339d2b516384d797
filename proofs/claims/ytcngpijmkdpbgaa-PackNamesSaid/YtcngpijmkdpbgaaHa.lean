/- slices.Clone, met by its contract. -/
import Derived.Test.YtcngpijmkdpbgaaDx
import Derived.Test.YtcngpijmkdpbgaaAm23
import Derived.Test.YtcngpijmkdpbgaaProg
import Derived.WalkKit
import Derived.Lib.SliceRun
namespace Go.AMach.H17
set_option linter.unusedVariables false
set_option linter.unusedSimpArgs false
set_option linter.unnecessarySimpa false
open Go Go.Proofs Go.RowKit
set_option linter.unusedVariables false
set_option linter.unusedSectionVars false
variable [Sites]

theorem specQ_inv {es : List EK} {hs : List HK} {eo : List EK} {ho : List HK} {Q : EK.sems es → HK.sems hs → Option (RS eo ho)} {args : List AV} {H : AH} {r : Res} (h : (specQ es hs eo ho Q args H).val = some r) :
    ∃ a b q, args = EK.encs es a ∧ H = HK.encs hs b ∧ Q a b = some q ∧ encRes eo ho q = r := by
  unfold specQ at h
  split at h
  case h_2 => simp [Tr.val] at h
  rename_i a b h1 h2
  refine ⟨a, b, ?_⟩
  cases hq : Q a b with
  | none => rw [hq] at h; simp [Tr.val] at h
  | some q =>
    rw [hq] at h
    simp only [RS.get, Option.getD_some, Option.isSome_some, Tr.val, if_true, Option.some.injEq] at h
    exact ⟨q, EK.decs_encs _ _ _ h1, HK.decs_encs _ _ _ h2, rfl, h⟩
theorem below_frm {ι : Iota} {φ : Phi} {w w' : World} (h : Below w.heap.size w w') : Frm ι [] φ w ι [] φ w' :=
  ⟨h.os, h.tape, h.output, h.size, fun b hb _ => h.block b hb, fun b ⟨id, blk, o, s, l, n, h1, h2⟩ => by simp [AH.at] at h1, fun _ _ h => h, fun _ h h' => absurd h h'⟩
theorem below_srel {ι : Iota} {φ : Phi} {w w' : World} (hS : SRel ι φ [] w) (h : Below w.heap.size w w') : SRel ι φ [] w' :=
  ⟨fun b o hb => by
    have h1 := hS.imm b o hb
    have hlt : b < w.heap.size := (Array.getElem?_eq_some_iff.1 h1).1
    rw [h.block b hlt]; exact h1, fun id blk h => by simp [AH.at] at h, fun id blk b off sz lim len h => by simp [AH.at] at h, fun id id' blk blk' b off sz lim len off' sz' lim' len' h => by simp [AH.at] at h⟩

theorem wpList_append_run {P : Program} {ops : Array Oper} {rest : List Oper} {o : Oper} {a : Act} {w : World} {Q : Exit → Act → World → Prop} (hgd : o.guard = none) (s x : Operand) (t : TypeId)
    (ho : o.op = .call { callee := .builtin .append, args := #[s, x], argTypes := #[t, t] }) (vs vx v' : Value) (w' : World) (hs : a.eval s = vs) (hx : a.eval x = vx)
    (hrun : ∀ ty, (Builtin.append_ #[t, t] ty #[vs, vx]).run P w = .ok v' w') (h : wpList P ops Q rest (a.put o.dst v') w') : wpList P ops Q (o :: rest) a w :=
  wpList_plain hgd fun _ hK => by
    unfold Oper.wp execOp
    simp only [ho, resolve, invoke, builtin, Sem.run_bind, Sem.run_pure, Result.andThen_ok, List.map_toArray, List.map_cons, List.map_nil, hs, hx, hrun]
    exact hK _ _ h

theorem appendM_eq (l : List HeadS) : appendM Try.prog #[36, 36] [.sl true 2 (.lit []), .sl false 2 (.ty HeadT l)] = appOnto 2 16 true (.ty HeadT l) (.sl true 2 (.lit [])) := by kernel_rfl
theorem append_run (l : List HeadS) (h : l.length ≤ 1000000000) : (appendM Try.prog #[36, 36] [.sl true 2 (.lit []), .sl false 2 (.ty HeadT l)]).run [] 0 = some (.ok (.hs false 0 0 l.length), [some (.row true 2 (.ty HeadT l))], 1) := by
  rw [appendM_eq]
  have d : decide (l.length * 16 ≤ 2 ^ 46 ∧ l.length ≤ 2 ^ 46) = true := by rw [decide_eq_true_eq]; omega
  have e1 : ((Rows.lit ([] : List (List AV))).len == 0) = true := rfl
  have e2 : (Rows.ty HeadT l : Rows AV).len = l.length := rfl
  have e3 : (Rows.lit ([] : List (List AV))).cat (.ty HeadT l) = .ty HeadT l := rfl
  have e4 : (Rows.lit ([] : List (List AV))).len = 0 := rfl
  simp only [appOnto, appNew, if_true, e1, AM.run, e2, e3, e4, Nat.zero_add, d, cond_true, show (0 : Nat) < 2 from by decide]
  rfl

set_option maxHeartbeats 2000000 in
set_option maxRecDepth 100000 in
theorem clone_ok : SpecOk Try.prog 40 (specQ [.ty (.slice HeadT)] [] [.hs 0 0] [.row HeadT] fun a b => cloneQ a.1) := by
  intro ι φ H w args vs r H' hS hfr hv hc
  obtain ⟨⟨l, _⟩, b, q, rfl, rfl, hq, hr⟩ := specQ_inv hc
  have hH : HK.encs [] b = [] := rfl
  rw [hH] at hS hfr ⊢
  have hargs : EK.encs [.ty (.slice HeadT)] (l, ()) = [AV.sl false 2 (.ty HeadT l)] := rfl
  rw [hargs] at hv
  obtain ⟨u1, us, rfl, h1, h2⟩ := hv.uncons
  have := h2.nil_inv; subst this
  have hq : cloneQ l = some q := hq
  unfold cloneQ at hq
  split at hq
  case isFalse => cases hq
  rename_i hsz
  cases hq
  have hr' : (AR.ok (AV.hs false 0 0 l.length), ([some (.row true 2 (.ty HeadT l))] : AH)) = (r, H') := hr
  cases hr'
  have h1' := h1
  generalize hL : (Rows.ty HeadT l : Rows AV) = es at h1
  cases h1 with
  | sl a cap _ _ _ hcc htg hw bk off cs T F us hm g1 g2 g3 =>
  have hlen : es.len = l.length := by rw [← hL]; rfl
  rw [hlen] at hm hcc h1' ⊢
  subst hL
  have hn : φ 0 = .none := hfr 0 (Nat.le_refl _)
  have q36 : ∀ (w : World) (a : Option Addr) (n c n' c' : Nat), (binOp .eql 36 (.slice a n c) (.slice none n' c')).run Try.prog w = .ok (.bool a.isNone) w := fun w a n c n' c' => Lib.run_eql_slice_nil w _ _ a n c n' c' Try.underlying36
  have t36 := Try.underlying36
  have z43 := Try.sizeOf43
  have v43 := Try.zeroValue43
  show Calls Try.prog 40 #[.slice a l.length cap] w _
  cases a with
  | none =>
    have hl0 : l = [] := by
      cases l with
      | nil => rfl
      | cons x l' => have := (hm (by simp)).1; cases this
    subst hl0
    go_enter Try.func40, Try.ntmps40
    go_wp2
    go_ret
    exact ⟨ι, updφ φ 0 .virt, Ext.upd _ hn, hS.add hn (fun _ _ _ => rfl) (fun b o s l n e => by cases e) rfl, Frm.add hS hn (fun _ _ => rfl) (fun b o s l n e => by cases e) rfl rfl rfl (Nat.le_refl _), _, rfl, .hs false 0 0 0 none 0 .virt (updφ_same _ _ _) (Nat.le_refl _) (fun h => by cases h) (.inl rfl)⟩
  | some ad =>
    have hB := (Below.refl _ w).alloc (Nat.le_refl _) (.cells #[] 43)
    have hS1 := below_srel hS hB
    have hF1 := below_frm (ι := ι) (φ := φ) hB
    have hsl : ARels ι φ [.slice (some ⟨w.heap.size, 0, none⟩) 0 0, .slice (some ad) l.length cap] [.sl true 2 (.lit []), .sl false 2 (.ty HeadT l)] :=
      ARels.cons (.sl (some ⟨w.heap.size, 0, none⟩) 0 true 2 (.lit []) (Nat.le_refl _) (fun _ => rfl) (fun c hc => by rw [toL_lit] at hc; simp at hc) 0 0 #[] 0 (0, 0) (fun _ _ => undef) (fun h => absurd rfl h)
        (fun e j c x hc => by rw [toL_lit] at hc; simp at hc) (fun e j c x hc => by rw [toL_lit] at hc; simp at hc) (fun e j c x hc => by rw [toL_lit] at hc; simp at hc)) (ARels.cons h1' ARels.nil)
    have hsound := fun ty => sound_append (P := Try.prog) (H := []) (w := w.alloc (.cells #[] 43)) (n := 0) (ts := #[36, 36]) (ty := ty) hsl hS1 _ _ _ (append_run l hsz) (fun i _ hi => hfr i (Nat.zero_le _))
    obtain ⟨u, w2, φ2, hrun, hE, hS2, hu, hF⟩ := hsound 36
    have hrun' : ∀ ty, (Builtin.append_ #[36, 36] ty #[.slice (some ⟨w.heap.size, 0, none⟩) 0 0, .slice (some ad) l.length cap]).run Try.prog (w.alloc (.cells #[] 43)) = .ok u w2 := fun ty => hrun
    go_enter Try.func40, Try.ntmps40
    go_wp2_with (at_builtin; refine wpList_append_run rfl _ _ 36 rfl _ _ u w2 rfl rfl hrun' ?_)
    go_wp2
    go_ret
    exact ⟨ι, φ2, hE, hS2, hF1.trans hF, _, rfl, hu⟩

theorem clone_nil : SpecOk Try.prog 40 (specQ [.nul 4] [] [.nul 4] [] fun a b => some (((), ()), ())) := by
  intro ι φ H w args vs r H' hS hfr hv hc
  obtain ⟨⟨p0, _⟩, b, q, rfl, rfl, hq, hr⟩ := specQ_inv hc
  cases hq
  have hH : HK.encs [] b = [] := rfl
  rw [hH] at hS hfr ⊢
  have hargs : EK.encs [.nul 4] (p0, ()) = [AV.v (.slice none 0 0)] := rfl
  rw [hargs] at hv
  obtain ⟨u1, us, rfl, h1, h2⟩ := hv.uncons
  have := h2.nil_inv; subst this
  cases h1
  have hr' : (AR.ok (AV.v (.slice none 0 0)), ([] : AH)) = (r, H') := hr
  cases hr'
  have q36 : ∀ (w : World) (a : Option Addr) (n c n' c' : Nat), (binOp .eql 36 (.slice a n c) (.slice none n' c')).run Try.prog w = .ok (.bool a.isNone) w := fun w a n c n' c' => Lib.run_eql_slice_nil w _ _ a n c n' c' Try.underlying36
  show Calls Try.prog 40 #[.slice none 0 0] w _
  go_enter Try.func40, Try.ntmps40
  go_wp2
  go_ret
  exact ⟨ι, φ, Ext.refl _ _, hS, Frm.refl _ _ _ _, _, rfl, .v _⟩
end Go.AMach.H17
