/- A part of the walk. -/
import Derived.Test.YtcngpijmkdpbgaaCxa
namespace Go.AMach
set_option linter.unusedVariables false
set_option linter.unusedSimpArgs false
set_option linter.unnecessarySimpa false
open Go Go.Proofs
set_option linter.unusedVariables false
def s_z2a_r : Sig := ⟨[6], [.ty .bool], []⟩
def s_z2a_h0 : Sig := ⟨[2, 7, 8], [.ty (.slice ActT), .ptr 0 0 0, .ty (.int .i64)], [.one false [.ptr 1 0 0, .hs 3 0, .ptr 4 0 0, .ty (.int .i64)], .one false [.hs 2 0], .row (.int .u8), .row HeadT, .one false [.hs 5 0], .row (.int .u8)]⟩
def s_z2a_t0 : Sig := ⟨[], [], []⟩
def p_z2a : Pol := ⟨fun i => if i = 0 then some [(2, .keep), (7, .keep), (8, .keep)] else none, fun i => if i = 0 then some [] else none, some [(6, .keep)], [.keep], []⟩
def e_z2a : List EK := [.ty .str, .ty (.slice NodeT), .ty (.slice ActT)]
def h_z2a : List HK := []
noncomputable def cf_z2a : CallF := mkCF [(10, c_z0z), (11, c_z1u), (18, c_z1x), (34, c_z29), (21, c_z1z), (16, c_z1v)] [(10, [.str, (.slice NodeT)]), (11, [])]
noncomputable def ls_z2a (n : Nat) : Loops := fun i => if i = 0 then some (loopT 0 (p_z2a.head 0) s_z2a_h0 fun K v => L_z2a_0 n (fun z0 => K .rt (s_z2a_r.enc ((z0, ()), ()))) (fun _ => K (.ex 0) (s_z2a_t0.enc ((), ()))) v.1.1 n v.1.2.2.1 v.2.1.2.1 v.2.1.2.2.2.1 v.2.2.1.1 v.2.2.2.1 v.2.2.2.2.1 v.2.2.2.2.2.1.1 v.2.2.2.2.2.2.1)
  else  none
noncomputable def b_z2a_0 : Code := partOf (bodyOf Try.f8) [1, 1, 1, 0, 1, 0, 0]
noncomputable def V_z2a_0 (n : Nat) (K : Cont) (rec : Sig.sem s_z2a_h0 → Option Res) (v : Sig.sem s_z2a_h0) : Option Res := F_z2a_0 n (fun z0 => K .rt (s_z2a_r.enc ((z0, ()), ()))) (fun _ => K (.ex 0) (s_z2a_t0.enc ((), ()))) v.1.1 (fun z1 z2 z3 z4 z5 z6 z7 z8 => rec ((v.1.1, ((), (z1, ()))), (((), (z2, ((), (z3, ())))), ((z4, ()), (z5, (z6, ((z7, ()), (z8, ())))))))) v.1.2.2.1 v.2.1.2.1 v.2.1.2.2.2.1 v.2.2.1.1 v.2.2.2.1 v.2.2.2.2.1 v.2.2.2.2.2.1.1 v.2.2.2.2.2.2.1
theorem t_z2a_0 (n : Nat) (K : Cont) (rec : Sig.sem s_z2a_h0 → Option Res) (v : Sig.sem s_z2a_h0) : runT Try.prog cf_z2a Try.f8.ntmps 0 p_z2a (ls_z2a n) b_z2a_0 (s_z2a_h0.enc v) (turnK 0 (p_z2a.head 0) s_z2a_h0 rec K) = V_z2a_0 n K rec v := by kernel_rfl
noncomputable def W_z2a_0 (n : Nat) (K : Cont) (m : Nat) (v : Sig.sem s_z2a_h0) : Option Res := L_z2a_0 n (fun z0 => K .rt (s_z2a_r.enc ((z0, ()), ()))) (fun _ => K (.ex 0) (s_z2a_t0.enc ((), ()))) v.1.1 m v.1.2.2.1 v.2.1.2.1 v.2.1.2.2.2.1 v.2.2.1.1 v.2.2.2.1 v.2.2.2.2.1 v.2.2.2.2.2.1.1 v.2.2.2.2.2.2.1
theorem i_z2a_0 (n : Nat) (K : Cont) : ∀ m v, iter (V_z2a_0 n K) m v = W_z2a_0 n K m v := by
  intro m
  induction m with
  | zero => intro v; rfl
  | succ m ih =>
    intro v
    show V_z2a_0 n K (iter (V_z2a_0 n K) m) v = V_z2a_0 n K (W_z2a_0 n K m) v
    rw [show iter (V_z2a_0 n K) m = W_z2a_0 n K m from funext ih]
theorem o_z2a_0 (n : Nat) : ∀ L, ls_z2a n 0 = some L → ∀ s K r, L s K = some r → ∃ x s', loopN (run Try.prog cf_z2a Try.f8.ntmps 0 n p_z2a none b_z2a_0) (gc 0 (p_z2a.head 0)) n s = some (x, s') ∧ K x s' = some r := by
  intro L hL s K r h
  have hL : some (loopT 0 (p_z2a.head 0) s_z2a_h0 fun K v => W_z2a_0 n K n v) = some L := hL
  cases hL
  have hb : LOk Try.prog cf_z2a Try.f8.ntmps 0 n p_z2a (ls_z2a n) b_z2a_0 := ⟨⟨trivial, ⟨trivial, trivial⟩⟩, ⟨⟨trivial, ⟨trivial, ⟨trivial, ⟨⟨trivial, trivial⟩, trivial⟩⟩⟩⟩, trivial⟩⟩
  refine loopT_ok hb (V_z2a_0 n) (t_z2a_0 n) n s K r ?_
  rw [← h]
  unfold loopT
  simp only [i_z2a_0]
theorem m_z2a (n : Nat) (a0 : ByteArray) (a1 : (List NodeS)) (a2 : (List ActS)) : runFT Try.prog cf_z2a p_z2a (ls_z2a n) Try.f8 (bodyOf Try.f8) (EK.encs e_z2a ((a0, (a1, (a2, ()))), ()).1) (HK.encs h_z2a ((a0, (a1, (a2, ()))), ()).2) = M_z2a n a0 a1 a2 := by kernel_rfl
theorem g_z2a (n : Nat) (a0 : ByteArray) (a1 : (List NodeS)) (a2 : (List ActS)) {r : Res} (h : M_z2a n a0 a1 a2 = some r) : runF Try.prog cf_z2a n p_z2a 8 (EK.encs e_z2a ((a0, (a1, (a2, ()))), ()).1) (HK.encs h_z2a ((a0, (a1, (a2, ()))), ()).2) = some r := by
  have hb : LOk Try.prog cf_z2a Try.f8.ntmps 0 n p_z2a (ls_z2a n) (bodyOf Try.f8) := ⟨trivial, ⟨trivial, ⟨⟨trivial, ⟨⟨trivial, trivial⟩, trivial⟩⟩, ⟨⟨trivial, (o_z2a_0 n)⟩, ⟨trivial, trivial⟩⟩⟩⟩⟩
  exact runFT_some Try.prog (c := bodyOf Try.f8) Try.func8 (show Try.f8.body = some (bodyOf Try.f8) from rfl) (show (3 : Nat) ≤ 77 by decide) hb ((m_z2a n a0 a1 a2).trans h) rfl (by kernel_rfl)
noncomputable def c_z2a : Spec := specQ e_z2a h_z2a ro_z2a rh_z2a fun a b => Q_z2a a.1 a.2.1 a.2.2.1
theorem k_z2a (hm : Try.prog.follows .mixedOrders = true) : SpecOk Try.prog 8 c_z2a := specQ_ok (pol := p_z2a) hm (cf := cf_z2a) (tab_ok (specs_cons (k_z0z hm) (specs_cons (k_z1u hm) (specs_cons (k_z1x hm) (specs_cons (k_z29 hm) (specs_cons (k_z1z hm) (specs_cons (k_z1v hm) specs_nil))))))) fun a b r h => ⟨FUEL, g_z2a FUEL a.1 a.2.1 a.2.2.1 (decRes_some h)⟩
end Go.AMach
