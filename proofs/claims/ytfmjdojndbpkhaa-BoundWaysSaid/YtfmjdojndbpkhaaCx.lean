/- A part of the walk. -/
import Derived.Test.YtfmjdojndbpkhaaCxa
namespace Go.AMach
set_option linter.unusedVariables false
set_option linter.unusedSimpArgs false
set_option linter.unnecessarySimpa false
open Go Go.Proofs
set_option linter.unusedVariables false
def s_z11_r : Sig := ⟨[6], [.ty .bool], []⟩
def s_z11_h0 : Sig := ⟨[2, 3, 8], [.ty (.int .i64), .ptr 0 0 0, .ty (.int .i64)], [.cell ConfigT]⟩
def s_z11_t1 : Sig := ⟨[2, 3, 8], [.ty (.int .i64), .ptr 0 0 0, .ty (.int .i64)], [.cell ConfigT]⟩
def s_z11_h2 : Sig := ⟨[3, 8, 9, 11], [.ptr 0 0 0, .ty (.int .i64), .ty (.int .i64), .ty (.int .i64)], [.cell ConfigT]⟩
def s_z11_t2 : Sig := ⟨[3], [.ptr 0 0 0], [.cell ConfigT]⟩
def s_z11_t0 : Sig := ⟨[3], [.ptr 0 0 0], [.cell ConfigT]⟩
def p_z11 : Pol := ⟨fun i => if i = 0 then some [(2, .keep), (3, (.own ConfigT)), (8, .keep)] else if i = 2 then some [(3, (.own ConfigT)), (8, .keep), (9, .keep), (11, .keep)] else none, fun i => if i = 1 then some [(2, .keep), (3, (.own ConfigT)), (8, .keep)] else if i = 2 then some [(3, (.own ConfigT))] else if i = 0 then some [(3, (.own ConfigT))] else none, some [(6, .keep)], [.keep], []⟩
def e_z11 : List EK := [.agg ConfigT, .agg ConfigT, .ty (.int .i64)]
def h_z11 : List HK := []
noncomputable def cf_z11 : CallF := mkCF [(10, c_z00), (11, c_z0s), (14, c_z0e), (20, c_z0c), (18, c_z0a), (12, c_z0r)] [(10, [ConfigT]), (11, []), (14, [ConfigT]), (20, [ConfigT, (.int .i64)]), (18, [ConfigT, (.int .i64)]), (12, [ConfigT])]
noncomputable def ls_z11 (n : Nat) : Loops := fun i => if i = 2 then some (loopT 0 (p_z11.head 2) s_z11_h2 fun K v => L_z11_2 n (fun z0 => K .rt (s_z11_r.enc ((z0, ()), ()))) (fun _ => K (.ex 2) (s_z11_t2.enc (((), ()), (v.2.1, ())))) v.1.2.1 v.1.2.2.1 v.2.1 n v.1.2.2.2.1)
  else if i = 0 then some (loopT 0 (p_z11.head 0) s_z11_h0 fun K v => L_z11_0 n (fun z0 => K .rt (s_z11_r.enc ((z0, ()), ()))) (fun _ => K (.ex 0) (s_z11_t0.enc (((), ()), (v.2.1, ())))) v.1.1 v.2.1 n v.1.2.2.1)
  else  none
noncomputable def b_z11_2 : Code := partOf (bodyOf Try.f8) [1, 1, 1, 1, 0, 1, 0, 0, 1, 0, 0, 1, 1, 0, 1, 0, 0]
noncomputable def V_z11_2 (n : Nat) (K : Cont) (rec : Sig.sem s_z11_h2 → Option Res) (v : Sig.sem s_z11_h2) : Option Res := F_z11_2 n (fun z0 => K .rt (s_z11_r.enc ((z0, ()), ()))) (fun _ => K (.ex 2) (s_z11_t2.enc (((), ()), (v.2.1, ())))) v.1.2.1 v.1.2.2.1 v.2.1 (fun z2 => rec (((), (v.1.2.1, (v.1.2.2.1, (z2, ())))), (v.2.1, ()))) v.1.2.2.2.1
theorem t_z11_2 (n : Nat) (K : Cont) (rec : Sig.sem s_z11_h2 → Option Res) (v : Sig.sem s_z11_h2) : runT Try.prog cf_z11 Try.f8.ntmps 0 p_z11 (ls_z11 n) b_z11_2 (s_z11_h2.enc v) (turnK 0 (p_z11.head 2) s_z11_h2 rec K) = V_z11_2 n K rec v := by kernel_rfl
noncomputable def W_z11_2 (n : Nat) (K : Cont) (m : Nat) (v : Sig.sem s_z11_h2) : Option Res := L_z11_2 n (fun z0 => K .rt (s_z11_r.enc ((z0, ()), ()))) (fun _ => K (.ex 2) (s_z11_t2.enc (((), ()), (v.2.1, ())))) v.1.2.1 v.1.2.2.1 v.2.1 m v.1.2.2.2.1
theorem i_z11_2 (n : Nat) (K : Cont) : ∀ m v, iter (V_z11_2 n K) m v = W_z11_2 n K m v := by
  intro m
  induction m with
  | zero => intro v; rfl
  | succ m ih =>
    intro v
    show V_z11_2 n K (iter (V_z11_2 n K) m) v = V_z11_2 n K (W_z11_2 n K m) v
    rw [show iter (V_z11_2 n K) m = W_z11_2 n K m from funext ih]
theorem o_z11_2 (n : Nat) : ∀ L, ls_z11 n 2 = some L → ∀ s K r, L s K = some r → ∃ x s', loopN (run Try.prog cf_z11 Try.f8.ntmps 0 n p_z11 none b_z11_2) (gc 0 (p_z11.head 2)) n s = some (x, s') ∧ K x s' = some r := by
  intro L hL s K r h
  have hL : some (loopT 0 (p_z11.head 2) s_z11_h2 fun K v => W_z11_2 n K n v) = some L := hL
  cases hL
  have hb : LOk Try.prog cf_z11 Try.f8.ntmps 0 n p_z11 (ls_z11 n) b_z11_2 := ⟨⟨trivial, ⟨trivial, trivial⟩⟩, ⟨⟨trivial, ⟨trivial, ⟨⟨trivial, trivial⟩, trivial⟩⟩⟩, trivial⟩⟩
  refine loopT_ok hb (V_z11_2 n) (t_z11_2 n) n s K r ?_
  rw [← h]
  unfold loopT
  simp only [i_z11_2]
noncomputable def b_z11_0 : Code := partOf (bodyOf Try.f8) [1, 1, 1, 1, 0, 1, 0, 0]
noncomputable def V_z11_0 (n : Nat) (K : Cont) (rec : Sig.sem s_z11_h0 → Option Res) (v : Sig.sem s_z11_h0) : Option Res := F_z11_0 n (fun z0 => K .rt (s_z11_r.enc ((z0, ()), ()))) (fun _ => K (.ex 0) (s_z11_t0.enc (((), ()), (v.2.1, ())))) v.1.1 v.2.1 (fun z1 => rec ((v.1.1, ((), (z1, ()))), (v.2.1, ()))) v.1.2.2.1
theorem t_z11_0 (n : Nat) (K : Cont) (rec : Sig.sem s_z11_h0 → Option Res) (v : Sig.sem s_z11_h0) : runT Try.prog cf_z11 Try.f8.ntmps 0 p_z11 (ls_z11 n) b_z11_0 (s_z11_h0.enc v) (turnK 0 (p_z11.head 0) s_z11_h0 rec K) = V_z11_0 n K rec v := by kernel_rfl
noncomputable def W_z11_0 (n : Nat) (K : Cont) (m : Nat) (v : Sig.sem s_z11_h0) : Option Res := L_z11_0 n (fun z0 => K .rt (s_z11_r.enc ((z0, ()), ()))) (fun _ => K (.ex 0) (s_z11_t0.enc (((), ()), (v.2.1, ())))) v.1.1 v.2.1 m v.1.2.2.1
theorem i_z11_0 (n : Nat) (K : Cont) : ∀ m v, iter (V_z11_0 n K) m v = W_z11_0 n K m v := by
  intro m
  induction m with
  | zero => intro v; rfl
  | succ m ih =>
    intro v
    show V_z11_0 n K (iter (V_z11_0 n K) m) v = V_z11_0 n K (W_z11_0 n K m) v
    rw [show iter (V_z11_0 n K) m = W_z11_0 n K m from funext ih]
theorem o_z11_0 (n : Nat) : ∀ L, ls_z11 n 0 = some L → ∀ s K r, L s K = some r → ∃ x s', loopN (run Try.prog cf_z11 Try.f8.ntmps 0 n p_z11 none b_z11_0) (gc 0 (p_z11.head 0)) n s = some (x, s') ∧ K x s' = some r := by
  intro L hL s K r h
  have hL : some (loopT 0 (p_z11.head 0) s_z11_h0 fun K v => W_z11_0 n K n v) = some L := hL
  cases hL
  have hb : LOk Try.prog cf_z11 Try.f8.ntmps 0 n p_z11 (ls_z11 n) b_z11_0 := ⟨⟨trivial, ⟨trivial, trivial⟩⟩, ⟨⟨⟨trivial, ⟨trivial, trivial⟩⟩, ⟨trivial, ⟨⟨trivial, (o_z11_2 n)⟩, trivial⟩⟩⟩, trivial⟩⟩
  refine loopT_ok hb (V_z11_0 n) (t_z11_0 n) n s K r ?_
  rw [← h]
  unfold loopT
  simp only [i_z11_0]
theorem m_z11 (n : Nat) (a0 : ConfigS) (a1 : ConfigS) (a2 : Int) : runFT Try.prog cf_z11 p_z11 (ls_z11 n) Try.f8 (bodyOf Try.f8) (EK.encs e_z11 ((a0, (a1, (a2, ()))), ()).1) (HK.encs h_z11 ((a0, (a1, (a2, ()))), ()).2) = M_z11 n a0 a1 a2 := by kernel_rfl
theorem g_z11 (n : Nat) (a0 : ConfigS) (a1 : ConfigS) (a2 : Int) {r : Res} (h : M_z11 n a0 a1 a2 = some r) : runF Try.prog cf_z11 n p_z11 8 (EK.encs e_z11 ((a0, (a1, (a2, ()))), ()).1) (HK.encs h_z11 ((a0, (a1, (a2, ()))), ()).2) = some r := by
  have hb : LOk Try.prog cf_z11 Try.f8.ntmps 0 n p_z11 (ls_z11 n) (bodyOf Try.f8) := ⟨trivial, ⟨⟨trivial, ⟨⟨trivial, trivial⟩, trivial⟩⟩, ⟨trivial, ⟨⟨trivial, ⟨⟨trivial, trivial⟩, trivial⟩⟩, ⟨⟨trivial, (o_z11_0 n)⟩, ⟨trivial, ⟨trivial, trivial⟩⟩⟩⟩⟩⟩⟩
  exact runFT_some Try.prog (c := bodyOf Try.f8) Try.func8 (show Try.f8.body = some (bodyOf Try.f8) from rfl) (show (3 : Nat) ≤ 129 by decide) hb ((m_z11 n a0 a1 a2).trans h) rfl (by kernel_rfl)
noncomputable def c_z11 : Spec := specQ e_z11 h_z11 ro_z11 rh_z11 fun a b => Q_z11 a.1 a.2.1 a.2.2.1
theorem k_z11 (hm : Try.prog.follows .mixedOrders = true) : SpecOk Try.prog 8 c_z11 := specQ_ok (pol := p_z11) hm (cf := cf_z11) (tab_ok (specs_cons (k_z00 hm) (specs_cons (k_z0s hm) (specs_cons (k_z0e hm) (specs_cons (k_z0c hm) (specs_cons (k_z0a hm) (specs_cons (k_z0r hm) specs_nil))))))) fun a b r h => ⟨FUEL, g_z11 FUEL a.1 a.2.1 a.2.2.1 (decRes_some h)⟩
end Go.AMach
