/- A part of the walk. -/
import Derived.Test.YtphmidhlgkclgaaCxa
namespace Go.AMach
set_option linter.unusedVariables false
set_option linter.unusedSimpArgs false
set_option linter.unnecessarySimpa false
open Go Go.Proofs
set_option linter.unusedVariables false
def s_z1z_r : Sig := ⟨[4, 5, 6], [.hs 0 0, .ty (.int .i64), .ty (.int .i64)], [.row HeadT]⟩
def s_z1z_h0 : Sig := ⟨[0, 1, 7, 8, 9, 10], [.ty (.slice NodeT), .ty .str, .hs 0 0, .ty (.int .i64), .ty (.int .i64), .ty (.int .i64)], [.row HeadT]⟩
def s_z1z_h2 : Sig := ⟨[0, 1, 7, 8, 9, 10, 11, 12], [.ty (.slice NodeT), .ty .str, .hs 0 0, .ty (.int .i64), .ty (.int .i64), .ty (.int .i64), .ptr 1 0 0, .ty (.int .i64)], [.row HeadT, .cell NodeT]⟩
def s_z1z_t2 : Sig := ⟨[0, 1, 7, 8, 9, 10, 11], [.ty (.slice NodeT), .ty .str, .hs 0 0, .ty (.int .i64), .ty (.int .i64), .ty (.int .i64), .ptr 1 0 0], [.row HeadT, .cell NodeT]⟩
def s_z1z_h4 : Sig := ⟨[0, 1, 7, 9, 10, 11, 13, 15, 16, 18], [.ty (.slice NodeT), .ty .str, .hs 0 0, .ty (.int .i64), .ty (.int .i64), .ptr 1 0 0, .ty (.int .i64), .ty (.int .i64), .ty (.int .i64), .ty (.int .i64)], [.row HeadT, .cell NodeT]⟩
def s_z1z_t4 : Sig := ⟨[0, 1, 7, 9, 10, 13, 15], [.ty (.slice NodeT), .ty .str, .hs 0 0, .ty (.int .i64), .ty (.int .i64), .ty (.int .i64), .ty (.int .i64)], [.row HeadT]⟩
def p_z1z : Pol := ⟨fun i => if i = 0 then some [(0, .keep), (1, .keep), (7, (.own HeadT)), (8, .keep), (9, .keep), (10, .keep)] else if i = 2 then some [(0, .keep), (1, .keep), (7, (.own HeadT)), (8, .keep), (9, .keep), (10, .keep), (11, (.own NodeT)), (12, .keep)] else if i = 4 then some [(0, .keep), (1, .keep), (7, (.own HeadT)), (9, .keep), (10, .keep), (11, (.own NodeT)), (13, .keep), (15, .keep), (16, .keep), (18, .keep)] else none, fun i => if i = 2 then some [(0, .keep), (1, .keep), (7, (.own HeadT)), (8, .keep), (9, .keep), (10, .keep), (11, (.own NodeT))] else if i = 4 then some [(0, .keep), (1, .keep), (7, (.own HeadT)), (9, .keep), (10, .keep), (13, .keep), (15, .keep)] else none, some [(4, (.own HeadT)), (5, .keep), (6, .keep)], [(.own HeadT), .keep, .keep], []⟩
def e_z1z : List EK := [.ty (.slice NodeT), .ty .str]
def h_z1z : List HK := []
noncomputable def cf_z1z : CallF := mkCF [(80, c_z1r), (81, c_z1y), (82, c_z1x)] [(80, [(.slice NodeT)]), (81, [NodeT, .str, (.int .i64)]), (82, [.str, (.int .i64), (.int .i64), (.int .i64)])]
noncomputable def ls_z1z (n : Nat) : Loops := fun i => if i = 2 then some (loopT 0 (p_z1z.head 2) s_z1z_h2 fun K v => L_z1z_2 n (fun z7 => K (.ex 2) (s_z1z_t2.enc ((v.1.1, (v.1.2.1, (v.1.2.2.1, (v.1.2.2.2.1, (v.1.2.2.2.2.1, (v.1.2.2.2.2.2.1, ((), ()))))))), (v.2.1, (z7, ()))))) v.1.1 v.1.2.1 v.1.2.2.1 v.1.2.2.2.1 v.1.2.2.2.2.1 v.1.2.2.2.2.2.1 v.2.1 n v.1.2.2.2.2.2.2.2.1 v.2.2.1)
  else if i = 4 then some (loopT 0 (p_z1z.head 4) s_z1z_h4 fun K v => L_z1z_4 n (fun z6 => K (.ex 4) (s_z1z_t4.enc ((v.1.1, (v.1.2.1, (v.1.2.2.1, (v.1.2.2.2.1, (v.1.2.2.2.2.1, (v.1.2.2.2.2.2.2.1, (z6, ()))))))), (v.2.1, ())))) v.1.1 v.1.2.1 v.1.2.2.1 v.1.2.2.2.1 v.1.2.2.2.2.1 v.1.2.2.2.2.2.2.1 v.1.2.2.2.2.2.2.2.2.1 v.2.1 v.2.2.1 n v.1.2.2.2.2.2.2.2.1 v.1.2.2.2.2.2.2.2.2.2.1)
  else if i = 0 then some (loopT 0 (p_z1z.head 0) s_z1z_h0 fun K v => L_z1z_0 n (fun z0 z1 z2 z3 => K .rt (s_z1z_r.enc ((z0, (z1, (z2, ()))), (z3, ())))) v.1.1 v.1.2.1 n v.1.2.2.1 v.1.2.2.2.1 v.1.2.2.2.2.1 v.1.2.2.2.2.2.1 v.2.1)
  else  none
noncomputable def b_z1z_2 : Code := partOf (bodyOf Try.f63) [1, 1, 1, 1, 0, 0, 0, 1, 0, 1, 0, 0]
noncomputable def V_z1z_2 (n : Nat) (K : Cont) (rec : Sig.sem s_z1z_h2 → Option Res) (v : Sig.sem s_z1z_h2) : Option Res := F_z1z_2 n (fun z7 => K (.ex 2) (s_z1z_t2.enc ((v.1.1, (v.1.2.1, (v.1.2.2.1, (v.1.2.2.2.1, (v.1.2.2.2.2.1, (v.1.2.2.2.2.2.1, ((), ()))))))), (v.2.1, (z7, ()))))) v.1.1 v.1.2.1 v.1.2.2.1 v.1.2.2.2.1 v.1.2.2.2.2.1 v.1.2.2.2.2.2.1 v.2.1 (fun z6 z8 => rec ((v.1.1, (v.1.2.1, (v.1.2.2.1, (v.1.2.2.2.1, (v.1.2.2.2.2.1, (v.1.2.2.2.2.2.1, ((), (z6, ())))))))), (v.2.1, (z8, ())))) v.1.2.2.2.2.2.2.2.1 v.2.2.1
theorem t_z1z_2 (n : Nat) (K : Cont) (rec : Sig.sem s_z1z_h2 → Option Res) (v : Sig.sem s_z1z_h2) : runT Try.prog cf_z1z Try.f63.ntmps 0 p_z1z (ls_z1z n) b_z1z_2 (s_z1z_h2.enc v) (turnK 0 (p_z1z.head 2) s_z1z_h2 rec K) = V_z1z_2 n K rec v := by kernel_rfl
noncomputable def W_z1z_2 (n : Nat) (K : Cont) (m : Nat) (v : Sig.sem s_z1z_h2) : Option Res := L_z1z_2 n (fun z7 => K (.ex 2) (s_z1z_t2.enc ((v.1.1, (v.1.2.1, (v.1.2.2.1, (v.1.2.2.2.1, (v.1.2.2.2.2.1, (v.1.2.2.2.2.2.1, ((), ()))))))), (v.2.1, (z7, ()))))) v.1.1 v.1.2.1 v.1.2.2.1 v.1.2.2.2.1 v.1.2.2.2.2.1 v.1.2.2.2.2.2.1 v.2.1 m v.1.2.2.2.2.2.2.2.1 v.2.2.1
theorem i_z1z_2 (n : Nat) (K : Cont) : ∀ m v, iter (V_z1z_2 n K) m v = W_z1z_2 n K m v := by
  intro m
  induction m with
  | zero => intro v; rfl
  | succ m ih =>
    intro v
    show V_z1z_2 n K (iter (V_z1z_2 n K) m) v = V_z1z_2 n K (W_z1z_2 n K m) v
    rw [show iter (V_z1z_2 n K) m = W_z1z_2 n K m from funext ih]
theorem o_z1z_2 (n : Nat) : ∀ L, ls_z1z n 2 = some L → ∀ s K r, L s K = some r → ∃ x s', loopN (run Try.prog cf_z1z Try.f63.ntmps 0 n p_z1z none b_z1z_2) (gc 0 (p_z1z.head 2)) n s = some (x, s') ∧ K x s' = some r := by
  intro L hL s K r h
  have hL : some (loopT 0 (p_z1z.head 2) s_z1z_h2 fun K v => W_z1z_2 n K n v) = some L := hL
  cases hL
  have hb : LOk Try.prog cf_z1z Try.f63.ntmps 0 n p_z1z (ls_z1z n) b_z1z_2 := ⟨⟨trivial, ⟨trivial, trivial⟩⟩, ⟨⟨trivial, ⟨trivial, trivial⟩⟩, trivial⟩⟩
  refine loopT_ok hb (V_z1z_2 n) (t_z1z_2 n) n s K r ?_
  rw [← h]
  unfold loopT
  simp only [i_z1z_2]
noncomputable def b_z1z_4 : Code := partOf (bodyOf Try.f63) [1, 1, 1, 1, 0, 0, 0, 1, 1, 1, 1, 1, 1, 1, 1, 0, 1, 0, 1, 1, 1, 0, 0]
noncomputable def V_z1z_4 (n : Nat) (K : Cont) (rec : Sig.sem s_z1z_h4 → Option Res) (v : Sig.sem s_z1z_h4) : Option Res := F_z1z_4 n (fun z6 => K (.ex 4) (s_z1z_t4.enc ((v.1.1, (v.1.2.1, (v.1.2.2.1, (v.1.2.2.2.1, (v.1.2.2.2.2.1, (v.1.2.2.2.2.2.2.1, (z6, ()))))))), (v.2.1, ())))) v.1.1 v.1.2.1 v.1.2.2.1 v.1.2.2.2.1 v.1.2.2.2.2.1 v.1.2.2.2.2.2.2.1 v.1.2.2.2.2.2.2.2.2.1 v.2.1 v.2.2.1 (fun z6 z8 => rec ((v.1.1, (v.1.2.1, (v.1.2.2.1, (v.1.2.2.2.1, (v.1.2.2.2.2.1, ((), (v.1.2.2.2.2.2.2.1, (z6, (v.1.2.2.2.2.2.2.2.2.1, (z8, ())))))))))), (v.2.1, (v.2.2.1, ())))) v.1.2.2.2.2.2.2.2.1 v.1.2.2.2.2.2.2.2.2.2.1
theorem t_z1z_4 (n : Nat) (K : Cont) (rec : Sig.sem s_z1z_h4 → Option Res) (v : Sig.sem s_z1z_h4) : runT Try.prog cf_z1z Try.f63.ntmps 0 p_z1z (ls_z1z n) b_z1z_4 (s_z1z_h4.enc v) (turnK 0 (p_z1z.head 4) s_z1z_h4 rec K) = V_z1z_4 n K rec v := by kernel_rfl
noncomputable def W_z1z_4 (n : Nat) (K : Cont) (m : Nat) (v : Sig.sem s_z1z_h4) : Option Res := L_z1z_4 n (fun z6 => K (.ex 4) (s_z1z_t4.enc ((v.1.1, (v.1.2.1, (v.1.2.2.1, (v.1.2.2.2.1, (v.1.2.2.2.2.1, (v.1.2.2.2.2.2.2.1, (z6, ()))))))), (v.2.1, ())))) v.1.1 v.1.2.1 v.1.2.2.1 v.1.2.2.2.1 v.1.2.2.2.2.1 v.1.2.2.2.2.2.2.1 v.1.2.2.2.2.2.2.2.2.1 v.2.1 v.2.2.1 m v.1.2.2.2.2.2.2.2.1 v.1.2.2.2.2.2.2.2.2.2.1
theorem i_z1z_4 (n : Nat) (K : Cont) : ∀ m v, iter (V_z1z_4 n K) m v = W_z1z_4 n K m v := by
  intro m
  induction m with
  | zero => intro v; rfl
  | succ m ih =>
    intro v
    show V_z1z_4 n K (iter (V_z1z_4 n K) m) v = V_z1z_4 n K (W_z1z_4 n K m) v
    rw [show iter (V_z1z_4 n K) m = W_z1z_4 n K m from funext ih]
theorem o_z1z_4 (n : Nat) : ∀ L, ls_z1z n 4 = some L → ∀ s K r, L s K = some r → ∃ x s', loopN (run Try.prog cf_z1z Try.f63.ntmps 0 n p_z1z none b_z1z_4) (gc 0 (p_z1z.head 4)) n s = some (x, s') ∧ K x s' = some r := by
  intro L hL s K r h
  have hL : some (loopT 0 (p_z1z.head 4) s_z1z_h4 fun K v => W_z1z_4 n K n v) = some L := hL
  cases hL
  have hb : LOk Try.prog cf_z1z Try.f63.ntmps 0 n p_z1z (ls_z1z n) b_z1z_4 := ⟨⟨trivial, ⟨trivial, trivial⟩⟩, ⟨⟨trivial, ⟨trivial, trivial⟩⟩, trivial⟩⟩
  refine loopT_ok hb (V_z1z_4 n) (t_z1z_4 n) n s K r ?_
  rw [← h]
  unfold loopT
  simp only [i_z1z_4]
noncomputable def b_z1z_0 : Code := partOf (bodyOf Try.f63) [1, 1, 1, 1, 0, 0]
noncomputable def V_z1z_0 (n : Nat) (K : Cont) (rec : Sig.sem s_z1z_h0 → Option Res) (v : Sig.sem s_z1z_h0) : Option Res := F_z1z_0 n (fun z0 z1 z2 z3 => K .rt (s_z1z_r.enc ((z0, (z1, (z2, ()))), (z3, ())))) v.1.1 v.1.2.1 (fun z2 z3 z4 z5 z6 => rec ((v.1.1, (v.1.2.1, (z2, (z3, (z4, (z5, ())))))), (z6, ()))) v.1.2.2.1 v.1.2.2.2.1 v.1.2.2.2.2.1 v.1.2.2.2.2.2.1 v.2.1
theorem t_z1z_0 (n : Nat) (K : Cont) (rec : Sig.sem s_z1z_h0 → Option Res) (v : Sig.sem s_z1z_h0) : runT Try.prog cf_z1z Try.f63.ntmps 0 p_z1z (ls_z1z n) b_z1z_0 (s_z1z_h0.enc v) (turnK 0 (p_z1z.head 0) s_z1z_h0 rec K) = V_z1z_0 n K rec v := by kernel_rfl
noncomputable def W_z1z_0 (n : Nat) (K : Cont) (m : Nat) (v : Sig.sem s_z1z_h0) : Option Res := L_z1z_0 n (fun z0 z1 z2 z3 => K .rt (s_z1z_r.enc ((z0, (z1, (z2, ()))), (z3, ())))) v.1.1 v.1.2.1 m v.1.2.2.1 v.1.2.2.2.1 v.1.2.2.2.2.1 v.1.2.2.2.2.2.1 v.2.1
theorem i_z1z_0 (n : Nat) (K : Cont) : ∀ m v, iter (V_z1z_0 n K) m v = W_z1z_0 n K m v := by
  intro m
  induction m with
  | zero => intro v; rfl
  | succ m ih =>
    intro v
    show V_z1z_0 n K (iter (V_z1z_0 n K) m) v = V_z1z_0 n K (W_z1z_0 n K m) v
    rw [show iter (V_z1z_0 n K) m = W_z1z_0 n K m from funext ih]
theorem o_z1z_0 (n : Nat) : ∀ L, ls_z1z n 0 = some L → ∀ s K r, L s K = some r → ∃ x s', loopN (run Try.prog cf_z1z Try.f63.ntmps 0 n p_z1z none b_z1z_0) (gc 0 (p_z1z.head 0)) n s = some (x, s') ∧ K x s' = some r := by
  intro L hL s K r h
  have hL : some (loopT 0 (p_z1z.head 0) s_z1z_h0 fun K v => W_z1z_0 n K n v) = some L := hL
  cases hL
  have hb : LOk Try.prog cf_z1z Try.f63.ntmps 0 n p_z1z (ls_z1z n) b_z1z_0 := ⟨trivial, ⟨⟨trivial, (o_z1z_2 n)⟩, ⟨⟨trivial, ⟨⟨trivial, trivial⟩, trivial⟩⟩, ⟨trivial, ⟨trivial, ⟨⟨trivial, ⟨⟨trivial, trivial⟩, trivial⟩⟩, ⟨trivial, ⟨trivial, ⟨⟨trivial, ⟨⟨trivial, ⟨⟨trivial, ⟨⟨trivial, trivial⟩, trivial⟩⟩, ⟨trivial, (o_z1z_4 n)⟩⟩⟩, trivial⟩⟩, ⟨⟨trivial, ⟨⟨trivial, trivial⟩, trivial⟩⟩, ⟨⟨trivial, ⟨⟨trivial, trivial⟩, trivial⟩⟩, ⟨trivial, trivial⟩⟩⟩⟩⟩⟩⟩⟩⟩⟩⟩⟩
  refine loopT_ok hb (V_z1z_0 n) (t_z1z_0 n) n s K r ?_
  rw [← h]
  unfold loopT
  simp only [i_z1z_0]
theorem m_z1z (n : Nat) (a0 : (List NodeS)) (a1 : ByteArray) : runFT Try.prog cf_z1z p_z1z (ls_z1z n) Try.f63 (bodyOf Try.f63) (EK.encs e_z1z ((a0, (a1, ())), ()).1) (HK.encs h_z1z ((a0, (a1, ())), ()).2) = M_z1z n a0 a1 := by kernel_rfl
theorem g_z1z (n : Nat) (a0 : (List NodeS)) (a1 : ByteArray) {r : Res} (h : M_z1z n a0 a1 = some r) : runF Try.prog cf_z1z n p_z1z 63 (EK.encs e_z1z ((a0, (a1, ())), ()).1) (HK.encs h_z1z ((a0, (a1, ())), ()).2) = some r := by
  have hb : LOk Try.prog cf_z1z Try.f63.ntmps 0 n p_z1z (ls_z1z n) (bodyOf Try.f63) := ⟨trivial, ⟨trivial, ⟨⟨trivial, ⟨⟨trivial, trivial⟩, trivial⟩⟩, ⟨trivial, (o_z1z_0 n)⟩⟩⟩⟩
  exact runFT_some Try.prog (c := bodyOf Try.f63) Try.func63 (show Try.f63.body = some (bodyOf Try.f63) from rfl) (show (2 : Nat) ≤ 117 by decide) hb ((m_z1z n a0 a1).trans h) rfl (by kernel_rfl)
noncomputable def c_z1z : Spec := specQ e_z1z h_z1z ro_z1z rh_z1z fun a b => Q_z1z a.1 a.2.1
theorem k_z1z (hm : Try.prog.follows .mixedOrders = true) : SpecOk Try.prog 63 c_z1z := specQ_ok (pol := p_z1z) hm (cf := cf_z1z) (tab_ok (specs_cons (k_z1r hm) (specs_cons (k_z1y hm) (specs_cons (k_z1x hm) specs_nil)))) fun a b r h => ⟨FUEL, g_z1z FUEL a.1 a.2.1 (decRes_some h)⟩
def s_z20_r : Sig := ⟨[4, 5], [.ty (.int .i64), .ty (.int .i64)], [.one false [.ty .str, .ty .str, .ty (.int .i64), .hs 1 0], .row HeadT]⟩
def p_z20 : Pol := ⟨fun i => none, fun i => none, some [(4, .keep), (5, .keep)], [.keep, .keep], []⟩
def e_z20 : List EK := [.ptr 0 0 0, .ty (.slice NodeT)]
def h_z20 : List HK := [.one true [.ty .str, .ty .str, .ty (.int .i64), .nul 4]]
noncomputable def cf_z20 : CallF := mkCF [(63, c_z1z)] [(63, [(.slice NodeT), .str])]
noncomputable def ls_z20 (n : Nat) : Loops := fun i =>  none
theorem m_z20 (n : Nat) (a0 : (List NodeS)) (a1 : ByteArray) (a2 : ByteArray) (a3 : Int) : runFT Try.prog cf_z20 p_z20 (ls_z20 n) Try.f46 (bodyOf Try.f46) (EK.encs e_z20 (((), (a0, ())), ((a1, (a2, (a3, ((), ())))), ())).1) (HK.encs h_z20 (((), (a0, ())), ((a1, (a2, (a3, ((), ())))), ())).2) = M_z20 n a0 a1 a2 a3 := by kernel_rfl
theorem g_z20 (n : Nat) (a0 : (List NodeS)) (a1 : ByteArray) (a2 : ByteArray) (a3 : Int) {r : Res} (h : M_z20 n a0 a1 a2 a3 = some r) : runF Try.prog cf_z20 n p_z20 46 (EK.encs e_z20 (((), (a0, ())), ((a1, (a2, (a3, ((), ())))), ())).1) (HK.encs h_z20 (((), (a0, ())), ((a1, (a2, (a3, ((), ())))), ())).2) = some r := by
  have hb : LOk Try.prog cf_z20 Try.f46.ntmps 1 n p_z20 (ls_z20 n) (bodyOf Try.f46) := ⟨trivial, ⟨trivial, ⟨trivial, ⟨trivial, trivial⟩⟩⟩⟩
  exact runFT_some Try.prog (c := bodyOf Try.f46) Try.func46 (show Try.f46.body = some (bodyOf Try.f46) from rfl) (show (2 : Nat) ≤ 27 by decide) hb ((m_z20 n a0 a1 a2 a3).trans h) rfl (by kernel_rfl)
noncomputable def c_z20 : Spec := specQ e_z20 h_z20 ro_z20 rh_z20 fun a b => Q_z20 a.2.1 b.1.1 b.1.2.1 b.1.2.2.1
theorem k_z20 (hm : Try.prog.follows .mixedOrders = true) : SpecOk Try.prog 46 c_z20 := specQ_ok (pol := p_z20) hm (cf := cf_z20) (tab_ok (specs_cons (k_z1z hm) specs_nil)) fun a b r h => ⟨FUEL, g_z20 FUEL a.2.1 b.1.1 b.1.2.1 b.1.2.2.1 (decRes_some h)⟩
def s_z21_r : Sig := ⟨[4, 5, 6], [.nul 0, .nul 0, .ty .bool], []⟩
def s_z21_r1 : Sig := ⟨[4, 5, 6], [.ptr 0 0 0, .ptr 6 0 0, .ty .bool], [.one false [.ptr 1 0 0, .hs 3 0, .ptr 4 0 0, .ty (.int .i64)], .one false [.hs 2 0], .row (.int .u8), .row HeadT, .one false [.hs 5 0], .row (.int .u8), .one false [.ty .str, .ty .str, .ty (.int .i64), .hs 7 0], .row HeadT]⟩
def p_z21 : Pol := ⟨fun i => none, fun i => none, some [(4, .keep), (5, .keep), (6, .keep)], [.keep, .keep, .keep], []⟩
def e_z21 : List EK := [.ty .str, .ty (.slice NodeT)]
def h_z21 : List HK := []
noncomputable def cf_z21 : CallF := { (mkCF [(19, c_z01), (44, c_z10), (45, c_z1m), (46, c_z20)] [(19, [(.int .i64), .str]), (44, [(.int .i64), .str])]) with mix := mixes [(45, [none, some ((.slice NodeT))]), (46, [none, some ((.slice NodeT))])] }
noncomputable def ls_z21 (n : Nat) : Loops := fun i =>  none
theorem m_z21 (n : Nat) (a0 : ByteArray) (a1 : (List NodeS)) : runFT Try.prog cf_z21 p_z21 (ls_z21 n) Try.f25 (bodyOf Try.f25) (EK.encs e_z21 ((a0, (a1, ())), ()).1) (HK.encs h_z21 ((a0, (a1, ())), ()).2) = M_z21 n a0 a1 := by kernel_rfl
theorem g_z21 (n : Nat) (a0 : ByteArray) (a1 : (List NodeS)) {r : Res} (h : M_z21 n a0 a1 = some r) : runF Try.prog cf_z21 n p_z21 25 (EK.encs e_z21 ((a0, (a1, ())), ()).1) (HK.encs h_z21 ((a0, (a1, ())), ()).2) = some r := by
  have hb : LOk Try.prog cf_z21 Try.f25.ntmps 0 n p_z21 (ls_z21 n) (bodyOf Try.f25) := ⟨trivial, ⟨trivial, ⟨trivial, ⟨⟨trivial, ⟨⟨trivial, trivial⟩, trivial⟩⟩, ⟨trivial, ⟨trivial, ⟨trivial, trivial⟩⟩⟩⟩⟩⟩⟩
  exact runFT_some Try.prog (c := bodyOf Try.f25) Try.func25 (show Try.f25.body = some (bodyOf Try.f25) from rfl) (show (2 : Nat) ≤ 35 by decide) hb ((m_z21 n a0 a1).trans h) rfl (by kernel_rfl)
noncomputable def c_z21 : Spec := specTr e_z21 h_z21 fun a b => (altTr ro_z21 rh_z21 (Q_z21 a.1 a.2.1) (altTr ro_z21_1 rh_z21_1 (Q_z21_1 a.1 a.2.1) .no))
theorem k_z21 (hm : Try.prog.follows .mixedOrders = true) : SpecOk Try.prog 25 c_z21 := specTr_ok (pol := p_z21) hm (cf := cf_z21) (CallSound.mix <| tab_ok (specs_cons (k_z01 hm) (specs_cons (k_z10 hm) (specs_cons (k_z1m hm) (specs_cons (k_z20 hm) specs_nil))))) fun a b r => (fun h => (altTr_val h).elim (fun ⟨x, hx, e⟩ => ⟨FUEL, e ▸ g_z21 FUEL a.1 a.2.1 (decRes_some hx)⟩) (fun h => (altTr_val h).elim (fun ⟨x, hx, e⟩ => ⟨FUEL, e ▸ g_z21 FUEL a.1 a.2.1 (decRes_some hx)⟩) (fun h => by cases h)))
def s_z22_r : Sig := ⟨[4, 5, 6], [.ptr 1 0 0, .ty (.int .i64), .ty (.int .i64)], [.one false [.ptr 1 0 0, .hs 3 0, .ptr 4 0 0, .ty (.int .i64)], .one false [.hs 2 0], .row (.int .u8), .row HeadT, .one false [.hs 5 0], .row (.int .u8)]⟩
def s_z22_r1 : Sig := ⟨[4, 5, 6], [.ptr 4 0 0, .ty (.int .i64), .ty (.int .i64)], [.one false [.ptr 1 0 0, .hs 3 0, .ptr 4 0 0, .ty (.int .i64)], .one false [.hs 2 0], .row (.int .u8), .row HeadT, .one false [.hs 5 0], .row (.int .u8)]⟩
def s_z22_h1 : Sig := ⟨[0, 3, 32, 33, 34], [.ptr 0 0 0, .ptr 6 0 0, .hs 3 0, .ty (.int .i64), .ty (.int .i64)], [.one false [.ptr 1 0 0, .hs 3 0, .ptr 4 0 0, .ty (.int .i64)], .one false [.hs 2 0], .row (.int .u8), .row HeadT, .one false [.hs 5 0], .row (.int .u8), .cell FieldT]⟩
def s_z22_t1 : Sig := ⟨[], [], [.one false [.ptr 1 0 0, .hs 3 0, .ptr 4 0 0, .ty (.int .i64)], .one false [.hs 2 0], .row (.int .u8), .row HeadT, .one false [.hs 5 0], .row (.int .u8)]⟩
def s_z22_r2 : Sig := ⟨[4, 5, 6], [.nul 0, .ty (.int .i64), .ty (.int .i64)], [.one false [.ptr 1 0 0, .hs 3 0, .ptr 4 0 0, .ty (.int .i64)], .one false [.hs 2 0], .row (.int .u8), .row HeadT, .one false [.hs 5 0], .row (.int .u8)]⟩
def p_z22 : Pol := ⟨fun i => if i = 1 then some [(0, .keep), (3, (.own FieldT)), (32, (.own HeadT)), (33, .keep), (34, .keep)] else none, fun i => if i = 1 then some [] else none, some [(4, .keep), (5, .keep), (6, .keep)], [.keep, .keep, .keep], []⟩
def e_z22 : List EK := [.ptr 0 0 0, .agg FieldT]
def h_z22 : List HK := [.one false [.ptr 1 0 0, .hs 3 0, .ptr 4 0 0, .ty (.int .i64)], .one false [.hs 2 0], .row (.int .u8), .row HeadT, .one false [.hs 5 0], .row (.int .u8)]
noncomputable def cf_z22 : CallF := mkCF [] []
noncomputable def ls_z22 (n : Nat) : Loops := fun i => if i = 1 then some (loopT 6 (p_z22.head 1) s_z22_h1 fun K v => L_z22_1 n (fun z0 z1 => K .rt (s_z22_r.enc (((), (z0, (z1, ()))), (((), (v.2.1.2.1, ((), (v.2.1.2.2.2.1, ())))), ((v.2.2.1.1, ()), (v.2.2.2.1, (v.2.2.2.2.1, ((v.2.2.2.2.2.1.1, ()), (v.2.2.2.2.2.2.1, ()))))))))) (fun _ => K (.ex 1) (s_z22_t1.enc ((), (((), (v.2.1.2.1, ((), (v.2.1.2.2.2.1, ())))), ((v.2.2.1.1, ()), (v.2.2.2.1, (v.2.2.2.2.1, ((v.2.2.2.2.2.1.1, ()), (v.2.2.2.2.2.2.1, ()))))))))) v.1.2.2.1 v.1.2.2.2.1 v.2.2.2.2.1 v.2.2.2.2.2.2.2.1 n v.1.2.2.2.2.1)
  else  none
noncomputable def b_z22_1 : Code := partOf (bodyOf Try.f53) [1, 1, 0, 1, 0, 1, 1, 1, 1, 1, 0, 1, 0, 0]
noncomputable def V_z22_1 (n : Nat) (K : Cont) (rec : Sig.sem s_z22_h1 → Option Res) (v : Sig.sem s_z22_h1) : Option Res := F_z22_1 n (fun z0 z1 => K .rt (s_z22_r.enc (((), (z0, (z1, ()))), (((), (v.2.1.2.1, ((), (v.2.1.2.2.2.1, ())))), ((v.2.2.1.1, ()), (v.2.2.2.1, (v.2.2.2.2.1, ((v.2.2.2.2.2.1.1, ()), (v.2.2.2.2.2.2.1, ()))))))))) (fun _ => K (.ex 1) (s_z22_t1.enc ((), (((), (v.2.1.2.1, ((), (v.2.1.2.2.2.1, ())))), ((v.2.2.1.1, ()), (v.2.2.2.1, (v.2.2.2.2.1, ((v.2.2.2.2.2.1.1, ()), (v.2.2.2.2.2.2.1, ()))))))))) v.1.2.2.1 v.1.2.2.2.1 v.2.2.2.2.1 v.2.2.2.2.2.2.2.1 (fun z2 => rec (((), ((), (v.1.2.2.1, (v.1.2.2.2.1, (z2, ()))))), (((), (v.2.1.2.1, ((), (v.2.1.2.2.2.1, ())))), ((v.2.2.1.1, ()), (v.2.2.2.1, (v.2.2.2.2.1, ((v.2.2.2.2.2.1.1, ()), (v.2.2.2.2.2.2.1, (v.2.2.2.2.2.2.2.1, ()))))))))) v.1.2.2.2.2.1
theorem t_z22_1 (n : Nat) (K : Cont) (rec : Sig.sem s_z22_h1 → Option Res) (v : Sig.sem s_z22_h1) : runT Try.prog cf_z22 Try.f53.ntmps 6 p_z22 (ls_z22 n) b_z22_1 (s_z22_h1.enc v) (turnK 6 (p_z22.head 1) s_z22_h1 rec K) = V_z22_1 n K rec v := by kernel_rfl
noncomputable def W_z22_1 (n : Nat) (K : Cont) (m : Nat) (v : Sig.sem s_z22_h1) : Option Res := L_z22_1 n (fun z0 z1 => K .rt (s_z22_r.enc (((), (z0, (z1, ()))), (((), (v.2.1.2.1, ((), (v.2.1.2.2.2.1, ())))), ((v.2.2.1.1, ()), (v.2.2.2.1, (v.2.2.2.2.1, ((v.2.2.2.2.2.1.1, ()), (v.2.2.2.2.2.2.1, ()))))))))) (fun _ => K (.ex 1) (s_z22_t1.enc ((), (((), (v.2.1.2.1, ((), (v.2.1.2.2.2.1, ())))), ((v.2.2.1.1, ()), (v.2.2.2.1, (v.2.2.2.2.1, ((v.2.2.2.2.2.1.1, ()), (v.2.2.2.2.2.2.1, ()))))))))) v.1.2.2.1 v.1.2.2.2.1 v.2.2.2.2.1 v.2.2.2.2.2.2.2.1 m v.1.2.2.2.2.1
theorem i_z22_1 (n : Nat) (K : Cont) : ∀ m v, iter (V_z22_1 n K) m v = W_z22_1 n K m v := by
  intro m
  induction m with
  | zero => intro v; rfl
  | succ m ih =>
    intro v
    show V_z22_1 n K (iter (V_z22_1 n K) m) v = V_z22_1 n K (W_z22_1 n K m) v
    rw [show iter (V_z22_1 n K) m = W_z22_1 n K m from funext ih]
theorem o_z22_1 (n : Nat) : ∀ L, ls_z22 n 1 = some L → ∀ s K r, L s K = some r → ∃ x s', loopN (run Try.prog cf_z22 Try.f53.ntmps 6 n p_z22 none b_z22_1) (gc 6 (p_z22.head 1)) n s = some (x, s') ∧ K x s' = some r := by
  intro L hL s K r h
  have hL : some (loopT 6 (p_z22.head 1) s_z22_h1 fun K v => W_z22_1 n K n v) = some L := hL
  cases hL
  have hb : LOk Try.prog cf_z22 Try.f53.ntmps 6 n p_z22 (ls_z22 n) b_z22_1 := ⟨trivial, ⟨⟨trivial, trivial⟩, ⟨⟨trivial, ⟨trivial, ⟨⟨trivial, trivial⟩, trivial⟩⟩⟩, trivial⟩⟩⟩
  refine loopT_ok hb (V_z22_1 n) (t_z22_1 n) n s K r ?_
  rw [← h]
  unfold loopT
  simp only [i_z22_1]
theorem m_z22 (n : Nat) (a0 : FieldS) (a1 : Nat) (a2 : Int) (a3 : Nat) (a4 : (List Int)) (a5 : (List HeadS)) (a6 : Nat) (a7 : (List Int)) : runFT Try.prog cf_z22 p_z22 (ls_z22 n) Try.f53 (bodyOf Try.f53) (EK.encs e_z22 (((), (a0, ())), (((), (a1, ((), (a2, ())))), ((a3, ()), (a4, (a5, ((a6, ()), (a7, ()))))))).1) (HK.encs h_z22 (((), (a0, ())), (((), (a1, ((), (a2, ())))), ((a3, ()), (a4, (a5, ((a6, ()), (a7, ()))))))).2) = M_z22 n a0 a1 a2 a3 a4 a5 a6 a7 := by kernel_rfl
theorem g_z22 (n : Nat) (a0 : FieldS) (a1 : Nat) (a2 : Int) (a3 : Nat) (a4 : (List Int)) (a5 : (List HeadS)) (a6 : Nat) (a7 : (List Int)) {r : Res} (h : M_z22 n a0 a1 a2 a3 a4 a5 a6 a7 = some r) : runF Try.prog cf_z22 n p_z22 53 (EK.encs e_z22 (((), (a0, ())), (((), (a1, ((), (a2, ())))), ((a3, ()), (a4, (a5, ((a6, ()), (a7, ()))))))).1) (HK.encs h_z22 (((), (a0, ())), (((), (a1, ((), (a2, ())))), ((a3, ()), (a4, (a5, ((a6, ()), (a7, ()))))))).2) = some r := by
  have hb : LOk Try.prog cf_z22 Try.f53.ntmps 6 n p_z22 (ls_z22 n) (bodyOf Try.f53) := ⟨trivial, ⟨⟨trivial, ⟨⟨trivial, trivial⟩, trivial⟩⟩, ⟨⟨trivial, ⟨trivial, ⟨⟨trivial, trivial⟩, ⟨trivial, ⟨⟨trivial, trivial⟩, ⟨trivial, ⟨⟨trivial, (o_z22_1 n)⟩, trivial⟩⟩⟩⟩⟩⟩⟩, ⟨trivial, trivial⟩⟩⟩⟩
  exact runFT_some Try.prog (c := bodyOf Try.f53) Try.func53 (show Try.f53.body = some (bodyOf Try.f53) from rfl) (show (2 : Nat) ≤ 51 by decide) hb ((m_z22 n a0 a1 a2 a3 a4 a5 a6 a7).trans h) rfl (by kernel_rfl)
noncomputable def c_z22 : Spec := specTr e_z22 h_z22 fun a b => (altTr ro_z22 rh_z22 (Q_z22 a.2.1 b.1.2.1 b.1.2.2.2.1 b.2.1.1 b.2.2.1 b.2.2.2.1 b.2.2.2.2.1.1 b.2.2.2.2.2.1) (altTr ro_z22_1 rh_z22_1 (Q_z22_1 a.2.1 b.1.2.1 b.1.2.2.2.1 b.2.1.1 b.2.2.1 b.2.2.2.1 b.2.2.2.2.1.1 b.2.2.2.2.2.1) (altTr ro_z22_2 rh_z22_2 (Q_z22_2 a.2.1 b.1.2.1 b.1.2.2.2.1 b.2.1.1 b.2.2.1 b.2.2.2.1 b.2.2.2.2.1.1 b.2.2.2.2.2.1) .no)))
theorem k_z22 (hm : Try.prog.follows .mixedOrders = true) : SpecOk Try.prog 53 c_z22 := specTr_ok (pol := p_z22) hm (cf := cf_z22) (tab_ok specs_nil) fun a b r => (fun h => (altTr_val h).elim (fun ⟨x, hx, e⟩ => ⟨FUEL, e ▸ g_z22 FUEL a.2.1 b.1.2.1 b.1.2.2.2.1 b.2.1.1 b.2.2.1 b.2.2.2.1 b.2.2.2.2.1.1 b.2.2.2.2.2.1 (decRes_some hx)⟩) (fun h => (altTr_val h).elim (fun ⟨x, hx, e⟩ => ⟨FUEL, e ▸ g_z22 FUEL a.2.1 b.1.2.1 b.1.2.2.2.1 b.2.1.1 b.2.2.1 b.2.2.2.1 b.2.2.2.2.1.1 b.2.2.2.2.2.1 (decRes_some hx)⟩) (fun h => (altTr_val h).elim (fun ⟨x, hx, e⟩ => ⟨FUEL, e ▸ g_z22 FUEL a.2.1 b.1.2.1 b.1.2.2.2.1 b.2.1.1 b.2.2.1 b.2.2.2.1 b.2.2.2.2.1.1 b.2.2.2.2.2.1 (decRes_some hx)⟩) (fun h => by cases h))))
def s_z23_r : Sig := ⟨[4, 5], [.ptr 6 0 0, .ty (.int .i64)], [.one false [.ptr 1 0 0, .hs 3 0, .ptr 4 0 0, .ty (.int .i64)], .one false [.hs 2 0], .row (.int .u8), .row HeadT, .one false [.hs 5 0], .row (.int .u8), .cell WordT]⟩
def p_z23 : Pol := ⟨fun i => none, fun i => none, some [(4, (.own WordT)), (5, .keep)], [.keep, .keep], []⟩
def e_z23 : List EK := [.ptr 0 0 0, .agg FieldT]
def h_z23 : List HK := [.one false [.ptr 1 0 0, .hs 3 0, .ptr 4 0 0, .ty (.int .i64)], .one false [.hs 2 0], .row (.int .u8), .row HeadT, .one false [.hs 5 0], .row (.int .u8)]
noncomputable def cf_z23 : CallF := mkCF [(53, c_z22), (55, c_z04), (54, (orSpec c_z05 c_z0h))] [(55, [(.int .i64), (.int .i64)])]
noncomputable def ls_z23 (n : Nat) : Loops := fun i =>  none
theorem m_z23 (n : Nat) (a0 : FieldS) (a1 : Nat) (a2 : Int) (a3 : Nat) (a4 : (List Int)) (a5 : (List HeadS)) (a6 : Nat) (a7 : (List Int)) : runFT Try.prog cf_z23 p_z23 (ls_z23 n) Try.f31 (bodyOf Try.f31) (EK.encs e_z23 (((), (a0, ())), (((), (a1, ((), (a2, ())))), ((a3, ()), (a4, (a5, ((a6, ()), (a7, ()))))))).1) (HK.encs h_z23 (((), (a0, ())), (((), (a1, ((), (a2, ())))), ((a3, ()), (a4, (a5, ((a6, ()), (a7, ()))))))).2) = M_z23 n a0 a1 a2 a3 a4 a5 a6 a7 := by kernel_rfl
theorem g_z23 (n : Nat) (a0 : FieldS) (a1 : Nat) (a2 : Int) (a3 : Nat) (a4 : (List Int)) (a5 : (List HeadS)) (a6 : Nat) (a7 : (List Int)) {r : Res} (h : M_z23 n a0 a1 a2 a3 a4 a5 a6 a7 = some r) : runF Try.prog cf_z23 n p_z23 31 (EK.encs e_z23 (((), (a0, ())), (((), (a1, ((), (a2, ())))), ((a3, ()), (a4, (a5, ((a6, ()), (a7, ()))))))).1) (HK.encs h_z23 (((), (a0, ())), (((), (a1, ((), (a2, ())))), ((a3, ()), (a4, (a5, ((a6, ()), (a7, ()))))))).2) = some r := by
  have hb : LOk Try.prog cf_z23 Try.f31.ntmps 6 n p_z23 (ls_z23 n) (bodyOf Try.f31) := ⟨trivial, ⟨trivial, ⟨⟨trivial, ⟨⟨trivial, trivial⟩, trivial⟩⟩, ⟨trivial, ⟨⟨trivial, ⟨⟨trivial, trivial⟩, trivial⟩⟩, ⟨trivial, trivial⟩⟩⟩⟩⟩⟩
  exact runFT_some Try.prog (c := bodyOf Try.f31) Try.func31 (show Try.f31.body = some (bodyOf Try.f31) from rfl) (show (2 : Nat) ≤ 37 by decide) hb ((m_z23 n a0 a1 a2 a3 a4 a5 a6 a7).trans h) rfl (by kernel_rfl)
noncomputable def c_z23 : Spec := specQ e_z23 h_z23 ro_z23 rh_z23 fun a b => Q_z23 a.2.1 b.1.2.1 b.1.2.2.2.1 b.2.1.1 b.2.2.1 b.2.2.2.1 b.2.2.2.2.1.1 b.2.2.2.2.2.1
theorem k_z23 (hm : Try.prog.follows .mixedOrders = true) : SpecOk Try.prog 31 c_z23 := specQ_ok (pol := p_z23) hm (cf := cf_z23) (tab_ok (specs_cons (k_z22 hm) (specs_cons (k_z04 hm) (specs_cons (orSpec_ok (k_z05 hm) (k_z0h hm)) specs_nil)))) fun a b r h => ⟨FUEL, g_z23 FUEL a.2.1 b.1.2.1 b.1.2.2.2.1 b.2.1.1 b.2.2.1 b.2.2.2.1 b.2.2.2.2.1.1 b.2.2.2.2.2.1 (decRes_some h)⟩
def s_z24_r : Sig := ⟨[4, 5], [.ty .str, .ty (.int .i64)], [.one false [.ptr 1 0 0, .hs 3 0, .ptr 4 0 0, .ty (.int .i64)], .one false [.hs 2 0], .row (.int .u8), .row HeadT, .one false [.hs 5 0], .row (.int .u8)]⟩
def p_z24 : Pol := ⟨fun i => none, fun i => none, some [(4, .keep), (5, .keep)], [.keep, .keep], []⟩
def e_z24 : List EK := [.mv 31 [(0, 0, 0)], .agg FieldT]
def h_z24 : List HK := [.one false [.ptr 1 0 0, .hs 3 0, .ptr 4 0 0, .ty (.int .i64)], .one false [.hs 2 0], .row (.int .u8), .row HeadT, .one false [.hs 5 0], .row (.int .u8)]
noncomputable def cf_z24 : CallF := mkCF [(31, c_z23), (32, c_z0l)] [(32, [WordT, (.int .i64)])]
noncomputable def ls_z24 (n : Nat) : Loops := fun i =>  none
theorem m_z24 (n : Nat) (a0 : FieldS) (a1 : Nat) (a2 : Int) (a3 : Nat) (a4 : (List Int)) (a5 : (List HeadS)) (a6 : Nat) (a7 : (List Int)) : runFT Try.prog cf_z24 p_z24 (ls_z24 n) Try.f40 (bodyOf Try.f40) (EK.encs e_z24 (((), (a0, ())), (((), (a1, ((), (a2, ())))), ((a3, ()), (a4, (a5, ((a6, ()), (a7, ()))))))).1) (HK.encs h_z24 (((), (a0, ())), (((), (a1, ((), (a2, ())))), ((a3, ()), (a4, (a5, ((a6, ()), (a7, ()))))))).2) = M_z24 n a0 a1 a2 a3 a4 a5 a6 a7 := by kernel_rfl
theorem g_z24 (n : Nat) (a0 : FieldS) (a1 : Nat) (a2 : Int) (a3 : Nat) (a4 : (List Int)) (a5 : (List HeadS)) (a6 : Nat) (a7 : (List Int)) {r : Res} (h : M_z24 n a0 a1 a2 a3 a4 a5 a6 a7 = some r) : runF Try.prog cf_z24 n p_z24 40 (EK.encs e_z24 (((), (a0, ())), (((), (a1, ((), (a2, ())))), ((a3, ()), (a4, (a5, ((a6, ()), (a7, ()))))))).1) (HK.encs h_z24 (((), (a0, ())), (((), (a1, ((), (a2, ())))), ((a3, ()), (a4, (a5, ((a6, ()), (a7, ()))))))).2) = some r := by
  have hb : LOk Try.prog cf_z24 Try.f40.ntmps 6 n p_z24 (ls_z24 n) (bodyOf Try.f40) := ⟨trivial, ⟨trivial, ⟨⟨trivial, ⟨⟨trivial, trivial⟩, trivial⟩⟩, ⟨trivial, ⟨trivial, trivial⟩⟩⟩⟩⟩
  exact runFT_some Try.prog (c := bodyOf Try.f40) Try.func40 (show Try.f40.body = some (bodyOf Try.f40) from rfl) (show (2 : Nat) ≤ 27 by decide) hb ((m_z24 n a0 a1 a2 a3 a4 a5 a6 a7).trans h) rfl (by kernel_rfl)
noncomputable def c_z24 : Spec := specQ e_z24 h_z24 ro_z24 rh_z24 fun a b => Q_z24 a.2.1 b.1.2.1 b.1.2.2.2.1 b.2.1.1 b.2.2.1 b.2.2.2.1 b.2.2.2.2.1.1 b.2.2.2.2.2.1
theorem k_z24 (hm : Try.prog.follows .mixedOrders = true) : SpecOk Try.prog 40 c_z24 := specQ_ok (pol := p_z24) hm (cf := cf_z24) (tab_ok (specs_cons (k_z23 hm) (specs_cons (k_z0l hm) specs_nil))) fun a b r h => ⟨FUEL, g_z24 FUEL a.2.1 b.1.2.1 b.1.2.2.2.1 b.2.1.1 b.2.2.1 b.2.2.2.1 b.2.2.2.2.1.1 b.2.2.2.2.2.1 (decRes_some h)⟩
def e_z25 : List EK := [.ptr 0 0 0, .ty (.slice FieldT)]
def h_z25 : List HK := [.one false [.ptr 1 0 0, .hs 3 0, .ptr 4 0 0, .ty (.int .i64)], .one false [.hs 2 0], .row (.int .u8), .row HeadT, .one false [.hs 5 0], .row (.int .u8)]
noncomputable def c_z25 : Spec := specQ e_z25 h_z25 ro_z25 rh_z25 fun a b => Q_z25 a.2.1 b.1.2.1 b.1.2.2.2.1 b.2.1.1 b.2.2.1 b.2.2.2.1 b.2.2.2.2.1.1 b.2.2.2.2.2.1
theorem k_z25 (hm : Try.prog.follows .mixedOrders = true) : SpecOk Try.prog 20 c_z25 := H18.of_ok (e0 := (.ptr 0 0 0)) (cap := (0, 0, 0)) (fun s => rfl) (hs := h_z25) (fun b => rfl) (by rfl) (by rfl) (fun f b => Q_z24 f b.1.2.1 b.1.2.2.2.1 b.2.1.1 b.2.2.1 b.2.2.2.1 b.2.2.2.2.1.1 b.2.2.2.2.2.1) (k_z24 hm)
def s_z26_h0 : Sig := ⟨[0, 3, 6], [.ptr 0 0 0, .ptr 2 0 0, .ty (.int .i64)], [.one false [.ty .str, .ty .str, .ty (.int .i64), .hs 1 0], .row HeadT, .cell FieldT]⟩
def s_z26_r : Sig := ⟨[4, 5], [.ty (.int .i64), .ty .bool], [.one false [.ty .str, .ty .str, .ty (.int .i64), .hs 1 0], .row HeadT]⟩
def s_z26_t0 : Sig := ⟨[], [], [.one false [.ty .str, .ty .str, .ty (.int .i64), .hs 1 0], .row HeadT]⟩
def p_z26 : Pol := ⟨fun i => if i = 0 then some [(0, .keep), (3, (.own FieldT)), (6, .keep)] else none, fun i => if i = 0 then some [] else none, some [(4, .keep), (5, .keep)], [.keep, .keep], []⟩
def e_z26 : List EK := [.ptr 0 0 0, .agg FieldT]
def h_z26 : List HK := [.one false [.ty .str, .ty .str, .ty (.int .i64), .hs 1 0], .row HeadT]
noncomputable def cf_z26 : CallF := mkCF [] []
noncomputable def ls_z26 (n : Nat) : Loops := fun i => if i = 0 then some (loopT 2 (p_z26.head 0) s_z26_h0 fun K v => L_z26_0 n (fun z0 z1 => K .rt (s_z26_r.enc ((z0, (z1, ())), ((v.2.1.1, (v.2.1.2.1, (v.2.1.2.2.1, (v.2.1.2.2.2.1, ())))), (v.2.2.1, ()))))) (fun _ => K (.ex 0) (s_z26_t0.enc ((), ((v.2.1.1, (v.2.1.2.1, (v.2.1.2.2.1, (v.2.1.2.2.2.1, ())))), (v.2.2.1, ()))))) v.2.1.2.2.2.1 v.2.2.1 v.2.2.2.1 n v.1.2.2.1)
  else  none
noncomputable def b_z26_0 : Code := partOf (bodyOf Try.f65) [1, 0, 1, 0, 0, 1, 0, 0]
noncomputable def V_z26_0 (n : Nat) (K : Cont) (rec : Sig.sem s_z26_h0 → Option Res) (v : Sig.sem s_z26_h0) : Option Res := F_z26_0 n (fun z0 z1 => K .rt (s_z26_r.enc ((z0, (z1, ())), ((v.2.1.1, (v.2.1.2.1, (v.2.1.2.2.1, (v.2.1.2.2.2.1, ())))), (v.2.2.1, ()))))) (fun _ => K (.ex 0) (s_z26_t0.enc ((), ((v.2.1.1, (v.2.1.2.1, (v.2.1.2.2.1, (v.2.1.2.2.2.1, ())))), (v.2.2.1, ()))))) v.2.1.2.2.2.1 v.2.2.1 v.2.2.2.1 (fun z0 => rec (((), ((), (z0, ()))), ((v.2.1.1, (v.2.1.2.1, (v.2.1.2.2.1, (v.2.1.2.2.2.1, ())))), (v.2.2.1, (v.2.2.2.1, ()))))) v.1.2.2.1
theorem t_z26_0 (n : Nat) (K : Cont) (rec : Sig.sem s_z26_h0 → Option Res) (v : Sig.sem s_z26_h0) : runT Try.prog cf_z26 Try.f65.ntmps 2 p_z26 (ls_z26 n) b_z26_0 (s_z26_h0.enc v) (turnK 2 (p_z26.head 0) s_z26_h0 rec K) = V_z26_0 n K rec v := by kernel_rfl
noncomputable def W_z26_0 (n : Nat) (K : Cont) (m : Nat) (v : Sig.sem s_z26_h0) : Option Res := L_z26_0 n (fun z0 z1 => K .rt (s_z26_r.enc ((z0, (z1, ())), ((v.2.1.1, (v.2.1.2.1, (v.2.1.2.2.1, (v.2.1.2.2.2.1, ())))), (v.2.2.1, ()))))) (fun _ => K (.ex 0) (s_z26_t0.enc ((), ((v.2.1.1, (v.2.1.2.1, (v.2.1.2.2.1, (v.2.1.2.2.2.1, ())))), (v.2.2.1, ()))))) v.2.1.2.2.2.1 v.2.2.1 v.2.2.2.1 m v.1.2.2.1
theorem i_z26_0 (n : Nat) (K : Cont) : ∀ m v, iter (V_z26_0 n K) m v = W_z26_0 n K m v := by
  intro m
  induction m with
  | zero => intro v; rfl
  | succ m ih =>
    intro v
    show V_z26_0 n K (iter (V_z26_0 n K) m) v = V_z26_0 n K (W_z26_0 n K m) v
    rw [show iter (V_z26_0 n K) m = W_z26_0 n K m from funext ih]
theorem o_z26_0 (n : Nat) : ∀ L, ls_z26 n 0 = some L → ∀ s K r, L s K = some r → ∃ x s', loopN (run Try.prog cf_z26 Try.f65.ntmps 2 n p_z26 none b_z26_0) (gc 2 (p_z26.head 0)) n s = some (x, s') ∧ K x s' = some r := by
  intro L hL s K r h
  have hL : some (loopT 2 (p_z26.head 0) s_z26_h0 fun K v => W_z26_0 n K n v) = some L := hL
  cases hL
  have hb : LOk Try.prog cf_z26 Try.f65.ntmps 2 n p_z26 (ls_z26 n) b_z26_0 := ⟨⟨trivial, ⟨trivial, trivial⟩⟩, ⟨⟨trivial, ⟨⟨trivial, trivial⟩, trivial⟩⟩, trivial⟩⟩
  refine loopT_ok hb (V_z26_0 n) (t_z26_0 n) n s K r ?_
  rw [← h]
  unfold loopT
  simp only [i_z26_0]
theorem m_z26 (n : Nat) (a0 : FieldS) (a1 : ByteArray) (a2 : ByteArray) (a3 : Int) (a4 : Nat) (a5 : (List HeadS)) : runFT Try.prog cf_z26 p_z26 (ls_z26 n) Try.f65 (bodyOf Try.f65) (EK.encs e_z26 (((), (a0, ())), ((a1, (a2, (a3, (a4, ())))), (a5, ()))).1) (HK.encs h_z26 (((), (a0, ())), ((a1, (a2, (a3, (a4, ())))), (a5, ()))).2) = M_z26 n a0 a1 a2 a3 a4 a5 := by kernel_rfl
theorem g_z26 (n : Nat) (a0 : FieldS) (a1 : ByteArray) (a2 : ByteArray) (a3 : Int) (a4 : Nat) (a5 : (List HeadS)) {r : Res} (h : M_z26 n a0 a1 a2 a3 a4 a5 = some r) : runF Try.prog cf_z26 n p_z26 65 (EK.encs e_z26 (((), (a0, ())), ((a1, (a2, (a3, (a4, ())))), (a5, ()))).1) (HK.encs h_z26 (((), (a0, ())), ((a1, (a2, (a3, (a4, ())))), (a5, ()))).2) = some r := by
  have hb : LOk Try.prog cf_z26 Try.f65.ntmps 2 n p_z26 (ls_z26 n) (bodyOf Try.f65) := ⟨trivial, ⟨⟨trivial, ⟨⟨⟨trivial, (o_z26_0 n)⟩, ⟨trivial, trivial⟩⟩, trivial⟩⟩, ⟨trivial, trivial⟩⟩⟩
  exact runFT_some Try.prog (c := bodyOf Try.f65) Try.func65 (show Try.f65.body = some (bodyOf Try.f65) from rfl) (show (2 : Nat) ≤ 46 by decide) hb ((m_z26 n a0 a1 a2 a3 a4 a5).trans h) rfl (by kernel_rfl)
noncomputable def c_z26 : Spec := specQ e_z26 h_z26 ro_z26 rh_z26 fun a b => Q_z26 a.2.1 b.1.1 b.1.2.1 b.1.2.2.1 b.1.2.2.2.1 b.2.1
theorem k_z26 (hm : Try.prog.follows .mixedOrders = true) : SpecOk Try.prog 65 c_z26 := specQ_ok (pol := p_z26) hm (cf := cf_z26) (tab_ok specs_nil) fun a b r h => ⟨FUEL, g_z26 FUEL a.2.1 b.1.1 b.1.2.1 b.1.2.2.1 b.1.2.2.2.1 b.2.1 (decRes_some h)⟩
def s_z27_r : Sig := ⟨[4], [.ty .str], [.one false [.ty .str, .ty .str, .ty (.int .i64), .hs 1 0], .row HeadT]⟩
def p_z27 : Pol := ⟨fun i => none, fun i => none, some [(4, .keep)], [.keep], []⟩
def e_z27 : List EK := [.ptr 0 0 0, .agg FieldT]
def h_z27 : List HK := [.one false [.ty .str, .ty .str, .ty (.int .i64), .hs 1 0], .row HeadT]
noncomputable def cf_z27 : CallF := mkCF [] []
noncomputable def ls_z27 (n : Nat) : Loops := fun i =>  none
theorem m_z27 (n : Nat) (a0 : FieldS) (a1 : ByteArray) (a2 : ByteArray) (a3 : Int) (a4 : Nat) (a5 : (List HeadS)) : runFT Try.prog cf_z27 p_z27 (ls_z27 n) Try.f67 (bodyOf Try.f67) (EK.encs e_z27 (((), (a0, ())), ((a1, (a2, (a3, (a4, ())))), (a5, ()))).1) (HK.encs h_z27 (((), (a0, ())), ((a1, (a2, (a3, (a4, ())))), (a5, ()))).2) = M_z27 n a0 a1 a2 a3 a4 a5 := by kernel_rfl
theorem g_z27 (n : Nat) (a0 : FieldS) (a1 : ByteArray) (a2 : ByteArray) (a3 : Int) (a4 : Nat) (a5 : (List HeadS)) {r : Res} (h : M_z27 n a0 a1 a2 a3 a4 a5 = some r) : runF Try.prog cf_z27 n p_z27 67 (EK.encs e_z27 (((), (a0, ())), ((a1, (a2, (a3, (a4, ())))), (a5, ()))).1) (HK.encs h_z27 (((), (a0, ())), ((a1, (a2, (a3, (a4, ())))), (a5, ()))).2) = some r := by
  have hb : LOk Try.prog cf_z27 Try.f67.ntmps 2 n p_z27 (ls_z27 n) (bodyOf Try.f67) := ⟨trivial, ⟨⟨trivial, ⟨⟨trivial, trivial⟩, trivial⟩⟩, ⟨trivial, trivial⟩⟩⟩
  exact runFT_some Try.prog (c := bodyOf Try.f67) Try.func67 (show Try.f67.body = some (bodyOf Try.f67) from rfl) (show (2 : Nat) ≤ 16 by decide) hb ((m_z27 n a0 a1 a2 a3 a4 a5).trans h) rfl (by kernel_rfl)
noncomputable def c_z27 : Spec := specQ e_z27 h_z27 ro_z27 rh_z27 fun a b => Q_z27 a.2.1 b.1.1 b.1.2.1 b.1.2.2.1 b.1.2.2.2.1 b.2.1
theorem k_z27 (hm : Try.prog.follows .mixedOrders = true) : SpecOk Try.prog 67 c_z27 := specQ_ok (pol := p_z27) hm (cf := cf_z27) (tab_ok specs_nil) fun a b r h => ⟨FUEL, g_z27 FUEL a.2.1 b.1.1 b.1.2.1 b.1.2.2.1 b.1.2.2.2.1 b.2.1 (decRes_some h)⟩
def s_z28_r : Sig := ⟨[4], [.ty (.int .i64)], [.one false [.ty .str, .ty .str, .ty (.int .i64), .hs 1 0], .row HeadT]⟩
def p_z28 : Pol := ⟨fun i => none, fun i => none, some [(4, .keep)], [.keep], []⟩
def e_z28 : List EK := [.ptr 0 0 0, .agg FieldT]
def h_z28 : List HK := [.one false [.ty .str, .ty .str, .ty (.int .i64), .hs 1 0], .row HeadT]
noncomputable def cf_z28 : CallF := mkCF [(65, c_z26), (67, c_z27), (83, c_z1t)] [(83, [.str, (.int .i64), (.int .i64)])]
noncomputable def ls_z28 (n : Nat) : Loops := fun i =>  none
theorem m_z28 (n : Nat) (a0 : FieldS) (a1 : ByteArray) (a2 : ByteArray) (a3 : Int) (a4 : Nat) (a5 : (List HeadS)) : runFT Try.prog cf_z28 p_z28 (ls_z28 n) Try.f64 (bodyOf Try.f64) (EK.encs e_z28 (((), (a0, ())), ((a1, (a2, (a3, (a4, ())))), (a5, ()))).1) (HK.encs h_z28 (((), (a0, ())), ((a1, (a2, (a3, (a4, ())))), (a5, ()))).2) = M_z28 n a0 a1 a2 a3 a4 a5 := by kernel_rfl
theorem g_z28 (n : Nat) (a0 : FieldS) (a1 : ByteArray) (a2 : ByteArray) (a3 : Int) (a4 : Nat) (a5 : (List HeadS)) {r : Res} (h : M_z28 n a0 a1 a2 a3 a4 a5 = some r) : runF Try.prog cf_z28 n p_z28 64 (EK.encs e_z28 (((), (a0, ())), ((a1, (a2, (a3, (a4, ())))), (a5, ()))).1) (HK.encs h_z28 (((), (a0, ())), ((a1, (a2, (a3, (a4, ())))), (a5, ()))).2) = some r := by
  have hb : LOk Try.prog cf_z28 Try.f64.ntmps 2 n p_z28 (ls_z28 n) (bodyOf Try.f64) := ⟨trivial, ⟨trivial, ⟨⟨trivial, ⟨⟨trivial, trivial⟩, trivial⟩⟩, ⟨⟨trivial, ⟨⟨trivial, trivial⟩, trivial⟩⟩, ⟨trivial, trivial⟩⟩⟩⟩⟩
  exact runFT_some Try.prog (c := bodyOf Try.f64) Try.func64 (show Try.f64.body = some (bodyOf Try.f64) from rfl) (show (2 : Nat) ≤ 37 by decide) hb ((m_z28 n a0 a1 a2 a3 a4 a5).trans h) rfl (by kernel_rfl)
noncomputable def c_z28 : Spec := specQ e_z28 h_z28 ro_z28 rh_z28 fun a b => Q_z28 a.2.1 b.1.1 b.1.2.1 b.1.2.2.1 b.1.2.2.2.1 b.2.1
theorem k_z28 (hm : Try.prog.follows .mixedOrders = true) : SpecOk Try.prog 64 c_z28 := specQ_ok (pol := p_z28) hm (cf := cf_z28) (tab_ok (specs_cons (k_z26 hm) (specs_cons (k_z27 hm) (specs_cons (k_z1t hm) specs_nil)))) fun a b r h => ⟨FUEL, g_z28 FUEL a.2.1 b.1.1 b.1.2.1 b.1.2.2.1 b.1.2.2.2.1 b.2.1 (decRes_some h)⟩
def s_z29_r : Sig := ⟨[4, 5], [.ptr 2 0 0, .ty (.int .i64)], [.one false [.ty .str, .ty .str, .ty (.int .i64), .hs 1 0], .row HeadT, .cell WordT]⟩
def p_z29 : Pol := ⟨fun i => none, fun i => none, some [(4, (.own WordT)), (5, .keep)], [.keep, .keep], []⟩
def e_z29 : List EK := [.ptr 0 0 0, .agg FieldT]
def h_z29 : List HK := [.one false [.ty .str, .ty .str, .ty (.int .i64), .hs 1 0], .row HeadT]
noncomputable def cf_z29 : CallF := mkCF [(64, c_z28), (65, c_z26), (67, c_z27), (66, c_z1w)] [(66, [.str, (.int .i64), (.int .i64)])]
noncomputable def ls_z29 (n : Nat) : Loops := fun i =>  none
theorem m_z29 (n : Nat) (a0 : FieldS) (a1 : ByteArray) (a2 : ByteArray) (a3 : Int) (a4 : Nat) (a5 : (List HeadS)) : runFT Try.prog cf_z29 p_z29 (ls_z29 n) Try.f47 (bodyOf Try.f47) (EK.encs e_z29 (((), (a0, ())), ((a1, (a2, (a3, (a4, ())))), (a5, ()))).1) (HK.encs h_z29 (((), (a0, ())), ((a1, (a2, (a3, (a4, ())))), (a5, ()))).2) = M_z29 n a0 a1 a2 a3 a4 a5 := by kernel_rfl
theorem g_z29 (n : Nat) (a0 : FieldS) (a1 : ByteArray) (a2 : ByteArray) (a3 : Int) (a4 : Nat) (a5 : (List HeadS)) {r : Res} (h : M_z29 n a0 a1 a2 a3 a4 a5 = some r) : runF Try.prog cf_z29 n p_z29 47 (EK.encs e_z29 (((), (a0, ())), ((a1, (a2, (a3, (a4, ())))), (a5, ()))).1) (HK.encs h_z29 (((), (a0, ())), ((a1, (a2, (a3, (a4, ())))), (a5, ()))).2) = some r := by
  have hb : LOk Try.prog cf_z29 Try.f47.ntmps 2 n p_z29 (ls_z29 n) (bodyOf Try.f47) := ⟨trivial, ⟨trivial, ⟨⟨trivial, ⟨⟨trivial, trivial⟩, trivial⟩⟩, ⟨trivial, ⟨trivial, ⟨trivial, trivial⟩⟩⟩⟩⟩⟩
  exact runFT_some Try.prog (c := bodyOf Try.f47) Try.func47 (show Try.f47.body = some (bodyOf Try.f47) from rfl) (show (2 : Nat) ≤ 39 by decide) hb ((m_z29 n a0 a1 a2 a3 a4 a5).trans h) rfl (by kernel_rfl)
noncomputable def c_z29 : Spec := specQ e_z29 h_z29 ro_z29 rh_z29 fun a b => Q_z29 a.2.1 b.1.1 b.1.2.1 b.1.2.2.1 b.1.2.2.2.1 b.2.1
theorem k_z29 (hm : Try.prog.follows .mixedOrders = true) : SpecOk Try.prog 47 c_z29 := specQ_ok (pol := p_z29) hm (cf := cf_z29) (tab_ok (specs_cons (k_z28 hm) (specs_cons (k_z26 hm) (specs_cons (k_z27 hm) (specs_cons (k_z1w hm) specs_nil))))) fun a b r h => ⟨FUEL, g_z29 FUEL a.2.1 b.1.1 b.1.2.1 b.1.2.2.1 b.1.2.2.2.1 b.2.1 (decRes_some h)⟩
def s_z2a_r : Sig := ⟨[2], [.ty (.int .i64)], []⟩
def p_z2a : Pol := ⟨fun i => none, fun i => none, some [(2, .keep)], [.keep], []⟩
def e_z2a : List EK := [.ty (.int .i64)]
def h_z2a : List HK := []
noncomputable def cf_z2a : CallF := mkCF [] []
noncomputable def ls_z2a (n : Nat) : Loops := fun i =>  none
theorem m_z2a (n : Nat) (a0 : Int) : runFT Try.prog cf_z2a p_z2a (ls_z2a n) Try.f49 (bodyOf Try.f49) (EK.encs e_z2a ((a0, ()), ()).1) (HK.encs h_z2a ((a0, ()), ()).2) = M_z2a n a0 := by kernel_rfl
theorem g_z2a (n : Nat) (a0 : Int) {r : Res} (h : M_z2a n a0 = some r) : runF Try.prog cf_z2a n p_z2a 49 (EK.encs e_z2a ((a0, ()), ()).1) (HK.encs h_z2a ((a0, ()), ()).2) = some r := by
  have hb : LOk Try.prog cf_z2a Try.f49.ntmps 0 n p_z2a (ls_z2a n) (bodyOf Try.f49) := ⟨trivial, ⟨⟨trivial, ⟨⟨trivial, trivial⟩, trivial⟩⟩, ⟨trivial, trivial⟩⟩⟩
  exact runFT_some Try.prog (c := bodyOf Try.f49) Try.func49 (show Try.f49.body = some (bodyOf Try.f49) from rfl) (show (1 : Nat) ≤ 12 by decide) hb ((m_z2a n a0).trans h) rfl (by kernel_rfl)
noncomputable def c_z2a : Spec := specQ e_z2a h_z2a ro_z2a rh_z2a fun a b => Q_z2a a.1
theorem k_z2a (hm : Try.prog.follows .mixedOrders = true) : SpecOk Try.prog 49 c_z2a := specQ_ok (pol := p_z2a) hm (cf := cf_z2a) (tab_ok specs_nil) fun a b r h => ⟨FUEL, g_z2a FUEL a.1 (decRes_some h)⟩
def s_z2b_h0 : Sig := ⟨[1, 5, 6], [.ty (.int .i64), .ty (.int .u64), .ty (.int .i64)], []⟩
def s_z2b_t0 : Sig := ⟨[5], [.ty (.int .u64)], []⟩
def s_z2b_r : Sig := ⟨[4], [.ty (.int .u64)], []⟩
def p_z2b : Pol := ⟨fun i => if i = 0 then some [(1, .keep), (5, .keep), (6, .keep)] else none, fun i => if i = 0 then some [(5, .keep)] else none, some [(4, .keep)], [.keep], []⟩
def e_z2b : List EK := [.agg WordT, .ty (.int .i64)]
def h_z2b : List HK := []
noncomputable def cf_z2b : CallF := mkCF [] []
noncomputable def ls_z2b (n : Nat) : Loops := fun i => if i = 0 then some (loopT 0 (p_z2b.head 0) s_z2b_h0 fun K v => L_z2b_0 n (fun z0 => K (.ex 0) (s_z2b_t0.enc ((z0, ()), ()))) v.1.1 n v.1.2.1 v.1.2.2.1)
  else  none
noncomputable def b_z2b_0 : Code := partOf (bodyOf Try.f68) [1, 1, 1, 0, 1, 0, 0]
noncomputable def V_z2b_0 (n : Nat) (K : Cont) (rec : Sig.sem s_z2b_h0 → Option Res) (v : Sig.sem s_z2b_h0) : Option Res := F_z2b_0 n (fun z0 => K (.ex 0) (s_z2b_t0.enc ((z0, ()), ()))) v.1.1 (fun z1 z2 => rec ((v.1.1, (z1, (z2, ()))), ())) v.1.2.1 v.1.2.2.1
theorem t_z2b_0 (n : Nat) (K : Cont) (rec : Sig.sem s_z2b_h0 → Option Res) (v : Sig.sem s_z2b_h0) : runT Try.prog cf_z2b Try.f68.ntmps 0 p_z2b (ls_z2b n) b_z2b_0 (s_z2b_h0.enc v) (turnK 0 (p_z2b.head 0) s_z2b_h0 rec K) = V_z2b_0 n K rec v := by kernel_rfl
noncomputable def W_z2b_0 (n : Nat) (K : Cont) (m : Nat) (v : Sig.sem s_z2b_h0) : Option Res := L_z2b_0 n (fun z0 => K (.ex 0) (s_z2b_t0.enc ((z0, ()), ()))) v.1.1 m v.1.2.1 v.1.2.2.1
theorem i_z2b_0 (n : Nat) (K : Cont) : ∀ m v, iter (V_z2b_0 n K) m v = W_z2b_0 n K m v := by
  intro m
  induction m with
  | zero => intro v; rfl
  | succ m ih =>
    intro v
    show V_z2b_0 n K (iter (V_z2b_0 n K) m) v = V_z2b_0 n K (W_z2b_0 n K m) v
    rw [show iter (V_z2b_0 n K) m = W_z2b_0 n K m from funext ih]
theorem o_z2b_0 (n : Nat) : ∀ L, ls_z2b n 0 = some L → ∀ s K r, L s K = some r → ∃ x s', loopN (run Try.prog cf_z2b Try.f68.ntmps 0 n p_z2b none b_z2b_0) (gc 0 (p_z2b.head 0)) n s = some (x, s') ∧ K x s' = some r := by
  intro L hL s K r h
  have hL : some (loopT 0 (p_z2b.head 0) s_z2b_h0 fun K v => W_z2b_0 n K n v) = some L := hL
  cases hL
  have hb : LOk Try.prog cf_z2b Try.f68.ntmps 0 n p_z2b (ls_z2b n) b_z2b_0 := ⟨⟨trivial, ⟨trivial, trivial⟩⟩, ⟨trivial, trivial⟩⟩
  refine loopT_ok hb (V_z2b_0 n) (t_z2b_0 n) n s K r ?_
  rw [← h]
  unfold loopT
  simp only [i_z2b_0]
theorem m_z2b (n : Nat) (a0 : WordS) (a1 : Int) : runFT Try.prog cf_z2b p_z2b (ls_z2b n) Try.f68 (bodyOf Try.f68) (EK.encs e_z2b ((a0, (a1, ())), ()).1) (HK.encs h_z2b ((a0, (a1, ())), ()).2) = M_z2b n a0 a1 := by kernel_rfl
theorem g_z2b (n : Nat) (a0 : WordS) (a1 : Int) {r : Res} (h : M_z2b n a0 a1 = some r) : runF Try.prog cf_z2b n p_z2b 68 (EK.encs e_z2b ((a0, (a1, ())), ()).1) (HK.encs h_z2b ((a0, (a1, ())), ()).2) = some r := by
  have hb : LOk Try.prog cf_z2b Try.f68.ntmps 0 n p_z2b (ls_z2b n) (bodyOf Try.f68) := ⟨trivial, ⟨trivial, ⟨⟨trivial, ⟨⟨trivial, trivial⟩, trivial⟩⟩, ⟨⟨trivial, (o_z2b_0 n)⟩, ⟨trivial, trivial⟩⟩⟩⟩⟩
  exact runFT_some Try.prog (c := bodyOf Try.f68) Try.func68 (show Try.f68.body = some (bodyOf Try.f68) from rfl) (show (2 : Nat) ≤ 24 by decide) hb ((m_z2b n a0 a1).trans h) rfl (by kernel_rfl)
noncomputable def c_z2b : Spec := specQ e_z2b h_z2b ro_z2b rh_z2b fun a b => Q_z2b a.1 a.2.1
theorem k_z2b (hm : Try.prog.follows .mixedOrders = true) : SpecOk Try.prog 68 c_z2b := specQ_ok (pol := p_z2b) hm (cf := cf_z2b) (tab_ok specs_nil) fun a b r h => ⟨FUEL, g_z2b FUEL a.1 a.2.1 (decRes_some h)⟩
def s_z2c_r : Sig := ⟨[4, 5], [.ty .str, .ty (.int .i64)], []⟩
def s_z2c_h0 : Sig := ⟨[1, 2, 6, 7], [.ty (.int .i64), .ptr 0 0 0, .ty .str, .ty (.int .i64)], [.cell WordT]⟩
def s_z2c_h2 : Sig := ⟨[1, 2, 6, 7, 8, 9], [.ty (.int .i64), .ptr 0 0 0, .ty .str, .ty (.int .i64), .ty (.int .u64), .ty (.int .i64)], [.cell WordT]⟩
def s_z2c_t2 : Sig := ⟨[1, 2, 6, 7, 8], [.ty (.int .i64), .ptr 0 0 0, .ty .str, .ty (.int .i64), .ty (.int .u64)], [.cell WordT]⟩
def s_z2c_t0 : Sig := ⟨[6], [.ty .str], []⟩
def p_z2c : Pol := ⟨fun i => if i = 0 then some [(1, .keep), (2, (.own WordT)), (6, .keep), (7, .keep)] else if i = 2 then some [(1, .keep), (2, (.own WordT)), (6, .keep), (7, .keep), (8, .keep), (9, .keep)] else none, fun i => if i = 2 then some [(1, .keep), (2, (.own WordT)), (6, .keep), (7, .keep), (8, .keep)] else if i = 0 then some [(6, .keep)] else none, some [(4, .keep), (5, .keep)], [.keep, .keep], []⟩
def e_z2c : List EK := [.agg WordT, .ty (.int .i64)]
def h_z2c : List HK := []
noncomputable def cf_z2c : CallF := mkCF [(49, c_z2a), (68, c_z2b)] [(49, [(.int .i64)]), (68, [WordT, (.int .i64)])]
noncomputable def ls_z2c (n : Nat) : Loops := fun i => if i = 2 then some (loopT 0 (p_z2c.head 2) s_z2c_h2 fun K v => L_z2c_2 n (fun z3 => K (.ex 2) (s_z2c_t2.enc ((v.1.1, ((), (v.1.2.2.1, (v.1.2.2.2.1, (z3, ()))))), (v.2.1, ())))) v.1.1 v.1.2.2.1 v.1.2.2.2.1 v.2.1 n v.1.2.2.2.2.1 v.1.2.2.2.2.2.1)
  else if i = 0 then some (loopT 0 (p_z2c.head 0) s_z2c_h0 fun K v => L_z2c_0 n (fun z0 => K (.ex 0) (s_z2c_t0.enc ((z0, ()), ()))) v.1.1 v.2.1 n v.1.2.2.1 v.1.2.2.2.1)
  else  none
noncomputable def b_z2c_2 : Code := partOf (bodyOf Try.f48) [1, 1, 1, 0, 1, 0, 0, 1, 0, 0, 1, 0, 1, 0, 0]
noncomputable def V_z2c_2 (n : Nat) (K : Cont) (rec : Sig.sem s_z2c_h2 → Option Res) (v : Sig.sem s_z2c_h2) : Option Res := F_z2c_2 n (fun z3 => K (.ex 2) (s_z2c_t2.enc ((v.1.1, ((), (v.1.2.2.1, (v.1.2.2.2.1, (z3, ()))))), (v.2.1, ())))) v.1.1 v.1.2.2.1 v.1.2.2.2.1 v.2.1 (fun z3 z4 => rec ((v.1.1, ((), (v.1.2.2.1, (v.1.2.2.2.1, (z3, (z4, ())))))), (v.2.1, ()))) v.1.2.2.2.2.1 v.1.2.2.2.2.2.1
theorem t_z2c_2 (n : Nat) (K : Cont) (rec : Sig.sem s_z2c_h2 → Option Res) (v : Sig.sem s_z2c_h2) : runT Try.prog cf_z2c Try.f48.ntmps 0 p_z2c (ls_z2c n) b_z2c_2 (s_z2c_h2.enc v) (turnK 0 (p_z2c.head 2) s_z2c_h2 rec K) = V_z2c_2 n K rec v := by kernel_rfl
noncomputable def W_z2c_2 (n : Nat) (K : Cont) (m : Nat) (v : Sig.sem s_z2c_h2) : Option Res := L_z2c_2 n (fun z3 => K (.ex 2) (s_z2c_t2.enc ((v.1.1, ((), (v.1.2.2.1, (v.1.2.2.2.1, (z3, ()))))), (v.2.1, ())))) v.1.1 v.1.2.2.1 v.1.2.2.2.1 v.2.1 m v.1.2.2.2.2.1 v.1.2.2.2.2.2.1
theorem i_z2c_2 (n : Nat) (K : Cont) : ∀ m v, iter (V_z2c_2 n K) m v = W_z2c_2 n K m v := by
  intro m
  induction m with
  | zero => intro v; rfl
  | succ m ih =>
    intro v
    show V_z2c_2 n K (iter (V_z2c_2 n K) m) v = V_z2c_2 n K (W_z2c_2 n K m) v
    rw [show iter (V_z2c_2 n K) m = W_z2c_2 n K m from funext ih]
theorem o_z2c_2 (n : Nat) : ∀ L, ls_z2c n 2 = some L → ∀ s K r, L s K = some r → ∃ x s', loopN (run Try.prog cf_z2c Try.f48.ntmps 0 n p_z2c none b_z2c_2) (gc 0 (p_z2c.head 2)) n s = some (x, s') ∧ K x s' = some r := by
  intro L hL s K r h
  have hL : some (loopT 0 (p_z2c.head 2) s_z2c_h2 fun K v => W_z2c_2 n K n v) = some L := hL
  cases hL
  have hb : LOk Try.prog cf_z2c Try.f48.ntmps 0 n p_z2c (ls_z2c n) b_z2c_2 := ⟨⟨trivial, ⟨trivial, trivial⟩⟩, ⟨⟨trivial, ⟨trivial, ⟨trivial, trivial⟩⟩⟩, trivial⟩⟩
  refine loopT_ok hb (V_z2c_2 n) (t_z2c_2 n) n s K r ?_
  rw [← h]
  unfold loopT
  simp only [i_z2c_2]
noncomputable def b_z2c_0 : Code := partOf (bodyOf Try.f48) [1, 1, 1, 0, 1, 0, 0]
noncomputable def V_z2c_0 (n : Nat) (K : Cont) (rec : Sig.sem s_z2c_h0 → Option Res) (v : Sig.sem s_z2c_h0) : Option Res := F_z2c_0 n (fun z0 => K (.ex 0) (s_z2c_t0.enc ((z0, ()), ()))) v.1.1 v.2.1 (fun z1 z2 => rec ((v.1.1, ((), (z1, (z2, ())))), (v.2.1, ()))) v.1.2.2.1 v.1.2.2.2.1
theorem t_z2c_0 (n : Nat) (K : Cont) (rec : Sig.sem s_z2c_h0 → Option Res) (v : Sig.sem s_z2c_h0) : runT Try.prog cf_z2c Try.f48.ntmps 0 p_z2c (ls_z2c n) b_z2c_0 (s_z2c_h0.enc v) (turnK 0 (p_z2c.head 0) s_z2c_h0 rec K) = V_z2c_0 n K rec v := by kernel_rfl
noncomputable def W_z2c_0 (n : Nat) (K : Cont) (m : Nat) (v : Sig.sem s_z2c_h0) : Option Res := L_z2c_0 n (fun z0 => K (.ex 0) (s_z2c_t0.enc ((z0, ()), ()))) v.1.1 v.2.1 m v.1.2.2.1 v.1.2.2.2.1
theorem i_z2c_0 (n : Nat) (K : Cont) : ∀ m v, iter (V_z2c_0 n K) m v = W_z2c_0 n K m v := by
  intro m
  induction m with
  | zero => intro v; rfl
  | succ m ih =>
    intro v
    show V_z2c_0 n K (iter (V_z2c_0 n K) m) v = V_z2c_0 n K (W_z2c_0 n K m) v
    rw [show iter (V_z2c_0 n K) m = W_z2c_0 n K m from funext ih]
theorem o_z2c_0 (n : Nat) : ∀ L, ls_z2c n 0 = some L → ∀ s K r, L s K = some r → ∃ x s', loopN (run Try.prog cf_z2c Try.f48.ntmps 0 n p_z2c none b_z2c_0) (gc 0 (p_z2c.head 0)) n s = some (x, s') ∧ K x s' = some r := by
  intro L hL s K r h
  have hL : some (loopT 0 (p_z2c.head 0) s_z2c_h0 fun K v => W_z2c_0 n K n v) = some L := hL
  cases hL
  have hb : LOk Try.prog cf_z2c Try.f48.ntmps 0 n p_z2c (ls_z2c n) b_z2c_0 := ⟨⟨trivial, ⟨trivial, trivial⟩⟩, ⟨⟨trivial, ⟨⟨trivial, (o_z2c_2 n)⟩, trivial⟩⟩, trivial⟩⟩
  refine loopT_ok hb (V_z2c_0 n) (t_z2c_0 n) n s K r ?_
  rw [← h]
  unfold loopT
  simp only [i_z2c_0]
theorem m_z2c (n : Nat) (a0 : WordS) (a1 : Int) : runFT Try.prog cf_z2c p_z2c (ls_z2c n) Try.f48 (bodyOf Try.f48) (EK.encs e_z2c ((a0, (a1, ())), ()).1) (HK.encs h_z2c ((a0, (a1, ())), ()).2) = M_z2c n a0 a1 := by kernel_rfl
theorem g_z2c (n : Nat) (a0 : WordS) (a1 : Int) {r : Res} (h : M_z2c n a0 a1 = some r) : runF Try.prog cf_z2c n p_z2c 48 (EK.encs e_z2c ((a0, (a1, ())), ()).1) (HK.encs h_z2c ((a0, (a1, ())), ()).2) = some r := by
  have hb : LOk Try.prog cf_z2c Try.f48.ntmps 0 n p_z2c (ls_z2c n) (bodyOf Try.f48) := ⟨trivial, ⟨⟨trivial, ⟨⟨trivial, trivial⟩, trivial⟩⟩, ⟨trivial, ⟨⟨trivial, (o_z2c_0 n)⟩, ⟨trivial, trivial⟩⟩⟩⟩⟩
  exact runFT_some Try.prog (c := bodyOf Try.f48) Try.func48 (show Try.f48.body = some (bodyOf Try.f48) from rfl) (show (2 : Nat) ≤ 46 by decide) hb ((m_z2c n a0 a1).trans h) rfl (by kernel_rfl)
noncomputable def c_z2c : Spec := specQ e_z2c h_z2c ro_z2c rh_z2c fun a b => Q_z2c a.1 a.2.1
theorem k_z2c (hm : Try.prog.follows .mixedOrders = true) : SpecOk Try.prog 48 c_z2c := specQ_ok (pol := p_z2c) hm (cf := cf_z2c) (tab_ok (specs_cons (k_z2a hm) (specs_cons (k_z2b hm) specs_nil))) fun a b r h => ⟨FUEL, g_z2c FUEL a.1 a.2.1 (decRes_some h)⟩
def s_z2d_h0 : Sig := ⟨[0, 1, 6, 7], [.ptr 0 0 0, .ty (.slice FieldT), .ty .str, .ty (.int .i64)], [.one false [.ty .str, .ty .str, .ty (.int .i64), .hs 1 0], .row HeadT]⟩
def s_z2d_r : Sig := ⟨[4, 5], [.ty .str, .ty (.int .i64)], [.one false [.ty .str, .ty .str, .ty (.int .i64), .hs 1 0], .row HeadT]⟩
def s_z2d_t0 : Sig := ⟨[6], [.ty .str], [.one false [.ty .str, .ty .str, .ty (.int .i64), .hs 1 0], .row HeadT]⟩
def p_z2d : Pol := ⟨fun i => if i = 0 then some [(0, .keep), (1, .keep), (6, .keep), (7, .keep)] else none, fun i => if i = 0 then some [(6, .keep)] else none, some [(4, .keep), (5, .keep)], [.keep, .keep], []⟩
def e_z2d : List EK := [.ptr 0 0 0, .ty (.slice FieldT)]
def h_z2d : List HK := [.one false [.ty .str, .ty .str, .ty (.int .i64), .hs 1 0], .row HeadT]
noncomputable def cf_z2d : CallF := mkCF [(47, c_z29), (48, c_z2c)] [(48, [WordT, (.int .i64)])]
noncomputable def ls_z2d (n : Nat) : Loops := fun i => if i = 0 then some (loopT 2 (p_z2d.head 0) s_z2d_h0 fun K v => L_z2d_0 n (fun z0 z1 z2 z3 z4 z5 z6 => K .rt (s_z2d_r.enc ((z0, (z1, ())), ((z2, (z3, (z4, (z5, ())))), (z6, ()))))) (fun z0 z1 z2 z3 z4 z5 => K (.ex 0) (s_z2d_t0.enc ((z0, ()), ((z1, (z2, (z3, (z4, ())))), (z5, ()))))) v.1.2.1 n v.1.2.2.1 v.1.2.2.2.1 v.2.1.1 v.2.1.2.1 v.2.1.2.2.1 v.2.1.2.2.2.1 v.2.2.1)
  else  none
noncomputable def b_z2d_0 : Code := partOf (bodyOf Try.f26) [1, 1, 0, 1, 0, 0]
noncomputable def V_z2d_0 (n : Nat) (K : Cont) (rec : Sig.sem s_z2d_h0 → Option Res) (v : Sig.sem s_z2d_h0) : Option Res := F_z2d_0 n (fun z0 z1 z2 z3 z4 z5 z6 => K .rt (s_z2d_r.enc ((z0, (z1, ())), ((z2, (z3, (z4, (z5, ())))), (z6, ()))))) (fun z0 z1 z2 z3 z4 z5 => K (.ex 0) (s_z2d_t0.enc ((z0, ()), ((z1, (z2, (z3, (z4, ())))), (z5, ()))))) v.1.2.1 (fun z1 z2 z3 z4 z5 z6 z7 => rec (((), (v.1.2.1, (z1, (z2, ())))), ((z3, (z4, (z5, (z6, ())))), (z7, ())))) v.1.2.2.1 v.1.2.2.2.1 v.2.1.1 v.2.1.2.1 v.2.1.2.2.1 v.2.1.2.2.2.1 v.2.2.1
theorem t_z2d_0 (n : Nat) (K : Cont) (rec : Sig.sem s_z2d_h0 → Option Res) (v : Sig.sem s_z2d_h0) : runT Try.prog cf_z2d Try.f26.ntmps 2 p_z2d (ls_z2d n) b_z2d_0 (s_z2d_h0.enc v) (turnK 2 (p_z2d.head 0) s_z2d_h0 rec K) = V_z2d_0 n K rec v := by kernel_rfl
noncomputable def W_z2d_0 (n : Nat) (K : Cont) (m : Nat) (v : Sig.sem s_z2d_h0) : Option Res := L_z2d_0 n (fun z0 z1 z2 z3 z4 z5 z6 => K .rt (s_z2d_r.enc ((z0, (z1, ())), ((z2, (z3, (z4, (z5, ())))), (z6, ()))))) (fun z0 z1 z2 z3 z4 z5 => K (.ex 0) (s_z2d_t0.enc ((z0, ()), ((z1, (z2, (z3, (z4, ())))), (z5, ()))))) v.1.2.1 m v.1.2.2.1 v.1.2.2.2.1 v.2.1.1 v.2.1.2.1 v.2.1.2.2.1 v.2.1.2.2.2.1 v.2.2.1
theorem i_z2d_0 (n : Nat) (K : Cont) : ∀ m v, iter (V_z2d_0 n K) m v = W_z2d_0 n K m v := by
  intro m
  induction m with
  | zero => intro v; rfl
  | succ m ih =>
    intro v
    show V_z2d_0 n K (iter (V_z2d_0 n K) m) v = V_z2d_0 n K (W_z2d_0 n K m) v
    rw [show iter (V_z2d_0 n K) m = W_z2d_0 n K m from funext ih]
theorem o_z2d_0 (n : Nat) : ∀ L, ls_z2d n 0 = some L → ∀ s K r, L s K = some r → ∃ x s', loopN (run Try.prog cf_z2d Try.f26.ntmps 2 n p_z2d none b_z2d_0) (gc 2 (p_z2d.head 0)) n s = some (x, s') ∧ K x s' = some r := by
  intro L hL s K r h
  have hL : some (loopT 2 (p_z2d.head 0) s_z2d_h0 fun K v => W_z2d_0 n K n v) = some L := hL
  cases hL
  have hb : LOk Try.prog cf_z2d Try.f26.ntmps 2 n p_z2d (ls_z2d n) b_z2d_0 := ⟨⟨trivial, ⟨trivial, trivial⟩⟩, ⟨⟨trivial, ⟨⟨trivial, ⟨⟨trivial, trivial⟩, trivial⟩⟩, ⟨trivial, trivial⟩⟩⟩, trivial⟩⟩
  refine loopT_ok hb (V_z2d_0 n) (t_z2d_0 n) n s K r ?_
  rw [← h]
  unfold loopT
  simp only [i_z2d_0]
theorem m_z2d (n : Nat) (a0 : (List FieldS)) (a1 : ByteArray) (a2 : ByteArray) (a3 : Int) (a4 : Nat) (a5 : (List HeadS)) : runFT Try.prog cf_z2d p_z2d (ls_z2d n) Try.f26 (bodyOf Try.f26) (EK.encs e_z2d (((), (a0, ())), ((a1, (a2, (a3, (a4, ())))), (a5, ()))).1) (HK.encs h_z2d (((), (a0, ())), ((a1, (a2, (a3, (a4, ())))), (a5, ()))).2) = M_z2d n a0 a1 a2 a3 a4 a5 := by kernel_rfl
theorem g_z2d (n : Nat) (a0 : (List FieldS)) (a1 : ByteArray) (a2 : ByteArray) (a3 : Int) (a4 : Nat) (a5 : (List HeadS)) {r : Res} (h : M_z2d n a0 a1 a2 a3 a4 a5 = some r) : runF Try.prog cf_z2d n p_z2d 26 (EK.encs e_z2d (((), (a0, ())), ((a1, (a2, (a3, (a4, ())))), (a5, ()))).1) (HK.encs h_z2d (((), (a0, ())), ((a1, (a2, (a3, (a4, ())))), (a5, ()))).2) = some r := by
  have hb : LOk Try.prog cf_z2d Try.f26.ntmps 2 n p_z2d (ls_z2d n) (bodyOf Try.f26) := ⟨trivial, ⟨trivial, ⟨⟨trivial, (o_z2d_0 n)⟩, ⟨trivial, trivial⟩⟩⟩⟩
  exact runFT_some Try.prog (c := bodyOf Try.f26) Try.func26 (show Try.f26.body = some (bodyOf Try.f26) from rfl) (show (2 : Nat) ≤ 44 by decide) hb ((m_z2d n a0 a1 a2 a3 a4 a5).trans h) rfl (by kernel_rfl)
noncomputable def c_z2d : Spec := specQ e_z2d h_z2d ro_z2d rh_z2d fun a b => Q_z2d a.2.1 b.1.1 b.1.2.1 b.1.2.2.1 b.1.2.2.2.1 b.2.1
theorem k_z2d (hm : Try.prog.follows .mixedOrders = true) : SpecOk Try.prog 26 c_z2d := specQ_ok (pol := p_z2d) hm (cf := cf_z2d) (tab_ok (specs_cons (k_z29 hm) (specs_cons (k_z2c hm) specs_nil))) fun a b r h => ⟨FUEL, g_z2d FUEL a.2.1 b.1.1 b.1.2.1 b.1.2.2.1 b.1.2.2.2.1 b.2.1 (decRes_some h)⟩
def s_z2e_h0 : Sig := ⟨[0, 3, 4], [.ty (.slice FieldT), .hs 0 0, .ty (.int .i64)], [.row (.int .i64)]⟩
def s_z2e_t0 : Sig := ⟨[3], [.hs 0 0], [.row (.int .i64)]⟩
def s_z2e_r : Sig := ⟨[2], [.hs 0 0], [.row (.int .i64)]⟩
def p_z2e : Pol := ⟨fun i => if i = 0 then some [(0, .keep), (3, (.own (.int .i64))), (4, .keep)] else none, fun i => if i = 0 then some [(3, (.own (.int .i64)))] else none, some [(2, (.own (.int .i64)))], [(.own (.int .i64))], []⟩
def e_z2e : List EK := [.ty (.slice FieldT)]
def h_z2e : List HK := []
noncomputable def cf_z2e : CallF := mkCF [(49, c_z2a)] [(49, [(.int .i64)])]
noncomputable def ls_z2e (n : Nat) : Loops := fun i => if i = 0 then some (loopT 0 (p_z2e.head 0) s_z2e_h0 fun K v => L_z2e_0 n (fun z0 z1 => K (.ex 0) (s_z2e_t0.enc ((z0, ()), (z1, ())))) v.1.1 n v.1.2.1 v.1.2.2.1 v.2.1)
  else  none
noncomputable def b_z2e_0 : Code := partOf (bodyOf Try.f27) [1, 1, 0, 1, 0, 0]
noncomputable def V_z2e_0 (n : Nat) (K : Cont) (rec : Sig.sem s_z2e_h0 → Option Res) (v : Sig.sem s_z2e_h0) : Option Res := F_z2e_0 n (fun z0 z1 => K (.ex 0) (s_z2e_t0.enc ((z0, ()), (z1, ())))) v.1.1 (fun z1 z2 z3 => rec ((v.1.1, (z1, (z2, ()))), (z3, ()))) v.1.2.1 v.1.2.2.1 v.2.1
theorem t_z2e_0 (n : Nat) (K : Cont) (rec : Sig.sem s_z2e_h0 → Option Res) (v : Sig.sem s_z2e_h0) : runT Try.prog cf_z2e Try.f27.ntmps 0 p_z2e (ls_z2e n) b_z2e_0 (s_z2e_h0.enc v) (turnK 0 (p_z2e.head 0) s_z2e_h0 rec K) = V_z2e_0 n K rec v := by kernel_rfl
noncomputable def W_z2e_0 (n : Nat) (K : Cont) (m : Nat) (v : Sig.sem s_z2e_h0) : Option Res := L_z2e_0 n (fun z0 z1 => K (.ex 0) (s_z2e_t0.enc ((z0, ()), (z1, ())))) v.1.1 m v.1.2.1 v.1.2.2.1 v.2.1
theorem i_z2e_0 (n : Nat) (K : Cont) : ∀ m v, iter (V_z2e_0 n K) m v = W_z2e_0 n K m v := by
  intro m
  induction m with
  | zero => intro v; rfl
  | succ m ih =>
    intro v
    show V_z2e_0 n K (iter (V_z2e_0 n K) m) v = V_z2e_0 n K (W_z2e_0 n K m) v
    rw [show iter (V_z2e_0 n K) m = W_z2e_0 n K m from funext ih]
theorem o_z2e_0 (n : Nat) : ∀ L, ls_z2e n 0 = some L → ∀ s K r, L s K = some r → ∃ x s', loopN (run Try.prog cf_z2e Try.f27.ntmps 0 n p_z2e none b_z2e_0) (gc 0 (p_z2e.head 0)) n s = some (x, s') ∧ K x s' = some r := by
  intro L hL s K r h
  have hL : some (loopT 0 (p_z2e.head 0) s_z2e_h0 fun K v => W_z2e_0 n K n v) = some L := hL
  cases hL
  have hb : LOk Try.prog cf_z2e Try.f27.ntmps 0 n p_z2e (ls_z2e n) b_z2e_0 := ⟨⟨trivial, ⟨trivial, trivial⟩⟩, ⟨trivial, trivial⟩⟩
  refine loopT_ok hb (V_z2e_0 n) (t_z2e_0 n) n s K r ?_
  rw [← h]
  unfold loopT
  simp only [i_z2e_0]
theorem m_z2e (n : Nat) (a0 : (List FieldS)) : runFT Try.prog cf_z2e p_z2e (ls_z2e n) Try.f27 (bodyOf Try.f27) (EK.encs e_z2e ((a0, ()), ()).1) (HK.encs h_z2e ((a0, ()), ()).2) = M_z2e n a0 := by kernel_rfl
theorem g_z2e (n : Nat) (a0 : (List FieldS)) {r : Res} (h : M_z2e n a0 = some r) : runF Try.prog cf_z2e n p_z2e 27 (EK.encs e_z2e ((a0, ()), ()).1) (HK.encs h_z2e ((a0, ()), ()).2) = some r := by
  have hb : LOk Try.prog cf_z2e Try.f27.ntmps 0 n p_z2e (ls_z2e n) (bodyOf Try.f27) := ⟨trivial, ⟨trivial, ⟨⟨trivial, (o_z2e_0 n)⟩, ⟨trivial, trivial⟩⟩⟩⟩
  exact runFT_some Try.prog (c := bodyOf Try.f27) Try.func27 (show Try.f27.body = some (bodyOf Try.f27) from rfl) (show (1 : Nat) ≤ 21 by decide) hb ((m_z2e n a0).trans h) rfl (by kernel_rfl)
noncomputable def c_z2e : Spec := specQ e_z2e h_z2e ro_z2e rh_z2e fun a b => Q_z2e a.1
theorem k_z2e (hm : Try.prog.follows .mixedOrders = true) : SpecOk Try.prog 27 c_z2e := specQ_ok (pol := p_z2e) hm (cf := cf_z2e) (tab_ok (specs_cons (k_z2a hm) specs_nil)) fun a b r h => ⟨FUEL, g_z2e FUEL a.1 (decRes_some h)⟩
def s_z2f_r : Sig := ⟨[4, 5], [.ty (.int .u32), .ty (.int .i64)], [.one false [.ptr 1 0 0, .hs 3 0, .ptr 4 0 0, .ty (.int .i64)], .one false [.hs 2 0], .row (.int .u8), .row HeadT, .one false [.hs 5 0], .row (.int .u8)]⟩
def p_z2f : Pol := ⟨fun i => none, fun i => none, some [(4, .keep), (5, .keep)], [.keep, .keep], []⟩
def e_z2f : List EK := [.ptr 0 0 0, .agg FieldT]
def h_z2f : List HK := [.one false [.ptr 1 0 0, .hs 3 0, .ptr 4 0 0, .ty (.int .i64)], .one false [.hs 2 0], .row (.int .u8), .row HeadT, .one false [.hs 5 0], .row (.int .u8)]
noncomputable def cf_z2f : CallF := mkCF [(40, c_z24), (35, c_z0r), (34, c_z0s)] [(35, [(.slice .str)]), (34, [(.int .u32)])]
noncomputable def ls_z2f (n : Nat) : Loops := fun i =>  none
theorem m_z2f (n : Nat) (a0 : FieldS) (a1 : Nat) (a2 : Int) (a3 : Nat) (a4 : (List Int)) (a5 : (List HeadS)) (a6 : Nat) (a7 : (List Int)) : runFT Try.prog cf_z2f p_z2f (ls_z2f n) Try.f22 (bodyOf Try.f22) (EK.encs e_z2f (((), (a0, ())), (((), (a1, ((), (a2, ())))), ((a3, ()), (a4, (a5, ((a6, ()), (a7, ()))))))).1) (HK.encs h_z2f (((), (a0, ())), (((), (a1, ((), (a2, ())))), ((a3, ()), (a4, (a5, ((a6, ()), (a7, ()))))))).2) = M_z2f n a0 a1 a2 a3 a4 a5 a6 a7 := by kernel_rfl
theorem g_z2f (n : Nat) (a0 : FieldS) (a1 : Nat) (a2 : Int) (a3 : Nat) (a4 : (List Int)) (a5 : (List HeadS)) (a6 : Nat) (a7 : (List Int)) {r : Res} (h : M_z2f n a0 a1 a2 a3 a4 a5 a6 a7 = some r) : runF Try.prog cf_z2f n p_z2f 22 (EK.encs e_z2f (((), (a0, ())), (((), (a1, ((), (a2, ())))), ((a3, ()), (a4, (a5, ((a6, ()), (a7, ()))))))).1) (HK.encs h_z2f (((), (a0, ())), (((), (a1, ((), (a2, ())))), ((a3, ()), (a4, (a5, ((a6, ()), (a7, ()))))))).2) = some r := by
  have hb : LOk Try.prog cf_z2f Try.f22.ntmps 6 n p_z2f (ls_z2f n) (bodyOf Try.f22) := ⟨trivial, ⟨trivial, ⟨⟨trivial, ⟨⟨trivial, trivial⟩, trivial⟩⟩, ⟨trivial, trivial⟩⟩⟩⟩
  exact runFT_some Try.prog (c := bodyOf Try.f22) Try.func22 (show Try.f22.body = some (bodyOf Try.f22) from rfl) (show (2 : Nat) ≤ 22 by decide) hb ((m_z2f n a0 a1 a2 a3 a4 a5 a6 a7).trans h) rfl (by kernel_rfl)
noncomputable def c_z2f : Spec := specQ e_z2f h_z2f ro_z2f rh_z2f fun a b => Q_z2f a.2.1 b.1.2.1 b.1.2.2.2.1 b.2.1.1 b.2.2.1 b.2.2.2.1 b.2.2.2.2.1.1 b.2.2.2.2.2.1
theorem k_z2f (hm : Try.prog.follows .mixedOrders = true) : SpecOk Try.prog 22 c_z2f := specQ_ok (pol := p_z2f) hm (cf := cf_z2f) (tab_ok (specs_cons (k_z24 hm) (specs_cons (k_z0r hm) (specs_cons (k_z0s hm) specs_nil)))) fun a b r h => ⟨FUEL, g_z2f FUEL a.2.1 b.1.2.1 b.1.2.2.2.1 b.2.1.1 b.2.2.1 b.2.2.2.1 b.2.2.2.2.1.1 b.2.2.2.2.2.1 (decRes_some h)⟩
def s_z2g_h0 : Sig := ⟨[0, 1, 5], [.ty (.int .u32), .ty .str, .ty (.int .i64)], []⟩
def s_z2g_t0 : Sig := ⟨[0], [.ty (.int .u32)], []⟩
def s_z2g_r : Sig := ⟨[4], [.ty (.int .u32)], []⟩
def p_z2g : Pol := ⟨fun i => if i = 0 then some [(0, .keep), (1, .keep), (5, .keep)] else none, fun i => if i = 0 then some [(0, .keep)] else none, some [(4, .keep)], [.keep], []⟩
def e_z2g : List EK := [.ty (.int .u32), .ty .str]
def h_z2g : List HK := []
noncomputable def cf_z2g : CallF := mkCF [] []
noncomputable def ls_z2g (n : Nat) : Loops := fun i => if i = 0 then some (loopT 0 (p_z2g.head 0) s_z2g_h0 fun K v => L_z2g_0 n (fun z0 => K (.ex 0) (s_z2g_t0.enc ((z0, ()), ()))) v.1.2.1 n v.1.1 v.1.2.2.1)
  else  none
noncomputable def b_z2g_0 : Code := partOf (bodyOf Try.f69) [1, 0, 1, 0, 0]
noncomputable def V_z2g_0 (n : Nat) (K : Cont) (rec : Sig.sem s_z2g_h0 → Option Res) (v : Sig.sem s_z2g_h0) : Option Res := F_z2g_0 n (fun z0 => K (.ex 0) (s_z2g_t0.enc ((z0, ()), ()))) v.1.2.1 (fun z0 z2 => rec ((z0, (v.1.2.1, (z2, ()))), ())) v.1.1 v.1.2.2.1
theorem t_z2g_0 (n : Nat) (K : Cont) (rec : Sig.sem s_z2g_h0 → Option Res) (v : Sig.sem s_z2g_h0) : runT Try.prog cf_z2g Try.f69.ntmps 0 p_z2g (ls_z2g n) b_z2g_0 (s_z2g_h0.enc v) (turnK 0 (p_z2g.head 0) s_z2g_h0 rec K) = V_z2g_0 n K rec v := by kernel_rfl
noncomputable def W_z2g_0 (n : Nat) (K : Cont) (m : Nat) (v : Sig.sem s_z2g_h0) : Option Res := L_z2g_0 n (fun z0 => K (.ex 0) (s_z2g_t0.enc ((z0, ()), ()))) v.1.2.1 m v.1.1 v.1.2.2.1
theorem i_z2g_0 (n : Nat) (K : Cont) : ∀ m v, iter (V_z2g_0 n K) m v = W_z2g_0 n K m v := by
  intro m
  induction m with
  | zero => intro v; rfl
  | succ m ih =>
    intro v
    show V_z2g_0 n K (iter (V_z2g_0 n K) m) v = V_z2g_0 n K (W_z2g_0 n K m) v
    rw [show iter (V_z2g_0 n K) m = W_z2g_0 n K m from funext ih]
theorem o_z2g_0 (n : Nat) : ∀ L, ls_z2g n 0 = some L → ∀ s K r, L s K = some r → ∃ x s', loopN (run Try.prog cf_z2g Try.f69.ntmps 0 n p_z2g none b_z2g_0) (gc 0 (p_z2g.head 0)) n s = some (x, s') ∧ K x s' = some r := by
  intro L hL s K r h
  have hL : some (loopT 0 (p_z2g.head 0) s_z2g_h0 fun K v => W_z2g_0 n K n v) = some L := hL
  cases hL
  have hb : LOk Try.prog cf_z2g Try.f69.ntmps 0 n p_z2g (ls_z2g n) b_z2g_0 := ⟨⟨trivial, ⟨trivial, trivial⟩⟩, ⟨trivial, trivial⟩⟩
  refine loopT_ok hb (V_z2g_0 n) (t_z2g_0 n) n s K r ?_
  rw [← h]
  unfold loopT
  simp only [i_z2g_0]
theorem m_z2g (n : Nat) (a0 : Int) (a1 : ByteArray) : runFT Try.prog cf_z2g p_z2g (ls_z2g n) Try.f69 (bodyOf Try.f69) (EK.encs e_z2g ((a0, (a1, ())), ()).1) (HK.encs h_z2g ((a0, (a1, ())), ()).2) = M_z2g n a0 a1 := by kernel_rfl
theorem g_z2g (n : Nat) (a0 : Int) (a1 : ByteArray) {r : Res} (h : M_z2g n a0 a1 = some r) : runF Try.prog cf_z2g n p_z2g 69 (EK.encs e_z2g ((a0, (a1, ())), ()).1) (HK.encs h_z2g ((a0, (a1, ())), ()).2) = some r := by
  have hb : LOk Try.prog cf_z2g Try.f69.ntmps 0 n p_z2g (ls_z2g n) (bodyOf Try.f69) := ⟨trivial, ⟨⟨trivial, (o_z2g_0 n)⟩, ⟨trivial, trivial⟩⟩⟩
  exact runFT_some Try.prog (c := bodyOf Try.f69) Try.func69 (show Try.f69.body = some (bodyOf Try.f69) from rfl) (show (2 : Nat) ≤ 20 by decide) hb ((m_z2g n a0 a1).trans h) rfl (by kernel_rfl)
noncomputable def c_z2g : Spec := specQ e_z2g h_z2g ro_z2g rh_z2g fun a b => Q_z2g a.1 a.2.1
theorem k_z2g (hm : Try.prog.follows .mixedOrders = true) : SpecOk Try.prog 69 c_z2g := specQ_ok (pol := p_z2g) hm (cf := cf_z2g) (tab_ok specs_nil) fun a b r h => ⟨FUEL, g_z2g FUEL a.1 a.2.1 (decRes_some h)⟩
def s_z2h_h0 : Sig := ⟨[0, 3, 4], [.ty (.slice .str), .ty (.int .u32), .ty (.int .i64)], []⟩
def s_z2h_t0 : Sig := ⟨[3], [.ty (.int .u32)], []⟩
def s_z2h_r : Sig := ⟨[2], [.ty (.int .u32)], []⟩
def p_z2h : Pol := ⟨fun i => if i = 0 then some [(0, .keep), (3, .keep), (4, .keep)] else none, fun i => if i = 0 then some [(3, .keep)] else none, some [(2, .keep)], [.keep], []⟩
def e_z2h : List EK := [.ty (.slice .str)]
def h_z2h : List HK := []
noncomputable def cf_z2h : CallF := mkCF [(69, c_z2g)] [(69, [(.int .u32), .str])]
noncomputable def ls_z2h (n : Nat) : Loops := fun i => if i = 0 then some (loopT 0 (p_z2h.head 0) s_z2h_h0 fun K v => L_z2h_0 n (fun z0 => K (.ex 0) (s_z2h_t0.enc ((z0, ()), ()))) v.1.1 n v.1.2.1 v.1.2.2.1)
  else  none
noncomputable def b_z2h_0 : Code := partOf (bodyOf Try.f51) [1, 1, 0, 1, 0, 0]
noncomputable def V_z2h_0 (n : Nat) (K : Cont) (rec : Sig.sem s_z2h_h0 → Option Res) (v : Sig.sem s_z2h_h0) : Option Res := F_z2h_0 n (fun z0 => K (.ex 0) (s_z2h_t0.enc ((z0, ()), ()))) v.1.1 (fun z1 z2 => rec ((v.1.1, (z1, (z2, ()))), ())) v.1.2.1 v.1.2.2.1
theorem t_z2h_0 (n : Nat) (K : Cont) (rec : Sig.sem s_z2h_h0 → Option Res) (v : Sig.sem s_z2h_h0) : runT Try.prog cf_z2h Try.f51.ntmps 0 p_z2h (ls_z2h n) b_z2h_0 (s_z2h_h0.enc v) (turnK 0 (p_z2h.head 0) s_z2h_h0 rec K) = V_z2h_0 n K rec v := by kernel_rfl
noncomputable def W_z2h_0 (n : Nat) (K : Cont) (m : Nat) (v : Sig.sem s_z2h_h0) : Option Res := L_z2h_0 n (fun z0 => K (.ex 0) (s_z2h_t0.enc ((z0, ()), ()))) v.1.1 m v.1.2.1 v.1.2.2.1
theorem i_z2h_0 (n : Nat) (K : Cont) : ∀ m v, iter (V_z2h_0 n K) m v = W_z2h_0 n K m v := by
  intro m
  induction m with
  | zero => intro v; rfl
  | succ m ih =>
    intro v
    show V_z2h_0 n K (iter (V_z2h_0 n K) m) v = V_z2h_0 n K (W_z2h_0 n K m) v
    rw [show iter (V_z2h_0 n K) m = W_z2h_0 n K m from funext ih]
theorem o_z2h_0 (n : Nat) : ∀ L, ls_z2h n 0 = some L → ∀ s K r, L s K = some r → ∃ x s', loopN (run Try.prog cf_z2h Try.f51.ntmps 0 n p_z2h none b_z2h_0) (gc 0 (p_z2h.head 0)) n s = some (x, s') ∧ K x s' = some r := by
  intro L hL s K r h
  have hL : some (loopT 0 (p_z2h.head 0) s_z2h_h0 fun K v => W_z2h_0 n K n v) = some L := hL
  cases hL
  have hb : LOk Try.prog cf_z2h Try.f51.ntmps 0 n p_z2h (ls_z2h n) b_z2h_0 := ⟨⟨trivial, ⟨trivial, trivial⟩⟩, ⟨trivial, trivial⟩⟩
  refine loopT_ok hb (V_z2h_0 n) (t_z2h_0 n) n s K r ?_
  rw [← h]
  unfold loopT
  simp only [i_z2h_0]
theorem m_z2h (n : Nat) (a0 : (List ByteArray)) : runFT Try.prog cf_z2h p_z2h (ls_z2h n) Try.f51 (bodyOf Try.f51) (EK.encs e_z2h ((a0, ()), ()).1) (HK.encs h_z2h ((a0, ()), ()).2) = M_z2h n a0 := by kernel_rfl
theorem g_z2h (n : Nat) (a0 : (List ByteArray)) {r : Res} (h : M_z2h n a0 = some r) : runF Try.prog cf_z2h n p_z2h 51 (EK.encs e_z2h ((a0, ()), ()).1) (HK.encs h_z2h ((a0, ()), ()).2) = some r := by
  have hb : LOk Try.prog cf_z2h Try.f51.ntmps 0 n p_z2h (ls_z2h n) (bodyOf Try.f51) := ⟨trivial, ⟨trivial, ⟨⟨trivial, (o_z2h_0 n)⟩, ⟨trivial, trivial⟩⟩⟩⟩
  exact runFT_some Try.prog (c := bodyOf Try.f51) Try.func51 (show Try.f51.body = some (bodyOf Try.f51) from rfl) (show (1 : Nat) ≤ 18 by decide) hb ((m_z2h n a0).trans h) rfl (by kernel_rfl)
noncomputable def c_z2h : Spec := specQ e_z2h h_z2h ro_z2h rh_z2h fun a b => Q_z2h a.1
theorem k_z2h (hm : Try.prog.follows .mixedOrders = true) : SpecOk Try.prog 51 c_z2h := specQ_ok (pol := p_z2h) hm (cf := cf_z2h) (tab_ok (specs_cons (k_z2g hm) specs_nil)) fun a b r h => ⟨FUEL, g_z2h FUEL a.1 (decRes_some h)⟩
def s_z2i_r : Sig := ⟨[2], [.ty (.int .u32)], []⟩
def p_z2i : Pol := ⟨fun i => none, fun i => none, some [(2, .keep)], [.keep], []⟩
def e_z2i : List EK := [.ty (.int .u32)]
def h_z2i : List HK := []
noncomputable def cf_z2i : CallF := mkCF [] []
noncomputable def ls_z2i (n : Nat) : Loops := fun i =>  none
theorem m_z2i (n : Nat) (a0 : Int) : runFT Try.prog cf_z2i p_z2i (ls_z2i n) Try.f50 (bodyOf Try.f50) (EK.encs e_z2i ((a0, ()), ()).1) (HK.encs h_z2i ((a0, ()), ()).2) = M_z2i n a0 := by kernel_rfl
theorem g_z2i (n : Nat) (a0 : Int) {r : Res} (h : M_z2i n a0 = some r) : runF Try.prog cf_z2i n p_z2i 50 (EK.encs e_z2i ((a0, ()), ()).1) (HK.encs h_z2i ((a0, ()), ()).2) = some r := by
  have hb : LOk Try.prog cf_z2i Try.f50.ntmps 0 n p_z2i (ls_z2i n) (bodyOf Try.f50) := ⟨trivial, ⟨trivial, ⟨trivial, ⟨trivial, ⟨trivial, ⟨trivial, trivial⟩⟩⟩⟩⟩⟩
  exact runFT_some Try.prog (c := bodyOf Try.f50) Try.func50 (show Try.f50.body = some (bodyOf Try.f50) from rfl) (show (1 : Nat) ≤ 19 by decide) hb ((m_z2i n a0).trans h) rfl (by kernel_rfl)
noncomputable def c_z2i : Spec := specQ e_z2i h_z2i ro_z2i rh_z2i fun a b => Q_z2i a.1
theorem k_z2i (hm : Try.prog.follows .mixedOrders = true) : SpecOk Try.prog 50 c_z2i := specQ_ok (pol := p_z2i) hm (cf := cf_z2i) (tab_ok specs_nil) fun a b r h => ⟨FUEL, g_z2i FUEL a.1 (decRes_some h)⟩
def s_z2j_r : Sig := ⟨[4, 5], [.ty (.int .u32), .ty (.int .i64)], [.one false [.ty .str, .ty .str, .ty (.int .i64), .hs 1 0], .row HeadT]⟩
def p_z2j : Pol := ⟨fun i => none, fun i => none, some [(4, .keep), (5, .keep)], [.keep, .keep], []⟩
def e_z2j : List EK := [.ptr 0 0 0, .agg FieldT]
def h_z2j : List HK := [.one false [.ty .str, .ty .str, .ty (.int .i64), .hs 1 0], .row HeadT]
noncomputable def cf_z2j : CallF := { (mkCF [(26, c_z2d), (51, c_z2h), (50, c_z2i)] [(51, [(.slice .str)]), (50, [(.int .u32)])]) with mix := mixes [(26, [none, some ((.slice FieldT))])] }
noncomputable def ls_z2j (n : Nat) : Loops := fun i =>  none
theorem m_z2j (n : Nat) (a0 : FieldS) (a1 : ByteArray) (a2 : ByteArray) (a3 : Int) (a4 : Nat) (a5 : (List HeadS)) : runFT Try.prog cf_z2j p_z2j (ls_z2j n) Try.f28 (bodyOf Try.f28) (EK.encs e_z2j (((), (a0, ())), ((a1, (a2, (a3, (a4, ())))), (a5, ()))).1) (HK.encs h_z2j (((), (a0, ())), ((a1, (a2, (a3, (a4, ())))), (a5, ()))).2) = M_z2j n a0 a1 a2 a3 a4 a5 := by kernel_rfl
theorem g_z2j (n : Nat) (a0 : FieldS) (a1 : ByteArray) (a2 : ByteArray) (a3 : Int) (a4 : Nat) (a5 : (List HeadS)) {r : Res} (h : M_z2j n a0 a1 a2 a3 a4 a5 = some r) : runF Try.prog cf_z2j n p_z2j 28 (EK.encs e_z2j (((), (a0, ())), ((a1, (a2, (a3, (a4, ())))), (a5, ()))).1) (HK.encs h_z2j (((), (a0, ())), ((a1, (a2, (a3, (a4, ())))), (a5, ()))).2) = some r := by
  have hb : LOk Try.prog cf_z2j Try.f28.ntmps 2 n p_z2j (ls_z2j n) (bodyOf Try.f28) := ⟨trivial, ⟨trivial, ⟨⟨trivial, ⟨⟨trivial, trivial⟩, trivial⟩⟩, ⟨trivial, trivial⟩⟩⟩⟩
  exact runFT_some Try.prog (c := bodyOf Try.f28) Try.func28 (show Try.f28.body = some (bodyOf Try.f28) from rfl) (show (2 : Nat) ≤ 22 by decide) hb ((m_z2j n a0 a1 a2 a3 a4 a5).trans h) rfl (by kernel_rfl)
noncomputable def c_z2j : Spec := specQ e_z2j h_z2j ro_z2j rh_z2j fun a b => Q_z2j a.2.1 b.1.1 b.1.2.1 b.1.2.2.1 b.1.2.2.2.1 b.2.1
theorem k_z2j (hm : Try.prog.follows .mixedOrders = true) : SpecOk Try.prog 28 c_z2j := specQ_ok (pol := p_z2j) hm (cf := cf_z2j) (CallSound.mix <| tab_ok (specs_cons (k_z2d hm) (specs_cons (k_z2h hm) (specs_cons (k_z2i hm) specs_nil)))) fun a b r h => ⟨FUEL, g_z2j FUEL a.2.1 b.1.1 b.1.2.1 b.1.2.2.1 b.1.2.2.2.1 b.2.1 (decRes_some h)⟩
def s_z2k_r : Sig := ⟨[2], [.ty .str], [.one false [.ptr 1 0 0, .hs 3 0, .ptr 4 0 0, .ty (.int .i64)], .one false [.hs 2 0], .row (.int .u8), .row HeadT, .one false [.hs 5 0], .row (.int .u8)]⟩
def p_z2k : Pol := ⟨fun i => none, fun i => none, some [(2, .keep)], [.keep], []⟩
def e_z2k : List EK := [.ptr 0 0 0]
def h_z2k : List HK := [.one false [.ptr 1 0 0, .hs 3 0, .ptr 4 0 0, .ty (.int .i64)], .one false [.hs 2 0], .row (.int .u8), .row HeadT, .one false [.hs 5 0], .row (.int .u8)]
noncomputable def cf_z2k : CallF := mkCF [(52, c_z11)] []
noncomputable def ls_z2k (n : Nat) : Loops := fun i =>  none
theorem m_z2k (n : Nat) (a0 : Nat) (a1 : Int) (a2 : Nat) (a3 : (List Int)) (a4 : (List HeadS)) (a5 : Nat) (a6 : (List Int)) : runFT Try.prog cf_z2k p_z2k (ls_z2k n) Try.f29 (bodyOf Try.f29) (EK.encs e_z2k (((), ()), (((), (a0, ((), (a1, ())))), ((a2, ()), (a3, (a4, ((a5, ()), (a6, ()))))))).1) (HK.encs h_z2k (((), ()), (((), (a0, ((), (a1, ())))), ((a2, ()), (a3, (a4, ((a5, ()), (a6, ()))))))).2) = M_z2k n a0 a1 a2 a3 a4 a5 a6 := by kernel_rfl
theorem g_z2k (n : Nat) (a0 : Nat) (a1 : Int) (a2 : Nat) (a3 : (List Int)) (a4 : (List HeadS)) (a5 : Nat) (a6 : (List Int)) {r : Res} (h : M_z2k n a0 a1 a2 a3 a4 a5 a6 = some r) : runF Try.prog cf_z2k n p_z2k 29 (EK.encs e_z2k (((), ()), (((), (a0, ((), (a1, ())))), ((a2, ()), (a3, (a4, ((a5, ()), (a6, ()))))))).1) (HK.encs h_z2k (((), ()), (((), (a0, ((), (a1, ())))), ((a2, ()), (a3, (a4, ((a5, ()), (a6, ()))))))).2) = some r := by
  have hb : LOk Try.prog cf_z2k Try.f29.ntmps 6 n p_z2k (ls_z2k n) (bodyOf Try.f29) := ⟨trivial, ⟨⟨trivial, ⟨⟨trivial, trivial⟩, trivial⟩⟩, ⟨trivial, trivial⟩⟩⟩
  exact runFT_some Try.prog (c := bodyOf Try.f29) Try.func29 (show Try.f29.body = some (bodyOf Try.f29) from rfl) (show (1 : Nat) ≤ 11 by decide) hb ((m_z2k n a0 a1 a2 a3 a4 a5 a6).trans h) rfl (by kernel_rfl)
noncomputable def c_z2k : Spec := specQ e_z2k h_z2k ro_z2k rh_z2k fun a b => Q_z2k b.1.2.1 b.1.2.2.2.1 b.2.1.1 b.2.2.1 b.2.2.2.1 b.2.2.2.2.1.1 b.2.2.2.2.2.1
theorem k_z2k (hm : Try.prog.follows .mixedOrders = true) : SpecOk Try.prog 29 c_z2k := specQ_ok (pol := p_z2k) hm (cf := cf_z2k) (tab_ok (specs_cons (k_z11 hm) specs_nil)) fun a b r h => ⟨FUEL, g_z2k FUEL b.1.2.1 b.1.2.2.2.1 b.2.1.1 b.2.2.1 b.2.2.2.1 b.2.2.2.2.1.1 b.2.2.2.2.2.1 (decRes_some h)⟩
def s_z2l_r : Sig := ⟨[6], [.ty .bool], []⟩
def s_z2l_h0 : Sig := ⟨[0, 2, 7, 8, 14, 15, 16], [.ty .str, .ty (.slice FieldT), .ptr 0 0 0, .ptr 6 0 0, .hs 8 0, .hs 9 0, .ty (.int .i64)], [.one false [.ptr 1 0 0, .hs 3 0, .ptr 4 0 0, .ty (.int .i64)], .one false [.hs 2 0], .row (.int .u8), .row HeadT, .one false [.hs 5 0], .row (.int .u8), .one false [.ty .str, .ty .str, .ty (.int .i64), .hs 7 0], .row HeadT, .row (.int .i64), .row (.int .i64)]⟩
def s_z2l_t0 : Sig := ⟨[0, 7], [.ty .str, .ptr 0 0 0], [.one false [.ptr 1 0 0, .hs 3 0, .ptr 4 0 0, .ty (.int .i64)], .one false [.hs 2 0], .row (.int .u8), .row HeadT, .one false [.hs 5 0], .row (.int .u8)]⟩
def p_z2l : Pol := ⟨fun i => if i = 0 then some [(0, .keep), (2, .keep), (7, .keep), (8, .keep), (14, (.own (.int .i64))), (15, (.own (.int .i64))), (16, .keep)] else none, fun i => if i = 0 then some [(0, .keep), (7, .keep)] else none, some [(6, .keep)], [.keep], []⟩
def e_z2l : List EK := [.ty .str, .ty (.slice NodeT), .ty (.slice FieldT)]
def h_z2l : List HK := []
noncomputable def cf_z2l : CallF := { (mkCF [(24, c_z0z), (11, c_z0v), (25, c_z21), (20, c_z25), (26, c_z2d), (23, c_z0o), (27, c_z2e), (22, c_z2f), (28, c_z2j), (29, c_z2k)] [(24, [(.slice NodeT)]), (11, []), (25, [.str, (.slice NodeT)]), (23, [(.slice FieldT)]), (27, [(.slice FieldT)])]) with mix := mixes [(20, [none, some ((.slice FieldT))]), (26, [none, some ((.slice FieldT))])] }
noncomputable def ls_z2l (n : Nat) : Loops := fun i => if i = 0 then some (loopT 0 (p_z2l.head 0) s_z2l_h0 fun K v => L_z2l_0 n (fun z0 => K .rt (s_z2l_r.enc ((z0, ()), ()))) (fun z1 z2 z3 z4 z5 z6 z7 => K (.ex 0) (s_z2l_t0.enc ((v.1.1, ((), ())), (((), (z1, ((), (z2, ())))), ((z3, ()), (z4, (z5, ((z6, ()), (z7, ()))))))))) v.1.2.1 v.1.2.2.2.2.1 v.1.2.2.2.2.2.1 v.2.2.2.2.2.2.2.2.2.1 v.2.2.2.2.2.2.2.2.2.2.1 n v.1.2.2.2.2.2.2.1 v.2.1.2.1 v.2.1.2.2.2.1 v.2.2.1.1 v.2.2.2.1 v.2.2.2.2.1 v.2.2.2.2.2.1.1 v.2.2.2.2.2.2.1 v.2.2.2.2.2.2.2.1.1 v.2.2.2.2.2.2.2.1.2.1 v.2.2.2.2.2.2.2.1.2.2.1 v.2.2.2.2.2.2.2.1.2.2.2.1 v.2.2.2.2.2.2.2.2.1)
  else  none
noncomputable def b_z2l_0 : Code := partOf (bodyOf Try.f6) [1, 1, 1, 1, 1, 1, 1, 1, 1, 0, 1, 0, 0]
noncomputable def V_z2l_0 (n : Nat) (K : Cont) (rec : Sig.sem s_z2l_h0 → Option Res) (v : Sig.sem s_z2l_h0) : Option Res := F_z2l_0 n (fun z0 => K .rt (s_z2l_r.enc ((z0, ()), ()))) (fun z1 z2 z3 z4 z5 z6 z7 => K (.ex 0) (s_z2l_t0.enc ((v.1.1, ((), ())), (((), (z1, ((), (z2, ())))), ((z3, ()), (z4, (z5, ((z6, ()), (z7, ()))))))))) v.1.2.1 v.1.2.2.2.2.1 v.1.2.2.2.2.2.1 v.2.2.2.2.2.2.2.2.2.1 v.2.2.2.2.2.2.2.2.2.2.1 (fun z4 z5 z6 z7 z8 z9 z10 z11 z12 z13 z14 z15 z16 => rec ((v.1.1, (v.1.2.1, ((), ((), (v.1.2.2.2.2.1, (v.1.2.2.2.2.2.1, (z4, ()))))))), (((), (z5, ((), (z6, ())))), ((z7, ()), (z8, (z9, ((z10, ()), (z11, ((z12, (z13, (z14, (z15, ())))), (z16, (v.2.2.2.2.2.2.2.2.2.1, (v.2.2.2.2.2.2.2.2.2.2.1, ())))))))))))) v.1.2.2.2.2.2.2.1 v.2.1.2.1 v.2.1.2.2.2.1 v.2.2.1.1 v.2.2.2.1 v.2.2.2.2.1 v.2.2.2.2.2.1.1 v.2.2.2.2.2.2.1 v.2.2.2.2.2.2.2.1.1 v.2.2.2.2.2.2.2.1.2.1 v.2.2.2.2.2.2.2.1.2.2.1 v.2.2.2.2.2.2.2.1.2.2.2.1 v.2.2.2.2.2.2.2.2.1
theorem t_z2l_0 (n : Nat) (K : Cont) (rec : Sig.sem s_z2l_h0 → Option Res) (v : Sig.sem s_z2l_h0) : runT Try.prog cf_z2l Try.f6.ntmps 0 p_z2l (ls_z2l n) b_z2l_0 (s_z2l_h0.enc v) (turnK 0 (p_z2l.head 0) s_z2l_h0 rec K) = V_z2l_0 n K rec v := by kernel_rfl
noncomputable def W_z2l_0 (n : Nat) (K : Cont) (m : Nat) (v : Sig.sem s_z2l_h0) : Option Res := L_z2l_0 n (fun z0 => K .rt (s_z2l_r.enc ((z0, ()), ()))) (fun z1 z2 z3 z4 z5 z6 z7 => K (.ex 0) (s_z2l_t0.enc ((v.1.1, ((), ())), (((), (z1, ((), (z2, ())))), ((z3, ()), (z4, (z5, ((z6, ()), (z7, ()))))))))) v.1.2.1 v.1.2.2.2.2.1 v.1.2.2.2.2.2.1 v.2.2.2.2.2.2.2.2.2.1 v.2.2.2.2.2.2.2.2.2.2.1 m v.1.2.2.2.2.2.2.1 v.2.1.2.1 v.2.1.2.2.2.1 v.2.2.1.1 v.2.2.2.1 v.2.2.2.2.1 v.2.2.2.2.2.1.1 v.2.2.2.2.2.2.1 v.2.2.2.2.2.2.2.1.1 v.2.2.2.2.2.2.2.1.2.1 v.2.2.2.2.2.2.2.1.2.2.1 v.2.2.2.2.2.2.2.1.2.2.2.1 v.2.2.2.2.2.2.2.2.1
theorem i_z2l_0 (n : Nat) (K : Cont) : ∀ m v, iter (V_z2l_0 n K) m v = W_z2l_0 n K m v := by
  intro m
  induction m with
  | zero => intro v; rfl
  | succ m ih =>
    intro v
    show V_z2l_0 n K (iter (V_z2l_0 n K) m) v = V_z2l_0 n K (W_z2l_0 n K m) v
    rw [show iter (V_z2l_0 n K) m = W_z2l_0 n K m from funext ih]
theorem o_z2l_0 (n : Nat) : ∀ L, ls_z2l n 0 = some L → ∀ s K r, L s K = some r → ∃ x s', loopN (run Try.prog cf_z2l Try.f6.ntmps 0 n p_z2l none b_z2l_0) (gc 0 (p_z2l.head 0)) n s = some (x, s') ∧ K x s' = some r := by
  intro L hL s K r h
  have hL : some (loopT 0 (p_z2l.head 0) s_z2l_h0 fun K v => W_z2l_0 n K n v) = some L := hL
  cases hL
  have hb : LOk Try.prog cf_z2l Try.f6.ntmps 0 n p_z2l (ls_z2l n) b_z2l_0 := ⟨⟨trivial, ⟨trivial, trivial⟩⟩, ⟨⟨trivial, ⟨trivial, ⟨trivial, ⟨⟨trivial, trivial⟩, trivial⟩⟩⟩⟩, trivial⟩⟩
  refine loopT_ok hb (V_z2l_0 n) (t_z2l_0 n) n s K r ?_
  rw [← h]
  unfold loopT
  simp only [i_z2l_0]
theorem m_z2l (n : Nat) (a0 : ByteArray) (a1 : (List NodeS)) (a2 : (List FieldS)) : runFT Try.prog cf_z2l p_z2l (ls_z2l n) Try.f6 (bodyOf Try.f6) (EK.encs e_z2l ((a0, (a1, (a2, ()))), ()).1) (HK.encs h_z2l ((a0, (a1, (a2, ()))), ()).2) = M_z2l n a0 a1 a2 := by kernel_rfl
theorem g_z2l (n : Nat) (a0 : ByteArray) (a1 : (List NodeS)) (a2 : (List FieldS)) {r : Res} (h : M_z2l n a0 a1 a2 = some r) : runF Try.prog cf_z2l n p_z2l 6 (EK.encs e_z2l ((a0, (a1, (a2, ()))), ()).1) (HK.encs h_z2l ((a0, (a1, (a2, ()))), ()).2) = some r := by
  have hb : LOk Try.prog cf_z2l Try.f6.ntmps 0 n p_z2l (ls_z2l n) (bodyOf Try.f6) := ⟨trivial, ⟨⟨trivial, ⟨⟨trivial, trivial⟩, trivial⟩⟩, ⟨trivial, ⟨⟨trivial, ⟨⟨trivial, trivial⟩, trivial⟩⟩, ⟨trivial, ⟨trivial, ⟨trivial, ⟨trivial, ⟨⟨trivial, ⟨⟨trivial, trivial⟩, trivial⟩⟩, ⟨⟨trivial, (o_z2l_0 n)⟩, ⟨trivial, trivial⟩⟩⟩⟩⟩⟩⟩⟩⟩⟩⟩
  exact runFT_some Try.prog (c := bodyOf Try.f6) Try.func6 (show Try.f6.body = some (bodyOf Try.f6) from rfl) (show (3 : Nat) ≤ 127 by decide) hb ((m_z2l n a0 a1 a2).trans h) rfl (by kernel_rfl)
noncomputable def c_z2l : Spec := specQ e_z2l h_z2l ro_z2l rh_z2l fun a b => Q_z2l a.1 a.2.1 a.2.2.1
theorem k_z2l (hm : Try.prog.follows .mixedOrders = true) : SpecOk Try.prog 6 c_z2l := specQ_ok (pol := p_z2l) hm (cf := cf_z2l) (CallSound.mix <| tab_ok (specs_cons (k_z0z hm) (specs_cons (k_z0v hm) (specs_cons (k_z21 hm) (specs_cons (k_z25 hm) (specs_cons (k_z2d hm) (specs_cons (k_z0o hm) (specs_cons (k_z2e hm) (specs_cons (k_z2f hm) (specs_cons (k_z2j hm) (specs_cons (k_z2k hm) specs_nil))))))))))) fun a b r h => ⟨FUEL, g_z2l FUEL a.1 a.2.1 a.2.2.1 (decRes_some h)⟩
def s_z2m_r : Sig := ⟨[4], [.nul 0], []⟩
def s_z2m_r1 : Sig := ⟨[4], [.ptr 0 0 0], [.one false [.ptr 1 0 0, .hs 3 0, .ptr 4 0 0, .ty (.int .i64)], .one false [.hs 2 0], .row (.int .u8), .row HeadT, .one false [.hs 5 0], .row (.int .u8)]⟩
def p_z2m : Pol := ⟨fun i => none, fun i => none, some [(4, .keep)], [.keep], []⟩
def e_z2m : List EK := [.ty .str, .ty (.slice NodeT)]
def h_z2m : List HK := []
noncomputable def cf_z2m : CallF := { (mkCF [(19, c_z01), (45, c_z1m)] [(19, [(.int .i64), .str])]) with mix := mixes [(45, [none, some ((.slice NodeT))])] }
noncomputable def ls_z2m (n : Nat) : Loops := fun i =>  none
theorem m_z2m (n : Nat) (a0 : ByteArray) (a1 : (List NodeS)) : runFT Try.prog cf_z2m p_z2m (ls_z2m n) Try.f30 (bodyOf Try.f30) (EK.encs e_z2m ((a0, (a1, ())), ()).1) (HK.encs h_z2m ((a0, (a1, ())), ()).2) = M_z2m n a0 a1 := by kernel_rfl
theorem g_z2m (n : Nat) (a0 : ByteArray) (a1 : (List NodeS)) {r : Res} (h : M_z2m n a0 a1 = some r) : runF Try.prog cf_z2m n p_z2m 30 (EK.encs e_z2m ((a0, (a1, ())), ()).1) (HK.encs h_z2m ((a0, (a1, ())), ()).2) = some r := by
  have hb : LOk Try.prog cf_z2m Try.f30.ntmps 0 n p_z2m (ls_z2m n) (bodyOf Try.f30) := ⟨trivial, ⟨trivial, ⟨⟨trivial, ⟨⟨trivial, trivial⟩, trivial⟩⟩, ⟨trivial, ⟨trivial, trivial⟩⟩⟩⟩⟩
  exact runFT_some Try.prog (c := bodyOf Try.f30) Try.func30 (show Try.f30.body = some (bodyOf Try.f30) from rfl) (show (2 : Nat) ≤ 18 by decide) hb ((m_z2m n a0 a1).trans h) rfl (by kernel_rfl)
noncomputable def c_z2m : Spec := specTr e_z2m h_z2m fun a b => (altTr ro_z2m rh_z2m (Q_z2m a.1 a.2.1) (altTr ro_z2m_1 rh_z2m_1 (Q_z2m_1 a.1 a.2.1) .no))
theorem k_z2m (hm : Try.prog.follows .mixedOrders = true) : SpecOk Try.prog 30 c_z2m := specTr_ok (pol := p_z2m) hm (cf := cf_z2m) (CallSound.mix <| tab_ok (specs_cons (k_z01 hm) (specs_cons (k_z1m hm) specs_nil))) fun a b r => (fun h => (altTr_val h).elim (fun ⟨x, hx, e⟩ => ⟨FUEL, e ▸ g_z2m FUEL a.1 a.2.1 (decRes_some hx)⟩) (fun h => (altTr_val h).elim (fun ⟨x, hx, e⟩ => ⟨FUEL, e ▸ g_z2m FUEL a.1 a.2.1 (decRes_some hx)⟩) (fun h => by cases h)))
def s_z2n_r : Sig := ⟨[8], [.ty .bool], []⟩
def s_z2n_h0 : Sig := ⟨[2, 9, 16, 18], [.ty (.slice FieldT), .ptr 0 0 0, .hs 6 0, .ty (.int .i64)], [.one false [.ptr 1 0 0, .hs 3 0, .ptr 4 0 0, .ty (.int .i64)], .one false [.hs 2 0], .row (.int .u8), .row HeadT, .one false [.hs 5 0], .row (.int .u8), .row .str]⟩
def s_z2n_t0 : Sig := ⟨[], [], []⟩
def p_z2n : Pol := ⟨fun i => if i = 0 then some [(2, .keep), (9, .keep), (16, (.own .str)), (18, .keep)] else none, fun i => if i = 0 then some [] else none, some [(8, .keep)], [.keep], []⟩
def e_z2n : List EK := [.ty .str, .ty (.slice NodeT), .ty (.slice FieldT), .ty (.slice FieldT)]
def h_z2n : List HK := []
noncomputable def cf_z2n : CallF := { (mkCF [(24, c_z0z), (11, c_z0v), (30, c_z2m), (20, c_z25), (23, c_z0o), (12, c_z0p), (31, c_z23), (32, c_z0l)] [(24, [(.slice NodeT)]), (11, []), (30, [.str, (.slice NodeT)]), (23, [(.slice FieldT)]), (12, [.str, (.slice (.int .i64))]), (32, [WordT, (.int .i64)])]) with mix := mixes [(20, [none, some ((.slice FieldT))])] }
noncomputable def ls_z2n (n : Nat) : Loops := fun i => if i = 0 then some (loopT 0 (p_z2n.head 0) s_z2n_h0 fun K v => L_z2n_0 n (fun z0 => K .rt (s_z2n_r.enc ((z0, ()), ()))) (fun _ => K (.ex 0) (s_z2n_t0.enc ((), ()))) v.1.1 v.1.2.2.1 v.2.2.2.2.2.2.2.1 n v.1.2.2.2.1 v.2.1.2.1 v.2.1.2.2.2.1 v.2.2.1.1 v.2.2.2.1 v.2.2.2.2.1 v.2.2.2.2.2.1.1 v.2.2.2.2.2.2.1)
  else  none
noncomputable def b_z2n_0 : Code := partOf (bodyOf Try.f7) [1, 1, 1, 1, 1, 1, 1, 1, 1, 1, 1, 0, 1, 0, 0]
noncomputable def V_z2n_0 (n : Nat) (K : Cont) (rec : Sig.sem s_z2n_h0 → Option Res) (v : Sig.sem s_z2n_h0) : Option Res := F_z2n_0 n (fun z0 => K .rt (s_z2n_r.enc ((z0, ()), ()))) (fun _ => K (.ex 0) (s_z2n_t0.enc ((), ()))) v.1.1 v.1.2.2.1 v.2.2.2.2.2.2.2.1 (fun z2 z3 z4 z5 z6 z7 z8 z9 => rec ((v.1.1, ((), (v.1.2.2.1, (z2, ())))), (((), (z3, ((), (z4, ())))), ((z5, ()), (z6, (z7, ((z8, ()), (z9, (v.2.2.2.2.2.2.2.1, ()))))))))) v.1.2.2.2.1 v.2.1.2.1 v.2.1.2.2.2.1 v.2.2.1.1 v.2.2.2.1 v.2.2.2.2.1 v.2.2.2.2.2.1.1 v.2.2.2.2.2.2.1
theorem t_z2n_0 (n : Nat) (K : Cont) (rec : Sig.sem s_z2n_h0 → Option Res) (v : Sig.sem s_z2n_h0) : runT Try.prog cf_z2n Try.f7.ntmps 0 p_z2n (ls_z2n n) b_z2n_0 (s_z2n_h0.enc v) (turnK 0 (p_z2n.head 0) s_z2n_h0 rec K) = V_z2n_0 n K rec v := by kernel_rfl
noncomputable def W_z2n_0 (n : Nat) (K : Cont) (m : Nat) (v : Sig.sem s_z2n_h0) : Option Res := L_z2n_0 n (fun z0 => K .rt (s_z2n_r.enc ((z0, ()), ()))) (fun _ => K (.ex 0) (s_z2n_t0.enc ((), ()))) v.1.1 v.1.2.2.1 v.2.2.2.2.2.2.2.1 m v.1.2.2.2.1 v.2.1.2.1 v.2.1.2.2.2.1 v.2.2.1.1 v.2.2.2.1 v.2.2.2.2.1 v.2.2.2.2.2.1.1 v.2.2.2.2.2.2.1
theorem i_z2n_0 (n : Nat) (K : Cont) : ∀ m v, iter (V_z2n_0 n K) m v = W_z2n_0 n K m v := by
  intro m
  induction m with
  | zero => intro v; rfl
  | succ m ih =>
    intro v
    show V_z2n_0 n K (iter (V_z2n_0 n K) m) v = V_z2n_0 n K (W_z2n_0 n K m) v
    rw [show iter (V_z2n_0 n K) m = W_z2n_0 n K m from funext ih]
theorem o_z2n_0 (n : Nat) : ∀ L, ls_z2n n 0 = some L → ∀ s K r, L s K = some r → ∃ x s', loopN (run Try.prog cf_z2n Try.f7.ntmps 0 n p_z2n none b_z2n_0) (gc 0 (p_z2n.head 0)) n s = some (x, s') ∧ K x s' = some r := by
  intro L hL s K r h
  have hL : some (loopT 0 (p_z2n.head 0) s_z2n_h0 fun K v => W_z2n_0 n K n v) = some L := hL
  cases hL
  have hb : LOk Try.prog cf_z2n Try.f7.ntmps 0 n p_z2n (ls_z2n n) b_z2n_0 := ⟨⟨trivial, ⟨trivial, trivial⟩⟩, ⟨⟨trivial, ⟨trivial, ⟨trivial, ⟨trivial, ⟨⟨trivial, trivial⟩, trivial⟩⟩⟩⟩⟩, trivial⟩⟩
  refine loopT_ok hb (V_z2n_0 n) (t_z2n_0 n) n s K r ?_
  rw [← h]
  unfold loopT
  simp only [i_z2n_0]
theorem m_z2n (n : Nat) (a0 : ByteArray) (a1 : (List NodeS)) (a2 : (List FieldS)) (a3 : (List FieldS)) : runFT Try.prog cf_z2n p_z2n (ls_z2n n) Try.f7 (bodyOf Try.f7) (EK.encs e_z2n ((a0, (a1, (a2, (a3, ())))), ()).1) (HK.encs h_z2n ((a0, (a1, (a2, (a3, ())))), ()).2) = M_z2n n a0 a1 a2 a3 := by kernel_rfl
theorem g_z2n (n : Nat) (a0 : ByteArray) (a1 : (List NodeS)) (a2 : (List FieldS)) (a3 : (List FieldS)) {r : Res} (h : M_z2n n a0 a1 a2 a3 = some r) : runF Try.prog cf_z2n n p_z2n 7 (EK.encs e_z2n ((a0, (a1, (a2, (a3, ())))), ()).1) (HK.encs h_z2n ((a0, (a1, (a2, (a3, ())))), ()).2) = some r := by
  have hb : LOk Try.prog cf_z2n Try.f7.ntmps 0 n p_z2n (ls_z2n n) (bodyOf Try.f7) := ⟨trivial, ⟨⟨trivial, ⟨⟨trivial, trivial⟩, trivial⟩⟩, ⟨trivial, ⟨⟨trivial, ⟨⟨trivial, trivial⟩, trivial⟩⟩, ⟨trivial, ⟨trivial, ⟨trivial, ⟨⟨trivial, ⟨⟨trivial, trivial⟩, trivial⟩⟩, ⟨⟨trivial, ⟨⟨trivial, trivial⟩, trivial⟩⟩, ⟨trivial, ⟨⟨trivial, ⟨⟨trivial, trivial⟩, trivial⟩⟩, ⟨⟨trivial, (o_z2n_0 n)⟩, ⟨trivial, trivial⟩⟩⟩⟩⟩⟩⟩⟩⟩⟩⟩⟩⟩
  exact runFT_some Try.prog (c := bodyOf Try.f7) Try.func7 (show Try.f7.body = some (bodyOf Try.f7) from rfl) (show (4 : Nat) ≤ 182 by decide) hb ((m_z2n n a0 a1 a2 a3).trans h) rfl (by kernel_rfl)
noncomputable def c_z2n : Spec := specQ e_z2n h_z2n ro_z2n rh_z2n fun a b => Q_z2n a.1 a.2.1 a.2.2.1 a.2.2.2.1
theorem k_z2n (hm : Try.prog.follows .mixedOrders = true) : SpecOk Try.prog 7 c_z2n := specQ_ok (pol := p_z2n) hm (cf := cf_z2n) (CallSound.mix <| tab_ok (specs_cons (k_z0z hm) (specs_cons (k_z0v hm) (specs_cons (k_z2m hm) (specs_cons (k_z25 hm) (specs_cons (k_z0o hm) (specs_cons (k_z0p hm) (specs_cons (k_z23 hm) (specs_cons (k_z0l hm) specs_nil))))))))) fun a b r h => ⟨FUEL, g_z2n FUEL a.1 a.2.1 a.2.2.1 a.2.2.2.1 (decRes_some h)⟩
def s_z2o_r : Sig := ⟨[6], [.ty .bool], []⟩
def s_z2o_h0 : Sig := ⟨[2, 7, 8, 9], [.ty (.slice FieldT), .ptr 0 0 0, .ty (.int .i64), .ty (.int .i64)], [.one false [.ptr 1 0 0, .hs 3 0, .ptr 4 0 0, .ty (.int .i64)], .one false [.hs 2 0], .row (.int .u8), .row HeadT, .one false [.hs 5 0], .row (.int .u8)]⟩
def s_z2o_t0 : Sig := ⟨[2, 7, 8], [.ty (.slice FieldT), .ptr 0 0 0, .ty (.int .i64)], [.one false [.ptr 1 0 0, .hs 3 0, .ptr 4 0 0, .ty (.int .i64)], .one false [.hs 2 0], .row (.int .u8), .row HeadT, .one false [.hs 5 0], .row (.int .u8)]⟩
def p_z2o : Pol := ⟨fun i => if i = 0 then some [(2, .keep), (7, .keep), (8, .keep), (9, .keep)] else none, fun i => if i = 0 then some [(2, .keep), (7, .keep), (8, .keep)] else none, some [(6, .keep)], [.keep], []⟩
def e_z2o : List EK := [.ty .str, .ty (.slice NodeT), .ty (.slice FieldT)]
def h_z2o : List HK := []
noncomputable def cf_z2o : CallF := { (mkCF [(24, c_z0z), (11, c_z0v), (30, c_z2m), (31, c_z23), (20, c_z25)] [(24, [(.slice NodeT)]), (11, []), (30, [.str, (.slice NodeT)])]) with mix := mixes [(20, [none, some ((.slice FieldT))])] }
noncomputable def ls_z2o (n : Nat) : Loops := fun i => if i = 0 then some (loopT 0 (p_z2o.head 0) s_z2o_h0 fun K v => L_z2o_0 n (fun z1 z2 z3 z4 z5 z6 z7 z8 => K (.ex 0) (s_z2o_t0.enc ((v.1.1, ((), (z1, ()))), (((), (z2, ((), (z3, ())))), ((z4, ()), (z5, (z6, ((z7, ()), (z8, ()))))))))) v.1.1 n v.1.2.2.1 v.1.2.2.2.1 v.2.1.2.1 v.2.1.2.2.2.1 v.2.2.1.1 v.2.2.2.1 v.2.2.2.2.1 v.2.2.2.2.2.1.1 v.2.2.2.2.2.2.1)
  else  none
noncomputable def b_z2o_0 : Code := partOf (bodyOf Try.f8) [1, 1, 1, 1, 1, 0, 1, 0, 0]
noncomputable def V_z2o_0 (n : Nat) (K : Cont) (rec : Sig.sem s_z2o_h0 → Option Res) (v : Sig.sem s_z2o_h0) : Option Res := F_z2o_0 n (fun z1 z2 z3 z4 z5 z6 z7 z8 => K (.ex 0) (s_z2o_t0.enc ((v.1.1, ((), (z1, ()))), (((), (z2, ((), (z3, ())))), ((z4, ()), (z5, (z6, ((z7, ()), (z8, ()))))))))) v.1.1 (fun z1 z2 z3 z4 z5 z6 z7 z8 z9 => rec ((v.1.1, ((), (z1, (z2, ())))), (((), (z3, ((), (z4, ())))), ((z5, ()), (z6, (z7, ((z8, ()), (z9, ())))))))) v.1.2.2.1 v.1.2.2.2.1 v.2.1.2.1 v.2.1.2.2.2.1 v.2.2.1.1 v.2.2.2.1 v.2.2.2.2.1 v.2.2.2.2.2.1.1 v.2.2.2.2.2.2.1
theorem t_z2o_0 (n : Nat) (K : Cont) (rec : Sig.sem s_z2o_h0 → Option Res) (v : Sig.sem s_z2o_h0) : runT Try.prog cf_z2o Try.f8.ntmps 0 p_z2o (ls_z2o n) b_z2o_0 (s_z2o_h0.enc v) (turnK 0 (p_z2o.head 0) s_z2o_h0 rec K) = V_z2o_0 n K rec v := by kernel_rfl
noncomputable def W_z2o_0 (n : Nat) (K : Cont) (m : Nat) (v : Sig.sem s_z2o_h0) : Option Res := L_z2o_0 n (fun z1 z2 z3 z4 z5 z6 z7 z8 => K (.ex 0) (s_z2o_t0.enc ((v.1.1, ((), (z1, ()))), (((), (z2, ((), (z3, ())))), ((z4, ()), (z5, (z6, ((z7, ()), (z8, ()))))))))) v.1.1 m v.1.2.2.1 v.1.2.2.2.1 v.2.1.2.1 v.2.1.2.2.2.1 v.2.2.1.1 v.2.2.2.1 v.2.2.2.2.1 v.2.2.2.2.2.1.1 v.2.2.2.2.2.2.1
theorem i_z2o_0 (n : Nat) (K : Cont) : ∀ m v, iter (V_z2o_0 n K) m v = W_z2o_0 n K m v := by
  intro m
  induction m with
  | zero => intro v; rfl
  | succ m ih =>
    intro v
    show V_z2o_0 n K (iter (V_z2o_0 n K) m) v = V_z2o_0 n K (W_z2o_0 n K m) v
    rw [show iter (V_z2o_0 n K) m = W_z2o_0 n K m from funext ih]
theorem o_z2o_0 (n : Nat) : ∀ L, ls_z2o n 0 = some L → ∀ s K r, L s K = some r → ∃ x s', loopN (run Try.prog cf_z2o Try.f8.ntmps 0 n p_z2o none b_z2o_0) (gc 0 (p_z2o.head 0)) n s = some (x, s') ∧ K x s' = some r := by
  intro L hL s K r h
  have hL : some (loopT 0 (p_z2o.head 0) s_z2o_h0 fun K v => W_z2o_0 n K n v) = some L := hL
  cases hL
  have hb : LOk Try.prog cf_z2o Try.f8.ntmps 0 n p_z2o (ls_z2o n) b_z2o_0 := ⟨⟨trivial, ⟨trivial, trivial⟩⟩, ⟨⟨trivial, ⟨trivial, ⟨trivial, trivial⟩⟩⟩, trivial⟩⟩
  refine loopT_ok hb (V_z2o_0 n) (t_z2o_0 n) n s K r ?_
  rw [← h]
  unfold loopT
  simp only [i_z2o_0]
theorem m_z2o (n : Nat) (a0 : ByteArray) (a1 : (List NodeS)) (a2 : (List FieldS)) : runFT Try.prog cf_z2o p_z2o (ls_z2o n) Try.f8 (bodyOf Try.f8) (EK.encs e_z2o ((a0, (a1, (a2, ()))), ()).1) (HK.encs h_z2o ((a0, (a1, (a2, ()))), ()).2) = M_z2o n a0 a1 a2 := by kernel_rfl
theorem g_z2o (n : Nat) (a0 : ByteArray) (a1 : (List NodeS)) (a2 : (List FieldS)) {r : Res} (h : M_z2o n a0 a1 a2 = some r) : runF Try.prog cf_z2o n p_z2o 8 (EK.encs e_z2o ((a0, (a1, (a2, ()))), ()).1) (HK.encs h_z2o ((a0, (a1, (a2, ()))), ()).2) = some r := by
  have hb : LOk Try.prog cf_z2o Try.f8.ntmps 0 n p_z2o (ls_z2o n) (bodyOf Try.f8) := ⟨trivial, ⟨⟨trivial, ⟨⟨trivial, trivial⟩, trivial⟩⟩, ⟨trivial, ⟨⟨trivial, ⟨⟨trivial, trivial⟩, trivial⟩⟩, ⟨trivial, ⟨⟨trivial, (o_z2o_0 n)⟩, ⟨trivial, ⟨trivial, trivial⟩⟩⟩⟩⟩⟩⟩⟩
  exact runFT_some Try.prog (c := bodyOf Try.f8) Try.func8 (show Try.f8.body = some (bodyOf Try.f8) from rfl) (show (3 : Nat) ≤ 71 by decide) hb ((m_z2o n a0 a1 a2).trans h) rfl (by kernel_rfl)
noncomputable def c_z2o : Spec := specQ e_z2o h_z2o ro_z2o rh_z2o fun a b => Q_z2o a.1 a.2.1 a.2.2.1
theorem k_z2o (hm : Try.prog.follows .mixedOrders = true) : SpecOk Try.prog 8 c_z2o := specQ_ok (pol := p_z2o) hm (cf := cf_z2o) (CallSound.mix <| tab_ok (specs_cons (k_z0z hm) (specs_cons (k_z0v hm) (specs_cons (k_z2m hm) (specs_cons (k_z23 hm) (specs_cons (k_z25 hm) specs_nil)))))) fun a b r h => ⟨FUEL, g_z2o FUEL a.1 a.2.1 a.2.2.1 (decRes_some h)⟩
end Go.AMach
