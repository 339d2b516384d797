/- A part of the walk. -/
import Derived.Test.YtfmjdojndbpkhaaDx
import Derived.Test.YtfmjdojndbpkhaaProg
import Derived.Test.YtfmjdojndbpkhaaHd
import Derived.Test.YtfmjdojndbpkhaaAm23
namespace Go.AMach
set_option linter.unusedVariables false
set_option linter.unusedSimpArgs false
set_option linter.unnecessarySimpa false
open Go Go.Proofs
set_option linter.unusedVariables false
def s_z00_r : Sig := ⟨[2], [.ty .bool], []⟩
def s_z00_h0 : Sig := ⟨[1, 3, 4], [.ptr 0 0 0, .ty (.int .i64), .ty (.int .i64)], [.cell ConfigT]⟩
def s_z00_t0 : Sig := ⟨[1, 3], [.ptr 0 0 0, .ty (.int .i64)], [.cell ConfigT]⟩
def s_z00_h2 : Sig := ⟨[1, 3, 5], [.ptr 0 0 0, .ty (.int .i64), .ty (.int .i64)], [.cell ConfigT]⟩
def s_z00_t2 : Sig := ⟨[1, 3], [.ptr 0 0 0, .ty (.int .i64)], [.cell ConfigT]⟩
def s_z00_h4 : Sig := ⟨[1, 3, 6], [.ptr 0 0 0, .ty (.int .i64), .ty (.int .i64)], [.cell ConfigT]⟩
def s_z00_t4 : Sig := ⟨[3], [.ty (.int .i64)], []⟩
def p_z00 : Pol := ⟨fun i => if i = 0 then some [(1, (.own ConfigT)), (3, .keep), (4, .keep)] else if i = 2 then some [(1, (.own ConfigT)), (3, .keep), (5, .keep)] else if i = 4 then some [(1, (.own ConfigT)), (3, .keep), (6, .keep)] else none, fun i => if i = 0 then some [(1, (.own ConfigT)), (3, .keep)] else if i = 2 then some [(1, (.own ConfigT)), (3, .keep)] else if i = 4 then some [(3, .keep)] else none, some [(2, .keep)], [.keep], []⟩
def e_z00 : List EK := [.agg ConfigT]
def h_z00 : List HK := []
noncomputable def cf_z00 : CallF := mkCF [] []
noncomputable def ls_z00 (n : Nat) : Loops := fun i => if i = 0 then some (loopT 0 (p_z00.head 0) s_z00_h0 fun K v => L_z00_0 n (fun z0 => K (.ex 0) (s_z00_t0.enc (((), (z0, ())), (v.2.1, ())))) v.2.1 n v.1.2.1 v.1.2.2.1)
  else if i = 2 then some (loopT 0 (p_z00.head 2) s_z00_h2 fun K v => L_z00_2 n (fun z0 => K (.ex 2) (s_z00_t2.enc (((), (z0, ())), (v.2.1, ())))) v.2.1 n v.1.2.1 v.1.2.2.1)
  else if i = 4 then some (loopT 0 (p_z00.head 4) s_z00_h4 fun K v => L_z00_4 n (fun z0 => K (.ex 4) (s_z00_t4.enc ((z0, ()), ()))) v.2.1 n v.1.2.1 v.1.2.2.1)
  else  none
noncomputable def b_z00_0 : Code := partOf (bodyOf Try.f10) [1, 1, 1, 0, 1, 0, 0]
noncomputable def V_z00_0 (n : Nat) (K : Cont) (rec : Sig.sem s_z00_h0 → Option Res) (v : Sig.sem s_z00_h0) : Option Res := F_z00_0 n (fun z0 => K (.ex 0) (s_z00_t0.enc (((), (z0, ())), (v.2.1, ())))) v.2.1 (fun z0 z1 => rec (((), (z0, (z1, ()))), (v.2.1, ()))) v.1.2.1 v.1.2.2.1
theorem t_z00_0 (n : Nat) (K : Cont) (rec : Sig.sem s_z00_h0 → Option Res) (v : Sig.sem s_z00_h0) : runT Try.prog cf_z00 Try.f10.ntmps 0 p_z00 (ls_z00 n) b_z00_0 (s_z00_h0.enc v) (turnK 0 (p_z00.head 0) s_z00_h0 rec K) = V_z00_0 n K rec v := by kernel_rfl
noncomputable def W_z00_0 (n : Nat) (K : Cont) (m : Nat) (v : Sig.sem s_z00_h0) : Option Res := L_z00_0 n (fun z0 => K (.ex 0) (s_z00_t0.enc (((), (z0, ())), (v.2.1, ())))) v.2.1 m v.1.2.1 v.1.2.2.1
theorem i_z00_0 (n : Nat) (K : Cont) : ∀ m v, iter (V_z00_0 n K) m v = W_z00_0 n K m v := by
  intro m
  induction m with
  | zero => intro v; rfl
  | succ m ih =>
    intro v
    show V_z00_0 n K (iter (V_z00_0 n K) m) v = V_z00_0 n K (W_z00_0 n K m) v
    rw [show iter (V_z00_0 n K) m = W_z00_0 n K m from funext ih]
theorem o_z00_0 (n : Nat) : ∀ L, ls_z00 n 0 = some L → ∀ s K r, L s K = some r → ∃ x s', loopN (run Try.prog cf_z00 Try.f10.ntmps 0 n p_z00 none b_z00_0) (gc 0 (p_z00.head 0)) n s = some (x, s') ∧ K x s' = some r := by
  intro L hL s K r h
  have hL : some (loopT 0 (p_z00.head 0) s_z00_h0 fun K v => W_z00_0 n K n v) = some L := hL
  cases hL
  have hb : LOk Try.prog cf_z00 Try.f10.ntmps 0 n p_z00 (ls_z00 n) b_z00_0 := ⟨⟨trivial, ⟨trivial, trivial⟩⟩, ⟨trivial, trivial⟩⟩
  refine loopT_ok hb (V_z00_0 n) (t_z00_0 n) n s K r ?_
  rw [← h]
  unfold loopT
  simp only [i_z00_0]
noncomputable def b_z00_2 : Code := partOf (bodyOf Try.f10) [1, 1, 1, 1, 0, 1, 0, 0]
noncomputable def V_z00_2 (n : Nat) (K : Cont) (rec : Sig.sem s_z00_h2 → Option Res) (v : Sig.sem s_z00_h2) : Option Res := F_z00_2 n (fun z0 => K (.ex 2) (s_z00_t2.enc (((), (z0, ())), (v.2.1, ())))) v.2.1 (fun z0 z1 => rec (((), (z0, (z1, ()))), (v.2.1, ()))) v.1.2.1 v.1.2.2.1
theorem t_z00_2 (n : Nat) (K : Cont) (rec : Sig.sem s_z00_h2 → Option Res) (v : Sig.sem s_z00_h2) : runT Try.prog cf_z00 Try.f10.ntmps 0 p_z00 (ls_z00 n) b_z00_2 (s_z00_h2.enc v) (turnK 0 (p_z00.head 2) s_z00_h2 rec K) = V_z00_2 n K rec v := by kernel_rfl
noncomputable def W_z00_2 (n : Nat) (K : Cont) (m : Nat) (v : Sig.sem s_z00_h2) : Option Res := L_z00_2 n (fun z0 => K (.ex 2) (s_z00_t2.enc (((), (z0, ())), (v.2.1, ())))) v.2.1 m v.1.2.1 v.1.2.2.1
theorem i_z00_2 (n : Nat) (K : Cont) : ∀ m v, iter (V_z00_2 n K) m v = W_z00_2 n K m v := by
  intro m
  induction m with
  | zero => intro v; rfl
  | succ m ih =>
    intro v
    show V_z00_2 n K (iter (V_z00_2 n K) m) v = V_z00_2 n K (W_z00_2 n K m) v
    rw [show iter (V_z00_2 n K) m = W_z00_2 n K m from funext ih]
theorem o_z00_2 (n : Nat) : ∀ L, ls_z00 n 2 = some L → ∀ s K r, L s K = some r → ∃ x s', loopN (run Try.prog cf_z00 Try.f10.ntmps 0 n p_z00 none b_z00_2) (gc 0 (p_z00.head 2)) n s = some (x, s') ∧ K x s' = some r := by
  intro L hL s K r h
  have hL : some (loopT 0 (p_z00.head 2) s_z00_h2 fun K v => W_z00_2 n K n v) = some L := hL
  cases hL
  have hb : LOk Try.prog cf_z00 Try.f10.ntmps 0 n p_z00 (ls_z00 n) b_z00_2 := ⟨⟨trivial, ⟨trivial, trivial⟩⟩, ⟨trivial, trivial⟩⟩
  refine loopT_ok hb (V_z00_2 n) (t_z00_2 n) n s K r ?_
  rw [← h]
  unfold loopT
  simp only [i_z00_2]
noncomputable def b_z00_4 : Code := partOf (bodyOf Try.f10) [1, 1, 1, 1, 1, 0, 1, 0, 0]
noncomputable def V_z00_4 (n : Nat) (K : Cont) (rec : Sig.sem s_z00_h4 → Option Res) (v : Sig.sem s_z00_h4) : Option Res := F_z00_4 n (fun z0 => K (.ex 4) (s_z00_t4.enc ((z0, ()), ()))) v.2.1 (fun z0 z1 => rec (((), (z0, (z1, ()))), (v.2.1, ()))) v.1.2.1 v.1.2.2.1
theorem t_z00_4 (n : Nat) (K : Cont) (rec : Sig.sem s_z00_h4 → Option Res) (v : Sig.sem s_z00_h4) : runT Try.prog cf_z00 Try.f10.ntmps 0 p_z00 (ls_z00 n) b_z00_4 (s_z00_h4.enc v) (turnK 0 (p_z00.head 4) s_z00_h4 rec K) = V_z00_4 n K rec v := by kernel_rfl
noncomputable def W_z00_4 (n : Nat) (K : Cont) (m : Nat) (v : Sig.sem s_z00_h4) : Option Res := L_z00_4 n (fun z0 => K (.ex 4) (s_z00_t4.enc ((z0, ()), ()))) v.2.1 m v.1.2.1 v.1.2.2.1
theorem i_z00_4 (n : Nat) (K : Cont) : ∀ m v, iter (V_z00_4 n K) m v = W_z00_4 n K m v := by
  intro m
  induction m with
  | zero => intro v; rfl
  | succ m ih =>
    intro v
    show V_z00_4 n K (iter (V_z00_4 n K) m) v = V_z00_4 n K (W_z00_4 n K m) v
    rw [show iter (V_z00_4 n K) m = W_z00_4 n K m from funext ih]
theorem o_z00_4 (n : Nat) : ∀ L, ls_z00 n 4 = some L → ∀ s K r, L s K = some r → ∃ x s', loopN (run Try.prog cf_z00 Try.f10.ntmps 0 n p_z00 none b_z00_4) (gc 0 (p_z00.head 4)) n s = some (x, s') ∧ K x s' = some r := by
  intro L hL s K r h
  have hL : some (loopT 0 (p_z00.head 4) s_z00_h4 fun K v => W_z00_4 n K n v) = some L := hL
  cases hL
  have hb : LOk Try.prog cf_z00 Try.f10.ntmps 0 n p_z00 (ls_z00 n) b_z00_4 := ⟨⟨trivial, ⟨trivial, trivial⟩⟩, ⟨trivial, trivial⟩⟩
  refine loopT_ok hb (V_z00_4 n) (t_z00_4 n) n s K r ?_
  rw [← h]
  unfold loopT
  simp only [i_z00_4]
theorem m_z00 (n : Nat) (a0 : ConfigS) : runFT Try.prog cf_z00 p_z00 (ls_z00 n) Try.f10 (bodyOf Try.f10) (EK.encs e_z00 ((a0, ()), ()).1) (HK.encs h_z00 ((a0, ()), ()).2) = M_z00 n a0 := by kernel_rfl
theorem g_z00 (n : Nat) (a0 : ConfigS) {r : Res} (h : M_z00 n a0 = some r) : runF Try.prog cf_z00 n p_z00 10 (EK.encs e_z00 ((a0, ()), ()).1) (HK.encs h_z00 ((a0, ()), ()).2) = some r := by
  have hb : LOk Try.prog cf_z00 Try.f10.ntmps 0 n p_z00 (ls_z00 n) (bodyOf Try.f10) := ⟨trivial, ⟨trivial, ⟨⟨trivial, ⟨⟨trivial, trivial⟩, trivial⟩⟩, ⟨⟨trivial, (o_z00_0 n)⟩, ⟨⟨trivial, (o_z00_2 n)⟩, ⟨⟨trivial, (o_z00_4 n)⟩, ⟨trivial, trivial⟩⟩⟩⟩⟩⟩⟩
  exact runFT_some Try.prog (c := bodyOf Try.f10) Try.func10 (show Try.f10.body = some (bodyOf Try.f10) from rfl) (show (1 : Nat) ≤ 93 by decide) hb ((m_z00 n a0).trans h) rfl (by kernel_rfl)
noncomputable def c_z00 : Spec := specQ e_z00 h_z00 ro_z00 rh_z00 fun a b => Q_z00 a.1
theorem k_z00 (hm : Try.prog.follows .mixedOrders = true) : SpecOk Try.prog 10 c_z00 := specQ_ok (pol := p_z00) hm (cf := cf_z00) (tab_ok specs_nil) fun a b r h => ⟨FUEL, g_z00 FUEL a.1 (decRes_some h)⟩
def s_z01_h0 : Sig := ⟨[0, 3, 4], [.ty (.slice (.int .u8)), .hs 0 0, .ty (.int .i64)], [.row InstrT]⟩
def s_z01_t0 : Sig := ⟨[3], [.hs 0 0], [.row InstrT]⟩
def s_z01_r : Sig := ⟨[2], [.hs 0 0], [.row InstrT]⟩
def p_z01 : Pol := ⟨fun i => if i = 0 then some [(0, .keep), (3, (.own InstrT)), (4, .keep)] else none, fun i => if i = 0 then some [(3, (.own InstrT))] else none, some [(2, (.own InstrT))], [(.own InstrT)], []⟩
def e_z01 : List EK := [.ty (.slice (.int .u8))]
def h_z01 : List HK := []
noncomputable def cf_z01 : CallF := mkCF [] []
noncomputable def ls_z01 (n : Nat) : Loops := fun i => if i = 0 then some (loopT 0 (p_z01.head 0) s_z01_h0 fun K v => L_z01_0 n (fun z0 z1 => K (.ex 0) (s_z01_t0.enc ((z0, ()), (z1, ())))) v.1.1 n v.1.2.1 v.1.2.2.1 v.2.1)
  else  none
noncomputable def b_z01_0 : Code := partOf (bodyOf Try.f22) [1, 1, 0, 1, 0, 0]
noncomputable def V_z01_0 (n : Nat) (K : Cont) (rec : Sig.sem s_z01_h0 → Option Res) (v : Sig.sem s_z01_h0) : Option Res := F_z01_0 n (fun z0 z1 => K (.ex 0) (s_z01_t0.enc ((z0, ()), (z1, ())))) v.1.1 (fun z1 z2 z3 => rec ((v.1.1, (z1, (z2, ()))), (z3, ()))) v.1.2.1 v.1.2.2.1 v.2.1
theorem t_z01_0 (n : Nat) (K : Cont) (rec : Sig.sem s_z01_h0 → Option Res) (v : Sig.sem s_z01_h0) : runT Try.prog cf_z01 Try.f22.ntmps 0 p_z01 (ls_z01 n) b_z01_0 (s_z01_h0.enc v) (turnK 0 (p_z01.head 0) s_z01_h0 rec K) = V_z01_0 n K rec v := by kernel_rfl
noncomputable def W_z01_0 (n : Nat) (K : Cont) (m : Nat) (v : Sig.sem s_z01_h0) : Option Res := L_z01_0 n (fun z0 z1 => K (.ex 0) (s_z01_t0.enc ((z0, ()), (z1, ())))) v.1.1 m v.1.2.1 v.1.2.2.1 v.2.1
theorem i_z01_0 (n : Nat) (K : Cont) : ∀ m v, iter (V_z01_0 n K) m v = W_z01_0 n K m v := by
  intro m
  induction m with
  | zero => intro v; rfl
  | succ m ih =>
    intro v
    show V_z01_0 n K (iter (V_z01_0 n K) m) v = V_z01_0 n K (W_z01_0 n K m) v
    rw [show iter (V_z01_0 n K) m = W_z01_0 n K m from funext ih]
theorem o_z01_0 (n : Nat) : ∀ L, ls_z01 n 0 = some L → ∀ s K r, L s K = some r → ∃ x s', loopN (run Try.prog cf_z01 Try.f22.ntmps 0 n p_z01 none b_z01_0) (gc 0 (p_z01.head 0)) n s = some (x, s') ∧ K x s' = some r := by
  intro L hL s K r h
  have hL : some (loopT 0 (p_z01.head 0) s_z01_h0 fun K v => W_z01_0 n K n v) = some L := hL
  cases hL
  have hb : LOk Try.prog cf_z01 Try.f22.ntmps 0 n p_z01 (ls_z01 n) b_z01_0 := ⟨⟨trivial, ⟨trivial, trivial⟩⟩, ⟨⟨trivial, ⟨⟨trivial, ⟨trivial, trivial⟩⟩, trivial⟩⟩, trivial⟩⟩
  refine loopT_ok hb (V_z01_0 n) (t_z01_0 n) n s K r ?_
  rw [← h]
  unfold loopT
  simp only [i_z01_0]
theorem m_z01 (n : Nat) (a0 : (List Int)) : runFT Try.prog cf_z01 p_z01 (ls_z01 n) Try.f22 (bodyOf Try.f22) (EK.encs e_z01 ((a0, ()), ()).1) (HK.encs h_z01 ((a0, ()), ()).2) = M_z01 n a0 := by kernel_rfl
theorem g_z01 (n : Nat) (a0 : (List Int)) {r : Res} (h : M_z01 n a0 = some r) : runF Try.prog cf_z01 n p_z01 22 (EK.encs e_z01 ((a0, ()), ()).1) (HK.encs h_z01 ((a0, ()), ()).2) = some r := by
  have hb : LOk Try.prog cf_z01 Try.f22.ntmps 0 n p_z01 (ls_z01 n) (bodyOf Try.f22) := ⟨trivial, ⟨trivial, ⟨⟨trivial, (o_z01_0 n)⟩, ⟨trivial, trivial⟩⟩⟩⟩
  exact runFT_some Try.prog (c := bodyOf Try.f22) Try.func22 (show Try.f22.body = some (bodyOf Try.f22) from rfl) (show (1 : Nat) ≤ 42 by decide) hb ((m_z01 n a0).trans h) rfl (by kernel_rfl)
noncomputable def c_z01 : Spec := specQ e_z01 h_z01 ro_z01 rh_z01 fun a b => Q_z01 a.1
theorem k_z01 (hm : Try.prog.follows .mixedOrders = true) : SpecOk Try.prog 22 c_z01 := specQ_ok (pol := p_z01) hm (cf := cf_z01) (tab_ok specs_nil) fun a b r h => ⟨FUEL, g_z01 FUEL a.1 (decRes_some h)⟩
noncomputable def c_z02 : Spec := specQ [.agg ConfigT] [] ro_z02 rh_z02 fun a b => Q_z02 a.1
theorem k_z02 (hm : Try.prog.follows .mixedOrders = true) : SpecOk Try.prog 30 c_z02 := H24.solve_ok hm
def e_z04 : List EK := [.agg ObjT, .ptr 0 0 0, .ptr 2 0 0, .ptr 7 0 0]
def h_z04 : List HK := [.one false [.mp 1], .mf ObjT (.int .i64), .one false [.ptr 3 0 0], .one false [.mp 4, .mp 5, .mp 6, .ty (.slice ObjT)], .mf (.int .i64) (.slice (.int .i64)), .mf (.int .i64) (.slice InstrT), .mf (.int .i64) GroupT, .one false [.fn 42 [(0, 0, 0), (2, 0, 0), (7, 0, 0)]]]
def s_z03_h3 : Sig := ⟨[5, 42, 43, 44], [.hs 4 0, .ty (.slice (.int .i64)), .ty (.int .i64), .ty (.int .i64)], [.one false [.mp 1, .mp 2, .mp 3, .ty (.slice ObjT)], .mf (.int .i64) (.slice (.int .i64)), .mf (.int .i64) (.slice InstrT), .mf (.int .i64) GroupT, .row ObjT]⟩
def s_z03_t3 : Sig := ⟨[5], [.hs 4 0], [.one false [.mp 1, .mp 2, .mp 3, .ty (.slice ObjT)], .mf (.int .i64) (.slice (.int .i64)), .mf (.int .i64) (.slice InstrT), .mf (.int .i64) GroupT, .row ObjT]⟩
def s_z03_r : Sig := ⟨[4], [.hs 4 0], [.one false [.mp 1, .mp 2, .mp 3, .ty (.slice ObjT)], .mf (.int .i64) (.slice (.int .i64)), .mf (.int .i64) (.slice InstrT), .mf (.int .i64) GroupT, .row ObjT]⟩
def s_z03_h5 : Sig := ⟨[5, 62, 63, 64], [.hs 4 0, .ty (.slice InstrT), .ty (.int .i64), .ty (.int .i64)], [.one false [.mp 1, .mp 2, .mp 3, .ty (.slice ObjT)], .mf (.int .i64) (.slice (.int .i64)), .mf (.int .i64) (.slice InstrT), .mf (.int .i64) GroupT, .row ObjT]⟩
def s_z03_t5 : Sig := ⟨[5], [.hs 4 0], [.one false [.mp 1, .mp 2, .mp 3, .ty (.slice ObjT)], .mf (.int .i64) (.slice (.int .i64)), .mf (.int .i64) (.slice InstrT), .mf (.int .i64) GroupT, .row ObjT]⟩
def s_z03_h1 : Sig := ⟨[5, 21, 22, 23], [.hs 4 0, .ty (.slice BucketT), .ty (.int .i64), .ty (.int .i64)], [.one false [.mp 1, .mp 2, .mp 3, .ty (.slice ObjT)], .mf (.int .i64) (.slice (.int .i64)), .mf (.int .i64) (.slice InstrT), .mf (.int .i64) GroupT, .row ObjT]⟩
def s_z03_t1 : Sig := ⟨[5], [.hs 4 0], [.one false [.mp 1, .mp 2, .mp 3, .ty (.slice ObjT)], .mf (.int .i64) (.slice (.int .i64)), .mf (.int .i64) (.slice InstrT), .mf (.int .i64) GroupT, .row ObjT]⟩
def p_z03 : Pol := ⟨fun i => if i = 3 then some [(5, (.own ObjT)), (42, .keep), (43, .keep), (44, .keep)] else if i = 5 then some [(5, (.own ObjT)), (62, .keep), (63, .keep), (64, .keep)] else if i = 1 then some [(5, (.own ObjT)), (21, .keep), (22, .keep), (23, .keep)] else none, fun i => if i = 3 then some [(5, (.own ObjT))] else if i = 5 then some [(5, (.own ObjT))] else if i = 1 then some [(5, (.own ObjT))] else none, some [(4, (.own ObjT))], [(.own ObjT)], []⟩
def e_z03 : List EK := [.ptr 0 0 0, .agg ObjT]
def h_z03 : List HK := [.one false [.mp 1, .mp 2, .mp 3, .ty (.slice ObjT)], .mf (.int .i64) (.slice (.int .i64)), .mf (.int .i64) (.slice InstrT), .mf (.int .i64) GroupT]
noncomputable def cf_z03 : CallF := mkCF [] []
noncomputable def ls_z03 (n : Nat) : Loops := fun i => if i = 3 then some (loopT 4 (p_z03.head 3) s_z03_h3 fun K v => L_z03_3 n (fun z0 z5 => K (.ex 3) (s_z03_t3.enc ((z0, ()), (((), ((), ((), (v.2.1.2.2.2.1, ())))), (v.2.2.1, (v.2.2.2.1, (v.2.2.2.2.1, (z5, ())))))))) v.1.2.1 v.1.2.2.1 n v.1.1 v.1.2.2.2.1 v.2.2.2.2.2.1)
  else if i = 5 then some (loopT 4 (p_z03.head 5) s_z03_h5 fun K v => L_z03_5 n (fun z0 z5 => K (.ex 5) (s_z03_t5.enc ((z0, ()), (((), ((), ((), (v.2.1.2.2.2.1, ())))), (v.2.2.1, (v.2.2.2.1, (v.2.2.2.2.1, (z5, ())))))))) v.1.2.1 v.1.2.2.1 n v.1.1 v.1.2.2.2.1 v.2.2.2.2.2.1)
  else if i = 1 then some (loopT 4 (p_z03.head 1) s_z03_h1 fun K v => L_z03_1 n (fun z0 z5 => K (.ex 1) (s_z03_t1.enc ((z0, ()), (((), ((), ((), (v.2.1.2.2.2.1, ())))), (v.2.2.1, (v.2.2.2.1, (v.2.2.2.2.1, (z5, ())))))))) v.1.2.1 v.1.2.2.1 n v.1.1 v.1.2.2.2.1 v.2.2.2.2.2.1)
  else  none
noncomputable def b_z03_3 : Code := partOf (bodyOf Try.f43) [1, 1, 0, 1, 0, 1, 0, 1, 0, 0]
noncomputable def V_z03_3 (n : Nat) (K : Cont) (rec : Sig.sem s_z03_h3 → Option Res) (v : Sig.sem s_z03_h3) : Option Res := F_z03_3 n (fun z0 z5 => K (.ex 3) (s_z03_t3.enc ((z0, ()), (((), ((), ((), (v.2.1.2.2.2.1, ())))), (v.2.2.1, (v.2.2.2.1, (v.2.2.2.2.1, (z5, ())))))))) v.1.2.1 v.1.2.2.1 (fun z0 z3 z8 => rec ((z0, (v.1.2.1, (v.1.2.2.1, (z3, ())))), (((), ((), ((), (v.2.1.2.2.2.1, ())))), (v.2.2.1, (v.2.2.2.1, (v.2.2.2.2.1, (z8, ()))))))) v.1.1 v.1.2.2.2.1 v.2.2.2.2.2.1
theorem t_z03_3 (n : Nat) (K : Cont) (rec : Sig.sem s_z03_h3 → Option Res) (v : Sig.sem s_z03_h3) : runT Try.prog cf_z03 Try.f43.ntmps 4 p_z03 (ls_z03 n) b_z03_3 (s_z03_h3.enc v) (turnK 4 (p_z03.head 3) s_z03_h3 rec K) = V_z03_3 n K rec v := by kernel_rfl
noncomputable def W_z03_3 (n : Nat) (K : Cont) (m : Nat) (v : Sig.sem s_z03_h3) : Option Res := L_z03_3 n (fun z0 z5 => K (.ex 3) (s_z03_t3.enc ((z0, ()), (((), ((), ((), (v.2.1.2.2.2.1, ())))), (v.2.2.1, (v.2.2.2.1, (v.2.2.2.2.1, (z5, ())))))))) v.1.2.1 v.1.2.2.1 m v.1.1 v.1.2.2.2.1 v.2.2.2.2.2.1
theorem i_z03_3 (n : Nat) (K : Cont) : ∀ m v, iter (V_z03_3 n K) m v = W_z03_3 n K m v := by
  intro m
  induction m with
  | zero => intro v; rfl
  | succ m ih =>
    intro v
    show V_z03_3 n K (iter (V_z03_3 n K) m) v = V_z03_3 n K (W_z03_3 n K m) v
    rw [show iter (V_z03_3 n K) m = W_z03_3 n K m from funext ih]
theorem o_z03_3 (n : Nat) : ∀ L, ls_z03 n 3 = some L → ∀ s K r, L s K = some r → ∃ x s', loopN (run Try.prog cf_z03 Try.f43.ntmps 4 n p_z03 none b_z03_3) (gc 4 (p_z03.head 3)) n s = some (x, s') ∧ K x s' = some r := by
  intro L hL s K r h
  have hL : some (loopT 4 (p_z03.head 3) s_z03_h3 fun K v => W_z03_3 n K n v) = some L := hL
  cases hL
  have hb : LOk Try.prog cf_z03 Try.f43.ntmps 4 n p_z03 (ls_z03 n) b_z03_3 := ⟨trivial, ⟨⟨trivial, trivial⟩, ⟨⟨trivial, trivial⟩, trivial⟩⟩⟩
  refine loopT_ok hb (V_z03_3 n) (t_z03_3 n) n s K r ?_
  rw [← h]
  unfold loopT
  simp only [i_z03_3]
noncomputable def b_z03_5 : Code := partOf (bodyOf Try.f43) [1, 1, 0, 1, 0, 1, 1, 1, 0, 1, 0, 0]
noncomputable def V_z03_5 (n : Nat) (K : Cont) (rec : Sig.sem s_z03_h5 → Option Res) (v : Sig.sem s_z03_h5) : Option Res := F_z03_5 n (fun z0 z5 => K (.ex 5) (s_z03_t5.enc ((z0, ()), (((), ((), ((), (v.2.1.2.2.2.1, ())))), (v.2.2.1, (v.2.2.2.1, (v.2.2.2.2.1, (z5, ())))))))) v.1.2.1 v.1.2.2.1 (fun z0 z3 z8 => rec ((z0, (v.1.2.1, (v.1.2.2.1, (z3, ())))), (((), ((), ((), (v.2.1.2.2.2.1, ())))), (v.2.2.1, (v.2.2.2.1, (v.2.2.2.2.1, (z8, ()))))))) v.1.1 v.1.2.2.2.1 v.2.2.2.2.2.1
theorem t_z03_5 (n : Nat) (K : Cont) (rec : Sig.sem s_z03_h5 → Option Res) (v : Sig.sem s_z03_h5) : runT Try.prog cf_z03 Try.f43.ntmps 4 p_z03 (ls_z03 n) b_z03_5 (s_z03_h5.enc v) (turnK 4 (p_z03.head 5) s_z03_h5 rec K) = V_z03_5 n K rec v := by kernel_rfl
noncomputable def W_z03_5 (n : Nat) (K : Cont) (m : Nat) (v : Sig.sem s_z03_h5) : Option Res := L_z03_5 n (fun z0 z5 => K (.ex 5) (s_z03_t5.enc ((z0, ()), (((), ((), ((), (v.2.1.2.2.2.1, ())))), (v.2.2.1, (v.2.2.2.1, (v.2.2.2.2.1, (z5, ())))))))) v.1.2.1 v.1.2.2.1 m v.1.1 v.1.2.2.2.1 v.2.2.2.2.2.1
theorem i_z03_5 (n : Nat) (K : Cont) : ∀ m v, iter (V_z03_5 n K) m v = W_z03_5 n K m v := by
  intro m
  induction m with
  | zero => intro v; rfl
  | succ m ih =>
    intro v
    show V_z03_5 n K (iter (V_z03_5 n K) m) v = V_z03_5 n K (W_z03_5 n K m) v
    rw [show iter (V_z03_5 n K) m = W_z03_5 n K m from funext ih]
theorem o_z03_5 (n : Nat) : ∀ L, ls_z03 n 5 = some L → ∀ s K r, L s K = some r → ∃ x s', loopN (run Try.prog cf_z03 Try.f43.ntmps 4 n p_z03 none b_z03_5) (gc 4 (p_z03.head 5)) n s = some (x, s') ∧ K x s' = some r := by
  intro L hL s K r h
  have hL : some (loopT 4 (p_z03.head 5) s_z03_h5 fun K v => W_z03_5 n K n v) = some L := hL
  cases hL
  have hb : LOk Try.prog cf_z03 Try.f43.ntmps 4 n p_z03 (ls_z03 n) b_z03_5 := ⟨trivial, ⟨⟨trivial, trivial⟩, ⟨⟨trivial, ⟨trivial, ⟨trivial, ⟨trivial, ⟨trivial, ⟨trivial, trivial⟩⟩⟩⟩⟩⟩, trivial⟩⟩⟩
  refine loopT_ok hb (V_z03_5 n) (t_z03_5 n) n s K r ?_
  rw [← h]
  unfold loopT
  simp only [i_z03_5]
noncomputable def b_z03_1 : Code := partOf (bodyOf Try.f43) [1, 1, 0, 1, 0, 1, 1, 1, 1, 1, 0, 0]
noncomputable def V_z03_1 (n : Nat) (K : Cont) (rec : Sig.sem s_z03_h1 → Option Res) (v : Sig.sem s_z03_h1) : Option Res := F_z03_1 n (fun z0 z5 => K (.ex 1) (s_z03_t1.enc ((z0, ()), (((), ((), ((), (v.2.1.2.2.2.1, ())))), (v.2.2.1, (v.2.2.2.1, (v.2.2.2.2.1, (z5, ())))))))) v.1.2.1 v.1.2.2.1 (fun z0 z3 z8 => rec ((z0, (v.1.2.1, (v.1.2.2.1, (z3, ())))), (((), ((), ((), (v.2.1.2.2.2.1, ())))), (v.2.2.1, (v.2.2.2.1, (v.2.2.2.2.1, (z8, ()))))))) v.1.1 v.1.2.2.2.1 v.2.2.2.2.2.1
theorem t_z03_1 (n : Nat) (K : Cont) (rec : Sig.sem s_z03_h1 → Option Res) (v : Sig.sem s_z03_h1) : runT Try.prog cf_z03 Try.f43.ntmps 4 p_z03 (ls_z03 n) b_z03_1 (s_z03_h1.enc v) (turnK 4 (p_z03.head 1) s_z03_h1 rec K) = V_z03_1 n K rec v := by kernel_rfl
noncomputable def W_z03_1 (n : Nat) (K : Cont) (m : Nat) (v : Sig.sem s_z03_h1) : Option Res := L_z03_1 n (fun z0 z5 => K (.ex 1) (s_z03_t1.enc ((z0, ()), (((), ((), ((), (v.2.1.2.2.2.1, ())))), (v.2.2.1, (v.2.2.2.1, (v.2.2.2.2.1, (z5, ())))))))) v.1.2.1 v.1.2.2.1 m v.1.1 v.1.2.2.2.1 v.2.2.2.2.2.1
theorem i_z03_1 (n : Nat) (K : Cont) : ∀ m v, iter (V_z03_1 n K) m v = W_z03_1 n K m v := by
  intro m
  induction m with
  | zero => intro v; rfl
  | succ m ih =>
    intro v
    show V_z03_1 n K (iter (V_z03_1 n K) m) v = V_z03_1 n K (W_z03_1 n K m) v
    rw [show iter (V_z03_1 n K) m = W_z03_1 n K m from funext ih]
theorem o_z03_1 (n : Nat) : ∀ L, ls_z03 n 1 = some L → ∀ s K r, L s K = some r → ∃ x s', loopN (run Try.prog cf_z03 Try.f43.ntmps 4 n p_z03 none b_z03_1) (gc 4 (p_z03.head 1)) n s = some (x, s') ∧ K x s' = some r := by
  intro L hL s K r h
  have hL : some (loopT 4 (p_z03.head 1) s_z03_h1 fun K v => W_z03_1 n K n v) = some L := hL
  cases hL
  have hb : LOk Try.prog cf_z03 Try.f43.ntmps 4 n p_z03 (ls_z03 n) b_z03_1 := ⟨trivial, ⟨⟨trivial, trivial⟩, ⟨⟨trivial, trivial⟩, trivial⟩⟩⟩
  refine loopT_ok hb (V_z03_1 n) (t_z03_1 n) n s K r ?_
  rw [← h]
  unfold loopT
  simp only [i_z03_1]
theorem m_z03 (n : Nat) (a0 : ObjS) (a1 : (List ObjS)) (a2 : (Int → Option ((List Int)))) (a3 : (Int → Option ((List InstrS)))) (a4 : (Int → Option (GroupS))) : runFT Try.prog cf_z03 p_z03 (ls_z03 n) Try.f43 (bodyOf Try.f43) (EK.encs e_z03 (((), (a0, ())), (((), ((), ((), (a1, ())))), (a2, (a3, (a4, ()))))).1) (HK.encs h_z03 (((), (a0, ())), (((), ((), ((), (a1, ())))), (a2, (a3, (a4, ()))))).2) = M_z03 n a0 a1 a2 a3 a4 := by kernel_rfl
theorem g_z03 (n : Nat) (a0 : ObjS) (a1 : (List ObjS)) (a2 : (Int → Option ((List Int)))) (a3 : (Int → Option ((List InstrS)))) (a4 : (Int → Option (GroupS))) {r : Res} (h : M_z03 n a0 a1 a2 a3 a4 = some r) : runF Try.prog cf_z03 n p_z03 43 (EK.encs e_z03 (((), (a0, ())), (((), ((), ((), (a1, ())))), (a2, (a3, (a4, ()))))).1) (HK.encs h_z03 (((), (a0, ())), (((), ((), ((), (a1, ())))), (a2, (a3, (a4, ()))))).2) = some r := by
  have hb : LOk Try.prog cf_z03 Try.f43.ntmps 4 n p_z03 (ls_z03 n) (bodyOf Try.f43) := ⟨trivial, ⟨trivial, ⟨⟨trivial, ⟨trivial, ⟨⟨trivial, (o_z03_3 n)⟩, ⟨trivial, ⟨⟨trivial, (o_z03_5 n)⟩, ⟨trivial, (o_z03_1 n)⟩⟩⟩⟩⟩⟩, ⟨trivial, trivial⟩⟩⟩⟩
  exact runFT_some Try.prog (c := bodyOf Try.f43) Try.func43 (show Try.f43.body = some (bodyOf Try.f43) from rfl) (show (2 : Nat) ≤ 88 by decide) hb ((m_z03 n a0 a1 a2 a3 a4).trans h) rfl (by kernel_rfl)
noncomputable def c_z03 : Spec := specQ e_z03 h_z03 ro_z03 rh_z03 fun a b => Q_z03 a.2.1 b.1.2.2.2.1 b.2.1 b.2.2.1 b.2.2.2.1
theorem k_z03 (hm : Try.prog.follows .mixedOrders = true) : SpecOk Try.prog 43 c_z03 := specQ_ok (pol := p_z03) hm (cf := cf_z03) (tab_ok specs_nil) fun a b r h => ⟨FUEL, g_z03 FUEL a.2.1 b.1.2.2.2.1 b.2.1 b.2.2.1 b.2.2.2.1 (decRes_some h)⟩
def s_z04_r : Sig := ⟨[5], [.ty .bool], [.one false [.mp 1], .mf ObjT (.int .i64), .one false [.ptr 3 0 0], .one false [.mp 4, .mp 5, .mp 6, .ty (.slice ObjT)], .mf (.int .i64) (.slice (.int .i64)), .mf (.int .i64) (.slice InstrT), .mf (.int .i64) GroupT, .one false [.fn 42 [(0, 0, 0), (2, 0, 0), (7, 0, 0)]]]⟩
def s_z04_h0 : Sig := ⟨[1, 3, 4, 20, 21, 22], [.ptr 0 0 0, .ptr 7 0 0, .ptr 8 0 0, .hs 9 0, .ty (.int .i64), .ty (.int .i64)], [.one false [.mp 1], .mf ObjT (.int .i64), .one false [.ptr 3 0 0], .one false [.mp 4, .mp 5, .mp 6, .ty (.slice ObjT)], .mf (.int .i64) (.slice (.int .i64)), .mf (.int .i64) (.slice InstrT), .mf (.int .i64) GroupT, .one false [.fn 42 [(0, 0, 0), (2, 0, 0), (7, 0, 0)]], .cell ObjT, .row ObjT]⟩
def s_z04_t0 : Sig := ⟨[1, 4], [.ptr 0 0 0, .ptr 8 0 0], [.one false [.mp 1], .mf ObjT (.int .i64), .one false [.ptr 3 0 0], .one false [.mp 4, .mp 5, .mp 6, .ty (.slice ObjT)], .mf (.int .i64) (.slice (.int .i64)), .mf (.int .i64) (.slice InstrT), .mf (.int .i64) GroupT, .one false [.fn 42 [(0, 0, 0), (2, 0, 0), (7, 0, 0)]], .cell ObjT]⟩
def p_z04 : Pol := ⟨fun i => if i = 0 then some [(1, .keep), (3, .keep), (4, (.own ObjT)), (20, (.own ObjT)), (21, .keep), (22, .keep)] else none, fun i => if i = 0 then some [(1, .keep), (4, (.own ObjT))] else none, some [(5, .keep)], [.keep], []⟩
noncomputable def cf_z04 (qr_z04 : ObjS → (ObjS → Option (Int)) → (List ObjS) → (Int → Option ((List Int))) → (Int → Option ((List InstrS))) → (Int → Option (GroupS)) → Option (RS ro_z04 rh_z04)) : CallF := mkCF [(43, c_z03), (42, (specQ e_z04 h_z04 ro_z04 rh_z04 fun a b => qr_z04 a.1 b.2.1 b.2.2.2.1.2.2.2.1 b.2.2.2.2.1 b.2.2.2.2.2.1 b.2.2.2.2.2.2.1))] []
noncomputable def ls_z04 (n : Nat) (qr_z04 : ObjS → (ObjS → Option (Int)) → (List ObjS) → (Int → Option ((List Int))) → (Int → Option ((List InstrS))) → (Int → Option (GroupS)) → Option (RS ro_z04 rh_z04)) : Loops := fun i => if i = 0 then some (loopT 8 (p_z04.head 0) s_z04_h0 fun K v => L_z04_0 n qr_z04 (fun z0 z1 z2 z3 z4 z5 => K .rt (s_z04_r.enc ((z0, ()), (((), ()), (z1, (((), ()), (((), ((), ((), (z2, ())))), (z3, (z4, (z5, (((), ()), ()))))))))))) (fun z0 z1 z2 z3 z4 => K (.ex 0) (s_z04_t0.enc (((), ((), ())), (((), ()), (z0, (((), ()), (((), ((), ((), (z1, ())))), (z2, (z3, (z4, (((), ()), (v.2.2.2.2.2.2.2.2.2.1, ())))))))))))) v.1.2.2.2.1 v.1.2.2.2.2.1 v.2.2.2.2.2.2.2.2.2.2.1 n v.1.2.2.2.2.2.1 v.2.2.1 v.2.2.2.2.1.2.2.2.1 v.2.2.2.2.2.1 v.2.2.2.2.2.2.1 v.2.2.2.2.2.2.2.1)
  else  none
noncomputable def b_z04_0 : Code := partOf (bodyOf Try.f42) [1, 1, 1, 0, 1, 0, 0]
noncomputable def V_z04_0 (qr_z04 : ObjS → (ObjS → Option (Int)) → (List ObjS) → (Int → Option ((List Int))) → (Int → Option ((List InstrS))) → (Int → Option (GroupS)) → Option (RS ro_z04 rh_z04)) (n : Nat) (K : Cont) (rec : Sig.sem s_z04_h0 → Option Res) (v : Sig.sem s_z04_h0) : Option Res := F_z04_0 n qr_z04 (fun z0 z1 z2 z3 z4 z5 => K .rt (s_z04_r.enc ((z0, ()), (((), ()), (z1, (((), ()), (((), ((), ((), (z2, ())))), (z3, (z4, (z5, (((), ()), ()))))))))))) (fun z0 z1 z2 z3 z4 => K (.ex 0) (s_z04_t0.enc (((), ((), ())), (((), ()), (z0, (((), ()), (((), ((), ((), (z1, ())))), (z2, (z3, (z4, (((), ()), (v.2.2.2.2.2.2.2.2.2.1, ())))))))))))) v.1.2.2.2.1 v.1.2.2.2.2.1 v.2.2.2.2.2.2.2.2.2.2.1 (fun z2 z3 z4 z5 z6 z7 => rec (((), ((), ((), (v.1.2.2.2.1, (v.1.2.2.2.2.1, (z2, ())))))), (((), ()), (z3, (((), ()), (((), ((), ((), (z4, ())))), (z5, (z6, (z7, (((), ()), (v.2.2.2.2.2.2.2.2.2.1, (v.2.2.2.2.2.2.2.2.2.2.1, ())))))))))))) v.1.2.2.2.2.2.1 v.2.2.1 v.2.2.2.2.1.2.2.2.1 v.2.2.2.2.2.1 v.2.2.2.2.2.2.1 v.2.2.2.2.2.2.2.1
theorem t_z04_0 (qr_z04 : ObjS → (ObjS → Option (Int)) → (List ObjS) → (Int → Option ((List Int))) → (Int → Option ((List InstrS))) → (Int → Option (GroupS)) → Option (RS ro_z04 rh_z04)) (n : Nat) (K : Cont) (rec : Sig.sem s_z04_h0 → Option Res) (v : Sig.sem s_z04_h0) : runT Try.prog (cf_z04 qr_z04) Try.f42.ntmps 8 p_z04 (ls_z04 n qr_z04) b_z04_0 (s_z04_h0.enc v) (turnK 8 (p_z04.head 0) s_z04_h0 rec K) = V_z04_0 qr_z04 n K rec v := by kernel_rfl
noncomputable def W_z04_0 (qr_z04 : ObjS → (ObjS → Option (Int)) → (List ObjS) → (Int → Option ((List Int))) → (Int → Option ((List InstrS))) → (Int → Option (GroupS)) → Option (RS ro_z04 rh_z04)) (n : Nat) (K : Cont) (m : Nat) (v : Sig.sem s_z04_h0) : Option Res := L_z04_0 n qr_z04 (fun z0 z1 z2 z3 z4 z5 => K .rt (s_z04_r.enc ((z0, ()), (((), ()), (z1, (((), ()), (((), ((), ((), (z2, ())))), (z3, (z4, (z5, (((), ()), ()))))))))))) (fun z0 z1 z2 z3 z4 => K (.ex 0) (s_z04_t0.enc (((), ((), ())), (((), ()), (z0, (((), ()), (((), ((), ((), (z1, ())))), (z2, (z3, (z4, (((), ()), (v.2.2.2.2.2.2.2.2.2.1, ())))))))))))) v.1.2.2.2.1 v.1.2.2.2.2.1 v.2.2.2.2.2.2.2.2.2.2.1 m v.1.2.2.2.2.2.1 v.2.2.1 v.2.2.2.2.1.2.2.2.1 v.2.2.2.2.2.1 v.2.2.2.2.2.2.1 v.2.2.2.2.2.2.2.1
theorem i_z04_0 (qr_z04 : ObjS → (ObjS → Option (Int)) → (List ObjS) → (Int → Option ((List Int))) → (Int → Option ((List InstrS))) → (Int → Option (GroupS)) → Option (RS ro_z04 rh_z04)) (n : Nat) (K : Cont) : ∀ m v, iter (V_z04_0 qr_z04 n K) m v = W_z04_0 qr_z04 n K m v := by
  intro m
  induction m with
  | zero => intro v; rfl
  | succ m ih =>
    intro v
    show V_z04_0 qr_z04 n K (iter (V_z04_0 qr_z04 n K) m) v = V_z04_0 qr_z04 n K (W_z04_0 qr_z04 n K m) v
    rw [show iter (V_z04_0 qr_z04 n K) m = W_z04_0 qr_z04 n K m from funext ih]
theorem o_z04_0 (qr_z04 : ObjS → (ObjS → Option (Int)) → (List ObjS) → (Int → Option ((List Int))) → (Int → Option ((List InstrS))) → (Int → Option (GroupS)) → Option (RS ro_z04 rh_z04)) (n : Nat) : ∀ L, ls_z04 n qr_z04 0 = some L → ∀ s K r, L s K = some r → ∃ x s', loopN (run Try.prog (cf_z04 qr_z04) Try.f42.ntmps 8 n p_z04 none b_z04_0) (gc 8 (p_z04.head 0)) n s = some (x, s') ∧ K x s' = some r := by
  intro L hL s K r h
  have hL : some (loopT 8 (p_z04.head 0) s_z04_h0 fun K v => W_z04_0 qr_z04 n K n v) = some L := hL
  cases hL
  have hb : LOk Try.prog (cf_z04 qr_z04) Try.f42.ntmps 8 n p_z04 (ls_z04 n qr_z04) b_z04_0 := ⟨trivial, ⟨⟨trivial, trivial⟩, ⟨⟨trivial, ⟨trivial, ⟨⟨trivial, trivial⟩, trivial⟩⟩⟩, trivial⟩⟩⟩
  refine loopT_ok hb (V_z04_0 qr_z04 n) (t_z04_0 qr_z04 n) n s K r ?_
  rw [← h]
  unfold loopT
  simp only [i_z04_0]
theorem m_z04 (n : Nat) (qr_z04 : ObjS → (ObjS → Option (Int)) → (List ObjS) → (Int → Option ((List Int))) → (Int → Option ((List InstrS))) → (Int → Option (GroupS)) → Option (RS ro_z04 rh_z04)) (a0 : ObjS) (a1 : (ObjS → Option (Int))) (a2 : (List ObjS)) (a3 : (Int → Option ((List Int)))) (a4 : (Int → Option ((List InstrS)))) (a5 : (Int → Option (GroupS))) : runFT Try.prog (cf_z04 qr_z04) p_z04 (ls_z04 n qr_z04) Try.f42 (bodyOf Try.f42) (EK.encs e_z04 ((a0, ((), ((), ((), ())))), (((), ()), (a1, (((), ()), (((), ((), ((), (a2, ())))), (a3, (a4, (a5, (((), ()), ()))))))))).1) (HK.encs h_z04 ((a0, ((), ((), ((), ())))), (((), ()), (a1, (((), ()), (((), ((), ((), (a2, ())))), (a3, (a4, (a5, (((), ()), ()))))))))).2) = M_z04 n qr_z04 a0 a1 a2 a3 a4 a5 := by kernel_rfl
theorem g_z04 (n : Nat) (qr_z04 : ObjS → (ObjS → Option (Int)) → (List ObjS) → (Int → Option ((List Int))) → (Int → Option ((List InstrS))) → (Int → Option (GroupS)) → Option (RS ro_z04 rh_z04)) (a0 : ObjS) (a1 : (ObjS → Option (Int))) (a2 : (List ObjS)) (a3 : (Int → Option ((List Int)))) (a4 : (Int → Option ((List InstrS)))) (a5 : (Int → Option (GroupS))) {r : Res} (h : M_z04 n qr_z04 a0 a1 a2 a3 a4 a5 = some r) : runF Try.prog (cf_z04 qr_z04) n p_z04 42 (EK.encs e_z04 ((a0, ((), ((), ((), ())))), (((), ()), (a1, (((), ()), (((), ((), ((), (a2, ())))), (a3, (a4, (a5, (((), ()), ()))))))))).1) (HK.encs h_z04 ((a0, ((), ((), ((), ())))), (((), ()), (a1, (((), ()), (((), ((), ((), (a2, ())))), (a3, (a4, (a5, (((), ()), ()))))))))).2) = some r := by
  have hb : LOk Try.prog (cf_z04 qr_z04) Try.f42.ntmps 8 n p_z04 (ls_z04 n qr_z04) (bodyOf Try.f42) := ⟨trivial, ⟨⟨trivial, ⟨⟨trivial, trivial⟩, trivial⟩⟩, ⟨trivial, ⟨⟨trivial, (o_z04_0 qr_z04 n)⟩, ⟨trivial, ⟨trivial, trivial⟩⟩⟩⟩⟩⟩
  exact runFT_some Try.prog (c := bodyOf Try.f42) Try.func42 (show Try.f42.body = some (bodyOf Try.f42) from rfl) (show (4 : Nat) ≤ 32 by decide) hb ((m_z04 n qr_z04 a0 a1 a2 a3 a4 a5).trans h) rfl (by kernel_rfl)
noncomputable def c_z04 : Spec := specQ e_z04 h_z04 ro_z04 rh_z04 fun a b => Q_z04 a.1 b.2.1 b.2.2.2.1.2.2.2.1 b.2.2.2.2.1 b.2.2.2.2.2.1 b.2.2.2.2.2.2.1
theorem kr_z04 (hm : Try.prog.follows .mixedOrders = true) (qr_z04 : ObjS → (ObjS → Option (Int)) → (List ObjS) → (Int → Option ((List Int))) → (Int → Option ((List InstrS))) → (Int → Option (GroupS)) → Option (RS ro_z04 rh_z04)) (hr_z04 : SpecOk Try.prog 42 (specQ e_z04 h_z04 ro_z04 rh_z04 fun a b => qr_z04 a.1 b.2.1 b.2.2.2.1.2.2.2.1 b.2.2.2.2.1 b.2.2.2.2.2.1 b.2.2.2.2.2.2.1)) : CallSound Try.prog (cf_z04 qr_z04) := tab_ok (specs_cons (k_z03 hm) (specs_cons (hr_z04) specs_nil))
theorem kd_z04 (hm : Try.prog.follows .mixedOrders = true) : ∀ dp, SpecOk Try.prog 42 (specQ e_z04 h_z04 ro_z04 rh_z04 fun a b => Qd_z04 dp a.1 b.2.1 b.2.2.2.1.2.2.2.1 b.2.2.2.2.1 b.2.2.2.2.2.1 b.2.2.2.2.2.2.1)
  | 0 => specQ_ok (pol := p_z04) hm (cf := mkCF [] []) (tab_ok specs_nil) fun a b r h => by cases h
  | dp + 1 => specQ_ok (pol := p_z04) hm (kr_z04 hm (Qd_z04 dp) (kd_z04 hm dp)) fun a b r h => ⟨FUEL, g_z04 FUEL (Qd_z04 dp) a.1 b.2.1 b.2.2.2.1.2.2.2.1 b.2.2.2.2.1 b.2.2.2.2.2.1 b.2.2.2.2.2.2.1 (decRes_some h)⟩
theorem k_z04 (hm : Try.prog.follows .mixedOrders = true) : SpecOk Try.prog 42 c_z04 := kd_z04 hm FUEL
def s_z05_h0 : Sig := ⟨[4, 12, 13, 14], [.ptr 4 0 0, .ty (.slice ObjT), .ty (.int .i64), .ty (.int .i64)], [.one false [.mp 1, .mp 2, .mp 3, .ty (.slice ObjT)], .mf (.int .i64) (.slice (.int .i64)), .mf (.int .i64) (.slice InstrT), .mf (.int .i64) GroupT, .one false [.fn 42 [(5, 0, 0), (7, 0, 0), (4, 0, 0)]], .one false [.mp 6], .mf ObjT (.int .i64), .one false [.ptr 0 0 0]]⟩
def s_z05_r : Sig := ⟨[2], [.ty .bool], [.one false [.mp 1, .mp 2, .mp 3, .ty (.slice ObjT)], .mf (.int .i64) (.slice (.int .i64)), .mf (.int .i64) (.slice InstrT), .mf (.int .i64) GroupT]⟩
def s_z05_t0 : Sig := ⟨[], [], [.one false [.mp 1, .mp 2, .mp 3, .ty (.slice ObjT)], .mf (.int .i64) (.slice (.int .i64)), .mf (.int .i64) (.slice InstrT), .mf (.int .i64) GroupT]⟩
def p_z05 : Pol := ⟨fun i => if i = 0 then some [(4, .keep), (12, .keep), (13, .keep), (14, .keep)] else none, fun i => if i = 0 then some [] else none, some [(2, .keep)], [.keep], []⟩
def e_z05 : List EK := [.ptr 0 0 0]
def h_z05 : List HK := [.one false [.mp 1, .mp 2, .mp 3, .ty (.slice ObjT)], .mf (.int .i64) (.slice (.int .i64)), .mf (.int .i64) (.slice InstrT), .mf (.int .i64) GroupT]
noncomputable def cf_z05 : CallF := mkCF [(42, c_z04)] []
noncomputable def ls_z05 (n : Nat) : Loops := fun i => if i = 0 then some (loopT 4 (p_z05.head 0) s_z05_h0 fun K v => L_z05_0 n (fun z0 z1 z2 z3 z4 => K .rt (s_z05_r.enc ((z0, ()), (((), ((), ((), (z1, ())))), (z2, (z3, (z4, ()))))))) (fun z0 z1 z2 z3 => K (.ex 0) (s_z05_t0.enc ((), (((), ((), ((), (z0, ())))), (z1, (z2, (z3, ()))))))) v.1.2.1 v.1.2.2.1 n v.1.2.2.2.1 v.2.1.2.2.2.1 v.2.2.1 v.2.2.2.1 v.2.2.2.2.1 v.2.2.2.2.2.2.2.1)
  else  none
noncomputable def b_z05_0 : Code := partOf (bodyOf Try.f31) [1, 1, 1, 1, 0, 1, 0, 0]
noncomputable def V_z05_0 (n : Nat) (K : Cont) (rec : Sig.sem s_z05_h0 → Option Res) (v : Sig.sem s_z05_h0) : Option Res := F_z05_0 n (fun z0 z1 z2 z3 z4 => K .rt (s_z05_r.enc ((z0, ()), (((), ((), ((), (z1, ())))), (z2, (z3, (z4, ()))))))) (fun z0 z1 z2 z3 => K (.ex 0) (s_z05_t0.enc ((), (((), ((), ((), (z0, ())))), (z1, (z2, (z3, ()))))))) v.1.2.1 v.1.2.2.1 (fun z2 z3 z4 z5 z6 z7 => rec (((), (v.1.2.1, (v.1.2.2.1, (z2, ())))), (((), ((), ((), (z3, ())))), (z4, (z5, (z6, (((), ()), (((), ()), (z7, (((), ()), ())))))))))) v.1.2.2.2.1 v.2.1.2.2.2.1 v.2.2.1 v.2.2.2.1 v.2.2.2.2.1 v.2.2.2.2.2.2.2.1
theorem t_z05_0 (n : Nat) (K : Cont) (rec : Sig.sem s_z05_h0 → Option Res) (v : Sig.sem s_z05_h0) : runT Try.prog cf_z05 Try.f31.ntmps 4 p_z05 (ls_z05 n) b_z05_0 (s_z05_h0.enc v) (turnK 4 (p_z05.head 0) s_z05_h0 rec K) = V_z05_0 n K rec v := by kernel_rfl
noncomputable def W_z05_0 (n : Nat) (K : Cont) (m : Nat) (v : Sig.sem s_z05_h0) : Option Res := L_z05_0 n (fun z0 z1 z2 z3 z4 => K .rt (s_z05_r.enc ((z0, ()), (((), ((), ((), (z1, ())))), (z2, (z3, (z4, ()))))))) (fun z0 z1 z2 z3 => K (.ex 0) (s_z05_t0.enc ((), (((), ((), ((), (z0, ())))), (z1, (z2, (z3, ()))))))) v.1.2.1 v.1.2.2.1 m v.1.2.2.2.1 v.2.1.2.2.2.1 v.2.2.1 v.2.2.2.1 v.2.2.2.2.1 v.2.2.2.2.2.2.2.1
theorem i_z05_0 (n : Nat) (K : Cont) : ∀ m v, iter (V_z05_0 n K) m v = W_z05_0 n K m v := by
  intro m
  induction m with
  | zero => intro v; rfl
  | succ m ih =>
    intro v
    show V_z05_0 n K (iter (V_z05_0 n K) m) v = V_z05_0 n K (W_z05_0 n K m) v
    rw [show iter (V_z05_0 n K) m = W_z05_0 n K m from funext ih]
theorem o_z05_0 (n : Nat) : ∀ L, ls_z05 n 0 = some L → ∀ s K r, L s K = some r → ∃ x s', loopN (run Try.prog cf_z05 Try.f31.ntmps 4 n p_z05 none b_z05_0) (gc 4 (p_z05.head 0)) n s = some (x, s') ∧ K x s' = some r := by
  intro L hL s K r h
  have hL : some (loopT 4 (p_z05.head 0) s_z05_h0 fun K v => W_z05_0 n K n v) = some L := hL
  cases hL
  have hb : LOk Try.prog cf_z05 Try.f31.ntmps 4 n p_z05 (ls_z05 n) b_z05_0 := ⟨trivial, ⟨⟨trivial, trivial⟩, ⟨⟨trivial, ⟨trivial, ⟨⟨trivial, trivial⟩, trivial⟩⟩⟩, trivial⟩⟩⟩
  refine loopT_ok hb (V_z05_0 n) (t_z05_0 n) n s K r ?_
  rw [← h]
  unfold loopT
  simp only [i_z05_0]
theorem m_z05 (n : Nat) (a0 : (List ObjS)) (a1 : (Int → Option ((List Int)))) (a2 : (Int → Option ((List InstrS)))) (a3 : (Int → Option (GroupS))) : runFT Try.prog cf_z05 p_z05 (ls_z05 n) Try.f31 (bodyOf Try.f31) (EK.encs e_z05 (((), ()), (((), ((), ((), (a0, ())))), (a1, (a2, (a3, ()))))).1) (HK.encs h_z05 (((), ()), (((), ((), ((), (a0, ())))), (a1, (a2, (a3, ()))))).2) = M_z05 n a0 a1 a2 a3 := by kernel_rfl
theorem g_z05 (n : Nat) (a0 : (List ObjS)) (a1 : (Int → Option ((List Int)))) (a2 : (Int → Option ((List InstrS)))) (a3 : (Int → Option (GroupS))) {r : Res} (h : M_z05 n a0 a1 a2 a3 = some r) : runF Try.prog cf_z05 n p_z05 31 (EK.encs e_z05 (((), ()), (((), ((), ((), (a0, ())))), (a1, (a2, (a3, ()))))).1) (HK.encs h_z05 (((), ()), (((), ((), ((), (a0, ())))), (a1, (a2, (a3, ()))))).2) = some r := by
  have hb : LOk Try.prog cf_z05 Try.f31.ntmps 4 n p_z05 (ls_z05 n) (bodyOf Try.f31) := ⟨trivial, ⟨trivial, ⟨trivial, ⟨trivial, ⟨⟨trivial, (o_z05_0 n)⟩, ⟨trivial, trivial⟩⟩⟩⟩⟩⟩
  exact runFT_some Try.prog (c := bodyOf Try.f31) Try.func31 (show Try.f31.body = some (bodyOf Try.f31) from rfl) (show (1 : Nat) ≤ 22 by decide) hb ((m_z05 n a0 a1 a2 a3).trans h) rfl (by kernel_rfl)
noncomputable def c_z05 : Spec := specQ e_z05 h_z05 ro_z05 rh_z05 fun a b => Q_z05 b.1.2.2.2.1 b.2.1 b.2.2.1 b.2.2.2.1
theorem k_z05 (hm : Try.prog.follows .mixedOrders = true) : SpecOk Try.prog 31 c_z05 := specQ_ok (pol := p_z05) hm (cf := cf_z05) (tab_ok (specs_cons (k_z04 hm) specs_nil)) fun a b r h => ⟨FUEL, g_z05 FUEL b.1.2.2.2.1 b.2.1 b.2.2.1 b.2.2.2.1 (decRes_some h)⟩
def e_z07 : List EK := [.agg ObjT, .ptr 0 0 0, .ptr 2 0 0, .ptr 7 0 0, .ptr 8 0 0]
def h_z07 : List HK := [.one false [.mp 1], .mf ObjT (.int .i64), .one false [.ptr 3 0 0], .one false [.mp 4, .mp 5, .mp 6, .ty (.slice ObjT)], .mf (.int .i64) (.slice (.int .i64)), .mf (.int .i64) (.slice InstrT), .mf (.int .i64) GroupT, .one false [.fn 57 [(0, 0, 0), (2, 0, 0), (7, 0, 0), (8, 0, 0)]], .one false [.fn 56 [(7, 0, 0)]]]
def s_z06_h0 : Sig := ⟨[0, 1, 4, 5], [.ty (.slice InstrT), .ptr 0 0 0, .hs 9 0, .ty (.int .i64)], [.one false [.fn 57 [(1, 0, 0), (3, 0, 0), (0, 0, 0), (8, 0, 0)]], .one false [.mp 2], .mf ObjT (.int .i64), .one false [.ptr 4 0 0], .one false [.mp 5, .mp 6, .mp 7, .ty (.slice ObjT)], .mf (.int .i64) (.slice (.int .i64)), .mf (.int .i64) (.slice InstrT), .mf (.int .i64) GroupT, .one false [.fn 56 [(0, 0, 0)]], .row (.int .i64)]⟩
def s_z06_t0 : Sig := ⟨[4], [.hs 9 0], [.one false [.fn 57 [(1, 0, 0), (3, 0, 0), (0, 0, 0), (8, 0, 0)]], .one false [.mp 2], .mf ObjT (.int .i64), .one false [.ptr 4 0 0], .one false [.mp 5, .mp 6, .mp 7, .ty (.slice ObjT)], .mf (.int .i64) (.slice (.int .i64)), .mf (.int .i64) (.slice InstrT), .mf (.int .i64) GroupT, .one false [.fn 56 [(0, 0, 0)]], .row (.int .i64)]⟩
def s_z06_r : Sig := ⟨[3], [.ty (.int .i64)], [.one false [.fn 57 [(1, 0, 0), (3, 0, 0), (0, 0, 0), (8, 0, 0)]], .one false [.mp 2], .mf ObjT (.int .i64), .one false [.ptr 4 0 0], .one false [.mp 5, .mp 6, .mp 7, .ty (.slice ObjT)], .mf (.int .i64) (.slice (.int .i64)), .mf (.int .i64) (.slice InstrT), .mf (.int .i64) GroupT, .one false [.fn 56 [(0, 0, 0)]]]⟩
def p_z06 : Pol := ⟨fun i => if i = 0 then some [(0, .keep), (1, .keep), (4, (.own (.int .i64))), (5, .keep)] else none, fun i => if i = 0 then some [(4, (.own (.int .i64)))] else none, some [(3, .keep)], [.keep], []⟩
def e_z06 : List EK := [.ty (.slice InstrT), .ptr 0 0 0]
def h_z06 : List HK := [.one false [.fn 57 [(1, 0, 0), (3, 0, 0), (0, 0, 0), (8, 0, 0)]], .one false [.mp 2], .mf ObjT (.int .i64), .one false [.ptr 4 0 0], .one false [.mp 5, .mp 6, .mp 7, .ty (.slice ObjT)], .mf (.int .i64) (.slice (.int .i64)), .mf (.int .i64) (.slice InstrT), .mf (.int .i64) GroupT, .one false [.fn 56 [(0, 0, 0)]]]
noncomputable def cf_z06 (qr_z07 : ObjS → (ObjS → Option (Int)) → (List ObjS) → (Int → Option ((List Int))) → (Int → Option ((List InstrS))) → (Int → Option (GroupS)) → Option (RS ro_z07 rh_z07)) : CallF := mkCF [(57, (specQ e_z07 h_z07 ro_z07 rh_z07 fun a b => qr_z07 a.1 b.2.1 b.2.2.2.1.2.2.2.1 b.2.2.2.2.1 b.2.2.2.2.2.1 b.2.2.2.2.2.2.1))] []
noncomputable def ls_z06 (n : Nat) (qr_z07 : ObjS → (ObjS → Option (Int)) → (List ObjS) → (Int → Option ((List Int))) → (Int → Option ((List InstrS))) → (Int → Option (GroupS)) → Option (RS ro_z07 rh_z07)) : Loops := fun i => if i = 0 then some (loopT 9 (p_z06.head 0) s_z06_h0 fun K v => L_z06_0 n qr_z07 (fun z1 z2 z3 z4 z5 z6 => K (.ex 0) (s_z06_t0.enc ((v.1.2.2.1, ()), (((), ()), (((), ()), (z1, (((), ()), (((), ((), ((), (z2, ())))), (z3, (z4, (z5, (((), ()), (z6, ()))))))))))))) v.1.1 v.1.2.2.1 n v.1.2.2.2.1 v.2.2.2.1 v.2.2.2.2.2.1.2.2.2.1 v.2.2.2.2.2.2.1 v.2.2.2.2.2.2.2.1 v.2.2.2.2.2.2.2.2.1 v.2.2.2.2.2.2.2.2.2.2.1)
  else  none
noncomputable def b_z06_0 : Code := partOf (bodyOf Try.f56) [1, 1, 0, 1, 0, 0]
noncomputable def V_z06_0 (qr_z07 : ObjS → (ObjS → Option (Int)) → (List ObjS) → (Int → Option ((List Int))) → (Int → Option ((List InstrS))) → (Int → Option (GroupS)) → Option (RS ro_z07 rh_z07)) (n : Nat) (K : Cont) (rec : Sig.sem s_z06_h0 → Option Res) (v : Sig.sem s_z06_h0) : Option Res := F_z06_0 n qr_z07 (fun z1 z2 z3 z4 z5 z6 => K (.ex 0) (s_z06_t0.enc ((v.1.2.2.1, ()), (((), ()), (((), ()), (z1, (((), ()), (((), ((), ((), (z2, ())))), (z3, (z4, (z5, (((), ()), (z6, ()))))))))))))) v.1.1 v.1.2.2.1 (fun z2 z3 z4 z5 z6 z7 z8 => rec ((v.1.1, ((), (v.1.2.2.1, (z2, ())))), (((), ()), (((), ()), (z3, (((), ()), (((), ((), ((), (z4, ())))), (z5, (z6, (z7, (((), ()), (z8, ())))))))))))) v.1.2.2.2.1 v.2.2.2.1 v.2.2.2.2.2.1.2.2.2.1 v.2.2.2.2.2.2.1 v.2.2.2.2.2.2.2.1 v.2.2.2.2.2.2.2.2.1 v.2.2.2.2.2.2.2.2.2.2.1
theorem t_z06_0 (qr_z07 : ObjS → (ObjS → Option (Int)) → (List ObjS) → (Int → Option ((List Int))) → (Int → Option ((List InstrS))) → (Int → Option (GroupS)) → Option (RS ro_z07 rh_z07)) (n : Nat) (K : Cont) (rec : Sig.sem s_z06_h0 → Option Res) (v : Sig.sem s_z06_h0) : runT Try.prog (cf_z06 qr_z07) Try.f56.ntmps 9 p_z06 (ls_z06 n qr_z07) b_z06_0 (s_z06_h0.enc v) (turnK 9 (p_z06.head 0) s_z06_h0 rec K) = V_z06_0 qr_z07 n K rec v := by kernel_rfl
noncomputable def W_z06_0 (qr_z07 : ObjS → (ObjS → Option (Int)) → (List ObjS) → (Int → Option ((List Int))) → (Int → Option ((List InstrS))) → (Int → Option (GroupS)) → Option (RS ro_z07 rh_z07)) (n : Nat) (K : Cont) (m : Nat) (v : Sig.sem s_z06_h0) : Option Res := L_z06_0 n qr_z07 (fun z1 z2 z3 z4 z5 z6 => K (.ex 0) (s_z06_t0.enc ((v.1.2.2.1, ()), (((), ()), (((), ()), (z1, (((), ()), (((), ((), ((), (z2, ())))), (z3, (z4, (z5, (((), ()), (z6, ()))))))))))))) v.1.1 v.1.2.2.1 m v.1.2.2.2.1 v.2.2.2.1 v.2.2.2.2.2.1.2.2.2.1 v.2.2.2.2.2.2.1 v.2.2.2.2.2.2.2.1 v.2.2.2.2.2.2.2.2.1 v.2.2.2.2.2.2.2.2.2.2.1
theorem i_z06_0 (qr_z07 : ObjS → (ObjS → Option (Int)) → (List ObjS) → (Int → Option ((List Int))) → (Int → Option ((List InstrS))) → (Int → Option (GroupS)) → Option (RS ro_z07 rh_z07)) (n : Nat) (K : Cont) : ∀ m v, iter (V_z06_0 qr_z07 n K) m v = W_z06_0 qr_z07 n K m v := by
  intro m
  induction m with
  | zero => intro v; rfl
  | succ m ih =>
    intro v
    show V_z06_0 qr_z07 n K (iter (V_z06_0 qr_z07 n K) m) v = V_z06_0 qr_z07 n K (W_z06_0 qr_z07 n K m) v
    rw [show iter (V_z06_0 qr_z07 n K) m = W_z06_0 qr_z07 n K m from funext ih]
theorem o_z06_0 (qr_z07 : ObjS → (ObjS → Option (Int)) → (List ObjS) → (Int → Option ((List Int))) → (Int → Option ((List InstrS))) → (Int → Option (GroupS)) → Option (RS ro_z07 rh_z07)) (n : Nat) : ∀ L, ls_z06 n qr_z07 0 = some L → ∀ s K r, L s K = some r → ∃ x s', loopN (run Try.prog (cf_z06 qr_z07) Try.f56.ntmps 9 n p_z06 none b_z06_0) (gc 9 (p_z06.head 0)) n s = some (x, s') ∧ K x s' = some r := by
  intro L hL s K r h
  have hL : some (loopT 9 (p_z06.head 0) s_z06_h0 fun K v => W_z06_0 qr_z07 n K n v) = some L := hL
  cases hL
  have hb : LOk Try.prog (cf_z06 qr_z07) Try.f56.ntmps 9 n p_z06 (ls_z06 n qr_z07) b_z06_0 := ⟨⟨trivial, ⟨trivial, trivial⟩⟩, ⟨⟨trivial, ⟨⟨trivial, ⟨⟨trivial, ⟨trivial, trivial⟩⟩, ⟨trivial, ⟨trivial, ⟨trivial, ⟨trivial, ⟨trivial, ⟨trivial, ⟨⟨trivial, ⟨trivial, ⟨trivial, trivial⟩⟩⟩, trivial⟩⟩⟩⟩⟩⟩⟩⟩⟩, trivial⟩⟩, trivial⟩⟩
  refine loopT_ok hb (V_z06_0 qr_z07 n) (t_z06_0 qr_z07 n) n s K r ?_
  rw [← h]
  unfold loopT
  simp only [i_z06_0]
theorem m_z06 (n : Nat) (qr_z07 : ObjS → (ObjS → Option (Int)) → (List ObjS) → (Int → Option ((List Int))) → (Int → Option ((List InstrS))) → (Int → Option (GroupS)) → Option (RS ro_z07 rh_z07)) (a0 : (List InstrS)) (a1 : (ObjS → Option (Int))) (a2 : (List ObjS)) (a3 : (Int → Option ((List Int)))) (a4 : (Int → Option ((List InstrS)))) (a5 : (Int → Option (GroupS))) : runFT Try.prog (cf_z06 qr_z07) p_z06 (ls_z06 n qr_z07) Try.f56 (bodyOf Try.f56) (EK.encs e_z06 ((a0, ((), ())), (((), ()), (((), ()), (a1, (((), ()), (((), ((), ((), (a2, ())))), (a3, (a4, (a5, (((), ()), ())))))))))).1) (HK.encs h_z06 ((a0, ((), ())), (((), ()), (((), ()), (a1, (((), ()), (((), ((), ((), (a2, ())))), (a3, (a4, (a5, (((), ()), ())))))))))).2) = M_z06 n qr_z07 a0 a1 a2 a3 a4 a5 := by kernel_rfl
theorem g_z06 (n : Nat) (qr_z07 : ObjS → (ObjS → Option (Int)) → (List ObjS) → (Int → Option ((List Int))) → (Int → Option ((List InstrS))) → (Int → Option (GroupS)) → Option (RS ro_z07 rh_z07)) (a0 : (List InstrS)) (a1 : (ObjS → Option (Int))) (a2 : (List ObjS)) (a3 : (Int → Option ((List Int)))) (a4 : (Int → Option ((List InstrS)))) (a5 : (Int → Option (GroupS))) {r : Res} (h : M_z06 n qr_z07 a0 a1 a2 a3 a4 a5 = some r) : runF Try.prog (cf_z06 qr_z07) n p_z06 56 (EK.encs e_z06 ((a0, ((), ())), (((), ()), (((), ()), (a1, (((), ()), (((), ((), ((), (a2, ())))), (a3, (a4, (a5, (((), ()), ())))))))))).1) (HK.encs h_z06 ((a0, ((), ())), (((), ()), (((), ()), (a1, (((), ()), (((), ((), ((), (a2, ())))), (a3, (a4, (a5, (((), ()), ())))))))))).2) = some r := by
  have hb : LOk Try.prog (cf_z06 qr_z07) Try.f56.ntmps 9 n p_z06 (ls_z06 n qr_z07) (bodyOf Try.f56) := ⟨trivial, ⟨trivial, ⟨⟨trivial, (o_z06_0 qr_z07 n)⟩, ⟨trivial, trivial⟩⟩⟩⟩
  exact runFT_some Try.prog (c := bodyOf Try.f56) Try.func56 (show Try.f56.body = some (bodyOf Try.f56) from rfl) (show (2 : Nat) ≤ 88 by decide) hb ((m_z06 n qr_z07 a0 a1 a2 a3 a4 a5).trans h) rfl (by kernel_rfl)
noncomputable def c_z06 (qr_z07 : ObjS → (ObjS → Option (Int)) → (List ObjS) → (Int → Option ((List Int))) → (Int → Option ((List InstrS))) → (Int → Option (GroupS)) → Option (RS ro_z07 rh_z07)) : Spec := specQ e_z06 h_z06 ro_z06 rh_z06 fun a b => Q_z06 qr_z07 a.1 b.2.2.1 b.2.2.2.2.1.2.2.2.1 b.2.2.2.2.2.1 b.2.2.2.2.2.2.1 b.2.2.2.2.2.2.2.1
theorem k_z06 (hm : Try.prog.follows .mixedOrders = true) (qr_z07 : ObjS → (ObjS → Option (Int)) → (List ObjS) → (Int → Option ((List Int))) → (Int → Option ((List InstrS))) → (Int → Option (GroupS)) → Option (RS ro_z07 rh_z07)) (hr_z07 : SpecOk Try.prog 57 (specQ e_z07 h_z07 ro_z07 rh_z07 fun a b => qr_z07 a.1 b.2.1 b.2.2.2.1.2.2.2.1 b.2.2.2.2.1 b.2.2.2.2.2.1 b.2.2.2.2.2.2.1)) : SpecOk Try.prog 56 (c_z06 qr_z07) := specQ_ok (pol := p_z06) hm (cf := (cf_z06 qr_z07)) (tab_ok (specs_cons (hr_z07) specs_nil)) fun a b r h => ⟨FUEL, g_z06 FUEL qr_z07 a.1 b.2.2.1 b.2.2.2.2.1.2.2.2.1 b.2.2.2.2.2.1 b.2.2.2.2.2.2.1 b.2.2.2.2.2.2.2.1 (decRes_some h)⟩
def s_z07_r : Sig := ⟨[6], [.ty (.int .i64)], [.one false [.mp 1], .mf ObjT (.int .i64), .one false [.ptr 3 0 0], .one false [.mp 4, .mp 5, .mp 6, .ty (.slice ObjT)], .mf (.int .i64) (.slice (.int .i64)), .mf (.int .i64) (.slice InstrT), .mf (.int .i64) GroupT, .one false [.fn 57 [(0, 0, 0), (2, 0, 0), (7, 0, 0), (8, 0, 0)]], .one false [.fn 56 [(7, 0, 0)]]]⟩
def s_z07_h3 : Sig := ⟨[1, 3, 5, 9, 11, 70, 71, 72], [.ptr 0 0 0, .ptr 7 0 0, .ptr 9 0 0, .ty (.int .i64), .ty .bool, .ty (.slice (.int .i64)), .ty (.int .i64), .ty (.int .i64)], [.one false [.mp 1], .mf ObjT (.int .i64), .one false [.ptr 3 0 0], .one false [.mp 4, .mp 5, .mp 6, .ty (.slice ObjT)], .mf (.int .i64) (.slice (.int .i64)), .mf (.int .i64) (.slice InstrT), .mf (.int .i64) GroupT, .one false [.fn 57 [(0, 0, 0), (2, 0, 0), (7, 0, 0), (8, 0, 0)]], .one false [.fn 56 [(7, 0, 0)]], .cell ObjT]⟩
def s_z07_t3 : Sig := ⟨[1, 5, 9, 11], [.ptr 0 0 0, .ptr 9 0 0, .ty (.int .i64), .ty .bool], [.one false [.mp 1], .mf ObjT (.int .i64), .one false [.ptr 3 0 0], .one false [.mp 4, .mp 5, .mp 6, .ty (.slice ObjT)], .mf (.int .i64) (.slice (.int .i64)), .mf (.int .i64) (.slice InstrT), .mf (.int .i64) GroupT, .one false [.fn 57 [(0, 0, 0), (2, 0, 0), (7, 0, 0), (8, 0, 0)]], .one false [.fn 56 [(7, 0, 0)]], .cell ObjT]⟩
def s_z07_h1 : Sig := ⟨[1, 3, 5, 9, 14, 36, 37, 38], [.ptr 0 0 0, .ptr 7 0 0, .ptr 9 0 0, .ty (.int .i64), .ptr 10 0 0, .ty (.slice BucketT), .ty (.int .i64), .ty (.int .i64)], [.one false [.mp 1], .mf ObjT (.int .i64), .one false [.ptr 3 0 0], .one false [.mp 4, .mp 5, .mp 6, .ty (.slice ObjT)], .mf (.int .i64) (.slice (.int .i64)), .mf (.int .i64) (.slice InstrT), .mf (.int .i64) GroupT, .one false [.fn 57 [(0, 0, 0), (2, 0, 0), (7, 0, 0), (8, 0, 0)]], .one false [.fn 56 [(7, 0, 0)]], .cell ObjT, .cell GroupT]⟩
def s_z07_t1 : Sig := ⟨[1, 5, 9], [.ptr 0 0 0, .ptr 9 0 0, .ty (.int .i64)], [.one false [.mp 1], .mf ObjT (.int .i64), .one false [.ptr 3 0 0], .one false [.mp 4, .mp 5, .mp 6, .ty (.slice ObjT)], .mf (.int .i64) (.slice (.int .i64)), .mf (.int .i64) (.slice InstrT), .mf (.int .i64) GroupT, .one false [.fn 57 [(0, 0, 0), (2, 0, 0), (7, 0, 0), (8, 0, 0)]], .one false [.fn 56 [(7, 0, 0)]], .cell ObjT]⟩
def p_z07 : Pol := ⟨fun i => if i = 3 then some [(1, .keep), (3, .keep), (5, (.own ObjT)), (9, .keep), (11, .keep), (70, .keep), (71, .keep), (72, .keep)] else if i = 1 then some [(1, .keep), (3, .keep), (5, (.own ObjT)), (9, .keep), (14, (.own GroupT)), (36, .keep), (37, .keep), (38, .keep)] else none, fun i => if i = 3 then some [(1, .keep), (5, (.own ObjT)), (9, .keep), (11, .keep)] else if i = 1 then some [(1, .keep), (5, (.own ObjT)), (9, .keep)] else none, some [(6, .keep)], [.keep], []⟩
noncomputable def cf_z07 (qr_z07 : ObjS → (ObjS → Option (Int)) → (List ObjS) → (Int → Option ((List Int))) → (Int → Option ((List InstrS))) → (Int → Option (GroupS)) → Option (RS ro_z07 rh_z07)) : CallF := mkCF [(57, (specQ e_z07 h_z07 ro_z07 rh_z07 fun a b => qr_z07 a.1 b.2.1 b.2.2.2.1.2.2.2.1 b.2.2.2.2.1 b.2.2.2.2.2.1 b.2.2.2.2.2.2.1)), (56, (c_z06 qr_z07))] []
noncomputable def ls_z07 (n : Nat) (qr_z07 : ObjS → (ObjS → Option (Int)) → (List ObjS) → (Int → Option ((List Int))) → (Int → Option ((List InstrS))) → (Int → Option (GroupS)) → Option (RS ro_z07 rh_z07)) : Loops := fun i => if i = 3 then some (loopT 9 (p_z07.head 3) s_z07_h3 fun K v => L_z07_3 n qr_z07 (fun z0 z2 z3 z4 z5 z6 => K (.ex 3) (s_z07_t3.enc (((), ((), (z0, (v.1.2.2.2.2.1, ())))), (((), ()), (z2, (((), ()), (((), ((), ((), (z3, ())))), (z4, (z5, (z6, (((), ()), (((), ()), (v.2.2.2.2.2.2.2.2.2.2.1, ()))))))))))))) v.1.2.2.2.2.2.1 v.1.2.2.2.2.2.2.1 n v.1.2.2.2.1 v.1.2.2.2.2.2.2.2.1 v.2.2.1 v.2.2.2.2.1.2.2.2.1 v.2.2.2.2.2.1 v.2.2.2.2.2.2.1 v.2.2.2.2.2.2.2.1)
  else if i = 1 then some (loopT 9 (p_z07.head 1) s_z07_h1 fun K v => L_z07_1 n qr_z07 (fun z0 z1 z2 z3 z4 z5 => K (.ex 1) (s_z07_t1.enc (((), ((), (z0, ()))), (((), ()), (z1, (((), ()), (((), ((), ((), (z2, ())))), (z3, (z4, (z5, (((), ()), (((), ()), (v.2.2.2.2.2.2.2.2.2.2.1, ()))))))))))))) v.1.2.2.2.2.2.1 v.1.2.2.2.2.2.2.1 v.2.2.2.2.2.2.2.2.2.2.2.1 n v.1.2.2.2.1 v.1.2.2.2.2.2.2.2.1 v.2.2.1 v.2.2.2.2.1.2.2.2.1 v.2.2.2.2.2.1 v.2.2.2.2.2.2.1 v.2.2.2.2.2.2.2.1)
  else  none
noncomputable def b_z07_3 : Code := partOf (bodyOf Try.f57) [1, 1, 1, 0, 1, 0, 1, 0, 1, 0, 1, 0, 0]
noncomputable def V_z07_3 (qr_z07 : ObjS → (ObjS → Option (Int)) → (List ObjS) → (Int → Option ((List Int))) → (Int → Option ((List InstrS))) → (Int → Option (GroupS)) → Option (RS ro_z07 rh_z07)) (n : Nat) (K : Cont) (rec : Sig.sem s_z07_h3 → Option Res) (v : Sig.sem s_z07_h3) : Option Res := F_z07_3 n qr_z07 (fun z0 z2 z3 z4 z5 z6 => K (.ex 3) (s_z07_t3.enc (((), ((), (z0, (v.1.2.2.2.2.1, ())))), (((), ()), (z2, (((), ()), (((), ((), ((), (z3, ())))), (z4, (z5, (z6, (((), ()), (((), ()), (v.2.2.2.2.2.2.2.2.2.2.1, ()))))))))))))) v.1.2.2.2.2.2.1 v.1.2.2.2.2.2.2.1 (fun z0 z4 z5 z6 z7 z8 z9 => rec (((), ((), ((), (z0, (v.1.2.2.2.2.1, (v.1.2.2.2.2.2.1, (v.1.2.2.2.2.2.2.1, (z4, ())))))))), (((), ()), (z5, (((), ()), (((), ((), ((), (z6, ())))), (z7, (z8, (z9, (((), ()), (((), ()), (v.2.2.2.2.2.2.2.2.2.2.1, ())))))))))))) v.1.2.2.2.1 v.1.2.2.2.2.2.2.2.1 v.2.2.1 v.2.2.2.2.1.2.2.2.1 v.2.2.2.2.2.1 v.2.2.2.2.2.2.1 v.2.2.2.2.2.2.2.1
theorem t_z07_3 (qr_z07 : ObjS → (ObjS → Option (Int)) → (List ObjS) → (Int → Option ((List Int))) → (Int → Option ((List InstrS))) → (Int → Option (GroupS)) → Option (RS ro_z07 rh_z07)) (n : Nat) (K : Cont) (rec : Sig.sem s_z07_h3 → Option Res) (v : Sig.sem s_z07_h3) : runT Try.prog (cf_z07 qr_z07) Try.f57.ntmps 9 p_z07 (ls_z07 n qr_z07) b_z07_3 (s_z07_h3.enc v) (turnK 9 (p_z07.head 3) s_z07_h3 rec K) = V_z07_3 qr_z07 n K rec v := by kernel_rfl
noncomputable def W_z07_3 (qr_z07 : ObjS → (ObjS → Option (Int)) → (List ObjS) → (Int → Option ((List Int))) → (Int → Option ((List InstrS))) → (Int → Option (GroupS)) → Option (RS ro_z07 rh_z07)) (n : Nat) (K : Cont) (m : Nat) (v : Sig.sem s_z07_h3) : Option Res := L_z07_3 n qr_z07 (fun z0 z2 z3 z4 z5 z6 => K (.ex 3) (s_z07_t3.enc (((), ((), (z0, (v.1.2.2.2.2.1, ())))), (((), ()), (z2, (((), ()), (((), ((), ((), (z3, ())))), (z4, (z5, (z6, (((), ()), (((), ()), (v.2.2.2.2.2.2.2.2.2.2.1, ()))))))))))))) v.1.2.2.2.2.2.1 v.1.2.2.2.2.2.2.1 m v.1.2.2.2.1 v.1.2.2.2.2.2.2.2.1 v.2.2.1 v.2.2.2.2.1.2.2.2.1 v.2.2.2.2.2.1 v.2.2.2.2.2.2.1 v.2.2.2.2.2.2.2.1
theorem i_z07_3 (qr_z07 : ObjS → (ObjS → Option (Int)) → (List ObjS) → (Int → Option ((List Int))) → (Int → Option ((List InstrS))) → (Int → Option (GroupS)) → Option (RS ro_z07 rh_z07)) (n : Nat) (K : Cont) : ∀ m v, iter (V_z07_3 qr_z07 n K) m v = W_z07_3 qr_z07 n K m v := by
  intro m
  induction m with
  | zero => intro v; rfl
  | succ m ih =>
    intro v
    show V_z07_3 qr_z07 n K (iter (V_z07_3 qr_z07 n K) m) v = V_z07_3 qr_z07 n K (W_z07_3 qr_z07 n K m) v
    rw [show iter (V_z07_3 qr_z07 n K) m = W_z07_3 qr_z07 n K m from funext ih]
theorem o_z07_3 (qr_z07 : ObjS → (ObjS → Option (Int)) → (List ObjS) → (Int → Option ((List Int))) → (Int → Option ((List InstrS))) → (Int → Option (GroupS)) → Option (RS ro_z07 rh_z07)) (n : Nat) : ∀ L, ls_z07 n qr_z07 3 = some L → ∀ s K r, L s K = some r → ∃ x s', loopN (run Try.prog (cf_z07 qr_z07) Try.f57.ntmps 9 n p_z07 none b_z07_3) (gc 9 (p_z07.head 3)) n s = some (x, s') ∧ K x s' = some r := by
  intro L hL s K r h
  have hL : some (loopT 9 (p_z07.head 3) s_z07_h3 fun K v => W_z07_3 qr_z07 n K n v) = some L := hL
  cases hL
  have hb : LOk Try.prog (cf_z07 qr_z07) Try.f57.ntmps 9 n p_z07 (ls_z07 n qr_z07) b_z07_3 := ⟨trivial, ⟨⟨trivial, trivial⟩, ⟨⟨trivial, trivial⟩, trivial⟩⟩⟩
  refine loopT_ok hb (V_z07_3 qr_z07 n) (t_z07_3 qr_z07 n) n s K r ?_
  rw [← h]
  unfold loopT
  simp only [i_z07_3]
noncomputable def b_z07_1 : Code := partOf (bodyOf Try.f57) [1, 1, 1, 0, 1, 0, 1, 1, 1, 1, 1, 1, 0, 0]
noncomputable def V_z07_1 (qr_z07 : ObjS → (ObjS → Option (Int)) → (List ObjS) → (Int → Option ((List Int))) → (Int → Option ((List InstrS))) → (Int → Option (GroupS)) → Option (RS ro_z07 rh_z07)) (n : Nat) (K : Cont) (rec : Sig.sem s_z07_h1 → Option Res) (v : Sig.sem s_z07_h1) : Option Res := F_z07_1 n qr_z07 (fun z0 z1 z2 z3 z4 z5 => K (.ex 1) (s_z07_t1.enc (((), ((), (z0, ()))), (((), ()), (z1, (((), ()), (((), ((), ((), (z2, ())))), (z3, (z4, (z5, (((), ()), (((), ()), (v.2.2.2.2.2.2.2.2.2.2.1, ()))))))))))))) v.1.2.2.2.2.2.1 v.1.2.2.2.2.2.2.1 v.2.2.2.2.2.2.2.2.2.2.2.1 (fun z0 z3 z4 z5 z6 z7 z8 => rec (((), ((), ((), (z0, ((), (v.1.2.2.2.2.2.1, (v.1.2.2.2.2.2.2.1, (z3, ())))))))), (((), ()), (z4, (((), ()), (((), ((), ((), (z5, ())))), (z6, (z7, (z8, (((), ()), (((), ()), (v.2.2.2.2.2.2.2.2.2.2.1, (v.2.2.2.2.2.2.2.2.2.2.2.1, ()))))))))))))) v.1.2.2.2.1 v.1.2.2.2.2.2.2.2.1 v.2.2.1 v.2.2.2.2.1.2.2.2.1 v.2.2.2.2.2.1 v.2.2.2.2.2.2.1 v.2.2.2.2.2.2.2.1
theorem t_z07_1 (qr_z07 : ObjS → (ObjS → Option (Int)) → (List ObjS) → (Int → Option ((List Int))) → (Int → Option ((List InstrS))) → (Int → Option (GroupS)) → Option (RS ro_z07 rh_z07)) (n : Nat) (K : Cont) (rec : Sig.sem s_z07_h1 → Option Res) (v : Sig.sem s_z07_h1) : runT Try.prog (cf_z07 qr_z07) Try.f57.ntmps 9 p_z07 (ls_z07 n qr_z07) b_z07_1 (s_z07_h1.enc v) (turnK 9 (p_z07.head 1) s_z07_h1 rec K) = V_z07_1 qr_z07 n K rec v := by kernel_rfl
noncomputable def W_z07_1 (qr_z07 : ObjS → (ObjS → Option (Int)) → (List ObjS) → (Int → Option ((List Int))) → (Int → Option ((List InstrS))) → (Int → Option (GroupS)) → Option (RS ro_z07 rh_z07)) (n : Nat) (K : Cont) (m : Nat) (v : Sig.sem s_z07_h1) : Option Res := L_z07_1 n qr_z07 (fun z0 z1 z2 z3 z4 z5 => K (.ex 1) (s_z07_t1.enc (((), ((), (z0, ()))), (((), ()), (z1, (((), ()), (((), ((), ((), (z2, ())))), (z3, (z4, (z5, (((), ()), (((), ()), (v.2.2.2.2.2.2.2.2.2.2.1, ()))))))))))))) v.1.2.2.2.2.2.1 v.1.2.2.2.2.2.2.1 v.2.2.2.2.2.2.2.2.2.2.2.1 m v.1.2.2.2.1 v.1.2.2.2.2.2.2.2.1 v.2.2.1 v.2.2.2.2.1.2.2.2.1 v.2.2.2.2.2.1 v.2.2.2.2.2.2.1 v.2.2.2.2.2.2.2.1
theorem i_z07_1 (qr_z07 : ObjS → (ObjS → Option (Int)) → (List ObjS) → (Int → Option ((List Int))) → (Int → Option ((List InstrS))) → (Int → Option (GroupS)) → Option (RS ro_z07 rh_z07)) (n : Nat) (K : Cont) : ∀ m v, iter (V_z07_1 qr_z07 n K) m v = W_z07_1 qr_z07 n K m v := by
  intro m
  induction m with
  | zero => intro v; rfl
  | succ m ih =>
    intro v
    show V_z07_1 qr_z07 n K (iter (V_z07_1 qr_z07 n K) m) v = V_z07_1 qr_z07 n K (W_z07_1 qr_z07 n K m) v
    rw [show iter (V_z07_1 qr_z07 n K) m = W_z07_1 qr_z07 n K m from funext ih]
theorem o_z07_1 (qr_z07 : ObjS → (ObjS → Option (Int)) → (List ObjS) → (Int → Option ((List Int))) → (Int → Option ((List InstrS))) → (Int → Option (GroupS)) → Option (RS ro_z07 rh_z07)) (n : Nat) : ∀ L, ls_z07 n qr_z07 1 = some L → ∀ s K r, L s K = some r → ∃ x s', loopN (run Try.prog (cf_z07 qr_z07) Try.f57.ntmps 9 n p_z07 none b_z07_1) (gc 9 (p_z07.head 1)) n s = some (x, s') ∧ K x s' = some r := by
  intro L hL s K r h
  have hL : some (loopT 9 (p_z07.head 1) s_z07_h1 fun K v => W_z07_1 qr_z07 n K n v) = some L := hL
  cases hL
  have hb : LOk Try.prog (cf_z07 qr_z07) Try.f57.ntmps 9 n p_z07 (ls_z07 n qr_z07) b_z07_1 := ⟨trivial, ⟨⟨trivial, trivial⟩, ⟨⟨trivial, ⟨trivial, ⟨trivial, ⟨trivial, trivial⟩⟩⟩⟩, trivial⟩⟩⟩
  refine loopT_ok hb (V_z07_1 qr_z07 n) (t_z07_1 qr_z07 n) n s K r ?_
  rw [← h]
  unfold loopT
  simp only [i_z07_1]
theorem m_z07 (n : Nat) (qr_z07 : ObjS → (ObjS → Option (Int)) → (List ObjS) → (Int → Option ((List Int))) → (Int → Option ((List InstrS))) → (Int → Option (GroupS)) → Option (RS ro_z07 rh_z07)) (a0 : ObjS) (a1 : (ObjS → Option (Int))) (a2 : (List ObjS)) (a3 : (Int → Option ((List Int)))) (a4 : (Int → Option ((List InstrS)))) (a5 : (Int → Option (GroupS))) : runFT Try.prog (cf_z07 qr_z07) p_z07 (ls_z07 n qr_z07) Try.f57 (bodyOf Try.f57) (EK.encs e_z07 ((a0, ((), ((), ((), ((), ()))))), (((), ()), (a1, (((), ()), (((), ((), ((), (a2, ())))), (a3, (a4, (a5, (((), ()), (((), ()), ())))))))))).1) (HK.encs h_z07 ((a0, ((), ((), ((), ((), ()))))), (((), ()), (a1, (((), ()), (((), ((), ((), (a2, ())))), (a3, (a4, (a5, (((), ()), (((), ()), ())))))))))).2) = M_z07 n qr_z07 a0 a1 a2 a3 a4 a5 := by kernel_rfl
theorem g_z07 (n : Nat) (qr_z07 : ObjS → (ObjS → Option (Int)) → (List ObjS) → (Int → Option ((List Int))) → (Int → Option ((List InstrS))) → (Int → Option (GroupS)) → Option (RS ro_z07 rh_z07)) (a0 : ObjS) (a1 : (ObjS → Option (Int))) (a2 : (List ObjS)) (a3 : (Int → Option ((List Int)))) (a4 : (Int → Option ((List InstrS)))) (a5 : (Int → Option (GroupS))) {r : Res} (h : M_z07 n qr_z07 a0 a1 a2 a3 a4 a5 = some r) : runF Try.prog (cf_z07 qr_z07) n p_z07 57 (EK.encs e_z07 ((a0, ((), ((), ((), ((), ()))))), (((), ()), (a1, (((), ()), (((), ((), ((), (a2, ())))), (a3, (a4, (a5, (((), ()), (((), ()), ())))))))))).1) (HK.encs h_z07 ((a0, ((), ((), ((), ((), ()))))), (((), ()), (a1, (((), ()), (((), ((), ((), (a2, ())))), (a3, (a4, (a5, (((), ()), (((), ()), ())))))))))).2) = some r := by
  have hb : LOk Try.prog (cf_z07 qr_z07) Try.f57.ntmps 9 n p_z07 (ls_z07 n qr_z07) (bodyOf Try.f57) := ⟨trivial, ⟨⟨trivial, ⟨trivial, ⟨⟨trivial, trivial⟩, trivial⟩⟩⟩, ⟨trivial, ⟨⟨trivial, ⟨trivial, ⟨⟨trivial, ⟨⟨trivial, (o_z07_3 qr_z07 n)⟩, ⟨trivial, ⟨trivial, trivial⟩⟩⟩⟩, ⟨trivial, ⟨trivial, ⟨trivial, ⟨trivial, (o_z07_1 qr_z07 n)⟩⟩⟩⟩⟩⟩⟩, ⟨trivial, ⟨trivial, trivial⟩⟩⟩⟩⟩⟩
  exact runFT_some Try.prog (c := bodyOf Try.f57) Try.func57 (show Try.f57.body = some (bodyOf Try.f57) from rfl) (show (5 : Nat) ≤ 104 by decide) hb ((m_z07 n qr_z07 a0 a1 a2 a3 a4 a5).trans h) rfl (by kernel_rfl)
noncomputable def c_z07 : Spec := specQ e_z07 h_z07 ro_z07 rh_z07 fun a b => Q_z07 a.1 b.2.1 b.2.2.2.1.2.2.2.1 b.2.2.2.2.1 b.2.2.2.2.2.1 b.2.2.2.2.2.2.1
theorem kr_z07 (hm : Try.prog.follows .mixedOrders = true) (qr_z07 : ObjS → (ObjS → Option (Int)) → (List ObjS) → (Int → Option ((List Int))) → (Int → Option ((List InstrS))) → (Int → Option (GroupS)) → Option (RS ro_z07 rh_z07)) (hr_z07 : SpecOk Try.prog 57 (specQ e_z07 h_z07 ro_z07 rh_z07 fun a b => qr_z07 a.1 b.2.1 b.2.2.2.1.2.2.2.1 b.2.2.2.2.1 b.2.2.2.2.2.1 b.2.2.2.2.2.2.1)) : CallSound Try.prog (cf_z07 qr_z07) := tab_ok (specs_cons (hr_z07) (specs_cons (k_z06 hm qr_z07 hr_z07) specs_nil))
theorem kd_z07 (hm : Try.prog.follows .mixedOrders = true) : ∀ dp, SpecOk Try.prog 57 (specQ e_z07 h_z07 ro_z07 rh_z07 fun a b => Qd_z07 dp a.1 b.2.1 b.2.2.2.1.2.2.2.1 b.2.2.2.2.1 b.2.2.2.2.2.1 b.2.2.2.2.2.2.1)
  | 0 => specQ_ok (pol := p_z07) hm (cf := mkCF [] []) (tab_ok specs_nil) fun a b r h => by cases h
  | dp + 1 => specQ_ok (pol := p_z07) hm (kr_z07 hm (Qd_z07 dp) (kd_z07 hm dp)) fun a b r h => ⟨FUEL, g_z07 FUEL (Qd_z07 dp) a.1 b.2.1 b.2.2.2.1.2.2.2.1 b.2.2.2.2.1 b.2.2.2.2.2.1 b.2.2.2.2.2.2.1 (decRes_some h)⟩
theorem k_z07 (hm : Try.prog.follows .mixedOrders = true) : SpecOk Try.prog 57 c_z07 := kd_z07 hm FUEL
def s_z08_r : Sig := ⟨[4], [.ty (.int .i64)], [.one false [.mp 1, .mp 2, .mp 3, .ty (.slice ObjT)], .mf (.int .i64) (.slice (.int .i64)), .mf (.int .i64) (.slice InstrT), .mf (.int .i64) GroupT]⟩
def p_z08 : Pol := ⟨fun i => none, fun i => none, some [(4, .keep)], [.keep], []⟩
def e_z08 : List EK := [.ptr 0 0 0, .agg ObjT]
def h_z08 : List HK := [.one false [.mp 1, .mp 2, .mp 3, .ty (.slice ObjT)], .mf (.int .i64) (.slice (.int .i64)), .mf (.int .i64) (.slice InstrT), .mf (.int .i64) GroupT]
noncomputable def cf_z08 : CallF := mkCF [(57, c_z07)] []
noncomputable def ls_z08 (n : Nat) : Loops := fun i =>  none
theorem m_z08 (n : Nat) (a0 : ObjS) (a1 : (List ObjS)) (a2 : (Int → Option ((List Int)))) (a3 : (Int → Option ((List InstrS)))) (a4 : (Int → Option (GroupS))) : runFT Try.prog cf_z08 p_z08 (ls_z08 n) Try.f45 (bodyOf Try.f45) (EK.encs e_z08 (((), (a0, ())), (((), ((), ((), (a1, ())))), (a2, (a3, (a4, ()))))).1) (HK.encs h_z08 (((), (a0, ())), (((), ((), ((), (a1, ())))), (a2, (a3, (a4, ()))))).2) = M_z08 n a0 a1 a2 a3 a4 := by kernel_rfl
theorem g_z08 (n : Nat) (a0 : ObjS) (a1 : (List ObjS)) (a2 : (Int → Option ((List Int)))) (a3 : (Int → Option ((List InstrS)))) (a4 : (Int → Option (GroupS))) {r : Res} (h : M_z08 n a0 a1 a2 a3 a4 = some r) : runF Try.prog cf_z08 n p_z08 45 (EK.encs e_z08 (((), (a0, ())), (((), ((), ((), (a1, ())))), (a2, (a3, (a4, ()))))).1) (HK.encs h_z08 (((), (a0, ())), (((), ((), ((), (a1, ())))), (a2, (a3, (a4, ()))))).2) = some r := by
  have hb : LOk Try.prog cf_z08 Try.f45.ntmps 4 n p_z08 (ls_z08 n) (bodyOf Try.f45) := ⟨trivial, ⟨trivial, ⟨trivial, ⟨trivial, ⟨trivial, ⟨trivial, trivial⟩⟩⟩⟩⟩⟩
  exact runFT_some Try.prog (c := bodyOf Try.f45) Try.func45 (show Try.f45.body = some (bodyOf Try.f45) from rfl) (show (2 : Nat) ≤ 14 by decide) hb ((m_z08 n a0 a1 a2 a3 a4).trans h) rfl (by kernel_rfl)
noncomputable def c_z08 : Spec := specQ e_z08 h_z08 ro_z08 rh_z08 fun a b => Q_z08 a.2.1 b.1.2.2.2.1 b.2.1 b.2.2.1 b.2.2.2.1
theorem k_z08 (hm : Try.prog.follows .mixedOrders = true) : SpecOk Try.prog 45 c_z08 := specQ_ok (pol := p_z08) hm (cf := cf_z08) (tab_ok (specs_cons (k_z07 hm) specs_nil)) fun a b r h => ⟨FUEL, g_z08 FUEL a.2.1 b.1.2.2.2.1 b.2.1 b.2.2.1 b.2.2.2.1 (decRes_some h)⟩
def s_z09_r : Sig := ⟨[4, 5], [.ty (.int .i64), .ty (.int .i64)], []⟩
def p_z09 : Pol := ⟨fun i => none, fun i => none, some [(4, .keep), (5, .keep)], [.keep, .keep], []⟩
def e_z09 : List EK := [.agg ConfigT, .agg ObjT]
def h_z09 : List HK := []
noncomputable def cf_z09 : CallF := mkCF [(30, c_z02), (31, c_z05), (45, c_z08)] [(30, [ConfigT])]
noncomputable def ls_z09 (n : Nat) : Loops := fun i =>  none
theorem m_z09 (n : Nat) (a0 : ConfigS) (a1 : ObjS) : runFT Try.prog cf_z09 p_z09 (ls_z09 n) Try.f34 (bodyOf Try.f34) (EK.encs e_z09 ((a0, (a1, ())), ()).1) (HK.encs h_z09 ((a0, (a1, ())), ()).2) = M_z09 n a0 a1 := by kernel_rfl
theorem g_z09 (n : Nat) (a0 : ConfigS) (a1 : ObjS) {r : Res} (h : M_z09 n a0 a1 = some r) : runF Try.prog cf_z09 n p_z09 34 (EK.encs e_z09 ((a0, (a1, ())), ()).1) (HK.encs h_z09 ((a0, (a1, ())), ()).2) = some r := by
  have hb : LOk Try.prog cf_z09 Try.f34.ntmps 0 n p_z09 (ls_z09 n) (bodyOf Try.f34) := ⟨trivial, ⟨trivial, ⟨⟨trivial, ⟨⟨trivial, trivial⟩, trivial⟩⟩, ⟨trivial, trivial⟩⟩⟩⟩
  exact runFT_some Try.prog (c := bodyOf Try.f34) Try.func34 (show Try.f34.body = some (bodyOf Try.f34) from rfl) (show (2 : Nat) ≤ 14 by decide) hb ((m_z09 n a0 a1).trans h) rfl (by kernel_rfl)
noncomputable def c_z09 : Spec := specQ e_z09 h_z09 ro_z09 rh_z09 fun a b => Q_z09 a.1 a.2.1
theorem k_z09 (hm : Try.prog.follows .mixedOrders = true) : SpecOk Try.prog 34 c_z09 := specQ_ok (pol := p_z09) hm (cf := cf_z09) (tab_ok (specs_cons (k_z02 hm) (specs_cons (k_z05 hm) (specs_cons (k_z08 hm) specs_nil)))) fun a b r h => ⟨FUEL, g_z09 FUEL a.1 a.2.1 (decRes_some h)⟩
def s_z0a_r : Sig := ⟨[4, 5], [.ty (.int .i64), .ty (.int .i64)], []⟩
def p_z0a : Pol := ⟨fun i => none, fun i => none, some [(4, .keep), (5, .keep)], [.keep, .keep], []⟩
def e_z0a : List EK := [.agg ConfigT, .ty (.int .i64)]
def h_z0a : List HK := []
noncomputable def cf_z0a : CallF := mkCF [(34, c_z09)] [(34, [ConfigT, ObjT])]
noncomputable def ls_z0a (n : Nat) : Loops := fun i =>  none
theorem m_z0a (n : Nat) (a0 : ConfigS) (a1 : Int) : runFT Try.prog cf_z0a p_z0a (ls_z0a n) Try.f18 (bodyOf Try.f18) (EK.encs e_z0a ((a0, (a1, ())), ()).1) (HK.encs h_z0a ((a0, (a1, ())), ()).2) = M_z0a n a0 a1 := by kernel_rfl
theorem g_z0a (n : Nat) (a0 : ConfigS) (a1 : Int) {r : Res} (h : M_z0a n a0 a1 = some r) : runF Try.prog cf_z0a n p_z0a 18 (EK.encs e_z0a ((a0, (a1, ())), ()).1) (HK.encs h_z0a ((a0, (a1, ())), ()).2) = some r := by
  have hb : LOk Try.prog cf_z0a Try.f18.ntmps 0 n p_z0a (ls_z0a n) (bodyOf Try.f18) := ⟨trivial, ⟨trivial, trivial⟩⟩
  exact runFT_some Try.prog (c := bodyOf Try.f18) Try.func18 (show Try.f18.body = some (bodyOf Try.f18) from rfl) (show (2 : Nat) ≤ 12 by decide) hb ((m_z0a n a0 a1).trans h) rfl (by kernel_rfl)
noncomputable def c_z0a : Spec := specQ e_z0a h_z0a ro_z0a rh_z0a fun a b => Q_z0a a.1 a.2.1
theorem k_z0a (hm : Try.prog.follows .mixedOrders = true) : SpecOk Try.prog 18 c_z0a := specQ_ok (pol := p_z0a) hm (cf := cf_z0a) (tab_ok (specs_cons (k_z09 hm) specs_nil)) fun a b r h => ⟨FUEL, g_z0a FUEL a.1 a.2.1 (decRes_some h)⟩
def s_z0b_r : Sig := ⟨[4, 5], [.ty (.int .i64), .ty (.int .i64)], []⟩
def p_z0b : Pol := ⟨fun i => none, fun i => none, some [(4, .keep), (5, .keep)], [.keep, .keep], []⟩
def e_z0b : List EK := [.agg ConfigT, .ty (.int .i64)]
def h_z0b : List HK := []
noncomputable def cf_z0b : CallF := mkCF [(34, c_z09)] [(34, [ConfigT, ObjT])]
noncomputable def ls_z0b (n : Nat) : Loops := fun i =>  none
theorem m_z0b (n : Nat) (a0 : ConfigS) (a1 : Int) : runFT Try.prog cf_z0b p_z0b (ls_z0b n) Try.f16 (bodyOf Try.f16) (EK.encs e_z0b ((a0, (a1, ())), ()).1) (HK.encs h_z0b ((a0, (a1, ())), ()).2) = M_z0b n a0 a1 := by kernel_rfl
theorem g_z0b (n : Nat) (a0 : ConfigS) (a1 : Int) {r : Res} (h : M_z0b n a0 a1 = some r) : runF Try.prog cf_z0b n p_z0b 16 (EK.encs e_z0b ((a0, (a1, ())), ()).1) (HK.encs h_z0b ((a0, (a1, ())), ()).2) = some r := by
  have hb : LOk Try.prog cf_z0b Try.f16.ntmps 0 n p_z0b (ls_z0b n) (bodyOf Try.f16) := ⟨trivial, ⟨trivial, trivial⟩⟩
  exact runFT_some Try.prog (c := bodyOf Try.f16) Try.func16 (show Try.f16.body = some (bodyOf Try.f16) from rfl) (show (2 : Nat) ≤ 12 by decide) hb ((m_z0b n a0 a1).trans h) rfl (by kernel_rfl)
noncomputable def c_z0b : Spec := specQ e_z0b h_z0b ro_z0b rh_z0b fun a b => Q_z0b a.1 a.2.1
theorem k_z0b (hm : Try.prog.follows .mixedOrders = true) : SpecOk Try.prog 16 c_z0b := specQ_ok (pol := p_z0b) hm (cf := cf_z0b) (tab_ok (specs_cons (k_z09 hm) specs_nil)) fun a b r h => ⟨FUEL, g_z0b FUEL a.1 a.2.1 (decRes_some h)⟩
def s_z0c_r : Sig := ⟨[4, 5], [.ty (.int .i64), .ty (.int .i64)], []⟩
def p_z0c : Pol := ⟨fun i => none, fun i => none, some [(4, .keep), (5, .keep)], [.keep, .keep], []⟩
def e_z0c : List EK := [.agg ConfigT, .ty (.int .i64)]
def h_z0c : List HK := []
noncomputable def cf_z0c : CallF := mkCF [(34, c_z09)] [(34, [ConfigT, ObjT])]
noncomputable def ls_z0c (n : Nat) : Loops := fun i =>  none
theorem m_z0c (n : Nat) (a0 : ConfigS) (a1 : Int) : runFT Try.prog cf_z0c p_z0c (ls_z0c n) Try.f20 (bodyOf Try.f20) (EK.encs e_z0c ((a0, (a1, ())), ()).1) (HK.encs h_z0c ((a0, (a1, ())), ()).2) = M_z0c n a0 a1 := by kernel_rfl
theorem g_z0c (n : Nat) (a0 : ConfigS) (a1 : Int) {r : Res} (h : M_z0c n a0 a1 = some r) : runF Try.prog cf_z0c n p_z0c 20 (EK.encs e_z0c ((a0, (a1, ())), ()).1) (HK.encs h_z0c ((a0, (a1, ())), ()).2) = some r := by
  have hb : LOk Try.prog cf_z0c Try.f20.ntmps 0 n p_z0c (ls_z0c n) (bodyOf Try.f20) := ⟨trivial, ⟨trivial, trivial⟩⟩
  exact runFT_some Try.prog (c := bodyOf Try.f20) Try.func20 (show Try.f20.body = some (bodyOf Try.f20) from rfl) (show (2 : Nat) ≤ 12 by decide) hb ((m_z0c n a0 a1).trans h) rfl (by kernel_rfl)
noncomputable def c_z0c : Spec := specQ e_z0c h_z0c ro_z0c rh_z0c fun a b => Q_z0c a.1 a.2.1
theorem k_z0c (hm : Try.prog.follows .mixedOrders = true) : SpecOk Try.prog 20 c_z0c := specQ_ok (pol := p_z0c) hm (cf := cf_z0c) (tab_ok (specs_cons (k_z09 hm) specs_nil)) fun a b r h => ⟨FUEL, g_z0c FUEL a.1 a.2.1 (decRes_some h)⟩
def s_z0d_r : Sig := ⟨[6], [.ty .bool], []⟩
def p_z0d : Pol := ⟨fun i => none, fun i => none, some [(6, .keep)], [.keep], []⟩
def e_z0d : List EK := [.ty (.int .i64), .ty (.int .i64), .ty (.int .i64)]
def h_z0d : List HK := []
noncomputable def cf_z0d : CallF := mkCF [] []
noncomputable def ls_z0d (n : Nat) : Loops := fun i =>  none
theorem m_z0d (n : Nat) (a0 : Int) (a1 : Int) (a2 : Int) : runFT Try.prog cf_z0d p_z0d (ls_z0d n) Try.f23 (bodyOf Try.f23) (EK.encs e_z0d ((a0, (a1, (a2, ()))), ()).1) (HK.encs h_z0d ((a0, (a1, (a2, ()))), ()).2) = M_z0d n a0 a1 a2 := by kernel_rfl
theorem g_z0d (n : Nat) (a0 : Int) (a1 : Int) (a2 : Int) {r : Res} (h : M_z0d n a0 a1 a2 = some r) : runF Try.prog cf_z0d n p_z0d 23 (EK.encs e_z0d ((a0, (a1, (a2, ()))), ()).1) (HK.encs h_z0d ((a0, (a1, (a2, ()))), ()).2) = some r := by
  have hb : LOk Try.prog cf_z0d Try.f23.ntmps 0 n p_z0d (ls_z0d n) (bodyOf Try.f23) := ⟨trivial, ⟨trivial, trivial⟩⟩
  exact runFT_some Try.prog (c := bodyOf Try.f23) Try.func23 (show Try.f23.body = some (bodyOf Try.f23) from rfl) (show (3 : Nat) ≤ 14 by decide) hb ((m_z0d n a0 a1 a2).trans h) rfl (by kernel_rfl)
noncomputable def c_z0d : Spec := specQ e_z0d h_z0d ro_z0d rh_z0d fun a b => Q_z0d a.1 a.2.1 a.2.2.1
theorem k_z0d (hm : Try.prog.follows .mixedOrders = true) : SpecOk Try.prog 23 c_z0d := specQ_ok (pol := p_z0d) hm (cf := cf_z0d) (tab_ok specs_nil) fun a b r h => ⟨FUEL, g_z0d FUEL a.1 a.2.1 a.2.2.1 (decRes_some h)⟩
def s_z0e_r : Sig := ⟨[2], [.ty .bool], []⟩
def p_z0e : Pol := ⟨fun i => none, fun i => none, some [(2, .keep)], [.keep], []⟩
def e_z0e : List EK := [.agg ConfigT]
def h_z0e : List HK := []
noncomputable def cf_z0e : CallF := mkCF [(30, c_z02), (31, c_z05)] [(30, [ConfigT])]
noncomputable def ls_z0e (n : Nat) : Loops := fun i =>  none
theorem m_z0e (n : Nat) (a0 : ConfigS) : runFT Try.prog cf_z0e p_z0e (ls_z0e n) Try.f14 (bodyOf Try.f14) (EK.encs e_z0e ((a0, ()), ()).1) (HK.encs h_z0e ((a0, ()), ()).2) = M_z0e n a0 := by kernel_rfl
theorem g_z0e (n : Nat) (a0 : ConfigS) {r : Res} (h : M_z0e n a0 = some r) : runF Try.prog cf_z0e n p_z0e 14 (EK.encs e_z0e ((a0, ()), ()).1) (HK.encs h_z0e ((a0, ()), ()).2) = some r := by
  have hb : LOk Try.prog cf_z0e Try.f14.ntmps 0 n p_z0e (ls_z0e n) (bodyOf Try.f14) := ⟨trivial, ⟨trivial, trivial⟩⟩
  exact runFT_some Try.prog (c := bodyOf Try.f14) Try.func14 (show Try.f14.body = some (bodyOf Try.f14) from rfl) (show (1 : Nat) ≤ 6 by decide) hb ((m_z0e n a0).trans h) rfl (by kernel_rfl)
noncomputable def c_z0e : Spec := specQ e_z0e h_z0e ro_z0e rh_z0e fun a b => Q_z0e a.1
theorem k_z0e (hm : Try.prog.follows .mixedOrders = true) : SpecOk Try.prog 14 c_z0e := specQ_ok (pol := p_z0e) hm (cf := cf_z0e) (tab_ok (specs_cons (k_z02 hm) (specs_cons (k_z05 hm) specs_nil))) fun a b r h => ⟨FUEL, g_z0e FUEL a.1 (decRes_some h)⟩
def s_z0f_r : Sig := ⟨[2], [.ty .bool], []⟩
def p_z0f : Pol := ⟨fun i => none, fun i => none, some [(2, .keep)], [.keep], []⟩
def e_z0f : List EK := [.ty (.int .i64)]
def h_z0f : List HK := []
noncomputable def cf_z0f : CallF := mkCF [] []
noncomputable def ls_z0f (n : Nat) : Loops := fun i =>  none
theorem m_z0f (n : Nat) (a0 : Int) : runFT Try.prog cf_z0f p_z0f (ls_z0f n) Try.f62 (bodyOf Try.f62) (EK.encs e_z0f ((a0, ()), ()).1) (HK.encs h_z0f ((a0, ()), ()).2) = M_z0f n a0 := by kernel_rfl
theorem g_z0f (n : Nat) (a0 : Int) {r : Res} (h : M_z0f n a0 = some r) : runF Try.prog cf_z0f n p_z0f 62 (EK.encs e_z0f ((a0, ()), ()).1) (HK.encs h_z0f ((a0, ()), ()).2) = some r := by
  have hb : LOk Try.prog cf_z0f Try.f62.ntmps 0 n p_z0f (ls_z0f n) (bodyOf Try.f62) := ⟨trivial, ⟨trivial, trivial⟩⟩
  exact runFT_some Try.prog (c := bodyOf Try.f62) Try.func62 (show Try.f62.body = some (bodyOf Try.f62) from rfl) (show (1 : Nat) ≤ 9 by decide) hb ((m_z0f n a0).trans h) rfl (by kernel_rfl)
noncomputable def c_z0f : Spec := specQ e_z0f h_z0f ro_z0f rh_z0f fun a b => Q_z0f a.1
theorem k_z0f (hm : Try.prog.follows .mixedOrders = true) : SpecOk Try.prog 62 c_z0f := specQ_ok (pol := p_z0f) hm (cf := cf_z0f) (tab_ok specs_nil) fun a b r h => ⟨FUEL, g_z0f FUEL a.1 (decRes_some h)⟩
def s_z0g_r : Sig := ⟨[2], [.ty .bool], []⟩
def p_z0g : Pol := ⟨fun i => none, fun i => none, some [(2, .keep)], [.keep], []⟩
def e_z0g : List EK := [.agg SpanT]
def h_z0g : List HK := []
noncomputable def cf_z0g : CallF := mkCF [] []
noncomputable def ls_z0g (n : Nat) : Loops := fun i =>  none
theorem m_z0g (n : Nat) (a0 : SpanS) : runFT Try.prog cf_z0g p_z0g (ls_z0g n) Try.f63 (bodyOf Try.f63) (EK.encs e_z0g ((a0, ()), ()).1) (HK.encs h_z0g ((a0, ()), ()).2) = M_z0g n a0 := by kernel_rfl
theorem g_z0g (n : Nat) (a0 : SpanS) {r : Res} (h : M_z0g n a0 = some r) : runF Try.prog cf_z0g n p_z0g 63 (EK.encs e_z0g ((a0, ()), ()).1) (HK.encs h_z0g ((a0, ()), ()).2) = some r := by
  have hb : LOk Try.prog cf_z0g Try.f63.ntmps 0 n p_z0g (ls_z0g n) (bodyOf Try.f63) := ⟨trivial, ⟨⟨trivial, ⟨⟨trivial, trivial⟩, trivial⟩⟩, ⟨trivial, trivial⟩⟩⟩
  exact runFT_some Try.prog (c := bodyOf Try.f63) Try.func63 (show Try.f63.body = some (bodyOf Try.f63) from rfl) (show (1 : Nat) ≤ 29 by decide) hb ((m_z0g n a0).trans h) rfl (by kernel_rfl)
noncomputable def c_z0g : Spec := specQ e_z0g h_z0g ro_z0g rh_z0g fun a b => Q_z0g a.1
theorem k_z0g (hm : Try.prog.follows .mixedOrders = true) : SpecOk Try.prog 63 c_z0g := specQ_ok (pol := p_z0g) hm (cf := cf_z0g) (tab_ok specs_nil) fun a b r h => ⟨FUEL, g_z0g FUEL a.1 (decRes_some h)⟩
def s_z0h_r : Sig := ⟨[2], [.ty .bool], []⟩
def p_z0h : Pol := ⟨fun i => none, fun i => none, some [(2, .keep)], [.keep], []⟩
def e_z0h : List EK := [.agg NodeT]
def h_z0h : List HK := []
noncomputable def cf_z0h : CallF := mkCF [] []
noncomputable def ls_z0h (n : Nat) : Loops := fun i =>  none
theorem m_z0h (n : Nat) (a0 : NodeS) : runFT Try.prog cf_z0h p_z0h (ls_z0h n) Try.f64 (bodyOf Try.f64) (EK.encs e_z0h ((a0, ()), ()).1) (HK.encs h_z0h ((a0, ()), ()).2) = M_z0h n a0 := by kernel_rfl
theorem g_z0h (n : Nat) (a0 : NodeS) {r : Res} (h : M_z0h n a0 = some r) : runF Try.prog cf_z0h n p_z0h 64 (EK.encs e_z0h ((a0, ()), ()).1) (HK.encs h_z0h ((a0, ()), ()).2) = some r := by
  have hb : LOk Try.prog cf_z0h Try.f64.ntmps 0 n p_z0h (ls_z0h n) (bodyOf Try.f64) := ⟨trivial, ⟨⟨trivial, ⟨⟨trivial, trivial⟩, trivial⟩⟩, ⟨trivial, trivial⟩⟩⟩
  exact runFT_some Try.prog (c := bodyOf Try.f64) Try.func64 (show Try.f64.body = some (bodyOf Try.f64) from rfl) (show (1 : Nat) ≤ 17 by decide) hb ((m_z0h n a0).trans h) rfl (by kernel_rfl)
noncomputable def c_z0h : Spec := specQ e_z0h h_z0h ro_z0h rh_z0h fun a b => Q_z0h a.1
theorem k_z0h (hm : Try.prog.follows .mixedOrders = true) : SpecOk Try.prog 64 c_z0h := specQ_ok (pol := p_z0h) hm (cf := cf_z0h) (tab_ok specs_nil) fun a b r h => ⟨FUEL, g_z0h FUEL a.1 (decRes_some h)⟩
def s_z0i_r : Sig := ⟨[2], [.ty .bool], []⟩
def s_z0i_h0 : Sig := ⟨[1, 57, 58, 59], [.ptr 0 0 0, .ty (.slice ArmT), .ty (.int .i64), .ty (.int .i64)], [.cell NodeT]⟩
def s_z0i_t0 : Sig := ⟨[], [], []⟩
def p_z0i : Pol := ⟨fun i => if i = 0 then some [(1, (.own NodeT)), (57, .keep), (58, .keep), (59, .keep)] else none, fun i => if i = 0 then some [] else none, some [(2, .keep)], [.keep], []⟩
def e_z0i : List EK := [.agg NodeT]
def h_z0i : List HK := []
noncomputable def cf_z0i : CallF := mkCF [(62, c_z0f), (63, c_z0g), (64, c_z0h)] [(62, [(.int .i64)]), (63, [SpanT]), (64, [NodeT])]
noncomputable def ls_z0i (n : Nat) : Loops := fun i => if i = 0 then some (loopT 0 (p_z0i.head 0) s_z0i_h0 fun K v => L_z0i_0 n (fun z0 => K .rt (s_z0i_r.enc ((z0, ()), ()))) (fun _ => K (.ex 0) (s_z0i_t0.enc ((), ()))) v.1.2.1 v.1.2.2.1 v.2.1 n v.1.2.2.2.1)
  else  none
noncomputable def b_z0i_0 : Code := partOf (bodyOf Try.f61) [1, 1, 1, 0, 1, 0, 0]
noncomputable def V_z0i_0 (n : Nat) (K : Cont) (rec : Sig.sem s_z0i_h0 → Option Res) (v : Sig.sem s_z0i_h0) : Option Res := F_z0i_0 n (fun z0 => K .rt (s_z0i_r.enc ((z0, ()), ()))) (fun _ => K (.ex 0) (s_z0i_t0.enc ((), ()))) v.1.2.1 v.1.2.2.1 v.2.1 (fun z2 => rec (((), (v.1.2.1, (v.1.2.2.1, (z2, ())))), (v.2.1, ()))) v.1.2.2.2.1
theorem t_z0i_0 (n : Nat) (K : Cont) (rec : Sig.sem s_z0i_h0 → Option Res) (v : Sig.sem s_z0i_h0) : runT Try.prog cf_z0i Try.f61.ntmps 0 p_z0i (ls_z0i n) b_z0i_0 (s_z0i_h0.enc v) (turnK 0 (p_z0i.head 0) s_z0i_h0 rec K) = V_z0i_0 n K rec v := by kernel_rfl
noncomputable def W_z0i_0 (n : Nat) (K : Cont) (m : Nat) (v : Sig.sem s_z0i_h0) : Option Res := L_z0i_0 n (fun z0 => K .rt (s_z0i_r.enc ((z0, ()), ()))) (fun _ => K (.ex 0) (s_z0i_t0.enc ((), ()))) v.1.2.1 v.1.2.2.1 v.2.1 m v.1.2.2.2.1
theorem i_z0i_0 (n : Nat) (K : Cont) : ∀ m v, iter (V_z0i_0 n K) m v = W_z0i_0 n K m v := by
  intro m
  induction m with
  | zero => intro v; rfl
  | succ m ih =>
    intro v
    show V_z0i_0 n K (iter (V_z0i_0 n K) m) v = V_z0i_0 n K (W_z0i_0 n K m) v
    rw [show iter (V_z0i_0 n K) m = W_z0i_0 n K m from funext ih]
theorem o_z0i_0 (n : Nat) : ∀ L, ls_z0i n 0 = some L → ∀ s K r, L s K = some r → ∃ x s', loopN (run Try.prog cf_z0i Try.f61.ntmps 0 n p_z0i none b_z0i_0) (gc 0 (p_z0i.head 0)) n s = some (x, s') ∧ K x s' = some r := by
  intro L hL s K r h
  have hL : some (loopT 0 (p_z0i.head 0) s_z0i_h0 fun K v => W_z0i_0 n K n v) = some L := hL
  cases hL
  have hb : LOk Try.prog cf_z0i Try.f61.ntmps 0 n p_z0i (ls_z0i n) b_z0i_0 := ⟨trivial, ⟨⟨trivial, trivial⟩, ⟨⟨trivial, ⟨trivial, ⟨⟨trivial, trivial⟩, trivial⟩⟩⟩, trivial⟩⟩⟩
  refine loopT_ok hb (V_z0i_0 n) (t_z0i_0 n) n s K r ?_
  rw [← h]
  unfold loopT
  simp only [i_z0i_0]
theorem m_z0i (n : Nat) (a0 : NodeS) : runFT Try.prog cf_z0i p_z0i (ls_z0i n) Try.f61 (bodyOf Try.f61) (EK.encs e_z0i ((a0, ()), ()).1) (HK.encs h_z0i ((a0, ()), ()).2) = M_z0i n a0 := by kernel_rfl
theorem g_z0i (n : Nat) (a0 : NodeS) {r : Res} (h : M_z0i n a0 = some r) : runF Try.prog cf_z0i n p_z0i 61 (EK.encs e_z0i ((a0, ()), ()).1) (HK.encs h_z0i ((a0, ()), ()).2) = some r := by
  have hb : LOk Try.prog cf_z0i Try.f61.ntmps 0 n p_z0i (ls_z0i n) (bodyOf Try.f61) := ⟨trivial, ⟨⟨trivial, ⟨⟨trivial, trivial⟩, trivial⟩⟩, ⟨⟨trivial, ⟨⟨trivial, trivial⟩, trivial⟩⟩, ⟨⟨trivial, (o_z0i_0 n)⟩, ⟨trivial, trivial⟩⟩⟩⟩⟩
  exact runFT_some Try.prog (c := bodyOf Try.f61) Try.func61 (show Try.f61.body = some (bodyOf Try.f61) from rfl) (show (1 : Nat) ≤ 99 by decide) hb ((m_z0i n a0).trans h) rfl (by kernel_rfl)
noncomputable def c_z0i : Spec := specQ e_z0i h_z0i ro_z0i rh_z0i fun a b => Q_z0i a.1
theorem k_z0i (hm : Try.prog.follows .mixedOrders = true) : SpecOk Try.prog 61 c_z0i := specQ_ok (pol := p_z0i) hm (cf := cf_z0i) (tab_ok (specs_cons (k_z0f hm) (specs_cons (k_z0g hm) (specs_cons (k_z0h hm) specs_nil)))) fun a b r h => ⟨FUEL, g_z0i FUEL a.1 (decRes_some h)⟩
def s_z0j_h0 : Sig := ⟨[0, 5, 6, 7], [.ty (.slice NodeT), .ty (.slice NodeT), .ty (.int .i64), .ty (.int .i64)], []⟩
def s_z0j_r : Sig := ⟨[2], [.ty .bool], []⟩
def s_z0j_t0 : Sig := ⟨[], [], []⟩
def p_z0j : Pol := ⟨fun i => if i = 0 then some [(0, .keep), (5, .keep), (6, .keep), (7, .keep)] else none, fun i => if i = 0 then some [] else none, some [(2, .keep)], [.keep], []⟩
def e_z0j : List EK := [.ty (.slice NodeT)]
def h_z0j : List HK := []
noncomputable def cf_z0j : CallF := mkCF [(61, c_z0i)] [(61, [NodeT])]
noncomputable def ls_z0j (n : Nat) : Loops := fun i => if i = 0 then some (loopT 0 (p_z0j.head 0) s_z0j_h0 fun K v => L_z0j_0 n (fun z0 => K .rt (s_z0j_r.enc ((z0, ()), ()))) (fun _ => K (.ex 0) (s_z0j_t0.enc ((), ()))) v.1.1 v.1.2.1 v.1.2.2.1 n v.1.2.2.2.1)
  else  none
noncomputable def b_z0j_0 : Code := partOf (bodyOf Try.f48) [1, 0, 1, 0, 0]
noncomputable def V_z0j_0 (n : Nat) (K : Cont) (rec : Sig.sem s_z0j_h0 → Option Res) (v : Sig.sem s_z0j_h0) : Option Res := F_z0j_0 n (fun z0 => K .rt (s_z0j_r.enc ((z0, ()), ()))) (fun _ => K (.ex 0) (s_z0j_t0.enc ((), ()))) v.1.1 v.1.2.1 v.1.2.2.1 (fun z3 => rec ((v.1.1, (v.1.2.1, (v.1.2.2.1, (z3, ())))), ())) v.1.2.2.2.1
theorem t_z0j_0 (n : Nat) (K : Cont) (rec : Sig.sem s_z0j_h0 → Option Res) (v : Sig.sem s_z0j_h0) : runT Try.prog cf_z0j Try.f48.ntmps 0 p_z0j (ls_z0j n) b_z0j_0 (s_z0j_h0.enc v) (turnK 0 (p_z0j.head 0) s_z0j_h0 rec K) = V_z0j_0 n K rec v := by kernel_rfl
noncomputable def W_z0j_0 (n : Nat) (K : Cont) (m : Nat) (v : Sig.sem s_z0j_h0) : Option Res := L_z0j_0 n (fun z0 => K .rt (s_z0j_r.enc ((z0, ()), ()))) (fun _ => K (.ex 0) (s_z0j_t0.enc ((), ()))) v.1.1 v.1.2.1 v.1.2.2.1 m v.1.2.2.2.1
theorem i_z0j_0 (n : Nat) (K : Cont) : ∀ m v, iter (V_z0j_0 n K) m v = W_z0j_0 n K m v := by
  intro m
  induction m with
  | zero => intro v; rfl
  | succ m ih =>
    intro v
    show V_z0j_0 n K (iter (V_z0j_0 n K) m) v = V_z0j_0 n K (W_z0j_0 n K m) v
    rw [show iter (V_z0j_0 n K) m = W_z0j_0 n K m from funext ih]
theorem o_z0j_0 (n : Nat) : ∀ L, ls_z0j n 0 = some L → ∀ s K r, L s K = some r → ∃ x s', loopN (run Try.prog cf_z0j Try.f48.ntmps 0 n p_z0j none b_z0j_0) (gc 0 (p_z0j.head 0)) n s = some (x, s') ∧ K x s' = some r := by
  intro L hL s K r h
  have hL : some (loopT 0 (p_z0j.head 0) s_z0j_h0 fun K v => W_z0j_0 n K n v) = some L := hL
  cases hL
  have hb : LOk Try.prog cf_z0j Try.f48.ntmps 0 n p_z0j (ls_z0j n) b_z0j_0 := ⟨trivial, ⟨⟨trivial, trivial⟩, ⟨⟨trivial, ⟨trivial, ⟨⟨trivial, trivial⟩, trivial⟩⟩⟩, trivial⟩⟩⟩
  refine loopT_ok hb (V_z0j_0 n) (t_z0j_0 n) n s K r ?_
  rw [← h]
  unfold loopT
  simp only [i_z0j_0]
theorem m_z0j (n : Nat) (a0 : (List NodeS)) : runFT Try.prog cf_z0j p_z0j (ls_z0j n) Try.f48 (bodyOf Try.f48) (EK.encs e_z0j ((a0, ()), ()).1) (HK.encs h_z0j ((a0, ()), ()).2) = M_z0j n a0 := by kernel_rfl
theorem g_z0j (n : Nat) (a0 : (List NodeS)) {r : Res} (h : M_z0j n a0 = some r) : runF Try.prog cf_z0j n p_z0j 48 (EK.encs e_z0j ((a0, ()), ()).1) (HK.encs h_z0j ((a0, ()), ()).2) = some r := by
  have hb : LOk Try.prog cf_z0j Try.f48.ntmps 0 n p_z0j (ls_z0j n) (bodyOf Try.f48) := ⟨trivial, ⟨⟨trivial, (o_z0j_0 n)⟩, ⟨trivial, trivial⟩⟩⟩
  exact runFT_some Try.prog (c := bodyOf Try.f48) Try.func48 (show Try.f48.body = some (bodyOf Try.f48) from rfl) (show (1 : Nat) ≤ 31 by decide) hb ((m_z0j n a0).trans h) rfl (by kernel_rfl)
noncomputable def c_z0j : Spec := specQ e_z0j h_z0j ro_z0j rh_z0j fun a b => Q_z0j a.1
theorem k_z0j (hm : Try.prog.follows .mixedOrders = true) : SpecOk Try.prog 48 c_z0j := specQ_ok (pol := p_z0j) hm (cf := cf_z0j) (tab_ok (specs_cons (k_z0i hm) specs_nil)) fun a b r h => ⟨FUEL, g_z0j FUEL a.1 (decRes_some h)⟩
def s_z0k_h0 : Sig := ⟨[3, 10, 11, 12], [.hs 0 0, .ty (.slice ArmT), .ty (.int .i64), .ty (.int .i64)], [.row (.int .i64)]⟩
def s_z0k_t0 : Sig := ⟨[3], [.hs 0 0], [.row (.int .i64)]⟩
def s_z0k_r : Sig := ⟨[2], [.hs 0 0], [.row (.int .i64)]⟩
def p_z0k : Pol := ⟨fun i => if i = 0 then some [(3, (.own (.int .i64))), (10, .keep), (11, .keep), (12, .keep)] else none, fun i => if i = 0 then some [(3, (.own (.int .i64)))] else none, some [(2, (.own (.int .i64)))], [(.own (.int .i64))], []⟩
def e_z0k : List EK := [.agg NodeT]
def h_z0k : List HK := []
noncomputable def cf_z0k : CallF := mkCF [] []
noncomputable def ls_z0k (n : Nat) : Loops := fun i => if i = 0 then some (loopT 0 (p_z0k.head 0) s_z0k_h0 fun K v => L_z0k_0 n (fun z0 z1 => K (.ex 0) (s_z0k_t0.enc ((z0, ()), (z1, ())))) v.1.2.1 v.1.2.2.1 n v.1.1 v.1.2.2.2.1 v.2.1)
  else  none
noncomputable def b_z0k_0 : Code := partOf (bodyOf Try.f52) [1, 1, 0, 1, 0, 0]
noncomputable def V_z0k_0 (n : Nat) (K : Cont) (rec : Sig.sem s_z0k_h0 → Option Res) (v : Sig.sem s_z0k_h0) : Option Res := F_z0k_0 n (fun z0 z1 => K (.ex 0) (s_z0k_t0.enc ((z0, ()), (z1, ())))) v.1.2.1 v.1.2.2.1 (fun z0 z3 z4 => rec ((z0, (v.1.2.1, (v.1.2.2.1, (z3, ())))), (z4, ()))) v.1.1 v.1.2.2.2.1 v.2.1
theorem t_z0k_0 (n : Nat) (K : Cont) (rec : Sig.sem s_z0k_h0 → Option Res) (v : Sig.sem s_z0k_h0) : runT Try.prog cf_z0k Try.f52.ntmps 0 p_z0k (ls_z0k n) b_z0k_0 (s_z0k_h0.enc v) (turnK 0 (p_z0k.head 0) s_z0k_h0 rec K) = V_z0k_0 n K rec v := by kernel_rfl
noncomputable def W_z0k_0 (n : Nat) (K : Cont) (m : Nat) (v : Sig.sem s_z0k_h0) : Option Res := L_z0k_0 n (fun z0 z1 => K (.ex 0) (s_z0k_t0.enc ((z0, ()), (z1, ())))) v.1.2.1 v.1.2.2.1 m v.1.1 v.1.2.2.2.1 v.2.1
theorem i_z0k_0 (n : Nat) (K : Cont) : ∀ m v, iter (V_z0k_0 n K) m v = W_z0k_0 n K m v := by
  intro m
  induction m with
  | zero => intro v; rfl
  | succ m ih =>
    intro v
    show V_z0k_0 n K (iter (V_z0k_0 n K) m) v = V_z0k_0 n K (W_z0k_0 n K m) v
    rw [show iter (V_z0k_0 n K) m = W_z0k_0 n K m from funext ih]
theorem o_z0k_0 (n : Nat) : ∀ L, ls_z0k n 0 = some L → ∀ s K r, L s K = some r → ∃ x s', loopN (run Try.prog cf_z0k Try.f52.ntmps 0 n p_z0k none b_z0k_0) (gc 0 (p_z0k.head 0)) n s = some (x, s') ∧ K x s' = some r := by
  intro L hL s K r h
  have hL : some (loopT 0 (p_z0k.head 0) s_z0k_h0 fun K v => W_z0k_0 n K n v) = some L := hL
  cases hL
  have hb : LOk Try.prog cf_z0k Try.f52.ntmps 0 n p_z0k (ls_z0k n) b_z0k_0 := ⟨trivial, ⟨⟨trivial, trivial⟩, ⟨⟨trivial, trivial⟩, trivial⟩⟩⟩
  refine loopT_ok hb (V_z0k_0 n) (t_z0k_0 n) n s K r ?_
  rw [← h]
  unfold loopT
  simp only [i_z0k_0]
theorem m_z0k (n : Nat) (a0 : NodeS) : runFT Try.prog cf_z0k p_z0k (ls_z0k n) Try.f52 (bodyOf Try.f52) (EK.encs e_z0k ((a0, ()), ()).1) (HK.encs h_z0k ((a0, ()), ()).2) = M_z0k n a0 := by kernel_rfl
theorem g_z0k (n : Nat) (a0 : NodeS) {r : Res} (h : M_z0k n a0 = some r) : runF Try.prog cf_z0k n p_z0k 52 (EK.encs e_z0k ((a0, ()), ()).1) (HK.encs h_z0k ((a0, ()), ()).2) = some r := by
  have hb : LOk Try.prog cf_z0k Try.f52.ntmps 0 n p_z0k (ls_z0k n) (bodyOf Try.f52) := ⟨trivial, ⟨trivial, ⟨⟨trivial, (o_z0k_0 n)⟩, ⟨trivial, trivial⟩⟩⟩⟩
  exact runFT_some Try.prog (c := bodyOf Try.f52) Try.func52 (show Try.f52.body = some (bodyOf Try.f52) from rfl) (show (1 : Nat) ≤ 23 by decide) hb ((m_z0k n a0).trans h) rfl (by kernel_rfl)
noncomputable def c_z0k : Spec := specQ e_z0k h_z0k ro_z0k rh_z0k fun a b => Q_z0k a.1
theorem k_z0k (hm : Try.prog.follows .mixedOrders = true) : SpecOk Try.prog 52 c_z0k := specQ_ok (pol := p_z0k) hm (cf := cf_z0k) (tab_ok specs_nil) fun a b r h => ⟨FUEL, g_z0k FUEL a.1 (decRes_some h)⟩
def s_z0l_h0 : Sig := ⟨[1, 4, 8, 9, 10], [.ty (.int .i64), .ptr 0 0 0, .ty (.slice NodeT), .ty (.int .i64), .ty (.int .i64)], [.cell NodeT]⟩
def s_z0l_r : Sig := ⟨[4, 5], [.ptr 0 0 0, .ty .bool], [.cell NodeT]⟩
def s_z0l_t0 : Sig := ⟨[4], [.ptr 0 0 0], [.cell NodeT]⟩
def p_z0l : Pol := ⟨fun i => if i = 0 then some [(1, .keep), (4, (.own NodeT)), (8, .keep), (9, .keep), (10, .keep)] else none, fun i => if i = 0 then some [(4, (.own NodeT))] else none, some [(4, (.own NodeT)), (5, .keep)], [.keep, .keep], []⟩
def e_z0l : List EK := [.ty (.slice NodeT), .ty (.int .i64)]
def h_z0l : List HK := []
noncomputable def cf_z0l : CallF := mkCF [] []
noncomputable def ls_z0l (n : Nat) : Loops := fun i => if i = 0 then some (loopT 0 (p_z0l.head 0) s_z0l_h0 fun K v => L_z0l_0 n (fun z0 z1 => K .rt (s_z0l_r.enc (((), (z0, ())), (z1, ())))) (fun _ => K (.ex 0) (s_z0l_t0.enc (((), ()), (v.2.1, ())))) v.1.1 v.1.2.2.1 v.1.2.2.2.1 v.2.1 n v.1.2.2.2.2.1)
  else  none
noncomputable def b_z0l_0 : Code := partOf (bodyOf Try.f51) [1, 0, 1, 0, 0]
noncomputable def V_z0l_0 (n : Nat) (K : Cont) (rec : Sig.sem s_z0l_h0 → Option Res) (v : Sig.sem s_z0l_h0) : Option Res := F_z0l_0 n (fun z0 z1 => K .rt (s_z0l_r.enc (((), (z0, ())), (z1, ())))) (fun _ => K (.ex 0) (s_z0l_t0.enc (((), ()), (v.2.1, ())))) v.1.1 v.1.2.2.1 v.1.2.2.2.1 v.2.1 (fun z3 => rec ((v.1.1, ((), (v.1.2.2.1, (v.1.2.2.2.1, (z3, ()))))), (v.2.1, ()))) v.1.2.2.2.2.1
theorem t_z0l_0 (n : Nat) (K : Cont) (rec : Sig.sem s_z0l_h0 → Option Res) (v : Sig.sem s_z0l_h0) : runT Try.prog cf_z0l Try.f51.ntmps 0 p_z0l (ls_z0l n) b_z0l_0 (s_z0l_h0.enc v) (turnK 0 (p_z0l.head 0) s_z0l_h0 rec K) = V_z0l_0 n K rec v := by kernel_rfl
noncomputable def W_z0l_0 (n : Nat) (K : Cont) (m : Nat) (v : Sig.sem s_z0l_h0) : Option Res := L_z0l_0 n (fun z0 z1 => K .rt (s_z0l_r.enc (((), (z0, ())), (z1, ())))) (fun _ => K (.ex 0) (s_z0l_t0.enc (((), ()), (v.2.1, ())))) v.1.1 v.1.2.2.1 v.1.2.2.2.1 v.2.1 m v.1.2.2.2.2.1
theorem i_z0l_0 (n : Nat) (K : Cont) : ∀ m v, iter (V_z0l_0 n K) m v = W_z0l_0 n K m v := by
  intro m
  induction m with
  | zero => intro v; rfl
  | succ m ih =>
    intro v
    show V_z0l_0 n K (iter (V_z0l_0 n K) m) v = V_z0l_0 n K (W_z0l_0 n K m) v
    rw [show iter (V_z0l_0 n K) m = W_z0l_0 n K m from funext ih]
theorem o_z0l_0 (n : Nat) : ∀ L, ls_z0l n 0 = some L → ∀ s K r, L s K = some r → ∃ x s', loopN (run Try.prog cf_z0l Try.f51.ntmps 0 n p_z0l none b_z0l_0) (gc 0 (p_z0l.head 0)) n s = some (x, s') ∧ K x s' = some r := by
  intro L hL s K r h
  have hL : some (loopT 0 (p_z0l.head 0) s_z0l_h0 fun K v => W_z0l_0 n K n v) = some L := hL
  cases hL
  have hb : LOk Try.prog cf_z0l Try.f51.ntmps 0 n p_z0l (ls_z0l n) b_z0l_0 := ⟨trivial, ⟨⟨trivial, trivial⟩, ⟨⟨trivial, ⟨trivial, ⟨⟨trivial, trivial⟩, trivial⟩⟩⟩, trivial⟩⟩⟩
  refine loopT_ok hb (V_z0l_0 n) (t_z0l_0 n) n s K r ?_
  rw [← h]
  unfold loopT
  simp only [i_z0l_0]
theorem m_z0l (n : Nat) (a0 : (List NodeS)) (a1 : Int) : runFT Try.prog cf_z0l p_z0l (ls_z0l n) Try.f51 (bodyOf Try.f51) (EK.encs e_z0l ((a0, (a1, ())), ()).1) (HK.encs h_z0l ((a0, (a1, ())), ()).2) = M_z0l n a0 a1 := by kernel_rfl
theorem g_z0l (n : Nat) (a0 : (List NodeS)) (a1 : Int) {r : Res} (h : M_z0l n a0 a1 = some r) : runF Try.prog cf_z0l n p_z0l 51 (EK.encs e_z0l ((a0, (a1, ())), ()).1) (HK.encs h_z0l ((a0, (a1, ())), ()).2) = some r := by
  have hb : LOk Try.prog cf_z0l Try.f51.ntmps 0 n p_z0l (ls_z0l n) (bodyOf Try.f51) := ⟨trivial, ⟨⟨trivial, (o_z0l_0 n)⟩, ⟨trivial, trivial⟩⟩⟩
  exact runFT_some Try.prog (c := bodyOf Try.f51) Try.func51 (show Try.f51.body = some (bodyOf Try.f51) from rfl) (show (2 : Nat) ≤ 21 by decide) hb ((m_z0l n a0 a1).trans h) rfl (by kernel_rfl)
noncomputable def c_z0l : Spec := specQ e_z0l h_z0l ro_z0l rh_z0l fun a b => Q_z0l a.1 a.2.1
theorem k_z0l (hm : Try.prog.follows .mixedOrders = true) : SpecOk Try.prog 51 c_z0l := specQ_ok (pol := p_z0l) hm (cf := cf_z0l) (tab_ok specs_nil) fun a b r h => ⟨FUEL, g_z0l FUEL a.1 a.2.1 (decRes_some h)⟩
def s_z0m_h0 : Sig := ⟨[0, 9, 10, 11], [.ty (.slice NodeT), .ty (.slice NodeT), .ty (.int .i64), .ty (.int .i64)], []⟩
def s_z0m_h2 : Sig := ⟨[0, 9, 10, 11, 16, 17, 18], [.ty (.slice NodeT), .ty (.slice NodeT), .ty (.int .i64), .ty (.int .i64), .hs 0 0, .ty (.int .i64), .ty (.int .i64)], [.row (.int .i64)]⟩
def s_z0m_r : Sig := ⟨[2], [.ty .bool], []⟩
def s_z0m_t2 : Sig := ⟨[0, 9, 10, 11], [.ty (.slice NodeT), .ty (.slice NodeT), .ty (.int .i64), .ty (.int .i64)], []⟩
def s_z0m_t0 : Sig := ⟨[], [], []⟩
def p_z0m : Pol := ⟨fun i => if i = 0 then some [(0, .keep), (9, .keep), (10, .keep), (11, .keep)] else if i = 2 then some [(0, .keep), (9, .keep), (10, .keep), (11, .keep), (16, (.own (.int .i64))), (17, .keep), (18, .keep)] else none, fun i => if i = 2 then some [(0, .keep), (9, .keep), (10, .keep), (11, .keep)] else if i = 0 then some [] else none, some [(2, .keep)], [.keep], []⟩
def e_z0m : List EK := [.ty (.slice NodeT)]
def h_z0m : List HK := []
noncomputable def cf_z0m : CallF := mkCF [(52, c_z0k), (51, c_z0l)] [(52, [NodeT]), (51, [(.slice NodeT), (.int .i64)])]
noncomputable def ls_z0m (n : Nat) : Loops := fun i => if i = 2 then some (loopT 0 (p_z0m.head 2) s_z0m_h2 fun K v => L_z0m_2 n (fun z0 => K .rt (s_z0m_r.enc ((z0, ()), ()))) (fun _ => K (.ex 2) (s_z0m_t2.enc ((v.1.1, (v.1.2.1, (v.1.2.2.1, (v.1.2.2.2.1, ())))), ()))) v.1.1 v.1.2.1 v.1.2.2.1 v.1.2.2.2.1 v.1.2.2.2.2.1 v.1.2.2.2.2.2.1 v.2.1 n v.1.2.2.2.2.2.2.1)
  else if i = 0 then some (loopT 0 (p_z0m.head 0) s_z0m_h0 fun K v => L_z0m_0 n (fun z0 => K .rt (s_z0m_r.enc ((z0, ()), ()))) (fun _ => K (.ex 0) (s_z0m_t0.enc ((), ()))) v.1.1 v.1.2.1 v.1.2.2.1 n v.1.2.2.2.1)
  else  none
noncomputable def b_z0m_2 : Code := partOf (bodyOf Try.f49) [1, 0, 1, 0, 0, 1, 1, 0, 0, 1, 1, 0, 0]
noncomputable def V_z0m_2 (n : Nat) (K : Cont) (rec : Sig.sem s_z0m_h2 → Option Res) (v : Sig.sem s_z0m_h2) : Option Res := F_z0m_2 n (fun z0 => K .rt (s_z0m_r.enc ((z0, ()), ()))) (fun _ => K (.ex 2) (s_z0m_t2.enc ((v.1.1, (v.1.2.1, (v.1.2.2.1, (v.1.2.2.2.1, ())))), ()))) v.1.1 v.1.2.1 v.1.2.2.1 v.1.2.2.2.1 v.1.2.2.2.2.1 v.1.2.2.2.2.2.1 v.2.1 (fun z6 => rec ((v.1.1, (v.1.2.1, (v.1.2.2.1, (v.1.2.2.2.1, (v.1.2.2.2.2.1, (v.1.2.2.2.2.2.1, (z6, ()))))))), (v.2.1, ()))) v.1.2.2.2.2.2.2.1
theorem t_z0m_2 (n : Nat) (K : Cont) (rec : Sig.sem s_z0m_h2 → Option Res) (v : Sig.sem s_z0m_h2) : runT Try.prog cf_z0m Try.f49.ntmps 0 p_z0m (ls_z0m n) b_z0m_2 (s_z0m_h2.enc v) (turnK 0 (p_z0m.head 2) s_z0m_h2 rec K) = V_z0m_2 n K rec v := by kernel_rfl
noncomputable def W_z0m_2 (n : Nat) (K : Cont) (m : Nat) (v : Sig.sem s_z0m_h2) : Option Res := L_z0m_2 n (fun z0 => K .rt (s_z0m_r.enc ((z0, ()), ()))) (fun _ => K (.ex 2) (s_z0m_t2.enc ((v.1.1, (v.1.2.1, (v.1.2.2.1, (v.1.2.2.2.1, ())))), ()))) v.1.1 v.1.2.1 v.1.2.2.1 v.1.2.2.2.1 v.1.2.2.2.2.1 v.1.2.2.2.2.2.1 v.2.1 m v.1.2.2.2.2.2.2.1
theorem i_z0m_2 (n : Nat) (K : Cont) : ∀ m v, iter (V_z0m_2 n K) m v = W_z0m_2 n K m v := by
  intro m
  induction m with
  | zero => intro v; rfl
  | succ m ih =>
    intro v
    show V_z0m_2 n K (iter (V_z0m_2 n K) m) v = V_z0m_2 n K (W_z0m_2 n K m) v
    rw [show iter (V_z0m_2 n K) m = W_z0m_2 n K m from funext ih]
theorem o_z0m_2 (n : Nat) : ∀ L, ls_z0m n 2 = some L → ∀ s K r, L s K = some r → ∃ x s', loopN (run Try.prog cf_z0m Try.f49.ntmps 0 n p_z0m none b_z0m_2) (gc 0 (p_z0m.head 2)) n s = some (x, s') ∧ K x s' = some r := by
  intro L hL s K r h
  have hL : some (loopT 0 (p_z0m.head 2) s_z0m_h2 fun K v => W_z0m_2 n K n v) = some L := hL
  cases hL
  have hb : LOk Try.prog cf_z0m Try.f49.ntmps 0 n p_z0m (ls_z0m n) b_z0m_2 := ⟨trivial, ⟨⟨trivial, trivial⟩, ⟨⟨trivial, ⟨trivial, ⟨trivial, ⟨⟨trivial, trivial⟩, trivial⟩⟩⟩⟩, trivial⟩⟩⟩
  refine loopT_ok hb (V_z0m_2 n) (t_z0m_2 n) n s K r ?_
  rw [← h]
  unfold loopT
  simp only [i_z0m_2]
noncomputable def b_z0m_0 : Code := partOf (bodyOf Try.f49) [1, 0, 1, 0, 0]
noncomputable def V_z0m_0 (n : Nat) (K : Cont) (rec : Sig.sem s_z0m_h0 → Option Res) (v : Sig.sem s_z0m_h0) : Option Res := F_z0m_0 n (fun z0 => K .rt (s_z0m_r.enc ((z0, ()), ()))) (fun _ => K (.ex 0) (s_z0m_t0.enc ((), ()))) v.1.1 v.1.2.1 v.1.2.2.1 (fun z3 => rec ((v.1.1, (v.1.2.1, (v.1.2.2.1, (z3, ())))), ())) v.1.2.2.2.1
theorem t_z0m_0 (n : Nat) (K : Cont) (rec : Sig.sem s_z0m_h0 → Option Res) (v : Sig.sem s_z0m_h0) : runT Try.prog cf_z0m Try.f49.ntmps 0 p_z0m (ls_z0m n) b_z0m_0 (s_z0m_h0.enc v) (turnK 0 (p_z0m.head 0) s_z0m_h0 rec K) = V_z0m_0 n K rec v := by kernel_rfl
noncomputable def W_z0m_0 (n : Nat) (K : Cont) (m : Nat) (v : Sig.sem s_z0m_h0) : Option Res := L_z0m_0 n (fun z0 => K .rt (s_z0m_r.enc ((z0, ()), ()))) (fun _ => K (.ex 0) (s_z0m_t0.enc ((), ()))) v.1.1 v.1.2.1 v.1.2.2.1 m v.1.2.2.2.1
theorem i_z0m_0 (n : Nat) (K : Cont) : ∀ m v, iter (V_z0m_0 n K) m v = W_z0m_0 n K m v := by
  intro m
  induction m with
  | zero => intro v; rfl
  | succ m ih =>
    intro v
    show V_z0m_0 n K (iter (V_z0m_0 n K) m) v = V_z0m_0 n K (W_z0m_0 n K m) v
    rw [show iter (V_z0m_0 n K) m = W_z0m_0 n K m from funext ih]
theorem o_z0m_0 (n : Nat) : ∀ L, ls_z0m n 0 = some L → ∀ s K r, L s K = some r → ∃ x s', loopN (run Try.prog cf_z0m Try.f49.ntmps 0 n p_z0m none b_z0m_0) (gc 0 (p_z0m.head 0)) n s = some (x, s') ∧ K x s' = some r := by
  intro L hL s K r h
  have hL : some (loopT 0 (p_z0m.head 0) s_z0m_h0 fun K v => W_z0m_0 n K n v) = some L := hL
  cases hL
  have hb : LOk Try.prog cf_z0m Try.f49.ntmps 0 n p_z0m (ls_z0m n) b_z0m_0 := ⟨trivial, ⟨⟨trivial, trivial⟩, ⟨⟨trivial, ⟨trivial, (o_z0m_2 n)⟩⟩, trivial⟩⟩⟩
  refine loopT_ok hb (V_z0m_0 n) (t_z0m_0 n) n s K r ?_
  rw [← h]
  unfold loopT
  simp only [i_z0m_0]
theorem m_z0m (n : Nat) (a0 : (List NodeS)) : runFT Try.prog cf_z0m p_z0m (ls_z0m n) Try.f49 (bodyOf Try.f49) (EK.encs e_z0m ((a0, ()), ()).1) (HK.encs h_z0m ((a0, ()), ()).2) = M_z0m n a0 := by kernel_rfl
theorem g_z0m (n : Nat) (a0 : (List NodeS)) {r : Res} (h : M_z0m n a0 = some r) : runF Try.prog cf_z0m n p_z0m 49 (EK.encs e_z0m ((a0, ()), ()).1) (HK.encs h_z0m ((a0, ()), ()).2) = some r := by
  have hb : LOk Try.prog cf_z0m Try.f49.ntmps 0 n p_z0m (ls_z0m n) (bodyOf Try.f49) := ⟨trivial, ⟨⟨trivial, (o_z0m_0 n)⟩, ⟨trivial, trivial⟩⟩⟩
  exact runFT_some Try.prog (c := bodyOf Try.f49) Try.func49 (show Try.f49.body = some (bodyOf Try.f49) from rfl) (show (1 : Nat) ≤ 40 by decide) hb ((m_z0m n a0).trans h) rfl (by kernel_rfl)
noncomputable def c_z0m : Spec := specQ e_z0m h_z0m ro_z0m rh_z0m fun a b => Q_z0m a.1
theorem k_z0m (hm : Try.prog.follows .mixedOrders = true) : SpecOk Try.prog 49 c_z0m := specQ_ok (pol := p_z0m) hm (cf := cf_z0m) (tab_ok (specs_cons (k_z0k hm) (specs_cons (k_z0l hm) specs_nil))) fun a b r h => ⟨FUEL, g_z0m FUEL a.1 (decRes_some h)⟩
def e_z0n : List EK := [.ty (.int .i64), .ptr 0 0 0, .ptr 1 0 0, .ptr 3 0 0, .ptr 4 0 0, .ptr 6 0 0]
def h_z0n : List HK := [.one true [.ty (.slice NodeT)], .one false [.mp 2], .mf (.int .i64) (.int .i64), .one true [.ty .bool], .one false [.mp 5], .mf (.int .i64) (.int .i64), .one false [.fn 50 [(0, 0, 0), (1, 0, 0), (3, 0, 0), (4, 0, 0), (6, 0, 0)]]]
def s_z0n_r : Sig := ⟨[7], [.ty (.int .i64)], [.one true [.ty (.slice NodeT)], .one false [.mp 2], .mf (.int .i64) (.int .i64), .one true [.ty .bool], .one false [.mp 5], .mf (.int .i64) (.int .i64), .one false [.fn 50 [(0, 0, 0), (1, 0, 0), (3, 0, 0), (4, 0, 0), (6, 0, 0)]]]⟩
def s_z0n_h1 : Sig := ⟨[0, 2, 4, 5, 10, 40, 41, 42], [.ty (.int .i64), .ptr 1 0 0, .ptr 4 0 0, .ptr 6 0 0, .ty (.int .i64), .hs 7 0, .ty (.int .i64), .ty (.int .i64)], [.one true [.ty (.slice NodeT)], .one false [.mp 2], .mf (.int .i64) (.int .i64), .one true [.ty .bool], .one false [.mp 5], .mf (.int .i64) (.int .i64), .one false [.fn 50 [(0, 0, 0), (1, 0, 0), (3, 0, 0), (4, 0, 0), (6, 0, 0)]], .row (.int .i64)]⟩
def s_z0n_t1 : Sig := ⟨[0, 2, 4, 10], [.ty (.int .i64), .ptr 1 0 0, .ptr 4 0 0, .ty (.int .i64)], [.one true [.ty (.slice NodeT)], .one false [.mp 2], .mf (.int .i64) (.int .i64), .one true [.ty .bool], .one false [.mp 5], .mf (.int .i64) (.int .i64), .one false [.fn 50 [(0, 0, 0), (1, 0, 0), (3, 0, 0), (4, 0, 0), (6, 0, 0)]]]⟩
def p_z0n : Pol := ⟨fun i => if i = 1 then some [(0, .keep), (2, .keep), (4, .keep), (5, .keep), (10, .keep), (40, (.own (.int .i64))), (41, .keep), (42, .keep)] else none, fun i => if i = 1 then some [(0, .keep), (2, .keep), (4, .keep), (10, .keep)] else none, some [(7, .keep)], [.keep], []⟩
noncomputable def cf_z0n (qr_z0n : Int → (List NodeS) → (Int → Option (Int)) → Bool → (Int → Option (Int)) → Option (RS ro_z0n rh_z0n)) : CallF := mkCF [(51, c_z0l), (52, c_z0k), (50, (specQ e_z0n h_z0n ro_z0n rh_z0n fun a b => qr_z0n a.1 b.1.1 b.2.2.1 b.2.2.2.1.1 b.2.2.2.2.2.1))] [(51, [(.slice NodeT), (.int .i64)]), (52, [NodeT])]
noncomputable def ls_z0n (n : Nat) (qr_z0n : Int → (List NodeS) → (Int → Option (Int)) → Bool → (Int → Option (Int)) → Option (RS ro_z0n rh_z0n)) : Loops := fun i => if i = 1 then some (loopT 7 (p_z0n.head 1) s_z0n_h1 fun K v => L_z0n_1 n qr_z0n (fun z1 z2 z3 z4 z5 => K (.ex 1) (s_z0n_t1.enc ((v.1.1, ((), ((), (z1, ())))), ((z2, ()), (((), ()), (z3, ((z4, ()), (((), ()), (z5, (((), ()), ())))))))))) v.1.1 v.1.2.2.2.2.2.1 v.1.2.2.2.2.2.2.1 v.2.2.2.2.2.2.2.2.1 n v.1.2.2.2.2.1 v.1.2.2.2.2.2.2.2.1 v.2.1.1 v.2.2.2.1 v.2.2.2.2.1.1 v.2.2.2.2.2.2.1)
  else  none
noncomputable def b_z0n_1 : Code := partOf (bodyOf Try.f50) [1, 1, 1, 1, 1, 0, 1, 0, 0]
noncomputable def V_z0n_1 (qr_z0n : Int → (List NodeS) → (Int → Option (Int)) → Bool → (Int → Option (Int)) → Option (RS ro_z0n rh_z0n)) (n : Nat) (K : Cont) (rec : Sig.sem s_z0n_h1 → Option Res) (v : Sig.sem s_z0n_h1) : Option Res := F_z0n_1 n qr_z0n (fun z1 z2 z3 z4 z5 => K (.ex 1) (s_z0n_t1.enc ((v.1.1, ((), ((), (z1, ())))), ((z2, ()), (((), ()), (z3, ((z4, ()), (((), ()), (z5, (((), ()), ())))))))))) v.1.1 v.1.2.2.2.2.2.1 v.1.2.2.2.2.2.2.1 v.2.2.2.2.2.2.2.2.1 (fun z1 z4 z5 z6 z7 z8 => rec ((v.1.1, ((), ((), ((), (z1, (v.1.2.2.2.2.2.1, (v.1.2.2.2.2.2.2.1, (z4, ())))))))), ((z5, ()), (((), ()), (z6, ((z7, ()), (((), ()), (z8, (((), ()), (v.2.2.2.2.2.2.2.2.1, ())))))))))) v.1.2.2.2.2.1 v.1.2.2.2.2.2.2.2.1 v.2.1.1 v.2.2.2.1 v.2.2.2.2.1.1 v.2.2.2.2.2.2.1
theorem t_z0n_1 (qr_z0n : Int → (List NodeS) → (Int → Option (Int)) → Bool → (Int → Option (Int)) → Option (RS ro_z0n rh_z0n)) (n : Nat) (K : Cont) (rec : Sig.sem s_z0n_h1 → Option Res) (v : Sig.sem s_z0n_h1) : runT Try.prog (cf_z0n qr_z0n) Try.f50.ntmps 7 p_z0n (ls_z0n n qr_z0n) b_z0n_1 (s_z0n_h1.enc v) (turnK 7 (p_z0n.head 1) s_z0n_h1 rec K) = V_z0n_1 qr_z0n n K rec v := by kernel_rfl
noncomputable def W_z0n_1 (qr_z0n : Int → (List NodeS) → (Int → Option (Int)) → Bool → (Int → Option (Int)) → Option (RS ro_z0n rh_z0n)) (n : Nat) (K : Cont) (m : Nat) (v : Sig.sem s_z0n_h1) : Option Res := L_z0n_1 n qr_z0n (fun z1 z2 z3 z4 z5 => K (.ex 1) (s_z0n_t1.enc ((v.1.1, ((), ((), (z1, ())))), ((z2, ()), (((), ()), (z3, ((z4, ()), (((), ()), (z5, (((), ()), ())))))))))) v.1.1 v.1.2.2.2.2.2.1 v.1.2.2.2.2.2.2.1 v.2.2.2.2.2.2.2.2.1 m v.1.2.2.2.2.1 v.1.2.2.2.2.2.2.2.1 v.2.1.1 v.2.2.2.1 v.2.2.2.2.1.1 v.2.2.2.2.2.2.1
theorem i_z0n_1 (qr_z0n : Int → (List NodeS) → (Int → Option (Int)) → Bool → (Int → Option (Int)) → Option (RS ro_z0n rh_z0n)) (n : Nat) (K : Cont) : ∀ m v, iter (V_z0n_1 qr_z0n n K) m v = W_z0n_1 qr_z0n n K m v := by
  intro m
  induction m with
  | zero => intro v; rfl
  | succ m ih =>
    intro v
    show V_z0n_1 qr_z0n n K (iter (V_z0n_1 qr_z0n n K) m) v = V_z0n_1 qr_z0n n K (W_z0n_1 qr_z0n n K m) v
    rw [show iter (V_z0n_1 qr_z0n n K) m = W_z0n_1 qr_z0n n K m from funext ih]
theorem o_z0n_1 (qr_z0n : Int → (List NodeS) → (Int → Option (Int)) → Bool → (Int → Option (Int)) → Option (RS ro_z0n rh_z0n)) (n : Nat) : ∀ L, ls_z0n n qr_z0n 1 = some L → ∀ s K r, L s K = some r → ∃ x s', loopN (run Try.prog (cf_z0n qr_z0n) Try.f50.ntmps 7 n p_z0n none b_z0n_1) (gc 7 (p_z0n.head 1)) n s = some (x, s') ∧ K x s' = some r := by
  intro L hL s K r h
  have hL : some (loopT 7 (p_z0n.head 1) s_z0n_h1 fun K v => W_z0n_1 qr_z0n n K n v) = some L := hL
  cases hL
  have hb : LOk Try.prog (cf_z0n qr_z0n) Try.f50.ntmps 7 n p_z0n (ls_z0n n qr_z0n) b_z0n_1 := ⟨trivial, ⟨⟨trivial, trivial⟩, ⟨⟨trivial, trivial⟩, trivial⟩⟩⟩
  refine loopT_ok hb (V_z0n_1 qr_z0n n) (t_z0n_1 qr_z0n n) n s K r ?_
  rw [← h]
  unfold loopT
  simp only [i_z0n_1]
theorem m_z0n (n : Nat) (qr_z0n : Int → (List NodeS) → (Int → Option (Int)) → Bool → (Int → Option (Int)) → Option (RS ro_z0n rh_z0n)) (a0 : Int) (a1 : (List NodeS)) (a2 : (Int → Option (Int))) (a3 : Bool) (a4 : (Int → Option (Int))) : runFT Try.prog (cf_z0n qr_z0n) p_z0n (ls_z0n n qr_z0n) Try.f50 (bodyOf Try.f50) (EK.encs e_z0n ((a0, ((), ((), ((), ((), ((), ())))))), ((a1, ()), (((), ()), (a2, ((a3, ()), (((), ()), (a4, (((), ()), ())))))))).1) (HK.encs h_z0n ((a0, ((), ((), ((), ((), ((), ())))))), ((a1, ()), (((), ()), (a2, ((a3, ()), (((), ()), (a4, (((), ()), ())))))))).2) = M_z0n n qr_z0n a0 a1 a2 a3 a4 := by kernel_rfl
theorem g_z0n (n : Nat) (qr_z0n : Int → (List NodeS) → (Int → Option (Int)) → Bool → (Int → Option (Int)) → Option (RS ro_z0n rh_z0n)) (a0 : Int) (a1 : (List NodeS)) (a2 : (Int → Option (Int))) (a3 : Bool) (a4 : (Int → Option (Int))) {r : Res} (h : M_z0n n qr_z0n a0 a1 a2 a3 a4 = some r) : runF Try.prog (cf_z0n qr_z0n) n p_z0n 50 (EK.encs e_z0n ((a0, ((), ((), ((), ((), ((), ())))))), ((a1, ()), (((), ()), (a2, ((a3, ()), (((), ()), (a4, (((), ()), ())))))))).1) (HK.encs h_z0n ((a0, ((), ((), ((), ((), ((), ())))))), ((a1, ()), (((), ()), (a2, ((a3, ()), (((), ()), (a4, (((), ()), ())))))))).2) = some r := by
  have hb : LOk Try.prog (cf_z0n qr_z0n) Try.f50.ntmps 7 n p_z0n (ls_z0n n qr_z0n) (bodyOf Try.f50) := ⟨trivial, ⟨trivial, ⟨⟨trivial, ⟨⟨trivial, trivial⟩, ⟨trivial, ⟨⟨trivial, ⟨trivial, trivial⟩⟩, ⟨trivial, ⟨⟨trivial, trivial⟩, trivial⟩⟩⟩⟩⟩⟩, ⟨trivial, ⟨trivial, ⟨⟨trivial, (o_z0n_1 qr_z0n n)⟩, ⟨trivial, ⟨trivial, ⟨trivial, trivial⟩⟩⟩⟩⟩⟩⟩⟩⟩
  exact runFT_some Try.prog (c := bodyOf Try.f50) Try.func50 (show Try.f50.body = some (bodyOf Try.f50) from rfl) (show (6 : Nat) ≤ 62 by decide) hb ((m_z0n n qr_z0n a0 a1 a2 a3 a4).trans h) rfl (by kernel_rfl)
noncomputable def c_z0n : Spec := specQ e_z0n h_z0n ro_z0n rh_z0n fun a b => Q_z0n a.1 b.1.1 b.2.2.1 b.2.2.2.1.1 b.2.2.2.2.2.1
theorem kr_z0n (hm : Try.prog.follows .mixedOrders = true) (qr_z0n : Int → (List NodeS) → (Int → Option (Int)) → Bool → (Int → Option (Int)) → Option (RS ro_z0n rh_z0n)) (hr_z0n : SpecOk Try.prog 50 (specQ e_z0n h_z0n ro_z0n rh_z0n fun a b => qr_z0n a.1 b.1.1 b.2.2.1 b.2.2.2.1.1 b.2.2.2.2.2.1)) : CallSound Try.prog (cf_z0n qr_z0n) := tab_ok (specs_cons (k_z0l hm) (specs_cons (k_z0k hm) (specs_cons (hr_z0n) specs_nil)))
theorem kd_z0n (hm : Try.prog.follows .mixedOrders = true) : ∀ dp, SpecOk Try.prog 50 (specQ e_z0n h_z0n ro_z0n rh_z0n fun a b => Qd_z0n dp a.1 b.1.1 b.2.2.1 b.2.2.2.1.1 b.2.2.2.2.2.1)
  | 0 => specQ_ok (pol := p_z0n) hm (cf := mkCF [] []) (tab_ok specs_nil) fun a b r h => by cases h
  | dp + 1 => specQ_ok (pol := p_z0n) hm (kr_z0n hm (Qd_z0n dp) (kd_z0n hm dp)) fun a b r h => ⟨FUEL, g_z0n FUEL (Qd_z0n dp) a.1 b.1.1 b.2.2.1 b.2.2.2.1.1 b.2.2.2.2.2.1 (decRes_some h)⟩
theorem k_z0n (hm : Try.prog.follows .mixedOrders = true) : SpecOk Try.prog 50 c_z0n := kd_z0n hm FUEL
def s_z0o_h0 : Sig := ⟨[6, 7, 13, 14, 15], [.ptr 0 0 0, .ptr 1 0 0, .ty (.slice NodeT), .ty (.int .i64), .ty (.int .i64)], [.one true [.ty .bool], .one false [.fn 50 [(2, 0, 0), (3, 0, 0), (0, 0, 0), (5, 0, 0), (1, 0, 0)]], .one true [.ty (.slice NodeT)], .one false [.mp 4], .mf (.int .i64) (.int .i64), .one false [.mp 6], .mf (.int .i64) (.int .i64)]⟩
def s_z0o_t0 : Sig := ⟨[6, 7], [.ptr 0 0 0, .ptr 1 0 0], [.one true [.ty .bool], .one false [.fn 50 [(2, 0, 0), (3, 0, 0), (0, 0, 0), (5, 0, 0), (1, 0, 0)]], .one true [.ty (.slice NodeT)], .one false [.mp 4], .mf (.int .i64) (.int .i64), .one false [.mp 6], .mf (.int .i64) (.int .i64)]⟩
def s_z0o_r : Sig := ⟨[2, 3], [.fn 50 [(0, 0, 0), (1, 0, 0), (3, 0, 0), (4, 0, 0), (6, 0, 0)], .ty .bool], [.one true [.ty (.slice NodeT)], .one false [.mp 2], .mf (.int .i64) (.int .i64), .one true [.ty .bool], .one false [.mp 5], .mf (.int .i64) (.int .i64), .one false [.fn 50 [(0, 0, 0), (1, 0, 0), (3, 0, 0), (4, 0, 0), (6, 0, 0)]]]⟩
def p_z0o : Pol := ⟨fun i => if i = 0 then some [(6, .keep), (7, .keep), (13, .keep), (14, .keep), (15, .keep)] else none, fun i => if i = 0 then some [(6, .keep), (7, .keep)] else none, some [(2, .keep), (3, .keep)], [.keep, .keep], []⟩
def e_z0o : List EK := [.ty (.slice NodeT)]
def h_z0o : List HK := []
noncomputable def cf_z0o : CallF := mkCF [(50, c_z0n)] []
noncomputable def ls_z0o (n : Nat) : Loops := fun i => if i = 0 then some (loopT 0 (p_z0o.head 0) s_z0o_h0 fun K v => L_z0o_0 n (fun z0 z1 z2 z3 => K (.ex 0) (s_z0o_t0.enc (((), ((), ())), ((z0, ()), (((), ()), ((z1, ()), (((), ()), (z2, (((), ()), (z3, ())))))))))) v.1.2.2.1 v.1.2.2.2.1 n v.1.2.2.2.2.1 v.2.1.1 v.2.2.2.1.1 v.2.2.2.2.2.1 v.2.2.2.2.2.2.2.1)
  else  none
noncomputable def b_z0o_0 : Code := partOf (bodyOf Try.f39) [1, 1, 1, 1, 1, 0, 1, 0, 0]
noncomputable def V_z0o_0 (n : Nat) (K : Cont) (rec : Sig.sem s_z0o_h0 → Option Res) (v : Sig.sem s_z0o_h0) : Option Res := F_z0o_0 n (fun z0 z1 z2 z3 => K (.ex 0) (s_z0o_t0.enc (((), ((), ())), ((z0, ()), (((), ()), ((z1, ()), (((), ()), (z2, (((), ()), (z3, ())))))))))) v.1.2.2.1 v.1.2.2.2.1 (fun z2 z3 z4 z5 z6 => rec (((), ((), (v.1.2.2.1, (v.1.2.2.2.1, (z2, ()))))), ((z3, ()), (((), ()), ((z4, ()), (((), ()), (z5, (((), ()), (z6, ()))))))))) v.1.2.2.2.2.1 v.2.1.1 v.2.2.2.1.1 v.2.2.2.2.2.1 v.2.2.2.2.2.2.2.1
theorem t_z0o_0 (n : Nat) (K : Cont) (rec : Sig.sem s_z0o_h0 → Option Res) (v : Sig.sem s_z0o_h0) : runT Try.prog cf_z0o Try.f39.ntmps 0 p_z0o (ls_z0o n) b_z0o_0 (s_z0o_h0.enc v) (turnK 0 (p_z0o.head 0) s_z0o_h0 rec K) = V_z0o_0 n K rec v := by kernel_rfl
noncomputable def W_z0o_0 (n : Nat) (K : Cont) (m : Nat) (v : Sig.sem s_z0o_h0) : Option Res := L_z0o_0 n (fun z0 z1 z2 z3 => K (.ex 0) (s_z0o_t0.enc (((), ((), ())), ((z0, ()), (((), ()), ((z1, ()), (((), ()), (z2, (((), ()), (z3, ())))))))))) v.1.2.2.1 v.1.2.2.2.1 m v.1.2.2.2.2.1 v.2.1.1 v.2.2.2.1.1 v.2.2.2.2.2.1 v.2.2.2.2.2.2.2.1
theorem i_z0o_0 (n : Nat) (K : Cont) : ∀ m v, iter (V_z0o_0 n K) m v = W_z0o_0 n K m v := by
  intro m
  induction m with
  | zero => intro v; rfl
  | succ m ih =>
    intro v
    show V_z0o_0 n K (iter (V_z0o_0 n K) m) v = V_z0o_0 n K (W_z0o_0 n K m) v
    rw [show iter (V_z0o_0 n K) m = W_z0o_0 n K m from funext ih]
theorem o_z0o_0 (n : Nat) : ∀ L, ls_z0o n 0 = some L → ∀ s K r, L s K = some r → ∃ x s', loopN (run Try.prog cf_z0o Try.f39.ntmps 0 n p_z0o none b_z0o_0) (gc 0 (p_z0o.head 0)) n s = some (x, s') ∧ K x s' = some r := by
  intro L hL s K r h
  have hL : some (loopT 0 (p_z0o.head 0) s_z0o_h0 fun K v => W_z0o_0 n K n v) = some L := hL
  cases hL
  have hb : LOk Try.prog cf_z0o Try.f39.ntmps 0 n p_z0o (ls_z0o n) b_z0o_0 := ⟨trivial, ⟨⟨trivial, trivial⟩, ⟨⟨trivial, trivial⟩, trivial⟩⟩⟩
  refine loopT_ok hb (V_z0o_0 n) (t_z0o_0 n) n s K r ?_
  rw [← h]
  unfold loopT
  simp only [i_z0o_0]
theorem m_z0o (n : Nat) (a0 : (List NodeS)) : runFT Try.prog cf_z0o p_z0o (ls_z0o n) Try.f39 (bodyOf Try.f39) (EK.encs e_z0o ((a0, ()), ()).1) (HK.encs h_z0o ((a0, ()), ()).2) = M_z0o n a0 := by kernel_rfl
theorem g_z0o (n : Nat) (a0 : (List NodeS)) {r : Res} (h : M_z0o n a0 = some r) : runF Try.prog cf_z0o n p_z0o 39 (EK.encs e_z0o ((a0, ()), ()).1) (HK.encs h_z0o ((a0, ()), ()).2) = some r := by
  have hb : LOk Try.prog cf_z0o Try.f39.ntmps 0 n p_z0o (ls_z0o n) (bodyOf Try.f39) := ⟨trivial, ⟨trivial, ⟨trivial, ⟨trivial, ⟨trivial, ⟨⟨trivial, (o_z0o_0 n)⟩, ⟨trivial, trivial⟩⟩⟩⟩⟩⟩⟩
  exact runFT_some Try.prog (c := bodyOf Try.f39) Try.func39 (show Try.f39.body = some (bodyOf Try.f39) from rfl) (show (1 : Nat) ≤ 26 by decide) hb ((m_z0o n a0).trans h) rfl (by kernel_rfl)
noncomputable def c_z0o : Spec := specQ e_z0o h_z0o ro_z0o rh_z0o fun a b => Q_z0o a.1
theorem k_z0o (hm : Try.prog.follows .mixedOrders = true) : SpecOk Try.prog 39 c_z0o := specQ_ok (pol := p_z0o) hm (cf := cf_z0o) (tab_ok (specs_cons (k_z0n hm) specs_nil)) fun a b r h => ⟨FUEL, g_z0o FUEL a.1 (decRes_some h)⟩
def s_z0p_r : Sig := ⟨[2], [.ty (.int .i64)], []⟩
def p_z0p : Pol := ⟨fun i => none, fun i => none, some [(2, .keep)], [.keep], []⟩
def e_z0p : List EK := [.ty (.slice NodeT)]
def h_z0p : List HK := []
noncomputable def cf_z0p : CallF := mkCF [(48, c_z0j), (49, c_z0m), (39, c_z0o)] [(48, [(.slice NodeT)]), (49, [(.slice NodeT)]), (39, [(.slice NodeT)])]
noncomputable def ls_z0p (n : Nat) : Loops := fun i =>  none
theorem m_z0p (n : Nat) (a0 : (List NodeS)) : runFT Try.prog cf_z0p p_z0p (ls_z0p n) Try.f38 (bodyOf Try.f38) (EK.encs e_z0p ((a0, ()), ()).1) (HK.encs h_z0p ((a0, ()), ()).2) = M_z0p n a0 := by kernel_rfl
theorem g_z0p (n : Nat) (a0 : (List NodeS)) {r : Res} (h : M_z0p n a0 = some r) : runF Try.prog cf_z0p n p_z0p 38 (EK.encs e_z0p ((a0, ()), ()).1) (HK.encs h_z0p ((a0, ()), ()).2) = some r := by
  have hb : LOk Try.prog cf_z0p Try.f38.ntmps 0 n p_z0p (ls_z0p n) (bodyOf Try.f38) := ⟨trivial, ⟨⟨trivial, ⟨⟨trivial, trivial⟩, ⟨trivial, ⟨⟨trivial, trivial⟩, ⟨trivial, ⟨⟨trivial, trivial⟩, trivial⟩⟩⟩⟩⟩⟩, ⟨⟨trivial, ⟨trivial, ⟨⟨trivial, trivial⟩, trivial⟩⟩⟩, ⟨trivial, trivial⟩⟩⟩⟩
  exact runFT_some Try.prog (c := bodyOf Try.f38) Try.func38 (show Try.f38.body = some (bodyOf Try.f38) from rfl) (show (1 : Nat) ≤ 24 by decide) hb ((m_z0p n a0).trans h) rfl (by kernel_rfl)
noncomputable def c_z0p : Spec := specQ e_z0p h_z0p ro_z0p rh_z0p fun a b => Q_z0p a.1
theorem k_z0p (hm : Try.prog.follows .mixedOrders = true) : SpecOk Try.prog 38 c_z0p := specQ_ok (pol := p_z0p) hm (cf := cf_z0p) (tab_ok (specs_cons (k_z0j hm) (specs_cons (k_z0m hm) (specs_cons (k_z0o hm) specs_nil)))) fun a b r h => ⟨FUEL, g_z0p FUEL a.1 (decRes_some h)⟩
def s_z0q_r : Sig := ⟨[2], [.ty (.int .i64)], []⟩
def p_z0q : Pol := ⟨fun i => none, fun i => none, some [(2, .keep)], [.keep], []⟩
def e_z0q : List EK := [.ty (.slice NodeT)]
def h_z0q : List HK := []
noncomputable def cf_z0q : CallF := mkCF [(38, c_z0p), (39, c_z0o), (50, c_z0n)] [(38, [(.slice NodeT)]), (39, [(.slice NodeT)])]
noncomputable def ls_z0q (n : Nat) : Loops := fun i =>  none
theorem m_z0q (n : Nat) (a0 : (List NodeS)) : runFT Try.prog cf_z0q p_z0q (ls_z0q n) Try.f27 (bodyOf Try.f27) (EK.encs e_z0q ((a0, ()), ()).1) (HK.encs h_z0q ((a0, ()), ()).2) = M_z0q n a0 := by kernel_rfl
theorem g_z0q (n : Nat) (a0 : (List NodeS)) {r : Res} (h : M_z0q n a0 = some r) : runF Try.prog cf_z0q n p_z0q 27 (EK.encs e_z0q ((a0, ()), ()).1) (HK.encs h_z0q ((a0, ()), ()).2) = some r := by
  have hb : LOk Try.prog cf_z0q Try.f27.ntmps 0 n p_z0q (ls_z0q n) (bodyOf Try.f27) := ⟨trivial, ⟨⟨trivial, ⟨⟨trivial, trivial⟩, trivial⟩⟩, ⟨trivial, ⟨trivial, trivial⟩⟩⟩⟩
  exact runFT_some Try.prog (c := bodyOf Try.f27) Try.func27 (show Try.f27.body = some (bodyOf Try.f27) from rfl) (show (1 : Nat) ≤ 15 by decide) hb ((m_z0q n a0).trans h) rfl (by kernel_rfl)
noncomputable def c_z0q : Spec := specQ e_z0q h_z0q ro_z0q rh_z0q fun a b => Q_z0q a.1
theorem k_z0q (hm : Try.prog.follows .mixedOrders = true) : SpecOk Try.prog 27 c_z0q := specQ_ok (pol := p_z0q) hm (cf := cf_z0q) (tab_ok (specs_cons (k_z0p hm) (specs_cons (k_z0o hm) (specs_cons (k_z0n hm) specs_nil)))) fun a b r h => ⟨FUEL, g_z0q FUEL a.1 (decRes_some h)⟩
def s_z0r_r : Sig := ⟨[2, 3], [.ty (.int .i64), .ty (.int .i64)], []⟩
def p_z0r : Pol := ⟨fun i => none, fun i => none, some [(2, .keep), (3, .keep)], [.keep, .keep], []⟩
def e_z0r : List EK := [.agg ConfigT]
def h_z0r : List HK := []
noncomputable def cf_z0r : CallF := mkCF [(16, c_z0b), (27, c_z0q)] [(16, [ConfigT, (.int .i64)]), (27, [(.slice NodeT)])]
noncomputable def ls_z0r (n : Nat) : Loops := fun i =>  none
theorem m_z0r (n : Nat) (a0 : ConfigS) : runFT Try.prog cf_z0r p_z0r (ls_z0r n) Try.f12 (bodyOf Try.f12) (EK.encs e_z0r ((a0, ()), ()).1) (HK.encs h_z0r ((a0, ()), ()).2) = M_z0r n a0 := by kernel_rfl
theorem g_z0r (n : Nat) (a0 : ConfigS) {r : Res} (h : M_z0r n a0 = some r) : runF Try.prog cf_z0r n p_z0r 12 (EK.encs e_z0r ((a0, ()), ()).1) (HK.encs h_z0r ((a0, ()), ()).2) = some r := by
  have hb : LOk Try.prog cf_z0r Try.f12.ntmps 0 n p_z0r (ls_z0r n) (bodyOf Try.f12) := ⟨trivial, ⟨trivial, ⟨⟨trivial, ⟨⟨trivial, trivial⟩, trivial⟩⟩, ⟨trivial, trivial⟩⟩⟩⟩
  exact runFT_some Try.prog (c := bodyOf Try.f12) Try.func12 (show Try.f12.body = some (bodyOf Try.f12) from rfl) (show (1 : Nat) ≤ 20 by decide) hb ((m_z0r n a0).trans h) rfl (by kernel_rfl)
noncomputable def c_z0r : Spec := specQ e_z0r h_z0r ro_z0r rh_z0r fun a b => Q_z0r a.1
theorem k_z0r (hm : Try.prog.follows .mixedOrders = true) : SpecOk Try.prog 12 c_z0r := specQ_ok (pol := p_z0r) hm (cf := cf_z0r) (tab_ok (specs_cons (k_z0b hm) (specs_cons (k_z0q hm) specs_nil))) fun a b r h => ⟨FUEL, g_z0r FUEL a.1 (decRes_some h)⟩
def s_z0s_r : Sig := ⟨[0], [.ty .bool], []⟩
def p_z0s : Pol := ⟨fun i => none, fun i => none, some [(0, .keep)], [.keep], []⟩
def e_z0s : List EK := []
def h_z0s : List HK := []
noncomputable def cf_z0s : CallF := mkCF [(22, c_z01), (18, c_z0a), (16, c_z0b), (20, c_z0c), (23, c_z0d), (14, c_z0e), (12, c_z0r)] [(22, [(.slice (.int .u8))]), (18, [ConfigT, (.int .i64)]), (16, [ConfigT, (.int .i64)]), (20, [ConfigT, (.int .i64)]), (23, [(.int .i64), (.int .i64), (.int .i64)]), (14, [ConfigT]), (12, [ConfigT])]
noncomputable def ls_z0s (n : Nat) : Loops := fun i =>  none
theorem m_z0s (n : Nat) : runFT Try.prog cf_z0s p_z0s (ls_z0s n) Try.f11 (bodyOf Try.f11) (EK.encs e_z0s ((), ()).1) (HK.encs h_z0s ((), ()).2) = M_z0s n := by kernel_rfl
theorem g_z0s (n : Nat) {r : Res} (h : M_z0s n = some r) : runF Try.prog cf_z0s n p_z0s 11 (EK.encs e_z0s ((), ()).1) (HK.encs h_z0s ((), ()).2) = some r := by
  have hb : LOk Try.prog cf_z0s Try.f11.ntmps 0 n p_z0s (ls_z0s n) (bodyOf Try.f11) := ⟨trivial, ⟨trivial, ⟨trivial, ⟨trivial, ⟨trivial, ⟨trivial, ⟨trivial, ⟨⟨trivial, ⟨⟨trivial, trivial⟩, trivial⟩⟩, ⟨trivial, ⟨trivial, ⟨trivial, ⟨trivial, trivial⟩⟩⟩⟩⟩⟩⟩⟩⟩⟩⟩⟩
  exact runFT_some Try.prog (c := bodyOf Try.f11) Try.func11 (show Try.f11.body = some (bodyOf Try.f11) from rfl) (show (0 : Nat) ≤ 117 by decide) hb ((m_z0s n).trans h) rfl (by kernel_rfl)
noncomputable def c_z0s : Spec := specQ e_z0s h_z0s ro_z0s rh_z0s fun a b => Q_z0s
theorem k_z0s (hm : Try.prog.follows .mixedOrders = true) : SpecOk Try.prog 11 c_z0s := specQ_ok (pol := p_z0s) hm (cf := cf_z0s) (tab_ok (specs_cons (k_z01 hm) (specs_cons (k_z0a hm) (specs_cons (k_z0b hm) (specs_cons (k_z0c hm) (specs_cons (k_z0d hm) (specs_cons (k_z0e hm) (specs_cons (k_z0r hm) specs_nil)))))))) fun a b r h => ⟨FUEL, g_z0s FUEL (decRes_some h)⟩
def s_z0t_r : Sig := ⟨[2], [.ty .bool], []⟩
def s_z0t_h0 : Sig := ⟨[1, 3, 4], [.ptr 0 0 0, .ty (.int .u64), .ty (.int .i64)], [.cell NodeT]⟩
def s_z0t_t0 : Sig := ⟨[1, 3], [.ptr 0 0 0, .ty (.int .u64)], [.cell NodeT]⟩
def s_z0t_h2 : Sig := ⟨[1, 3, 5], [.ptr 0 0 0, .ty (.int .u64), .ty (.int .i64)], [.cell NodeT]⟩
def s_z0t_t2 : Sig := ⟨[], [], []⟩
def p_z0t : Pol := ⟨fun i => if i = 0 then some [(1, (.own NodeT)), (3, .keep), (4, .keep)] else if i = 2 then some [(1, (.own NodeT)), (3, .keep), (5, .keep)] else none, fun i => if i = 0 then some [(1, (.own NodeT)), (3, .keep)] else if i = 2 then some [] else none, some [(2, .keep)], [.keep], []⟩
def e_z0t : List EK := [.agg NodeT]
def h_z0t : List HK := []
noncomputable def cf_z0t : CallF := mkCF [] []
noncomputable def ls_z0t (n : Nat) : Loops := fun i => if i = 0 then some (loopT 0 (p_z0t.head 0) s_z0t_h0 fun K v => L_z0t_0 n (fun z0 => K (.ex 0) (s_z0t_t0.enc (((), (z0, ())), (v.2.1, ())))) v.2.1 n v.1.2.1 v.1.2.2.1)
  else if i = 2 then some (loopT 0 (p_z0t.head 2) s_z0t_h2 fun K v => L_z0t_2 n (fun z0 => K .rt (s_z0t_r.enc ((z0, ()), ()))) (fun _ => K (.ex 2) (s_z0t_t2.enc ((), ()))) v.1.2.1 v.2.1 n v.1.2.2.1)
  else  none
noncomputable def b_z0t_0 : Code := partOf (bodyOf Try.f53) [1, 1, 1, 1, 1, 0, 1, 0, 0]
noncomputable def V_z0t_0 (n : Nat) (K : Cont) (rec : Sig.sem s_z0t_h0 → Option Res) (v : Sig.sem s_z0t_h0) : Option Res := F_z0t_0 n (fun z0 => K (.ex 0) (s_z0t_t0.enc (((), (z0, ())), (v.2.1, ())))) v.2.1 (fun z0 z1 => rec (((), (z0, (z1, ()))), (v.2.1, ()))) v.1.2.1 v.1.2.2.1
theorem t_z0t_0 (n : Nat) (K : Cont) (rec : Sig.sem s_z0t_h0 → Option Res) (v : Sig.sem s_z0t_h0) : runT Try.prog cf_z0t Try.f53.ntmps 0 p_z0t (ls_z0t n) b_z0t_0 (s_z0t_h0.enc v) (turnK 0 (p_z0t.head 0) s_z0t_h0 rec K) = V_z0t_0 n K rec v := by kernel_rfl
noncomputable def W_z0t_0 (n : Nat) (K : Cont) (m : Nat) (v : Sig.sem s_z0t_h0) : Option Res := L_z0t_0 n (fun z0 => K (.ex 0) (s_z0t_t0.enc (((), (z0, ())), (v.2.1, ())))) v.2.1 m v.1.2.1 v.1.2.2.1
theorem i_z0t_0 (n : Nat) (K : Cont) : ∀ m v, iter (V_z0t_0 n K) m v = W_z0t_0 n K m v := by
  intro m
  induction m with
  | zero => intro v; rfl
  | succ m ih =>
    intro v
    show V_z0t_0 n K (iter (V_z0t_0 n K) m) v = V_z0t_0 n K (W_z0t_0 n K m) v
    rw [show iter (V_z0t_0 n K) m = W_z0t_0 n K m from funext ih]
theorem o_z0t_0 (n : Nat) : ∀ L, ls_z0t n 0 = some L → ∀ s K r, L s K = some r → ∃ x s', loopN (run Try.prog cf_z0t Try.f53.ntmps 0 n p_z0t none b_z0t_0) (gc 0 (p_z0t.head 0)) n s = some (x, s') ∧ K x s' = some r := by
  intro L hL s K r h
  have hL : some (loopT 0 (p_z0t.head 0) s_z0t_h0 fun K v => W_z0t_0 n K n v) = some L := hL
  cases hL
  have hb : LOk Try.prog cf_z0t Try.f53.ntmps 0 n p_z0t (ls_z0t n) b_z0t_0 := ⟨⟨trivial, ⟨trivial, trivial⟩⟩, ⟨trivial, trivial⟩⟩
  refine loopT_ok hb (V_z0t_0 n) (t_z0t_0 n) n s K r ?_
  rw [← h]
  unfold loopT
  simp only [i_z0t_0]
noncomputable def b_z0t_2 : Code := partOf (bodyOf Try.f53) [1, 1, 1, 1, 1, 1, 0, 1, 0, 0]
noncomputable def V_z0t_2 (n : Nat) (K : Cont) (rec : Sig.sem s_z0t_h2 → Option Res) (v : Sig.sem s_z0t_h2) : Option Res := F_z0t_2 n (fun z0 => K .rt (s_z0t_r.enc ((z0, ()), ()))) (fun _ => K (.ex 2) (s_z0t_t2.enc ((), ()))) v.1.2.1 v.2.1 (fun z1 => rec (((), (v.1.2.1, (z1, ()))), (v.2.1, ()))) v.1.2.2.1
theorem t_z0t_2 (n : Nat) (K : Cont) (rec : Sig.sem s_z0t_h2 → Option Res) (v : Sig.sem s_z0t_h2) : runT Try.prog cf_z0t Try.f53.ntmps 0 p_z0t (ls_z0t n) b_z0t_2 (s_z0t_h2.enc v) (turnK 0 (p_z0t.head 2) s_z0t_h2 rec K) = V_z0t_2 n K rec v := by kernel_rfl
noncomputable def W_z0t_2 (n : Nat) (K : Cont) (m : Nat) (v : Sig.sem s_z0t_h2) : Option Res := L_z0t_2 n (fun z0 => K .rt (s_z0t_r.enc ((z0, ()), ()))) (fun _ => K (.ex 2) (s_z0t_t2.enc ((), ()))) v.1.2.1 v.2.1 m v.1.2.2.1
theorem i_z0t_2 (n : Nat) (K : Cont) : ∀ m v, iter (V_z0t_2 n K) m v = W_z0t_2 n K m v := by
  intro m
  induction m with
  | zero => intro v; rfl
  | succ m ih =>
    intro v
    show V_z0t_2 n K (iter (V_z0t_2 n K) m) v = V_z0t_2 n K (W_z0t_2 n K m) v
    rw [show iter (V_z0t_2 n K) m = W_z0t_2 n K m from funext ih]
theorem o_z0t_2 (n : Nat) : ∀ L, ls_z0t n 2 = some L → ∀ s K r, L s K = some r → ∃ x s', loopN (run Try.prog cf_z0t Try.f53.ntmps 0 n p_z0t none b_z0t_2) (gc 0 (p_z0t.head 2)) n s = some (x, s') ∧ K x s' = some r := by
  intro L hL s K r h
  have hL : some (loopT 0 (p_z0t.head 2) s_z0t_h2 fun K v => W_z0t_2 n K n v) = some L := hL
  cases hL
  have hb : LOk Try.prog cf_z0t Try.f53.ntmps 0 n p_z0t (ls_z0t n) b_z0t_2 := ⟨⟨trivial, ⟨trivial, trivial⟩⟩, ⟨⟨trivial, ⟨trivial, ⟨⟨trivial, trivial⟩, trivial⟩⟩⟩, trivial⟩⟩
  refine loopT_ok hb (V_z0t_2 n) (t_z0t_2 n) n s K r ?_
  rw [← h]
  unfold loopT
  simp only [i_z0t_2]
theorem m_z0t (n : Nat) (a0 : NodeS) : runFT Try.prog cf_z0t p_z0t (ls_z0t n) Try.f53 (bodyOf Try.f53) (EK.encs e_z0t ((a0, ()), ()).1) (HK.encs h_z0t ((a0, ()), ()).2) = M_z0t n a0 := by kernel_rfl
theorem g_z0t (n : Nat) (a0 : NodeS) {r : Res} (h : M_z0t n a0 = some r) : runF Try.prog cf_z0t n p_z0t 53 (EK.encs e_z0t ((a0, ()), ()).1) (HK.encs h_z0t ((a0, ()), ()).2) = some r := by
  have hb : LOk Try.prog cf_z0t Try.f53.ntmps 0 n p_z0t (ls_z0t n) (bodyOf Try.f53) := ⟨trivial, ⟨⟨trivial, ⟨⟨trivial, trivial⟩, trivial⟩⟩, ⟨⟨trivial, ⟨⟨trivial, trivial⟩, trivial⟩⟩, ⟨⟨trivial, ⟨⟨trivial, trivial⟩, trivial⟩⟩, ⟨trivial, ⟨⟨trivial, (o_z0t_0 n)⟩, ⟨⟨trivial, (o_z0t_2 n)⟩, ⟨trivial, trivial⟩⟩⟩⟩⟩⟩⟩⟩
  exact runFT_some Try.prog (c := bodyOf Try.f53) Try.func53 (show Try.f53.body = some (bodyOf Try.f53) from rfl) (show (1 : Nat) ≤ 179 by decide) hb ((m_z0t n a0).trans h) rfl (by kernel_rfl)
noncomputable def c_z0t : Spec := specQ e_z0t h_z0t ro_z0t rh_z0t fun a b => Q_z0t a.1
theorem k_z0t (hm : Try.prog.follows .mixedOrders = true) : SpecOk Try.prog 53 c_z0t := specQ_ok (pol := p_z0t) hm (cf := cf_z0t) (tab_ok specs_nil) fun a b r h => ⟨FUEL, g_z0t FUEL a.1 (decRes_some h)⟩
def s_z0u_h0 : Sig := ⟨[1, 3, 4], [.ptr 0 0 0, .hs 1 0, .ty (.int .i64)], [.cell NodeT, .row (.int .i64)]⟩
def s_z0u_t0 : Sig := ⟨[1, 3], [.ptr 0 0 0, .hs 1 0], [.cell NodeT, .row (.int .i64)]⟩
def s_z0u_r : Sig := ⟨[2], [.hs 0 0], [.row (.int .i64)]⟩
def p_z0u : Pol := ⟨fun i => if i = 0 then some [(1, (.own NodeT)), (3, (.own (.int .i64))), (4, .keep)] else none, fun i => if i = 0 then some [(1, (.own NodeT)), (3, (.own (.int .i64)))] else none, some [(2, (.own (.int .i64)))], [(.own (.int .i64))], []⟩
def e_z0u : List EK := [.agg NodeT]
def h_z0u : List HK := []
noncomputable def cf_z0u : CallF := mkCF [] []
noncomputable def ls_z0u (n : Nat) : Loops := fun i => if i = 0 then some (loopT 0 (p_z0u.head 0) s_z0u_h0 fun K v => L_z0u_0 n (fun z0 z2 => K (.ex 0) (s_z0u_t0.enc (((), (z0, ())), (v.2.1, (z2, ()))))) v.2.1 n v.1.2.1 v.1.2.2.1 v.2.2.1)
  else  none
noncomputable def b_z0u_0 : Code := partOf (bodyOf Try.f54) [1, 1, 0, 1, 0, 0]
noncomputable def V_z0u_0 (n : Nat) (K : Cont) (rec : Sig.sem s_z0u_h0 → Option Res) (v : Sig.sem s_z0u_h0) : Option Res := F_z0u_0 n (fun z0 z2 => K (.ex 0) (s_z0u_t0.enc (((), (z0, ())), (v.2.1, (z2, ()))))) v.2.1 (fun z0 z1 z3 => rec (((), (z0, (z1, ()))), (v.2.1, (z3, ())))) v.1.2.1 v.1.2.2.1 v.2.2.1
theorem t_z0u_0 (n : Nat) (K : Cont) (rec : Sig.sem s_z0u_h0 → Option Res) (v : Sig.sem s_z0u_h0) : runT Try.prog cf_z0u Try.f54.ntmps 0 p_z0u (ls_z0u n) b_z0u_0 (s_z0u_h0.enc v) (turnK 0 (p_z0u.head 0) s_z0u_h0 rec K) = V_z0u_0 n K rec v := by kernel_rfl
noncomputable def W_z0u_0 (n : Nat) (K : Cont) (m : Nat) (v : Sig.sem s_z0u_h0) : Option Res := L_z0u_0 n (fun z0 z2 => K (.ex 0) (s_z0u_t0.enc (((), (z0, ())), (v.2.1, (z2, ()))))) v.2.1 m v.1.2.1 v.1.2.2.1 v.2.2.1
theorem i_z0u_0 (n : Nat) (K : Cont) : ∀ m v, iter (V_z0u_0 n K) m v = W_z0u_0 n K m v := by
  intro m
  induction m with
  | zero => intro v; rfl
  | succ m ih =>
    intro v
    show V_z0u_0 n K (iter (V_z0u_0 n K) m) v = V_z0u_0 n K (W_z0u_0 n K m) v
    rw [show iter (V_z0u_0 n K) m = W_z0u_0 n K m from funext ih]
theorem o_z0u_0 (n : Nat) : ∀ L, ls_z0u n 0 = some L → ∀ s K r, L s K = some r → ∃ x s', loopN (run Try.prog cf_z0u Try.f54.ntmps 0 n p_z0u none b_z0u_0) (gc 0 (p_z0u.head 0)) n s = some (x, s') ∧ K x s' = some r := by
  intro L hL s K r h
  have hL : some (loopT 0 (p_z0u.head 0) s_z0u_h0 fun K v => W_z0u_0 n K n v) = some L := hL
  cases hL
  have hb : LOk Try.prog cf_z0u Try.f54.ntmps 0 n p_z0u (ls_z0u n) b_z0u_0 := ⟨⟨trivial, ⟨trivial, trivial⟩⟩, ⟨trivial, trivial⟩⟩
  refine loopT_ok hb (V_z0u_0 n) (t_z0u_0 n) n s K r ?_
  rw [← h]
  unfold loopT
  simp only [i_z0u_0]
theorem m_z0u (n : Nat) (a0 : NodeS) : runFT Try.prog cf_z0u p_z0u (ls_z0u n) Try.f54 (bodyOf Try.f54) (EK.encs e_z0u ((a0, ()), ()).1) (HK.encs h_z0u ((a0, ()), ()).2) = M_z0u n a0 := by kernel_rfl
theorem g_z0u (n : Nat) (a0 : NodeS) {r : Res} (h : M_z0u n a0 = some r) : runF Try.prog cf_z0u n p_z0u 54 (EK.encs e_z0u ((a0, ()), ()).1) (HK.encs h_z0u ((a0, ()), ()).2) = some r := by
  have hb : LOk Try.prog cf_z0u Try.f54.ntmps 0 n p_z0u (ls_z0u n) (bodyOf Try.f54) := ⟨trivial, ⟨trivial, ⟨⟨trivial, (o_z0u_0 n)⟩, ⟨trivial, trivial⟩⟩⟩⟩
  exact runFT_some Try.prog (c := bodyOf Try.f54) Try.func54 (show Try.f54.body = some (bodyOf Try.f54) from rfl) (show (1 : Nat) ≤ 26 by decide) hb ((m_z0u n a0).trans h) rfl (by kernel_rfl)
noncomputable def c_z0u : Spec := specQ e_z0u h_z0u ro_z0u rh_z0u fun a b => Q_z0u a.1
theorem k_z0u (hm : Try.prog.follows .mixedOrders = true) : SpecOk Try.prog 54 c_z0u := specQ_ok (pol := p_z0u) hm (cf := cf_z0u) (tab_ok specs_nil) fun a b r h => ⟨FUEL, g_z0u FUEL a.1 (decRes_some h)⟩
def s_z0v_h0 : Sig := ⟨[0, 1, 2, 6, 7, 8], [.ty (.int .i64), .ty (.int .i64), .ty (.int .i64), .ptr 0 0 0, .ptr 3 0 0, .ty (.int .i64)], [.one false [.ty (.slice NodeT), .ty (.slice FieldT), .ty (.slice TableT), .ty (.slice EntryT), .hs 1 0, .hs 2 0, .ty (.slice SpanT), .ty (.slice ObjT), .ty (.slice (.int .i64))], .row BlockT, .row GroupT, .one false [.ty (.slice NodeT), .ty (.slice FieldT), .ty (.slice TableT), .ty (.slice EntryT), .hs 4 0, .hs 5 0, .ty (.slice SpanT), .ty (.slice ObjT), .ty (.slice (.int .i64))], .row BlockT, .row GroupT]⟩
def s_z0v_h2 : Sig := ⟨[0, 1, 2, 6, 7, 8, 9, 10], [.ty (.int .i64), .ty (.int .i64), .ty (.int .i64), .ptr 0 0 0, .ptr 3 0 0, .ty (.int .i64), .ptr 6 0 0, .ty (.int .i64)], [.one false [.ty (.slice NodeT), .ty (.slice FieldT), .ty (.slice TableT), .ty (.slice EntryT), .hs 1 0, .hs 2 0, .ty (.slice SpanT), .ty (.slice ObjT), .ty (.slice (.int .i64))], .row BlockT, .row GroupT, .one false [.ty (.slice NodeT), .ty (.slice FieldT), .ty (.slice TableT), .ty (.slice EntryT), .hs 4 0, .hs 5 0, .ty (.slice SpanT), .ty (.slice ObjT), .ty (.slice (.int .i64))], .row BlockT, .row GroupT, .one false [.ty (.int .i64), .ty (.int .u8), .ty (.int .i64), .hs 7 0], .row BucketT]⟩
def s_z0v_t2 : Sig := ⟨[0, 1, 2, 6, 7, 8, 9], [.ty (.int .i64), .ty (.int .i64), .ty (.int .i64), .ptr 0 0 0, .ptr 3 0 0, .ty (.int .i64), .ptr 6 0 0], [.one false [.ty (.slice NodeT), .ty (.slice FieldT), .ty (.slice TableT), .ty (.slice EntryT), .hs 1 0, .hs 2 0, .ty (.slice SpanT), .ty (.slice ObjT), .ty (.slice (.int .i64))], .row BlockT, .row GroupT, .one false [.ty (.slice NodeT), .ty (.slice FieldT), .ty (.slice TableT), .ty (.slice EntryT), .hs 4 0, .hs 5 0, .ty (.slice SpanT), .ty (.slice ObjT), .ty (.slice (.int .i64))], .row BlockT, .row GroupT, .one false [.ty (.int .i64), .ty (.int .u8), .ty (.int .i64), .hs 7 0], .row BucketT]⟩
def s_z0v_t0 : Sig := ⟨[1, 2, 6, 7], [.ty (.int .i64), .ty (.int .i64), .ptr 0 0 0, .ptr 3 0 0], [.one false [.ty (.slice NodeT), .ty (.slice FieldT), .ty (.slice TableT), .ty (.slice EntryT), .hs 1 0, .hs 2 0, .ty (.slice SpanT), .ty (.slice ObjT), .ty (.slice (.int .i64))], .row BlockT, .row GroupT, .one false [.ty (.slice NodeT), .ty (.slice FieldT), .ty (.slice TableT), .ty (.slice EntryT), .hs 4 0, .hs 5 0, .ty (.slice SpanT), .ty (.slice ObjT), .ty (.slice (.int .i64))], .row BlockT, .row GroupT]⟩
def s_z0v_r : Sig := ⟨[6], [.ptr 0 0 0], [.one false [.ty (.slice NodeT), .ty (.slice FieldT), .ty (.slice TableT), .ty (.slice EntryT), .hs 1 0, .hs 2 0, .ty (.slice SpanT), .ty (.slice ObjT), .ty (.slice (.int .i64))], .row BlockT, .row GroupT]⟩
def p_z0v : Pol := ⟨fun i => if i = 0 then some [(0, .keep), (1, .keep), (2, .keep), (6, (.flds [(.data (.slice NodeT)), (.data (.slice FieldT)), (.data (.slice TableT)), (.data (.slice EntryT)), (.own BlockT), (.own GroupT), (.data (.slice SpanT)), (.data (.slice ObjT)), (.data (.slice (.int .i64)))])), (7, (.flds [(.data (.slice NodeT)), (.data (.slice FieldT)), (.data (.slice TableT)), (.data (.slice EntryT)), (.own BlockT), (.own GroupT), (.data (.slice SpanT)), (.data (.slice ObjT)), (.data (.slice (.int .i64)))])), (8, .keep)] else if i = 2 then some [(0, .keep), (1, .keep), (2, .keep), (6, (.flds [(.data (.slice NodeT)), (.data (.slice FieldT)), (.data (.slice TableT)), (.data (.slice EntryT)), (.own BlockT), (.own GroupT), (.data (.slice SpanT)), (.data (.slice ObjT)), (.data (.slice (.int .i64)))])), (7, (.flds [(.data (.slice NodeT)), (.data (.slice FieldT)), (.data (.slice TableT)), (.data (.slice EntryT)), (.own BlockT), (.own GroupT), (.data (.slice SpanT)), (.data (.slice ObjT)), (.data (.slice (.int .i64)))])), (8, .keep), (9, (.flds [.keep, .keep, .keep, (.own BucketT)])), (10, .keep)] else none, fun i => if i = 2 then some [(0, .keep), (1, .keep), (2, .keep), (6, (.flds [(.data (.slice NodeT)), (.data (.slice FieldT)), (.data (.slice TableT)), (.data (.slice EntryT)), (.own BlockT), (.own GroupT), (.data (.slice SpanT)), (.data (.slice ObjT)), (.data (.slice (.int .i64)))])), (7, (.flds [(.data (.slice NodeT)), (.data (.slice FieldT)), (.data (.slice TableT)), (.data (.slice EntryT)), (.own BlockT), (.own GroupT), (.data (.slice SpanT)), (.data (.slice ObjT)), (.data (.slice (.int .i64)))])), (8, .keep), (9, (.flds [.keep, .keep, .keep, (.own BucketT)]))] else if i = 0 then some [(1, .keep), (2, .keep), (6, (.flds [(.data (.slice NodeT)), (.data (.slice FieldT)), (.data (.slice TableT)), (.data (.slice EntryT)), (.own BlockT), (.own GroupT), (.data (.slice SpanT)), (.data (.slice ObjT)), (.data (.slice (.int .i64)))])), (7, (.flds [(.data (.slice NodeT)), (.data (.slice FieldT)), (.data (.slice TableT)), (.data (.slice EntryT)), (.own BlockT), (.own GroupT), (.data (.slice SpanT)), (.data (.slice ObjT)), (.data (.slice (.int .i64)))]))] else none, some [(6, (.flds [(.data (.slice NodeT)), (.data (.slice FieldT)), (.data (.slice TableT)), (.data (.slice EntryT)), (.own BlockT), (.own GroupT), (.data (.slice SpanT)), (.data (.slice ObjT)), (.data (.slice (.int .i64)))]))], [(.data ConfigT)], []⟩
def e_z0v : List EK := [.ty (.int .i64), .ty (.int .i64), .ty (.int .i64)]
def h_z0v : List HK := []
noncomputable def cf_z0v : CallF := mkCF [] []
noncomputable def ls_z0v (n : Nat) : Loops := fun i => if i = 2 then some (loopT 0 (p_z0v.head 2) s_z0v_h2 fun K v => L_z0v_2 n (fun z29 z30 => K (.ex 2) (s_z0v_t2.enc ((v.1.1, (v.1.2.1, (v.1.2.2.1, ((), ((), (v.1.2.2.2.2.2.1, ((), ()))))))), ((v.2.1.1, (v.2.1.2.1, (v.2.1.2.2.1, (v.2.1.2.2.2.1, (v.2.1.2.2.2.2.1, (v.2.1.2.2.2.2.2.1, (v.2.1.2.2.2.2.2.2.1, (v.2.1.2.2.2.2.2.2.2.1, (v.2.1.2.2.2.2.2.2.2.2.1, ()))))))))), (v.2.2.1, (v.2.2.2.1, ((v.2.2.2.2.1.1, (v.2.2.2.2.1.2.1, (v.2.2.2.2.1.2.2.1, (v.2.2.2.2.1.2.2.2.1, (v.2.2.2.2.1.2.2.2.2.1, (v.2.2.2.2.1.2.2.2.2.2.1, (v.2.2.2.2.1.2.2.2.2.2.2.1, (v.2.2.2.2.1.2.2.2.2.2.2.2.1, (v.2.2.2.2.1.2.2.2.2.2.2.2.2.1, ()))))))))), (v.2.2.2.2.2.1, (v.2.2.2.2.2.2.1, ((v.2.2.2.2.2.2.2.1.1, (v.2.2.2.2.2.2.2.1.2.1, (v.2.2.2.2.2.2.2.1.2.2.1, (z29, ())))), (z30, ()))))))))))) v.1.1 v.1.2.2.2.2.2.1 n v.1.2.2.2.2.2.2.2.1 v.2.2.2.2.2.2.2.1.2.2.2.1 v.2.2.2.2.2.2.2.2.1)
  else if i = 0 then some (loopT 0 (p_z0v.head 0) s_z0v_h0 fun K v => L_z0v_0 n (fun z17 z18 z22 z23 => K (.ex 0) (s_z0v_t0.enc ((v.1.2.1, (v.1.2.2.1, ((), ((), ())))), ((v.2.1.1, (v.2.1.2.1, (v.2.1.2.2.1, (v.2.1.2.2.2.1, (v.2.1.2.2.2.2.1, (v.2.1.2.2.2.2.2.1, (v.2.1.2.2.2.2.2.2.1, (v.2.1.2.2.2.2.2.2.2.1, (v.2.1.2.2.2.2.2.2.2.2.1, ()))))))))), (v.2.2.1, (v.2.2.2.1, ((v.2.2.2.2.1.1, (v.2.2.2.2.1.2.1, (v.2.2.2.2.1.2.2.1, (v.2.2.2.2.1.2.2.2.1, (z17, (z18, (v.2.2.2.2.1.2.2.2.2.2.2.1, (v.2.2.2.2.1.2.2.2.2.2.2.2.1, (v.2.2.2.2.1.2.2.2.2.2.2.2.2.1, ()))))))))), (z22, (z23, ()))))))))) v.1.1 v.1.2.1 n v.1.2.2.2.2.2.1 v.2.2.2.2.1.2.2.2.2.1 v.2.2.2.2.1.2.2.2.2.2.1 v.2.2.2.2.2.1 v.2.2.2.2.2.2.1)
  else  none
noncomputable def b_z0v_2 : Code := partOf (bodyOf Try.f24) [1, 1, 0, 1, 0, 0, 1, 0, 0, 1, 1, 0, 1, 0, 0]
noncomputable def V_z0v_2 (n : Nat) (K : Cont) (rec : Sig.sem s_z0v_h2 → Option Res) (v : Sig.sem s_z0v_h2) : Option Res := F_z0v_2 n (fun z29 z30 => K (.ex 2) (s_z0v_t2.enc ((v.1.1, (v.1.2.1, (v.1.2.2.1, ((), ((), (v.1.2.2.2.2.2.1, ((), ()))))))), ((v.2.1.1, (v.2.1.2.1, (v.2.1.2.2.1, (v.2.1.2.2.2.1, (v.2.1.2.2.2.2.1, (v.2.1.2.2.2.2.2.1, (v.2.1.2.2.2.2.2.2.1, (v.2.1.2.2.2.2.2.2.2.1, (v.2.1.2.2.2.2.2.2.2.2.1, ()))))))))), (v.2.2.1, (v.2.2.2.1, ((v.2.2.2.2.1.1, (v.2.2.2.2.1.2.1, (v.2.2.2.2.1.2.2.1, (v.2.2.2.2.1.2.2.2.1, (v.2.2.2.2.1.2.2.2.2.1, (v.2.2.2.2.1.2.2.2.2.2.1, (v.2.2.2.2.1.2.2.2.2.2.2.1, (v.2.2.2.2.1.2.2.2.2.2.2.2.1, (v.2.2.2.2.1.2.2.2.2.2.2.2.2.1, ()))))))))), (v.2.2.2.2.2.1, (v.2.2.2.2.2.2.1, ((v.2.2.2.2.2.2.2.1.1, (v.2.2.2.2.2.2.2.1.2.1, (v.2.2.2.2.2.2.2.1.2.2.1, (z29, ())))), (z30, ()))))))))))) v.1.1 v.1.2.2.2.2.2.1 (fun z4 z30 z31 => rec ((v.1.1, (v.1.2.1, (v.1.2.2.1, ((), ((), (v.1.2.2.2.2.2.1, ((), (z4, ())))))))), ((v.2.1.1, (v.2.1.2.1, (v.2.1.2.2.1, (v.2.1.2.2.2.1, (v.2.1.2.2.2.2.1, (v.2.1.2.2.2.2.2.1, (v.2.1.2.2.2.2.2.2.1, (v.2.1.2.2.2.2.2.2.2.1, (v.2.1.2.2.2.2.2.2.2.2.1, ()))))))))), (v.2.2.1, (v.2.2.2.1, ((v.2.2.2.2.1.1, (v.2.2.2.2.1.2.1, (v.2.2.2.2.1.2.2.1, (v.2.2.2.2.1.2.2.2.1, (v.2.2.2.2.1.2.2.2.2.1, (v.2.2.2.2.1.2.2.2.2.2.1, (v.2.2.2.2.1.2.2.2.2.2.2.1, (v.2.2.2.2.1.2.2.2.2.2.2.2.1, (v.2.2.2.2.1.2.2.2.2.2.2.2.2.1, ()))))))))), (v.2.2.2.2.2.1, (v.2.2.2.2.2.2.1, ((v.2.2.2.2.2.2.2.1.1, (v.2.2.2.2.2.2.2.1.2.1, (v.2.2.2.2.2.2.2.1.2.2.1, (z30, ())))), (z31, ())))))))))) v.1.2.2.2.2.2.2.2.1 v.2.2.2.2.2.2.2.1.2.2.2.1 v.2.2.2.2.2.2.2.2.1
theorem t_z0v_2 (n : Nat) (K : Cont) (rec : Sig.sem s_z0v_h2 → Option Res) (v : Sig.sem s_z0v_h2) : runT Try.prog cf_z0v Try.f24.ntmps 0 p_z0v (ls_z0v n) b_z0v_2 (s_z0v_h2.enc v) (turnK 0 (p_z0v.head 2) s_z0v_h2 rec K) = V_z0v_2 n K rec v := by kernel_rfl
noncomputable def W_z0v_2 (n : Nat) (K : Cont) (m : Nat) (v : Sig.sem s_z0v_h2) : Option Res := L_z0v_2 n (fun z29 z30 => K (.ex 2) (s_z0v_t2.enc ((v.1.1, (v.1.2.1, (v.1.2.2.1, ((), ((), (v.1.2.2.2.2.2.1, ((), ()))))))), ((v.2.1.1, (v.2.1.2.1, (v.2.1.2.2.1, (v.2.1.2.2.2.1, (v.2.1.2.2.2.2.1, (v.2.1.2.2.2.2.2.1, (v.2.1.2.2.2.2.2.2.1, (v.2.1.2.2.2.2.2.2.2.1, (v.2.1.2.2.2.2.2.2.2.2.1, ()))))))))), (v.2.2.1, (v.2.2.2.1, ((v.2.2.2.2.1.1, (v.2.2.2.2.1.2.1, (v.2.2.2.2.1.2.2.1, (v.2.2.2.2.1.2.2.2.1, (v.2.2.2.2.1.2.2.2.2.1, (v.2.2.2.2.1.2.2.2.2.2.1, (v.2.2.2.2.1.2.2.2.2.2.2.1, (v.2.2.2.2.1.2.2.2.2.2.2.2.1, (v.2.2.2.2.1.2.2.2.2.2.2.2.2.1, ()))))))))), (v.2.2.2.2.2.1, (v.2.2.2.2.2.2.1, ((v.2.2.2.2.2.2.2.1.1, (v.2.2.2.2.2.2.2.1.2.1, (v.2.2.2.2.2.2.2.1.2.2.1, (z29, ())))), (z30, ()))))))))))) v.1.1 v.1.2.2.2.2.2.1 m v.1.2.2.2.2.2.2.2.1 v.2.2.2.2.2.2.2.1.2.2.2.1 v.2.2.2.2.2.2.2.2.1
theorem i_z0v_2 (n : Nat) (K : Cont) : ∀ m v, iter (V_z0v_2 n K) m v = W_z0v_2 n K m v := by
  intro m
  induction m with
  | zero => intro v; rfl
  | succ m ih =>
    intro v
    show V_z0v_2 n K (iter (V_z0v_2 n K) m) v = V_z0v_2 n K (W_z0v_2 n K m) v
    rw [show iter (V_z0v_2 n K) m = W_z0v_2 n K m from funext ih]
theorem o_z0v_2 (n : Nat) : ∀ L, ls_z0v n 2 = some L → ∀ s K r, L s K = some r → ∃ x s', loopN (run Try.prog cf_z0v Try.f24.ntmps 0 n p_z0v none b_z0v_2) (gc 0 (p_z0v.head 2)) n s = some (x, s') ∧ K x s' = some r := by
  intro L hL s K r h
  have hL : some (loopT 0 (p_z0v.head 2) s_z0v_h2 fun K v => W_z0v_2 n K n v) = some L := hL
  cases hL
  have hb : LOk Try.prog cf_z0v Try.f24.ntmps 0 n p_z0v (ls_z0v n) b_z0v_2 := ⟨⟨trivial, ⟨trivial, trivial⟩⟩, ⟨trivial, trivial⟩⟩
  refine loopT_ok hb (V_z0v_2 n) (t_z0v_2 n) n s K r ?_
  rw [← h]
  unfold loopT
  simp only [i_z0v_2]
noncomputable def b_z0v_0 : Code := partOf (bodyOf Try.f24) [1, 1, 0, 1, 0, 0]
noncomputable def V_z0v_0 (n : Nat) (K : Cont) (rec : Sig.sem s_z0v_h0 → Option Res) (v : Sig.sem s_z0v_h0) : Option Res := F_z0v_0 n (fun z17 z18 z22 z23 => K (.ex 0) (s_z0v_t0.enc ((v.1.2.1, (v.1.2.2.1, ((), ((), ())))), ((v.2.1.1, (v.2.1.2.1, (v.2.1.2.2.1, (v.2.1.2.2.2.1, (v.2.1.2.2.2.2.1, (v.2.1.2.2.2.2.2.1, (v.2.1.2.2.2.2.2.2.1, (v.2.1.2.2.2.2.2.2.2.1, (v.2.1.2.2.2.2.2.2.2.2.1, ()))))))))), (v.2.2.1, (v.2.2.2.1, ((v.2.2.2.2.1.1, (v.2.2.2.2.1.2.1, (v.2.2.2.2.1.2.2.1, (v.2.2.2.2.1.2.2.2.1, (z17, (z18, (v.2.2.2.2.1.2.2.2.2.2.2.1, (v.2.2.2.2.1.2.2.2.2.2.2.2.1, (v.2.2.2.2.1.2.2.2.2.2.2.2.2.1, ()))))))))), (z22, (z23, ()))))))))) v.1.1 v.1.2.1 (fun z3 z19 z20 z24 z25 => rec ((v.1.1, (v.1.2.1, (v.1.2.2.1, ((), ((), (z3, ())))))), ((v.2.1.1, (v.2.1.2.1, (v.2.1.2.2.1, (v.2.1.2.2.2.1, (v.2.1.2.2.2.2.1, (v.2.1.2.2.2.2.2.1, (v.2.1.2.2.2.2.2.2.1, (v.2.1.2.2.2.2.2.2.2.1, (v.2.1.2.2.2.2.2.2.2.2.1, ()))))))))), (v.2.2.1, (v.2.2.2.1, ((v.2.2.2.2.1.1, (v.2.2.2.2.1.2.1, (v.2.2.2.2.1.2.2.1, (v.2.2.2.2.1.2.2.2.1, (z19, (z20, (v.2.2.2.2.1.2.2.2.2.2.2.1, (v.2.2.2.2.1.2.2.2.2.2.2.2.1, (v.2.2.2.2.1.2.2.2.2.2.2.2.2.1, ()))))))))), (z24, (z25, ())))))))) v.1.2.2.2.2.2.1 v.2.2.2.2.1.2.2.2.2.1 v.2.2.2.2.1.2.2.2.2.2.1 v.2.2.2.2.2.1 v.2.2.2.2.2.2.1
theorem t_z0v_0 (n : Nat) (K : Cont) (rec : Sig.sem s_z0v_h0 → Option Res) (v : Sig.sem s_z0v_h0) : runT Try.prog cf_z0v Try.f24.ntmps 0 p_z0v (ls_z0v n) b_z0v_0 (s_z0v_h0.enc v) (turnK 0 (p_z0v.head 0) s_z0v_h0 rec K) = V_z0v_0 n K rec v := by kernel_rfl
noncomputable def W_z0v_0 (n : Nat) (K : Cont) (m : Nat) (v : Sig.sem s_z0v_h0) : Option Res := L_z0v_0 n (fun z17 z18 z22 z23 => K (.ex 0) (s_z0v_t0.enc ((v.1.2.1, (v.1.2.2.1, ((), ((), ())))), ((v.2.1.1, (v.2.1.2.1, (v.2.1.2.2.1, (v.2.1.2.2.2.1, (v.2.1.2.2.2.2.1, (v.2.1.2.2.2.2.2.1, (v.2.1.2.2.2.2.2.2.1, (v.2.1.2.2.2.2.2.2.2.1, (v.2.1.2.2.2.2.2.2.2.2.1, ()))))))))), (v.2.2.1, (v.2.2.2.1, ((v.2.2.2.2.1.1, (v.2.2.2.2.1.2.1, (v.2.2.2.2.1.2.2.1, (v.2.2.2.2.1.2.2.2.1, (z17, (z18, (v.2.2.2.2.1.2.2.2.2.2.2.1, (v.2.2.2.2.1.2.2.2.2.2.2.2.1, (v.2.2.2.2.1.2.2.2.2.2.2.2.2.1, ()))))))))), (z22, (z23, ()))))))))) v.1.1 v.1.2.1 m v.1.2.2.2.2.2.1 v.2.2.2.2.1.2.2.2.2.1 v.2.2.2.2.1.2.2.2.2.2.1 v.2.2.2.2.2.1 v.2.2.2.2.2.2.1
theorem i_z0v_0 (n : Nat) (K : Cont) : ∀ m v, iter (V_z0v_0 n K) m v = W_z0v_0 n K m v := by
  intro m
  induction m with
  | zero => intro v; rfl
  | succ m ih =>
    intro v
    show V_z0v_0 n K (iter (V_z0v_0 n K) m) v = V_z0v_0 n K (W_z0v_0 n K m) v
    rw [show iter (V_z0v_0 n K) m = W_z0v_0 n K m from funext ih]
theorem o_z0v_0 (n : Nat) : ∀ L, ls_z0v n 0 = some L → ∀ s K r, L s K = some r → ∃ x s', loopN (run Try.prog cf_z0v Try.f24.ntmps 0 n p_z0v none b_z0v_0) (gc 0 (p_z0v.head 0)) n s = some (x, s') ∧ K x s' = some r := by
  intro L hL s K r h
  have hL : some (loopT 0 (p_z0v.head 0) s_z0v_h0 fun K v => W_z0v_0 n K n v) = some L := hL
  cases hL
  have hb : LOk Try.prog cf_z0v Try.f24.ntmps 0 n p_z0v (ls_z0v n) b_z0v_0 := ⟨⟨trivial, ⟨trivial, trivial⟩⟩, ⟨⟨trivial, ⟨trivial, ⟨⟨trivial, (o_z0v_2 n)⟩, trivial⟩⟩⟩, trivial⟩⟩
  refine loopT_ok hb (V_z0v_0 n) (t_z0v_0 n) n s K r ?_
  rw [← h]
  unfold loopT
  simp only [i_z0v_0]
theorem m_z0v (n : Nat) (a0 : Int) (a1 : Int) (a2 : Int) : runFT Try.prog cf_z0v p_z0v (ls_z0v n) Try.f24 (bodyOf Try.f24) (EK.encs e_z0v ((a0, (a1, (a2, ()))), ()).1) (HK.encs h_z0v ((a0, (a1, (a2, ()))), ()).2) = M_z0v n a0 a1 a2 := by kernel_rfl
theorem g_z0v (n : Nat) (a0 : Int) (a1 : Int) (a2 : Int) {r : Res} (h : M_z0v n a0 a1 a2 = some r) : runF Try.prog cf_z0v n p_z0v 24 (EK.encs e_z0v ((a0, (a1, (a2, ()))), ()).1) (HK.encs h_z0v ((a0, (a1, (a2, ()))), ()).2) = some r := by
  have hb : LOk Try.prog cf_z0v Try.f24.ntmps 0 n p_z0v (ls_z0v n) (bodyOf Try.f24) := ⟨trivial, ⟨trivial, ⟨⟨trivial, (o_z0v_0 n)⟩, ⟨trivial, ⟨trivial, trivial⟩⟩⟩⟩⟩
  exact runFT_some Try.prog (c := bodyOf Try.f24) Try.func24 (show Try.f24.body = some (bodyOf Try.f24) from rfl) (show (3 : Nat) ≤ 61 by decide) hb ((m_z0v n a0 a1 a2).trans h) rfl (by kernel_rfl)
noncomputable def c_z0v : Spec := specQ e_z0v h_z0v ro_z0v rh_z0v fun a b => Q_z0v a.1 a.2.1 a.2.2.1
theorem k_z0v (hm : Try.prog.follows .mixedOrders = true) : SpecOk Try.prog 24 c_z0v := specQ_ok (pol := p_z0v) hm (cf := cf_z0v) (tab_ok specs_nil) fun a b r h => ⟨FUEL, g_z0v FUEL a.1 a.2.1 a.2.2.1 (decRes_some h)⟩
def s_z0w_r : Sig := ⟨[0], [.ty .bool], []⟩
def p_z0w : Pol := ⟨fun i => none, fun i => none, some [(0, .keep)], [.keep], []⟩
def e_z0w : List EK := []
def h_z0w : List HK := []
noncomputable def cf_z0w (qr_z0s : Option (RS ro_z0s rh_z0s)) (qr_z0r : ConfigS → Option (RS ro_z0r rh_z0r)) (qr_z01 : (List Int) → Option (RS ro_z01 rh_z01)) (qr_z0d : Int → Int → Int → Option (RS ro_z0d rh_z0d)) (qr_z0v : Int → Int → Int → Option (RS ro_z0v rh_z0v)) : CallF := mkCF [(11, (specQ e_z0s h_z0s ro_z0s rh_z0s fun a b => qr_z0s)), (12, (specQ e_z0r h_z0r ro_z0r rh_z0r fun a b => qr_z0r a.1)), (22, (specQ e_z01 h_z01 ro_z01 rh_z01 fun a b => qr_z01 a.1)), (23, (specQ e_z0d h_z0d ro_z0d rh_z0d fun a b => qr_z0d a.1 a.2.1 a.2.2.1)), (24, (specQ e_z0v h_z0v ro_z0v rh_z0v fun a b => qr_z0v a.1 a.2.1 a.2.2.1))] [(11, []), (12, [ConfigT]), (22, [(.slice (.int .u8))]), (23, [(.int .i64), (.int .i64), (.int .i64)]), (24, [(.int .i64), (.int .i64), (.int .i64)])]
noncomputable def ls_z0w (n : Nat) (qr_z0s : Option (RS ro_z0s rh_z0s)) (qr_z0r : ConfigS → Option (RS ro_z0r rh_z0r)) (qr_z01 : (List Int) → Option (RS ro_z01 rh_z01)) (qr_z0d : Int → Int → Int → Option (RS ro_z0d rh_z0d)) (qr_z0v : Int → Int → Int → Option (RS ro_z0v rh_z0v)) : Loops := fun i =>  none
theorem m_z0w (n : Nat) (qr_z0s : Option (RS ro_z0s rh_z0s)) (qr_z0r : ConfigS → Option (RS ro_z0r rh_z0r)) (qr_z01 : (List Int) → Option (RS ro_z01 rh_z01)) (qr_z0d : Int → Int → Int → Option (RS ro_z0d rh_z0d)) (qr_z0v : Int → Int → Int → Option (RS ro_z0v rh_z0v)) : runFT Try.prog (cf_z0w qr_z0s qr_z0r qr_z01 qr_z0d qr_z0v) p_z0w (ls_z0w n qr_z0s qr_z0r qr_z01 qr_z0d qr_z0v) Try.f4 (bodyOf Try.f4) (EK.encs e_z0w ((), ()).1) (HK.encs h_z0w ((), ()).2) = M_z0w n qr_z0s qr_z0r qr_z01 qr_z0d qr_z0v := by kernel_rfl
theorem g_z0w (n : Nat) (qr_z0s : Option (RS ro_z0s rh_z0s)) (qr_z0r : ConfigS → Option (RS ro_z0r rh_z0r)) (qr_z01 : (List Int) → Option (RS ro_z01 rh_z01)) (qr_z0d : Int → Int → Int → Option (RS ro_z0d rh_z0d)) (qr_z0v : Int → Int → Int → Option (RS ro_z0v rh_z0v)) {r : Res} (h : M_z0w n qr_z0s qr_z0r qr_z01 qr_z0d qr_z0v = some r) : runF Try.prog (cf_z0w qr_z0s qr_z0r qr_z01 qr_z0d qr_z0v) n p_z0w 4 (EK.encs e_z0w ((), ()).1) (HK.encs h_z0w ((), ()).2) = some r := by
  have hb : LOk Try.prog (cf_z0w qr_z0s qr_z0r qr_z01 qr_z0d qr_z0v) Try.f4.ntmps 0 n p_z0w (ls_z0w n qr_z0s qr_z0r qr_z01 qr_z0d qr_z0v) (bodyOf Try.f4) := ⟨trivial, ⟨⟨trivial, ⟨⟨trivial, trivial⟩, trivial⟩⟩, ⟨trivial, ⟨trivial, ⟨trivial, ⟨trivial, ⟨⟨trivial, ⟨⟨trivial, trivial⟩, trivial⟩⟩, ⟨trivial, ⟨trivial, ⟨trivial, ⟨trivial, ⟨trivial, ⟨trivial, trivial⟩⟩⟩⟩⟩⟩⟩⟩⟩⟩⟩⟩⟩
  exact runFT_some Try.prog (c := bodyOf Try.f4) Try.func4 (show Try.f4.body = some (bodyOf Try.f4) from rfl) (show (0 : Nat) ≤ 137 by decide) hb ((m_z0w n qr_z0s qr_z0r qr_z01 qr_z0d qr_z0v).trans h) rfl (by kernel_rfl)
noncomputable def c_z0w (qr_z0s : Option (RS ro_z0s rh_z0s)) (qr_z0r : ConfigS → Option (RS ro_z0r rh_z0r)) (qr_z01 : (List Int) → Option (RS ro_z01 rh_z01)) (qr_z0d : Int → Int → Int → Option (RS ro_z0d rh_z0d)) (qr_z0v : Int → Int → Int → Option (RS ro_z0v rh_z0v)) : Spec := specQ e_z0w h_z0w ro_z0w rh_z0w fun a b => Q_z0w qr_z0s qr_z0r qr_z01 qr_z0d qr_z0v
theorem k_z0w (hm : Try.prog.follows .mixedOrders = true) (qr_z0s : Option (RS ro_z0s rh_z0s)) (hr_z0s : SpecOk Try.prog 11 (specQ e_z0s h_z0s ro_z0s rh_z0s fun a b => qr_z0s)) (qr_z0r : ConfigS → Option (RS ro_z0r rh_z0r)) (hr_z0r : SpecOk Try.prog 12 (specQ e_z0r h_z0r ro_z0r rh_z0r fun a b => qr_z0r a.1)) (qr_z01 : (List Int) → Option (RS ro_z01 rh_z01)) (hr_z01 : SpecOk Try.prog 22 (specQ e_z01 h_z01 ro_z01 rh_z01 fun a b => qr_z01 a.1)) (qr_z0d : Int → Int → Int → Option (RS ro_z0d rh_z0d)) (hr_z0d : SpecOk Try.prog 23 (specQ e_z0d h_z0d ro_z0d rh_z0d fun a b => qr_z0d a.1 a.2.1 a.2.2.1)) (qr_z0v : Int → Int → Int → Option (RS ro_z0v rh_z0v)) (hr_z0v : SpecOk Try.prog 24 (specQ e_z0v h_z0v ro_z0v rh_z0v fun a b => qr_z0v a.1 a.2.1 a.2.2.1)) : SpecOk Try.prog 4 (c_z0w qr_z0s qr_z0r qr_z01 qr_z0d qr_z0v) := specQ_ok (pol := p_z0w) hm (cf := (cf_z0w qr_z0s qr_z0r qr_z01 qr_z0d qr_z0v)) (tab_ok (specs_cons (hr_z0s) (specs_cons (hr_z0r) (specs_cons (hr_z01) (specs_cons (hr_z0d) (specs_cons (hr_z0v) specs_nil)))))) fun a b r h => ⟨FUEL, g_z0w FUEL qr_z0s qr_z0r qr_z01 qr_z0d qr_z0v (decRes_some h)⟩
def s_z0x_r : Sig := ⟨[4], [.ty .bool], []⟩
def s_z0x_h0 : Sig := ⟨[1, 2, 5], [.ty (.int .i64), .ptr 0 0 0, .ty (.int .i64)], [.cell ConfigT]⟩
def s_z0x_t1 : Sig := ⟨[1, 2, 5], [.ty (.int .i64), .ptr 0 0 0, .ty (.int .i64)], [.cell ConfigT]⟩
def s_z0x_t0 : Sig := ⟨[1, 2], [.ty (.int .i64), .ptr 0 0 0], [.cell ConfigT]⟩
def s_z0x_h3 : Sig := ⟨[1, 2, 11], [.ty (.int .i64), .ptr 0 0 0, .ty (.int .i64)], [.cell ConfigT]⟩
def s_z0x_t4 : Sig := ⟨[1, 2, 11], [.ty (.int .i64), .ptr 0 0 0, .ty (.int .i64)], [.cell ConfigT]⟩
def s_z0x_h5 : Sig := ⟨[1, 2, 12, 14, 16], [.ty (.int .i64), .ptr 0 0 0, .ty (.int .i64), .ty (.int .i64), .ty (.int .i64)], [.cell ConfigT]⟩
def s_z0x_t5 : Sig := ⟨[12, 14], [.ty (.int .i64), .ty (.int .i64)], []⟩
def s_z0x_t3 : Sig := ⟨[], [], []⟩
def p_z0x : Pol := ⟨fun i => if i = 0 then some [(1, .keep), (2, (.own ConfigT)), (5, .keep)] else if i = 3 then some [(1, .keep), (2, (.own ConfigT)), (11, .keep)] else if i = 5 then some [(1, .keep), (2, (.own ConfigT)), (12, .keep), (14, .keep), (16, .keep)] else none, fun i => if i = 1 then some [(1, .keep), (2, (.own ConfigT)), (5, .keep)] else if i = 0 then some [(1, .keep), (2, (.own ConfigT))] else if i = 4 then some [(1, .keep), (2, (.own ConfigT)), (11, .keep)] else if i = 5 then some [(12, .keep), (14, .keep)] else if i = 3 then some [] else none, some [(4, .keep)], [.keep], []⟩
def e_z0x : List EK := [.agg ConfigT, .ty (.int .i64)]
def h_z0x : List HK := []
noncomputable def cf_z0x : CallF := mkCF [(10, c_z00), (11, c_z0s), (14, c_z0e), (18, c_z0a), (16, c_z0b), (20, c_z0c)] [(10, [ConfigT]), (11, []), (14, [ConfigT]), (18, [ConfigT, (.int .i64)]), (16, [ConfigT, (.int .i64)]), (20, [ConfigT, (.int .i64)])]
noncomputable def ls_z0x (n : Nat) : Loops := fun i => if i = 0 then some (loopT 0 (p_z0x.head 0) s_z0x_h0 fun K v => L_z0x_0 n (fun _ => K (.ex 0) (s_z0x_t0.enc ((v.1.1, ((), ())), (v.2.1, ())))) (fun z0 => K .rt (s_z0x_r.enc ((z0, ()), ()))) v.1.1 v.2.1 n v.1.2.2.1)
  else if i = 5 then some (loopT 0 (p_z0x.head 5) s_z0x_h5 fun K v => L_z0x_5 n (fun z1 => K (.ex 5) (s_z0x_t5.enc ((v.1.2.2.1, (z1, ())), ()))) v.1.1 v.2.1 n v.1.2.2.2.1 v.1.2.2.2.2.1)
  else if i = 3 then some (loopT 0 (p_z0x.head 3) s_z0x_h3 fun K v => L_z0x_3 n (fun z0 => K .rt (s_z0x_r.enc ((z0, ()), ()))) (fun _ => K (.ex 3) (s_z0x_t3.enc ((), ()))) v.1.1 v.2.1 n v.1.2.2.1)
  else  none
noncomputable def b_z0x_0 : Code := partOf (bodyOf Try.f6) [1, 1, 0, 1, 0, 0]
noncomputable def V_z0x_0 (n : Nat) (K : Cont) (rec : Sig.sem s_z0x_h0 → Option Res) (v : Sig.sem s_z0x_h0) : Option Res := F_z0x_0 n (fun _ => K (.ex 0) (s_z0x_t0.enc ((v.1.1, ((), ())), (v.2.1, ())))) (fun z0 => K .rt (s_z0x_r.enc ((z0, ()), ()))) v.1.1 v.2.1 (fun z1 => rec ((v.1.1, ((), (z1, ()))), (v.2.1, ()))) v.1.2.2.1
theorem t_z0x_0 (n : Nat) (K : Cont) (rec : Sig.sem s_z0x_h0 → Option Res) (v : Sig.sem s_z0x_h0) : runT Try.prog cf_z0x Try.f6.ntmps 0 p_z0x (ls_z0x n) b_z0x_0 (s_z0x_h0.enc v) (turnK 0 (p_z0x.head 0) s_z0x_h0 rec K) = V_z0x_0 n K rec v := by kernel_rfl
noncomputable def W_z0x_0 (n : Nat) (K : Cont) (m : Nat) (v : Sig.sem s_z0x_h0) : Option Res := L_z0x_0 n (fun _ => K (.ex 0) (s_z0x_t0.enc ((v.1.1, ((), ())), (v.2.1, ())))) (fun z0 => K .rt (s_z0x_r.enc ((z0, ()), ()))) v.1.1 v.2.1 m v.1.2.2.1
theorem i_z0x_0 (n : Nat) (K : Cont) : ∀ m v, iter (V_z0x_0 n K) m v = W_z0x_0 n K m v := by
  intro m
  induction m with
  | zero => intro v; rfl
  | succ m ih =>
    intro v
    show V_z0x_0 n K (iter (V_z0x_0 n K) m) v = V_z0x_0 n K (W_z0x_0 n K m) v
    rw [show iter (V_z0x_0 n K) m = W_z0x_0 n K m from funext ih]
theorem o_z0x_0 (n : Nat) : ∀ L, ls_z0x n 0 = some L → ∀ s K r, L s K = some r → ∃ x s', loopN (run Try.prog cf_z0x Try.f6.ntmps 0 n p_z0x none b_z0x_0) (gc 0 (p_z0x.head 0)) n s = some (x, s') ∧ K x s' = some r := by
  intro L hL s K r h
  have hL : some (loopT 0 (p_z0x.head 0) s_z0x_h0 fun K v => W_z0x_0 n K n v) = some L := hL
  cases hL
  have hb : LOk Try.prog cf_z0x Try.f6.ntmps 0 n p_z0x (ls_z0x n) b_z0x_0 := ⟨⟨trivial, ⟨trivial, trivial⟩⟩, ⟨⟨trivial, ⟨⟨trivial, ⟨trivial, trivial⟩⟩, ⟨⟨trivial, ⟨trivial, trivial⟩⟩, ⟨trivial, ⟨trivial, ⟨⟨trivial, ⟨trivial, ⟨trivial, ⟨trivial, ⟨trivial, ⟨⟨trivial, ⟨trivial, trivial⟩⟩, ⟨trivial, ⟨trivial, ⟨trivial, trivial⟩⟩⟩⟩⟩⟩⟩⟩⟩, ⟨trivial, trivial⟩⟩⟩⟩⟩⟩⟩, trivial⟩⟩
  refine loopT_ok hb (V_z0x_0 n) (t_z0x_0 n) n s K r ?_
  rw [← h]
  unfold loopT
  simp only [i_z0x_0]
noncomputable def b_z0x_5 : Code := partOf (bodyOf Try.f6) [1, 1, 1, 0, 1, 0, 0, 1, 0, 0, 1, 1, 1, 0, 1, 0, 0]
noncomputable def V_z0x_5 (n : Nat) (K : Cont) (rec : Sig.sem s_z0x_h5 → Option Res) (v : Sig.sem s_z0x_h5) : Option Res := F_z0x_5 n (fun z1 => K (.ex 5) (s_z0x_t5.enc ((v.1.2.2.1, (z1, ())), ()))) v.1.1 v.2.1 (fun z2 z3 => rec ((v.1.1, ((), (v.1.2.2.1, (z2, (z3, ()))))), (v.2.1, ()))) v.1.2.2.2.1 v.1.2.2.2.2.1
theorem t_z0x_5 (n : Nat) (K : Cont) (rec : Sig.sem s_z0x_h5 → Option Res) (v : Sig.sem s_z0x_h5) : runT Try.prog cf_z0x Try.f6.ntmps 0 p_z0x (ls_z0x n) b_z0x_5 (s_z0x_h5.enc v) (turnK 0 (p_z0x.head 5) s_z0x_h5 rec K) = V_z0x_5 n K rec v := by kernel_rfl
noncomputable def W_z0x_5 (n : Nat) (K : Cont) (m : Nat) (v : Sig.sem s_z0x_h5) : Option Res := L_z0x_5 n (fun z1 => K (.ex 5) (s_z0x_t5.enc ((v.1.2.2.1, (z1, ())), ()))) v.1.1 v.2.1 m v.1.2.2.2.1 v.1.2.2.2.2.1
theorem i_z0x_5 (n : Nat) (K : Cont) : ∀ m v, iter (V_z0x_5 n K) m v = W_z0x_5 n K m v := by
  intro m
  induction m with
  | zero => intro v; rfl
  | succ m ih =>
    intro v
    show V_z0x_5 n K (iter (V_z0x_5 n K) m) v = V_z0x_5 n K (W_z0x_5 n K m) v
    rw [show iter (V_z0x_5 n K) m = W_z0x_5 n K m from funext ih]
theorem o_z0x_5 (n : Nat) : ∀ L, ls_z0x n 5 = some L → ∀ s K r, L s K = some r → ∃ x s', loopN (run Try.prog cf_z0x Try.f6.ntmps 0 n p_z0x none b_z0x_5) (gc 0 (p_z0x.head 5)) n s = some (x, s') ∧ K x s' = some r := by
  intro L hL s K r h
  have hL : some (loopT 0 (p_z0x.head 5) s_z0x_h5 fun K v => W_z0x_5 n K n v) = some L := hL
  cases hL
  have hb : LOk Try.prog cf_z0x Try.f6.ntmps 0 n p_z0x (ls_z0x n) b_z0x_5 := ⟨⟨trivial, ⟨trivial, trivial⟩⟩, ⟨⟨trivial, ⟨⟨trivial, trivial⟩, trivial⟩⟩, trivial⟩⟩
  refine loopT_ok hb (V_z0x_5 n) (t_z0x_5 n) n s K r ?_
  rw [← h]
  unfold loopT
  simp only [i_z0x_5]
noncomputable def b_z0x_3 : Code := partOf (bodyOf Try.f6) [1, 1, 1, 0, 1, 0, 0]
noncomputable def V_z0x_3 (n : Nat) (K : Cont) (rec : Sig.sem s_z0x_h3 → Option Res) (v : Sig.sem s_z0x_h3) : Option Res := F_z0x_3 n (fun z0 => K .rt (s_z0x_r.enc ((z0, ()), ()))) (fun _ => K (.ex 3) (s_z0x_t3.enc ((), ()))) v.1.1 v.2.1 (fun z1 => rec ((v.1.1, ((), (z1, ()))), (v.2.1, ()))) v.1.2.2.1
theorem t_z0x_3 (n : Nat) (K : Cont) (rec : Sig.sem s_z0x_h3 → Option Res) (v : Sig.sem s_z0x_h3) : runT Try.prog cf_z0x Try.f6.ntmps 0 p_z0x (ls_z0x n) b_z0x_3 (s_z0x_h3.enc v) (turnK 0 (p_z0x.head 3) s_z0x_h3 rec K) = V_z0x_3 n K rec v := by kernel_rfl
noncomputable def W_z0x_3 (n : Nat) (K : Cont) (m : Nat) (v : Sig.sem s_z0x_h3) : Option Res := L_z0x_3 n (fun z0 => K .rt (s_z0x_r.enc ((z0, ()), ()))) (fun _ => K (.ex 3) (s_z0x_t3.enc ((), ()))) v.1.1 v.2.1 m v.1.2.2.1
theorem i_z0x_3 (n : Nat) (K : Cont) : ∀ m v, iter (V_z0x_3 n K) m v = W_z0x_3 n K m v := by
  intro m
  induction m with
  | zero => intro v; rfl
  | succ m ih =>
    intro v
    show V_z0x_3 n K (iter (V_z0x_3 n K) m) v = V_z0x_3 n K (W_z0x_3 n K m) v
    rw [show iter (V_z0x_3 n K) m = W_z0x_3 n K m from funext ih]
theorem o_z0x_3 (n : Nat) : ∀ L, ls_z0x n 3 = some L → ∀ s K r, L s K = some r → ∃ x s', loopN (run Try.prog cf_z0x Try.f6.ntmps 0 n p_z0x none b_z0x_3) (gc 0 (p_z0x.head 3)) n s = some (x, s') ∧ K x s' = some r := by
  intro L hL s K r h
  have hL : some (loopT 0 (p_z0x.head 3) s_z0x_h3 fun K v => W_z0x_3 n K n v) = some L := hL
  cases hL
  have hb : LOk Try.prog cf_z0x Try.f6.ntmps 0 n p_z0x (ls_z0x n) b_z0x_3 := ⟨⟨trivial, ⟨trivial, trivial⟩⟩, ⟨⟨⟨trivial, ⟨trivial, trivial⟩⟩, ⟨trivial, ⟨trivial, ⟨⟨trivial, (o_z0x_5 n)⟩, ⟨trivial, trivial⟩⟩⟩⟩⟩, trivial⟩⟩
  refine loopT_ok hb (V_z0x_3 n) (t_z0x_3 n) n s K r ?_
  rw [← h]
  unfold loopT
  simp only [i_z0x_3]
theorem m_z0x (n : Nat) (a0 : ConfigS) (a1 : Int) : runFT Try.prog cf_z0x p_z0x (ls_z0x n) Try.f6 (bodyOf Try.f6) (EK.encs e_z0x ((a0, (a1, ())), ()).1) (HK.encs h_z0x ((a0, (a1, ())), ()).2) = M_z0x n a0 a1 := by kernel_rfl
theorem g_z0x (n : Nat) (a0 : ConfigS) (a1 : Int) {r : Res} (h : M_z0x n a0 a1 = some r) : runF Try.prog cf_z0x n p_z0x 6 (EK.encs e_z0x ((a0, (a1, ())), ()).1) (HK.encs h_z0x ((a0, (a1, ())), ()).2) = some r := by
  have hb : LOk Try.prog cf_z0x Try.f6.ntmps 0 n p_z0x (ls_z0x n) (bodyOf Try.f6) := ⟨trivial, ⟨⟨trivial, ⟨⟨trivial, trivial⟩, trivial⟩⟩, ⟨⟨trivial, (o_z0x_0 n)⟩, ⟨⟨trivial, (o_z0x_3 n)⟩, ⟨trivial, trivial⟩⟩⟩⟩⟩
  exact runFT_some Try.prog (c := bodyOf Try.f6) Try.func6 (show Try.f6.body = some (bodyOf Try.f6) from rfl) (show (2 : Nat) ≤ 183 by decide) hb ((m_z0x n a0 a1).trans h) rfl (by kernel_rfl)
noncomputable def c_z0x : Spec := specQ e_z0x h_z0x ro_z0x rh_z0x fun a b => Q_z0x a.1 a.2.1
theorem k_z0x (hm : Try.prog.follows .mixedOrders = true) : SpecOk Try.prog 6 c_z0x := specQ_ok (pol := p_z0x) hm (cf := cf_z0x) (tab_ok (specs_cons (k_z00 hm) (specs_cons (k_z0s hm) (specs_cons (k_z0e hm) (specs_cons (k_z0a hm) (specs_cons (k_z0b hm) (specs_cons (k_z0c hm) specs_nil))))))) fun a b r h => ⟨FUEL, g_z0x FUEL a.1 a.2.1 (decRes_some h)⟩
def s_z0y_r : Sig := ⟨[6], [.ty .bool], []⟩
def s_z0y_h0 : Sig := ⟨[2, 3, 8], [.ty (.int .i64), .ptr 0 0 0, .ty (.int .i64)], [.cell ConfigT]⟩
def s_z0y_t1 : Sig := ⟨[2, 3, 8], [.ty (.int .i64), .ptr 0 0 0, .ty (.int .i64)], [.cell ConfigT]⟩
def s_z0y_h2 : Sig := ⟨[3, 8, 9, 11], [.ptr 0 0 0, .ty (.int .i64), .ty (.int .i64), .ty (.int .i64)], [.cell ConfigT]⟩
def s_z0y_t2 : Sig := ⟨[3], [.ptr 0 0 0], [.cell ConfigT]⟩
def s_z0y_t0 : Sig := ⟨[3], [.ptr 0 0 0], [.cell ConfigT]⟩
def p_z0y : Pol := ⟨fun i => if i = 0 then some [(2, .keep), (3, (.own ConfigT)), (8, .keep)] else if i = 2 then some [(3, (.own ConfigT)), (8, .keep), (9, .keep), (11, .keep)] else none, fun i => if i = 1 then some [(2, .keep), (3, (.own ConfigT)), (8, .keep)] else if i = 2 then some [(3, (.own ConfigT))] else if i = 0 then some [(3, (.own ConfigT))] else none, some [(6, .keep)], [.keep], []⟩
def e_z0y : List EK := [.agg ConfigT, .agg ConfigT, .ty (.int .i64)]
def h_z0y : List HK := []
noncomputable def cf_z0y : CallF := mkCF [(10, c_z00), (11, c_z0s), (14, c_z0e), (20, c_z0c), (18, c_z0a), (12, c_z0r)] [(10, [ConfigT]), (11, []), (14, [ConfigT]), (20, [ConfigT, (.int .i64)]), (18, [ConfigT, (.int .i64)]), (12, [ConfigT])]
noncomputable def ls_z0y (n : Nat) : Loops := fun i => if i = 2 then some (loopT 0 (p_z0y.head 2) s_z0y_h2 fun K v => L_z0y_2 n (fun z0 => K .rt (s_z0y_r.enc ((z0, ()), ()))) (fun _ => K (.ex 2) (s_z0y_t2.enc (((), ()), (v.2.1, ())))) v.1.2.1 v.1.2.2.1 v.2.1 n v.1.2.2.2.1)
  else if i = 0 then some (loopT 0 (p_z0y.head 0) s_z0y_h0 fun K v => L_z0y_0 n (fun z0 => K .rt (s_z0y_r.enc ((z0, ()), ()))) (fun _ => K (.ex 0) (s_z0y_t0.enc (((), ()), (v.2.1, ())))) v.1.1 v.2.1 n v.1.2.2.1)
  else  none
noncomputable def b_z0y_2 : Code := partOf (bodyOf Try.f8) [1, 1, 1, 1, 0, 1, 0, 0, 1, 0, 0, 1, 1, 0, 1, 0, 0]
noncomputable def V_z0y_2 (n : Nat) (K : Cont) (rec : Sig.sem s_z0y_h2 → Option Res) (v : Sig.sem s_z0y_h2) : Option Res := F_z0y_2 n (fun z0 => K .rt (s_z0y_r.enc ((z0, ()), ()))) (fun _ => K (.ex 2) (s_z0y_t2.enc (((), ()), (v.2.1, ())))) v.1.2.1 v.1.2.2.1 v.2.1 (fun z2 => rec (((), (v.1.2.1, (v.1.2.2.1, (z2, ())))), (v.2.1, ()))) v.1.2.2.2.1
theorem t_z0y_2 (n : Nat) (K : Cont) (rec : Sig.sem s_z0y_h2 → Option Res) (v : Sig.sem s_z0y_h2) : runT Try.prog cf_z0y Try.f8.ntmps 0 p_z0y (ls_z0y n) b_z0y_2 (s_z0y_h2.enc v) (turnK 0 (p_z0y.head 2) s_z0y_h2 rec K) = V_z0y_2 n K rec v := by kernel_rfl
noncomputable def W_z0y_2 (n : Nat) (K : Cont) (m : Nat) (v : Sig.sem s_z0y_h2) : Option Res := L_z0y_2 n (fun z0 => K .rt (s_z0y_r.enc ((z0, ()), ()))) (fun _ => K (.ex 2) (s_z0y_t2.enc (((), ()), (v.2.1, ())))) v.1.2.1 v.1.2.2.1 v.2.1 m v.1.2.2.2.1
theorem i_z0y_2 (n : Nat) (K : Cont) : ∀ m v, iter (V_z0y_2 n K) m v = W_z0y_2 n K m v := by
  intro m
  induction m with
  | zero => intro v; rfl
  | succ m ih =>
    intro v
    show V_z0y_2 n K (iter (V_z0y_2 n K) m) v = V_z0y_2 n K (W_z0y_2 n K m) v
    rw [show iter (V_z0y_2 n K) m = W_z0y_2 n K m from funext ih]
theorem o_z0y_2 (n : Nat) : ∀ L, ls_z0y n 2 = some L → ∀ s K r, L s K = some r → ∃ x s', loopN (run Try.prog cf_z0y Try.f8.ntmps 0 n p_z0y none b_z0y_2) (gc 0 (p_z0y.head 2)) n s = some (x, s') ∧ K x s' = some r := by
  intro L hL s K r h
  have hL : some (loopT 0 (p_z0y.head 2) s_z0y_h2 fun K v => W_z0y_2 n K n v) = some L := hL
  cases hL
  have hb : LOk Try.prog cf_z0y Try.f8.ntmps 0 n p_z0y (ls_z0y n) b_z0y_2 := ⟨⟨trivial, ⟨trivial, trivial⟩⟩, ⟨⟨trivial, ⟨trivial, ⟨⟨trivial, trivial⟩, trivial⟩⟩⟩, trivial⟩⟩
  refine loopT_ok hb (V_z0y_2 n) (t_z0y_2 n) n s K r ?_
  rw [← h]
  unfold loopT
  simp only [i_z0y_2]
noncomputable def b_z0y_0 : Code := partOf (bodyOf Try.f8) [1, 1, 1, 1, 0, 1, 0, 0]
noncomputable def V_z0y_0 (n : Nat) (K : Cont) (rec : Sig.sem s_z0y_h0 → Option Res) (v : Sig.sem s_z0y_h0) : Option Res := F_z0y_0 n (fun z0 => K .rt (s_z0y_r.enc ((z0, ()), ()))) (fun _ => K (.ex 0) (s_z0y_t0.enc (((), ()), (v.2.1, ())))) v.1.1 v.2.1 (fun z1 => rec ((v.1.1, ((), (z1, ()))), (v.2.1, ()))) v.1.2.2.1
theorem t_z0y_0 (n : Nat) (K : Cont) (rec : Sig.sem s_z0y_h0 → Option Res) (v : Sig.sem s_z0y_h0) : runT Try.prog cf_z0y Try.f8.ntmps 0 p_z0y (ls_z0y n) b_z0y_0 (s_z0y_h0.enc v) (turnK 0 (p_z0y.head 0) s_z0y_h0 rec K) = V_z0y_0 n K rec v := by kernel_rfl
noncomputable def W_z0y_0 (n : Nat) (K : Cont) (m : Nat) (v : Sig.sem s_z0y_h0) : Option Res := L_z0y_0 n (fun z0 => K .rt (s_z0y_r.enc ((z0, ()), ()))) (fun _ => K (.ex 0) (s_z0y_t0.enc (((), ()), (v.2.1, ())))) v.1.1 v.2.1 m v.1.2.2.1
theorem i_z0y_0 (n : Nat) (K : Cont) : ∀ m v, iter (V_z0y_0 n K) m v = W_z0y_0 n K m v := by
  intro m
  induction m with
  | zero => intro v; rfl
  | succ m ih =>
    intro v
    show V_z0y_0 n K (iter (V_z0y_0 n K) m) v = V_z0y_0 n K (W_z0y_0 n K m) v
    rw [show iter (V_z0y_0 n K) m = W_z0y_0 n K m from funext ih]
theorem o_z0y_0 (n : Nat) : ∀ L, ls_z0y n 0 = some L → ∀ s K r, L s K = some r → ∃ x s', loopN (run Try.prog cf_z0y Try.f8.ntmps 0 n p_z0y none b_z0y_0) (gc 0 (p_z0y.head 0)) n s = some (x, s') ∧ K x s' = some r := by
  intro L hL s K r h
  have hL : some (loopT 0 (p_z0y.head 0) s_z0y_h0 fun K v => W_z0y_0 n K n v) = some L := hL
  cases hL
  have hb : LOk Try.prog cf_z0y Try.f8.ntmps 0 n p_z0y (ls_z0y n) b_z0y_0 := ⟨⟨trivial, ⟨trivial, trivial⟩⟩, ⟨⟨⟨trivial, ⟨trivial, trivial⟩⟩, ⟨trivial, ⟨⟨trivial, (o_z0y_2 n)⟩, trivial⟩⟩⟩, trivial⟩⟩
  refine loopT_ok hb (V_z0y_0 n) (t_z0y_0 n) n s K r ?_
  rw [← h]
  unfold loopT
  simp only [i_z0y_0]
theorem m_z0y (n : Nat) (a0 : ConfigS) (a1 : ConfigS) (a2 : Int) : runFT Try.prog cf_z0y p_z0y (ls_z0y n) Try.f8 (bodyOf Try.f8) (EK.encs e_z0y ((a0, (a1, (a2, ()))), ()).1) (HK.encs h_z0y ((a0, (a1, (a2, ()))), ()).2) = M_z0y n a0 a1 a2 := by kernel_rfl
theorem g_z0y (n : Nat) (a0 : ConfigS) (a1 : ConfigS) (a2 : Int) {r : Res} (h : M_z0y n a0 a1 a2 = some r) : runF Try.prog cf_z0y n p_z0y 8 (EK.encs e_z0y ((a0, (a1, (a2, ()))), ()).1) (HK.encs h_z0y ((a0, (a1, (a2, ()))), ()).2) = some r := by
  have hb : LOk Try.prog cf_z0y Try.f8.ntmps 0 n p_z0y (ls_z0y n) (bodyOf Try.f8) := ⟨trivial, ⟨⟨trivial, ⟨⟨trivial, trivial⟩, trivial⟩⟩, ⟨trivial, ⟨⟨trivial, ⟨⟨trivial, trivial⟩, trivial⟩⟩, ⟨⟨trivial, (o_z0y_0 n)⟩, ⟨trivial, ⟨trivial, trivial⟩⟩⟩⟩⟩⟩⟩
  exact runFT_some Try.prog (c := bodyOf Try.f8) Try.func8 (show Try.f8.body = some (bodyOf Try.f8) from rfl) (show (3 : Nat) ≤ 129 by decide) hb ((m_z0y n a0 a1 a2).trans h) rfl (by kernel_rfl)
noncomputable def c_z0y : Spec := specQ e_z0y h_z0y ro_z0y rh_z0y fun a b => Q_z0y a.1 a.2.1 a.2.2.1
theorem k_z0y (hm : Try.prog.follows .mixedOrders = true) : SpecOk Try.prog 8 c_z0y := specQ_ok (pol := p_z0y) hm (cf := cf_z0y) (tab_ok (specs_cons (k_z00 hm) (specs_cons (k_z0s hm) (specs_cons (k_z0e hm) (specs_cons (k_z0c hm) (specs_cons (k_z0a hm) (specs_cons (k_z0r hm) specs_nil))))))) fun a b r h => ⟨FUEL, g_z0y FUEL a.1 a.2.1 a.2.2.1 (decRes_some h)⟩
def s_z0z_h0 : Sig := ⟨[7, 8, 10, 11, 12, 13], [.ty (.int .i64), .ty (.int .i64), .ty (.int .i64), .ty (.int .i64), .ty (.int .i64), .ty (.int .i64)], []⟩
def s_z0z_t0 : Sig := ⟨[10, 11, 12], [.ty (.int .i64), .ty (.int .i64), .ty (.int .i64)], []⟩
def s_z0z_r : Sig := ⟨[6], [.ty .bool], []⟩
def p_z0z : Pol := ⟨fun i => if i = 0 then some [(7, .keep), (8, .keep), (10, .keep), (11, .keep), (12, .keep), (13, .keep)] else none, fun i => if i = 0 then some [(10, .keep), (11, .keep), (12, .keep)] else none, some [(6, .keep)], [.keep], []⟩
def e_z0z : List EK := [.ty (.int .u8), .ty (.int .u8), .ty (.int .u8)]
def h_z0z : List HK := []
noncomputable def cf_z0z : CallF := mkCF [(24, c_z0v), (12, c_z0r), (11, c_z0s)] [(24, [(.int .i64), (.int .i64), (.int .i64)]), (12, [ConfigT]), (11, [])]
noncomputable def ls_z0z (n : Nat) : Loops := fun i => if i = 0 then some (loopT 0 (p_z0z.head 0) s_z0z_h0 fun K v => L_z0z_0 n (fun z2 => K (.ex 0) (s_z0z_t0.enc ((v.1.2.2.1, (v.1.2.2.2.1, (z2, ()))), ()))) v.1.1 v.1.2.1 n v.1.2.2.2.2.1 v.1.2.2.2.2.2.1)
  else  none
noncomputable def b_z0z_0 : Code := partOf (bodyOf Try.f9) [1, 1, 1, 1, 0, 1, 0, 0]
noncomputable def V_z0z_0 (n : Nat) (K : Cont) (rec : Sig.sem s_z0z_h0 → Option Res) (v : Sig.sem s_z0z_h0) : Option Res := F_z0z_0 n (fun z2 => K (.ex 0) (s_z0z_t0.enc ((v.1.2.2.1, (v.1.2.2.2.1, (z2, ()))), ()))) v.1.1 v.1.2.1 (fun z4 z5 => rec ((v.1.1, (v.1.2.1, (v.1.2.2.1, (v.1.2.2.2.1, (z4, (z5, ())))))), ())) v.1.2.2.2.2.1 v.1.2.2.2.2.2.1
theorem t_z0z_0 (n : Nat) (K : Cont) (rec : Sig.sem s_z0z_h0 → Option Res) (v : Sig.sem s_z0z_h0) : runT Try.prog cf_z0z Try.f9.ntmps 0 p_z0z (ls_z0z n) b_z0z_0 (s_z0z_h0.enc v) (turnK 0 (p_z0z.head 0) s_z0z_h0 rec K) = V_z0z_0 n K rec v := by kernel_rfl
noncomputable def W_z0z_0 (n : Nat) (K : Cont) (m : Nat) (v : Sig.sem s_z0z_h0) : Option Res := L_z0z_0 n (fun z2 => K (.ex 0) (s_z0z_t0.enc ((v.1.2.2.1, (v.1.2.2.2.1, (z2, ()))), ()))) v.1.1 v.1.2.1 m v.1.2.2.2.2.1 v.1.2.2.2.2.2.1
theorem i_z0z_0 (n : Nat) (K : Cont) : ∀ m v, iter (V_z0z_0 n K) m v = W_z0z_0 n K m v := by
  intro m
  induction m with
  | zero => intro v; rfl
  | succ m ih =>
    intro v
    show V_z0z_0 n K (iter (V_z0z_0 n K) m) v = V_z0z_0 n K (W_z0z_0 n K m) v
    rw [show iter (V_z0z_0 n K) m = W_z0z_0 n K m from funext ih]
theorem o_z0z_0 (n : Nat) : ∀ L, ls_z0z n 0 = some L → ∀ s K r, L s K = some r → ∃ x s', loopN (run Try.prog cf_z0z Try.f9.ntmps 0 n p_z0z none b_z0z_0) (gc 0 (p_z0z.head 0)) n s = some (x, s') ∧ K x s' = some r := by
  intro L hL s K r h
  have hL : some (loopT 0 (p_z0z.head 0) s_z0z_h0 fun K v => W_z0z_0 n K n v) = some L := hL
  cases hL
  have hb : LOk Try.prog cf_z0z Try.f9.ntmps 0 n p_z0z (ls_z0z n) b_z0z_0 := ⟨⟨trivial, ⟨trivial, trivial⟩⟩, ⟨trivial, trivial⟩⟩
  refine loopT_ok hb (V_z0z_0 n) (t_z0z_0 n) n s K r ?_
  rw [← h]
  unfold loopT
  simp only [i_z0z_0]
theorem m_z0z (n : Nat) (a0 : Int) (a1 : Int) (a2 : Int) : runFT Try.prog cf_z0z p_z0z (ls_z0z n) Try.f9 (bodyOf Try.f9) (EK.encs e_z0z ((a0, (a1, (a2, ()))), ()).1) (HK.encs h_z0z ((a0, (a1, (a2, ()))), ()).2) = M_z0z n a0 a1 a2 := by kernel_rfl
theorem g_z0z (n : Nat) (a0 : Int) (a1 : Int) (a2 : Int) {r : Res} (h : M_z0z n a0 a1 a2 = some r) : runF Try.prog cf_z0z n p_z0z 9 (EK.encs e_z0z ((a0, (a1, (a2, ()))), ()).1) (HK.encs h_z0z ((a0, (a1, (a2, ()))), ()).2) = some r := by
  have hb : LOk Try.prog cf_z0z Try.f9.ntmps 0 n p_z0z (ls_z0z n) (bodyOf Try.f9) := ⟨trivial, ⟨trivial, ⟨trivial, ⟨trivial, ⟨⟨trivial, (o_z0z_0 n)⟩, ⟨trivial, trivial⟩⟩⟩⟩⟩⟩
  exact runFT_some Try.prog (c := bodyOf Try.f9) Try.func9 (show Try.f9.body = some (bodyOf Try.f9) from rfl) (show (3 : Nat) ≤ 54 by decide) hb ((m_z0z n a0 a1 a2).trans h) rfl (by kernel_rfl)
noncomputable def c_z0z : Spec := specQ e_z0z h_z0z ro_z0z rh_z0z fun a b => Q_z0z a.1 a.2.1 a.2.2.1
theorem k_z0z (hm : Try.prog.follows .mixedOrders = true) : SpecOk Try.prog 9 c_z0z := specQ_ok (pol := p_z0z) hm (cf := cf_z0z) (tab_ok (specs_cons (k_z0v hm) (specs_cons (k_z0r hm) (specs_cons (k_z0s hm) specs_nil)))) fun a b r h => ⟨FUEL, g_z0z FUEL a.1 a.2.1 a.2.2.1 (decRes_some h)⟩
end Go.AMach
