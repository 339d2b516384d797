/- A part of the walk. -/
import Derived.Test.YtbkbifpjckippaaDx
import Derived.Test.YtbkbifpjckippaaProg
import Derived.Test.YtbkbifpjckippaaHa
import Derived.Test.YtbkbifpjckippaaHs
import Derived.Test.YtbkbifpjckippaaHf
import Derived.Test.YtbkbifpjckippaaAm23
import Derived.Test.YtbkbifpjckippaaAm27
namespace Go.AMach
set_option linter.unusedVariables false
set_option linter.unusedSimpArgs false
set_option linter.unnecessarySimpa false
open Go Go.Proofs
set_option linter.unusedVariables false
theorem waysEnd_ : True := trivial
def s_z01_r : Sig := ⟨[2], [.ptr 0 0 0], [.cell ArgT]⟩
def p_z01 : Pol := ⟨fun i => none, fun i => none, some [(2, (.own ArgT))], [.keep], []⟩
def e_z01 : List EK := [.ty (.int .u64)]
def h_z01 : List HK := []
noncomputable def cf_z01 : CallF := mkCF [] []
noncomputable def ls_z01 (n : Nat) : Loops := fun i =>  none
theorem m_z01 (n : Nat) (a0 : Int) : runFT Try.prog cf_z01 p_z01 (ls_z01 n) Try.f18 (bodyOf Try.f18) (EK.encs e_z01 ((a0, ()), ()).1) (HK.encs h_z01 ((a0, ()), ()).2) = M_z01 n a0 := by kernel_rfl
theorem g_z01 (n : Nat) (a0 : Int) {r : Res} (h : M_z01 n a0 = some r) : runF Try.prog cf_z01 n p_z01 18 (EK.encs e_z01 ((a0, ()), ()).1) (HK.encs h_z01 ((a0, ()), ()).2) = some r := by
  have hb : LOk Try.prog cf_z01 Try.f18.ntmps 0 n p_z01 (ls_z01 n) (bodyOf Try.f18) := ⟨trivial, ⟨trivial, trivial⟩⟩
  exact runFT_some Try.prog (c := bodyOf Try.f18) Try.func18 (show Try.f18.body = some (bodyOf Try.f18) from rfl) (show (1 : Nat) ≤ 5 by decide) hb ((m_z01 n a0).trans h) rfl (by kernel_rfl)
noncomputable def c_z01 : Spec := specQ e_z01 h_z01 ro_z01 rh_z01 fun a b => Q_z01 a.1
theorem k_z01 (hm : Try.prog.follows .mixedOrders = true) : SpecOk Try.prog 18 c_z01 := specQ_ok (pol := p_z01) hm (cf := cf_z01) (tab_ok specs_nil) fun a b r h => ⟨FUEL, g_z01 FUEL a.1 (decRes_some h)⟩
noncomputable def c_z02 : Spec := instr_of_s
theorem k_z02 (hm : Try.prog.follows .mixedOrders = true) : SpecOk Try.prog 32 c_z02 := H19.of_ok hm
noncomputable def c_shape_target : Spec := shape_target_s
theorem k_shape_target (hm : Try.prog.follows .mixedOrders = true) : SpecOk Try.prog 33 c_shape_target := H19.target_ok hm
def s_z03_r : Sig := ⟨[2], [.ty .bool], []⟩
def p_z03 : Pol := ⟨fun i => none, fun i => none, some [(2, .keep)], [.keep], []⟩
def e_z03 : List EK := [.agg ArgT]
def h_z03 : List HK := []
noncomputable def cf_z03 : CallF := mkCF [] []
noncomputable def ls_z03 (n : Nat) : Loops := fun i =>  none
theorem m_z03 (n : Nat) (a0 : ArgS) : runFT Try.prog cf_z03 p_z03 (ls_z03 n) Try.f35 (bodyOf Try.f35) (EK.encs e_z03 ((a0, ()), ()).1) (HK.encs h_z03 ((a0, ()), ()).2) = M_z03 n a0 := by kernel_rfl
theorem g_z03 (n : Nat) (a0 : ArgS) {r : Res} (h : M_z03 n a0 = some r) : runF Try.prog cf_z03 n p_z03 35 (EK.encs e_z03 ((a0, ()), ()).1) (HK.encs h_z03 ((a0, ()), ()).2) = some r := by
  have hb : LOk Try.prog cf_z03 Try.f35.ntmps 0 n p_z03 (ls_z03 n) (bodyOf Try.f35) := ⟨trivial, ⟨trivial, trivial⟩⟩
  exact runFT_some Try.prog (c := bodyOf Try.f35) Try.func35 (show Try.f35.body = some (bodyOf Try.f35) from rfl) (show (1 : Nat) ≤ 16 by decide) hb ((m_z03 n a0).trans h) rfl (by kernel_rfl)
noncomputable def c_z03 : Spec := specQ e_z03 h_z03 ro_z03 rh_z03 fun a b => Q_z03 a.1
theorem k_z03 (hm : Try.prog.follows .mixedOrders = true) : SpecOk Try.prog 35 c_z03 := specQ_ok (pol := p_z03) hm (cf := cf_z03) (tab_ok specs_nil) fun a b r h => ⟨FUEL, g_z03 FUEL a.1 (decRes_some h)⟩
def s_z04_r : Sig := ⟨[2], [.ty .bool], []⟩
def p_z04 : Pol := ⟨fun i => none, fun i => none, some [(2, .keep)], [.keep], []⟩
def e_z04 : List EK := [.agg ArgT]
def h_z04 : List HK := []
noncomputable def cf_z04 : CallF := mkCF [(35, c_z03)] [(35, [ArgT])]
noncomputable def ls_z04 (n : Nat) : Loops := fun i =>  none
theorem m_z04 (n : Nat) (a0 : ArgS) : runFT Try.prog cf_z04 p_z04 (ls_z04 n) Try.f55 (bodyOf Try.f55) (EK.encs e_z04 ((a0, ()), ()).1) (HK.encs h_z04 ((a0, ()), ()).2) = M_z04 n a0 := by kernel_rfl
theorem g_z04 (n : Nat) (a0 : ArgS) {r : Res} (h : M_z04 n a0 = some r) : runF Try.prog cf_z04 n p_z04 55 (EK.encs e_z04 ((a0, ()), ()).1) (HK.encs h_z04 ((a0, ()), ()).2) = some r := by
  have hb : LOk Try.prog cf_z04 Try.f55.ntmps 0 n p_z04 (ls_z04 n) (bodyOf Try.f55) := ⟨trivial, ⟨⟨trivial, ⟨trivial, ⟨⟨trivial, trivial⟩, ⟨trivial, ⟨⟨trivial, trivial⟩, ⟨⟨trivial, ⟨trivial, trivial⟩⟩, ⟨⟨trivial, trivial⟩, trivial⟩⟩⟩⟩⟩⟩⟩, ⟨trivial, trivial⟩⟩⟩
  exact runFT_some Try.prog (c := bodyOf Try.f55) Try.func55 (show Try.f55.body = some (bodyOf Try.f55) from rfl) (show (1 : Nat) ≤ 20 by decide) hb ((m_z04 n a0).trans h) rfl (by kernel_rfl)
noncomputable def c_z04 : Spec := specQ e_z04 h_z04 ro_z04 rh_z04 fun a b => Q_z04 a.1
theorem k_z04 (hm : Try.prog.follows .mixedOrders = true) : SpecOk Try.prog 55 c_z04 := specQ_ok (pol := p_z04) hm (cf := cf_z04) (tab_ok (specs_cons (k_z03 hm) specs_nil)) fun a b r h => ⟨FUEL, g_z04 FUEL a.1 (decRes_some h)⟩
def s_z05_r : Sig := ⟨[2], [.ty .bool], []⟩
def p_z05 : Pol := ⟨fun i => none, fun i => none, some [(2, .keep)], [.keep], []⟩
def e_z05 : List EK := [.agg ArgT]
def h_z05 : List HK := []
noncomputable def cf_z05 : CallF := mkCF [] []
noncomputable def ls_z05 (n : Nat) : Loops := fun i =>  none
theorem m_z05 (n : Nat) (a0 : ArgS) : runFT Try.prog cf_z05 p_z05 (ls_z05 n) Try.f54 (bodyOf Try.f54) (EK.encs e_z05 ((a0, ()), ()).1) (HK.encs h_z05 ((a0, ()), ()).2) = M_z05 n a0 := by kernel_rfl
theorem g_z05 (n : Nat) (a0 : ArgS) {r : Res} (h : M_z05 n a0 = some r) : runF Try.prog cf_z05 n p_z05 54 (EK.encs e_z05 ((a0, ()), ()).1) (HK.encs h_z05 ((a0, ()), ()).2) = some r := by
  have hb : LOk Try.prog cf_z05 Try.f54.ntmps 0 n p_z05 (ls_z05 n) (bodyOf Try.f54) := ⟨trivial, ⟨trivial, trivial⟩⟩
  exact runFT_some Try.prog (c := bodyOf Try.f54) Try.func54 (show Try.f54.body = some (bodyOf Try.f54) from rfl) (show (1 : Nat) ≤ 6 by decide) hb ((m_z05 n a0).trans h) rfl (by kernel_rfl)
noncomputable def c_z05 : Spec := specQ e_z05 h_z05 ro_z05 rh_z05 fun a b => Q_z05 a.1
theorem k_z05 (hm : Try.prog.follows .mixedOrders = true) : SpecOk Try.prog 54 c_z05 := specQ_ok (pol := p_z05) hm (cf := cf_z05) (tab_ok specs_nil) fun a b r h => ⟨FUEL, g_z05 FUEL a.1 (decRes_some h)⟩
noncomputable def c_shape_number : Spec := shape_number_s
theorem k_shape_number (hm : Try.prog.follows .mixedOrders = true) : SpecOk Try.prog 34 c_shape_number := H19.number_ok hm
def s_z06_r : Sig := ⟨[2], [.ty .bool], []⟩
def p_z06 : Pol := ⟨fun i => none, fun i => none, some [(2, .keep)], [.keep], []⟩
def e_z06 : List EK := [.agg InstrT]
def h_z06 : List HK := []
noncomputable def cf_z06 : CallF := mkCF [(32, c_z02), (33, c_shape_target), (55, c_z04), (54, c_z05), (34, c_shape_number), (35, c_z03)] [(55, [ArgT]), (54, [ArgT]), (35, [ArgT])]
noncomputable def ls_z06 (n : Nat) : Loops := fun i =>  none
theorem m_z06 (n : Nat) (a0 : InstrS) : runFT Try.prog cf_z06 p_z06 (ls_z06 n) Try.f12 (bodyOf Try.f12) (EK.encs e_z06 ((a0, ()), ()).1) (HK.encs h_z06 ((a0, ()), ()).2) = M_z06 n a0 := by kernel_rfl
theorem g_z06 (n : Nat) (a0 : InstrS) {r : Res} (h : M_z06 n a0 = some r) : runF Try.prog cf_z06 n p_z06 12 (EK.encs e_z06 ((a0, ()), ()).1) (HK.encs h_z06 ((a0, ()), ()).2) = some r := by
  have hb : LOk Try.prog cf_z06 Try.f12.ntmps 0 n p_z06 (ls_z06 n) (bodyOf Try.f12) := ⟨trivial, ⟨trivial, ⟨trivial, trivial⟩⟩⟩
  exact runFT_some Try.prog (c := bodyOf Try.f12) Try.func12 (show Try.f12.body = some (bodyOf Try.f12) from rfl) (show (1 : Nat) ≤ 38 by decide) hb ((m_z06 n a0).trans h) rfl (by kernel_rfl)
noncomputable def c_z06 : Spec := specQ e_z06 h_z06 ro_z06 rh_z06 fun a b => Q_z06 a.1
theorem k_z06 (hm : Try.prog.follows .mixedOrders = true) : SpecOk Try.prog 12 c_z06 := specQ_ok (pol := p_z06) hm (cf := cf_z06) (tab_ok (specs_cons (k_z02 hm) (specs_cons (k_shape_target hm) (specs_cons (k_z04 hm) (specs_cons (k_z05 hm) (specs_cons (k_shape_number hm) (specs_cons (k_z03 hm) specs_nil))))))) fun a b r h => ⟨FUEL, g_z06 FUEL a.1 (decRes_some h)⟩
def s_z07_r : Sig := ⟨[2], [.hs 0 0], [.row NameT]⟩
def s_z07_h0 : Sig := ⟨[1, 3, 5, 29, 30, 31], [.ptr 0 0 0, .ptr 1 0 0, .hs 2 0, .hs 3 0, .ty (.int .i64), .ty (.int .i64)], [.cell InstrT, .one false [.ty .bool, .ty .bool, .junk, .junk, .ty (.int .u8), .ty (.int .i64), .ty (.int .i64)], .row NameT, .row ArgT]⟩
def s_z07_t0 : Sig := ⟨[1, 3, 5], [.ptr 0 0 0, .ptr 1 0 0, .hs 2 0], [.cell InstrT, .one false [.ty .bool, .ty .bool, .junk, .junk, .ty (.int .u8), .ty (.int .i64), .ty (.int .i64)], .row NameT]⟩
def p_z07 : Pol := ⟨fun i => if i = 0 then some [(1, (.own InstrT)), (3, (.flds [.keep, .keep, .drop, .drop, .keep, .keep, .keep])), (5, (.own NameT)), (29, (.own ArgT)), (30, .keep), (31, .keep)] else none, fun i => if i = 0 then some [(1, (.own InstrT)), (3, (.flds [.keep, .keep, .drop, .drop, .keep, .keep, .keep])), (5, (.own NameT))] else none, some [(2, (.own NameT))], [(.own NameT)], []⟩
def e_z07 : List EK := [.agg InstrT]
def h_z07 : List HK := []
noncomputable def cf_z07 : CallF := mkCF [(12, c_z06), (32, c_z02), (35, c_z03)] [(12, [InstrT]), (35, [ArgT])]
noncomputable def ls_z07 (n : Nat) : Loops := fun i => if i = 0 then some (loopT 0 (p_z07.head 0) s_z07_h0 fun K v => L_z07_0 n (fun z0 z7 => K (.ex 0) (s_z07_t0.enc (((), ((), (z0, ()))), (v.2.1, ((v.2.2.1.1, (v.2.2.1.2.1, ((), ((), (v.2.2.1.2.2.2.2.1, (v.2.2.1.2.2.2.2.2.1, (v.2.2.1.2.2.2.2.2.2.1, ()))))))), (z7, ())))))) v.1.2.2.2.1 v.1.2.2.2.2.1 v.2.2.2.2.1 n v.1.2.2.1 v.1.2.2.2.2.2.1 v.2.2.2.1)
  else  none
noncomputable def b_z07_0 : Code := partOf (bodyOf Try.f15) [1, 1, 1, 1, 1, 0, 1, 0, 0]
noncomputable def V_z07_0 (n : Nat) (K : Cont) (rec : Sig.sem s_z07_h0 → Option Res) (v : Sig.sem s_z07_h0) : Option Res := F_z07_0 n (fun z0 z7 => K (.ex 0) (s_z07_t0.enc (((), ((), (z0, ()))), (v.2.1, ((v.2.2.1.1, (v.2.2.1.2.1, ((), ((), (v.2.2.1.2.2.2.2.1, (v.2.2.1.2.2.2.2.2.1, (v.2.2.1.2.2.2.2.2.2.1, ()))))))), (z7, ())))))) v.1.2.2.2.1 v.1.2.2.2.2.1 v.2.2.2.2.1 (fun z0 z3 z10 => rec (((), ((), (z0, (v.1.2.2.2.1, (v.1.2.2.2.2.1, (z3, ())))))), (v.2.1, ((v.2.2.1.1, (v.2.2.1.2.1, ((), ((), (v.2.2.1.2.2.2.2.1, (v.2.2.1.2.2.2.2.2.1, (v.2.2.1.2.2.2.2.2.2.1, ()))))))), (z10, (v.2.2.2.2.1, ())))))) v.1.2.2.1 v.1.2.2.2.2.2.1 v.2.2.2.1
theorem t_z07_0 (n : Nat) (K : Cont) (rec : Sig.sem s_z07_h0 → Option Res) (v : Sig.sem s_z07_h0) : runT Try.prog cf_z07 Try.f15.ntmps 0 p_z07 (ls_z07 n) b_z07_0 (s_z07_h0.enc v) (turnK 0 (p_z07.head 0) s_z07_h0 rec K) = V_z07_0 n K rec v := by kernel_rfl
noncomputable def W_z07_0 (n : Nat) (K : Cont) (m : Nat) (v : Sig.sem s_z07_h0) : Option Res := L_z07_0 n (fun z0 z7 => K (.ex 0) (s_z07_t0.enc (((), ((), (z0, ()))), (v.2.1, ((v.2.2.1.1, (v.2.2.1.2.1, ((), ((), (v.2.2.1.2.2.2.2.1, (v.2.2.1.2.2.2.2.2.1, (v.2.2.1.2.2.2.2.2.2.1, ()))))))), (z7, ())))))) v.1.2.2.2.1 v.1.2.2.2.2.1 v.2.2.2.2.1 m v.1.2.2.1 v.1.2.2.2.2.2.1 v.2.2.2.1
theorem i_z07_0 (n : Nat) (K : Cont) : ∀ m v, iter (V_z07_0 n K) m v = W_z07_0 n K m v := by
  intro m
  induction m with
  | zero => intro v; rfl
  | succ m ih =>
    intro v
    show V_z07_0 n K (iter (V_z07_0 n K) m) v = V_z07_0 n K (W_z07_0 n K m) v
    rw [show iter (V_z07_0 n K) m = W_z07_0 n K m from funext ih]
theorem o_z07_0 (n : Nat) : ∀ L, ls_z07 n 0 = some L → ∀ s K r, L s K = some r → ∃ x s', loopN (run Try.prog cf_z07 Try.f15.ntmps 0 n p_z07 none b_z07_0) (gc 0 (p_z07.head 0)) n s = some (x, s') ∧ K x s' = some r := by
  intro L hL s K r h
  have hL : some (loopT 0 (p_z07.head 0) s_z07_h0 fun K v => W_z07_0 n K n v) = some L := hL
  cases hL
  have hb : LOk Try.prog cf_z07 Try.f15.ntmps 0 n p_z07 (ls_z07 n) b_z07_0 := ⟨trivial, ⟨⟨trivial, trivial⟩, ⟨⟨trivial, ⟨trivial, ⟨trivial, trivial⟩⟩⟩, trivial⟩⟩⟩
  refine loopT_ok hb (V_z07_0 n) (t_z07_0 n) n s K r ?_
  rw [← h]
  unfold loopT
  simp only [i_z07_0]
theorem m_z07 (n : Nat) (a0 : InstrS) : runFT Try.prog cf_z07 p_z07 (ls_z07 n) Try.f15 (bodyOf Try.f15) (EK.encs e_z07 ((a0, ()), ()).1) (HK.encs h_z07 ((a0, ()), ()).2) = M_z07 n a0 := by kernel_rfl
theorem g_z07 (n : Nat) (a0 : InstrS) {r : Res} (h : M_z07 n a0 = some r) : runF Try.prog cf_z07 n p_z07 15 (EK.encs e_z07 ((a0, ()), ()).1) (HK.encs h_z07 ((a0, ()), ()).2) = some r := by
  have hb : LOk Try.prog cf_z07 Try.f15.ntmps 0 n p_z07 (ls_z07 n) (bodyOf Try.f15) := ⟨trivial, ⟨⟨trivial, ⟨⟨trivial, trivial⟩, trivial⟩⟩, ⟨trivial, ⟨trivial, ⟨⟨trivial, ⟨trivial, trivial⟩⟩, ⟨⟨trivial, (o_z07_0 n)⟩, ⟨⟨trivial, ⟨trivial, trivial⟩⟩, ⟨trivial, trivial⟩⟩⟩⟩⟩⟩⟩⟩
  exact runFT_some Try.prog (c := bodyOf Try.f15) Try.func15 (show Try.f15.body = some (bodyOf Try.f15) from rfl) (show (1 : Nat) ≤ 57 by decide) hb ((m_z07 n a0).trans h) rfl (by kernel_rfl)
noncomputable def c_z07 : Spec := specQ e_z07 h_z07 ro_z07 rh_z07 fun a b => Q_z07 a.1
theorem k_z07 (hm : Try.prog.follows .mixedOrders = true) : SpecOk Try.prog 15 c_z07 := specQ_ok (pol := p_z07) hm (cf := cf_z07) (tab_ok (specs_cons (k_z06 hm) (specs_cons (k_z02 hm) (specs_cons (k_z03 hm) specs_nil)))) fun a b r h => ⟨FUEL, g_z07 FUEL a.1 (decRes_some h)⟩
def s_z08_r : Sig := ⟨[4], [.ty .bool], []⟩
def s_z08_h0 : Sig := ⟨[0, 1, 5], [.ty (.slice NameT), .ty (.slice NameT), .ty (.int .i64)], []⟩
def s_z08_t0 : Sig := ⟨[], [], []⟩
def p_z08 : Pol := ⟨fun i => if i = 0 then some [(0, .keep), (1, .keep), (5, .keep)] else none, fun i => if i = 0 then some [] else none, some [(4, .keep)], [.keep], []⟩
def e_z08 : List EK := [.ty (.slice NameT), .ty (.slice NameT)]
def h_z08 : List HK := []
noncomputable def cf_z08 : CallF := mkCF [] []
noncomputable def ls_z08 (n : Nat) : Loops := fun i => if i = 0 then some (loopT 0 (p_z08.head 0) s_z08_h0 fun K v => L_z08_0 n (fun z0 => K .rt (s_z08_r.enc ((z0, ()), ()))) (fun _ => K (.ex 0) (s_z08_t0.enc ((), ()))) v.1.1 v.1.2.1 n v.1.2.2.1)
  else  none
noncomputable def b_z08_0 : Code := partOf (bodyOf Try.f14) [1, 1, 0, 1, 0, 0]
noncomputable def V_z08_0 (n : Nat) (K : Cont) (rec : Sig.sem s_z08_h0 → Option Res) (v : Sig.sem s_z08_h0) : Option Res := F_z08_0 n (fun z0 => K .rt (s_z08_r.enc ((z0, ()), ()))) (fun _ => K (.ex 0) (s_z08_t0.enc ((), ()))) v.1.1 v.1.2.1 (fun z2 => rec ((v.1.1, (v.1.2.1, (z2, ()))), ())) v.1.2.2.1
theorem t_z08_0 (n : Nat) (K : Cont) (rec : Sig.sem s_z08_h0 → Option Res) (v : Sig.sem s_z08_h0) : runT Try.prog cf_z08 Try.f14.ntmps 0 p_z08 (ls_z08 n) b_z08_0 (s_z08_h0.enc v) (turnK 0 (p_z08.head 0) s_z08_h0 rec K) = V_z08_0 n K rec v := by kernel_rfl
noncomputable def W_z08_0 (n : Nat) (K : Cont) (m : Nat) (v : Sig.sem s_z08_h0) : Option Res := L_z08_0 n (fun z0 => K .rt (s_z08_r.enc ((z0, ()), ()))) (fun _ => K (.ex 0) (s_z08_t0.enc ((), ()))) v.1.1 v.1.2.1 m v.1.2.2.1
theorem i_z08_0 (n : Nat) (K : Cont) : ∀ m v, iter (V_z08_0 n K) m v = W_z08_0 n K m v := by
  intro m
  induction m with
  | zero => intro v; rfl
  | succ m ih =>
    intro v
    show V_z08_0 n K (iter (V_z08_0 n K) m) v = V_z08_0 n K (W_z08_0 n K m) v
    rw [show iter (V_z08_0 n K) m = W_z08_0 n K m from funext ih]
theorem o_z08_0 (n : Nat) : ∀ L, ls_z08 n 0 = some L → ∀ s K r, L s K = some r → ∃ x s', loopN (run Try.prog cf_z08 Try.f14.ntmps 0 n p_z08 none b_z08_0) (gc 0 (p_z08.head 0)) n s = some (x, s') ∧ K x s' = some r := by
  intro L hL s K r h
  have hL : some (loopT 0 (p_z08.head 0) s_z08_h0 fun K v => W_z08_0 n K n v) = some L := hL
  cases hL
  have hb : LOk Try.prog cf_z08 Try.f14.ntmps 0 n p_z08 (ls_z08 n) b_z08_0 := ⟨⟨trivial, ⟨trivial, trivial⟩⟩, ⟨⟨trivial, ⟨⟨trivial, trivial⟩, trivial⟩⟩, trivial⟩⟩
  refine loopT_ok hb (V_z08_0 n) (t_z08_0 n) n s K r ?_
  rw [← h]
  unfold loopT
  simp only [i_z08_0]
theorem m_z08 (n : Nat) (a0 : (List NameS)) (a1 : (List NameS)) : runFT Try.prog cf_z08 p_z08 (ls_z08 n) Try.f14 (bodyOf Try.f14) (EK.encs e_z08 ((a0, (a1, ())), ()).1) (HK.encs h_z08 ((a0, (a1, ())), ()).2) = M_z08 n a0 a1 := by kernel_rfl
theorem g_z08 (n : Nat) (a0 : (List NameS)) (a1 : (List NameS)) {r : Res} (h : M_z08 n a0 a1 = some r) : runF Try.prog cf_z08 n p_z08 14 (EK.encs e_z08 ((a0, (a1, ())), ()).1) (HK.encs h_z08 ((a0, (a1, ())), ()).2) = some r := by
  have hb : LOk Try.prog cf_z08 Try.f14.ntmps 0 n p_z08 (ls_z08 n) (bodyOf Try.f14) := ⟨trivial, ⟨⟨trivial, ⟨⟨trivial, trivial⟩, trivial⟩⟩, ⟨⟨trivial, (o_z08_0 n)⟩, ⟨trivial, trivial⟩⟩⟩⟩
  exact runFT_some Try.prog (c := bodyOf Try.f14) Try.func14 (show Try.f14.body = some (bodyOf Try.f14) from rfl) (show (2 : Nat) ≤ 26 by decide) hb ((m_z08 n a0 a1).trans h) rfl (by kernel_rfl)
noncomputable def c_z08 : Spec := specQ e_z08 h_z08 ro_z08 rh_z08 fun a b => Q_z08 a.1 a.2.1
theorem k_z08 (hm : Try.prog.follows .mixedOrders = true) : SpecOk Try.prog 14 c_z08 := specQ_ok (pol := p_z08) hm (cf := cf_z08) (tab_ok specs_nil) fun a b r h => ⟨FUEL, g_z08 FUEL a.1 a.2.1 (decRes_some h)⟩
def s_z09_r : Sig := ⟨[2], [.ty .bool], []⟩
def p_z09 : Pol := ⟨fun i => none, fun i => none, some [(2, .keep)], [.keep], []⟩
def e_z09 : List EK := [.ty (.int .i64)]
def h_z09 : List HK := []
noncomputable def cf_z09 : CallF := mkCF [] []
noncomputable def ls_z09 (n : Nat) : Loops := fun i =>  none
theorem m_z09 (n : Nat) (a0 : Int) : runFT Try.prog cf_z09 p_z09 (ls_z09 n) Try.f36 (bodyOf Try.f36) (EK.encs e_z09 ((a0, ()), ()).1) (HK.encs h_z09 ((a0, ()), ()).2) = M_z09 n a0 := by kernel_rfl
theorem g_z09 (n : Nat) (a0 : Int) {r : Res} (h : M_z09 n a0 = some r) : runF Try.prog cf_z09 n p_z09 36 (EK.encs e_z09 ((a0, ()), ()).1) (HK.encs h_z09 ((a0, ()), ()).2) = some r := by
  have hb : LOk Try.prog cf_z09 Try.f36.ntmps 0 n p_z09 (ls_z09 n) (bodyOf Try.f36) := ⟨trivial, ⟨trivial, trivial⟩⟩
  exact runFT_some Try.prog (c := bodyOf Try.f36) Try.func36 (show Try.f36.body = some (bodyOf Try.f36) from rfl) (show (1 : Nat) ≤ 9 by decide) hb ((m_z09 n a0).trans h) rfl (by kernel_rfl)
noncomputable def c_z09 : Spec := specQ e_z09 h_z09 ro_z09 rh_z09 fun a b => Q_z09 a.1
theorem k_z09 (hm : Try.prog.follows .mixedOrders = true) : SpecOk Try.prog 36 c_z09 := specQ_ok (pol := p_z09) hm (cf := cf_z09) (tab_ok specs_nil) fun a b r h => ⟨FUEL, g_z09 FUEL a.1 (decRes_some h)⟩
def s_z0a_r : Sig := ⟨[2], [.ty .bool], []⟩
def s_z0a_h0 : Sig := ⟨[1, 16, 17, 18], [.ptr 0 0 0, .ty (.slice InstrT), .ty (.int .i64), .ty (.int .i64)], [.cell BlockT]⟩
def s_z0a_t0 : Sig := ⟨[], [], []⟩
def p_z0a : Pol := ⟨fun i => if i = 0 then some [(1, (.own BlockT)), (16, .keep), (17, .keep), (18, .keep)] else none, fun i => if i = 0 then some [] else none, some [(2, .keep)], [.keep], []⟩
def e_z0a : List EK := [.agg BlockT]
def h_z0a : List HK := []
noncomputable def cf_z0a : CallF := mkCF [(36, c_z09), (12, c_z06)] [(36, [(.int .i64)]), (12, [InstrT])]
noncomputable def ls_z0a (n : Nat) : Loops := fun i => if i = 0 then some (loopT 0 (p_z0a.head 0) s_z0a_h0 fun K v => L_z0a_0 n (fun z0 => K .rt (s_z0a_r.enc ((z0, ()), ()))) (fun _ => K (.ex 0) (s_z0a_t0.enc ((), ()))) v.1.2.1 v.1.2.2.1 v.2.1 n v.1.2.2.2.1)
  else  none
noncomputable def b_z0a_0 : Code := partOf (bodyOf Try.f17) [1, 1, 0, 1, 0, 0]
noncomputable def V_z0a_0 (n : Nat) (K : Cont) (rec : Sig.sem s_z0a_h0 → Option Res) (v : Sig.sem s_z0a_h0) : Option Res := F_z0a_0 n (fun z0 => K .rt (s_z0a_r.enc ((z0, ()), ()))) (fun _ => K (.ex 0) (s_z0a_t0.enc ((), ()))) v.1.2.1 v.1.2.2.1 v.2.1 (fun z2 => rec (((), (v.1.2.1, (v.1.2.2.1, (z2, ())))), (v.2.1, ()))) v.1.2.2.2.1
theorem t_z0a_0 (n : Nat) (K : Cont) (rec : Sig.sem s_z0a_h0 → Option Res) (v : Sig.sem s_z0a_h0) : runT Try.prog cf_z0a Try.f17.ntmps 0 p_z0a (ls_z0a n) b_z0a_0 (s_z0a_h0.enc v) (turnK 0 (p_z0a.head 0) s_z0a_h0 rec K) = V_z0a_0 n K rec v := by kernel_rfl
noncomputable def W_z0a_0 (n : Nat) (K : Cont) (m : Nat) (v : Sig.sem s_z0a_h0) : Option Res := L_z0a_0 n (fun z0 => K .rt (s_z0a_r.enc ((z0, ()), ()))) (fun _ => K (.ex 0) (s_z0a_t0.enc ((), ()))) v.1.2.1 v.1.2.2.1 v.2.1 m v.1.2.2.2.1
theorem i_z0a_0 (n : Nat) (K : Cont) : ∀ m v, iter (V_z0a_0 n K) m v = W_z0a_0 n K m v := by
  intro m
  induction m with
  | zero => intro v; rfl
  | succ m ih =>
    intro v
    show V_z0a_0 n K (iter (V_z0a_0 n K) m) v = V_z0a_0 n K (W_z0a_0 n K m) v
    rw [show iter (V_z0a_0 n K) m = W_z0a_0 n K m from funext ih]
theorem o_z0a_0 (n : Nat) : ∀ L, ls_z0a n 0 = some L → ∀ s K r, L s K = some r → ∃ x s', loopN (run Try.prog cf_z0a Try.f17.ntmps 0 n p_z0a none b_z0a_0) (gc 0 (p_z0a.head 0)) n s = some (x, s') ∧ K x s' = some r := by
  intro L hL s K r h
  have hL : some (loopT 0 (p_z0a.head 0) s_z0a_h0 fun K v => W_z0a_0 n K n v) = some L := hL
  cases hL
  have hb : LOk Try.prog cf_z0a Try.f17.ntmps 0 n p_z0a (ls_z0a n) b_z0a_0 := ⟨trivial, ⟨⟨trivial, trivial⟩, ⟨⟨trivial, ⟨trivial, ⟨⟨trivial, trivial⟩, trivial⟩⟩⟩, trivial⟩⟩⟩
  refine loopT_ok hb (V_z0a_0 n) (t_z0a_0 n) n s K r ?_
  rw [← h]
  unfold loopT
  simp only [i_z0a_0]
theorem m_z0a (n : Nat) (a0 : BlockS) : runFT Try.prog cf_z0a p_z0a (ls_z0a n) Try.f17 (bodyOf Try.f17) (EK.encs e_z0a ((a0, ()), ()).1) (HK.encs h_z0a ((a0, ()), ()).2) = M_z0a n a0 := by kernel_rfl
theorem g_z0a (n : Nat) (a0 : BlockS) {r : Res} (h : M_z0a n a0 = some r) : runF Try.prog cf_z0a n p_z0a 17 (EK.encs e_z0a ((a0, ()), ()).1) (HK.encs h_z0a ((a0, ()), ()).2) = some r := by
  have hb : LOk Try.prog cf_z0a Try.f17.ntmps 0 n p_z0a (ls_z0a n) (bodyOf Try.f17) := ⟨trivial, ⟨⟨trivial, ⟨⟨trivial, trivial⟩, trivial⟩⟩, ⟨⟨trivial, (o_z0a_0 n)⟩, ⟨trivial, trivial⟩⟩⟩⟩
  exact runFT_some Try.prog (c := bodyOf Try.f17) Try.func17 (show Try.f17.body = some (bodyOf Try.f17) from rfl) (show (1 : Nat) ≤ 43 by decide) hb ((m_z0a n a0).trans h) rfl (by kernel_rfl)
noncomputable def c_z0a : Spec := specQ e_z0a h_z0a ro_z0a rh_z0a fun a b => Q_z0a a.1
theorem k_z0a (hm : Try.prog.follows .mixedOrders = true) : SpecOk Try.prog 17 c_z0a := specQ_ok (pol := p_z0a) hm (cf := cf_z0a) (tab_ok (specs_cons (k_z09 hm) (specs_cons (k_z06 hm) specs_nil))) fun a b r h => ⟨FUEL, g_z0a FUEL a.1 (decRes_some h)⟩
def s_z0b_r : Sig := ⟨[2, 3], [.ptr 0 0 0, .ty .bool], [.cell WayT]⟩
def p_z0b : Pol := ⟨fun i => none, fun i => none, some [(2, (.own WayT)), (3, .keep)], [.keep, .keep], []⟩
def e_z0b : List EK := [.agg InstrT]
def h_z0b : List HK := []
noncomputable def cf_z0b : CallF := mkCF [] []
noncomputable def ls_z0b (n : Nat) : Loops := fun i =>  none
theorem m_z0b (n : Nat) (a0 : InstrS) : runFT Try.prog cf_z0b p_z0b (ls_z0b n) Try.f42 (bodyOf Try.f42) (EK.encs e_z0b ((a0, ()), ()).1) (HK.encs h_z0b ((a0, ()), ()).2) = M_z0b n a0 := by kernel_rfl
theorem g_z0b (n : Nat) (a0 : InstrS) {r : Res} (h : M_z0b n a0 = some r) : runF Try.prog cf_z0b n p_z0b 42 (EK.encs e_z0b ((a0, ()), ()).1) (HK.encs h_z0b ((a0, ()), ()).2) = some r := by
  have hb : LOk Try.prog cf_z0b Try.f42.ntmps 0 n p_z0b (ls_z0b n) (bodyOf Try.f42) := ⟨trivial, ⟨⟨trivial, ⟨⟨trivial, ⟨trivial, trivial⟩⟩, ⟨⟨trivial, trivial⟩, ⟨⟨trivial, ⟨trivial, trivial⟩⟩, ⟨⟨trivial, trivial⟩, trivial⟩⟩⟩⟩⟩, ⟨trivial, trivial⟩⟩⟩
  exact runFT_some Try.prog (c := bodyOf Try.f42) Try.func42 (show Try.f42.body = some (bodyOf Try.f42) from rfl) (show (1 : Nat) ≤ 19 by decide) hb ((m_z0b n a0).trans h) rfl (by kernel_rfl)
noncomputable def c_z0b : Spec := specQ e_z0b h_z0b ro_z0b rh_z0b fun a b => Q_z0b a.1
theorem k_z0b (hm : Try.prog.follows .mixedOrders = true) : SpecOk Try.prog 42 c_z0b := specQ_ok (pol := p_z0b) hm (cf := cf_z0b) (tab_ok specs_nil) fun a b r h => ⟨FUEL, g_z0b FUEL a.1 (decRes_some h)⟩
def p_z0c : Pol := ⟨fun i => none, fun i => none, none, [], []⟩
def e_z0c : List EK := [.agg WayT, .ty (.int .i64), .ptr 0 0 0]
def h_z0c : List HK := [.one false [.mp 1], .mf WayT (.int .i64)]
noncomputable def cf_z0c : CallF := mkCF [] []
noncomputable def ls_z0c (n : Nat) : Loops := fun i =>  none
theorem m_z0c (n : Nat) (a0 : WayS) (a1 : Int) (a2 : (WayS → Option (Int))) : runFT Try.prog cf_z0c p_z0c (ls_z0c n) Try.f41 (bodyOf Try.f41) (EK.encs e_z0c ((a0, (a1, ((), ()))), (((), ()), (a2, ()))).1) (HK.encs h_z0c ((a0, (a1, ((), ()))), (((), ()), (a2, ()))).2) = M_z0c n a0 a1 a2 := by kernel_rfl
theorem g_z0c (n : Nat) (a0 : WayS) (a1 : Int) (a2 : (WayS → Option (Int))) {r : Res} (h : M_z0c n a0 a1 a2 = some r) : runF Try.prog cf_z0c n p_z0c 41 (EK.encs e_z0c ((a0, (a1, ((), ()))), (((), ()), (a2, ()))).1) (HK.encs h_z0c ((a0, (a1, ((), ()))), (((), ()), (a2, ()))).2) = some r := by
  have hb : LOk Try.prog cf_z0c Try.f41.ntmps 2 n p_z0c (ls_z0c n) (bodyOf Try.f41) := ⟨trivial, trivial⟩
  exact runFT_some Try.prog (c := bodyOf Try.f41) Try.func41 (show Try.f41.body = some (bodyOf Try.f41) from rfl) (show (3 : Nat) ≤ 12 by decide) hb ((m_z0c n a0 a1 a2).trans h) rfl (by kernel_rfl)
noncomputable def c_z0c : Spec := specQ e_z0c h_z0c ro_z0c rh_z0c fun a b => Q_z0c a.1 a.2.1 b.2.1
theorem k_z0c (hm : Try.prog.follows .mixedOrders = true) : SpecOk Try.prog 41 c_z0c := specQ_ok (pol := p_z0c) hm (cf := cf_z0c) (tab_ok specs_nil) fun a b r h => ⟨FUEL, g_z0c FUEL a.1 a.2.1 b.2.1 (decRes_some h)⟩
def s_z0d_r : Sig := ⟨[2], [.hs 0 0], [.row WayT]⟩
def s_z0d_h0 : Sig := ⟨[1, 3, 4, 5, 28, 29], [.ptr 0 0 0, .ptr 1 0 0, .fn 41 [(1, 0, 0)], .hs 3 0, .ty (.int .i64), .ty (.int .i64)], [.cell BlockT, .one false [.mp 2], .mf WayT (.int .i64), .row (.int .i64)]⟩
def s_z0d_t0 : Sig := ⟨[1, 3, 4, 5], [.ptr 0 0 0, .ptr 1 0 0, .fn 41 [(1, 0, 0)], .hs 3 0], [.cell BlockT, .one false [.mp 2], .mf WayT (.int .i64), .row (.int .i64)]⟩
def s_z0d_h2 : Sig := ⟨[1, 3, 4, 5, 38, 39, 40], [.ptr 0 0 0, .ptr 1 0 0, .fn 41 [(1, 0, 0)], .hs 3 0, .ty (.slice InstrT), .ty (.int .i64), .ty (.int .i64)], [.cell BlockT, .one false [.mp 2], .mf WayT (.int .i64), .row (.int .i64)]⟩
def s_z0d_t3 : Sig := ⟨[1, 3, 4, 5, 38, 39, 40], [.ptr 0 0 0, .ptr 1 0 0, .fn 41 [(1, 0, 0)], .hs 3 0, .ty (.slice InstrT), .ty (.int .i64), .ty (.int .i64)], [.cell BlockT, .one false [.mp 2], .mf WayT (.int .i64), .row (.int .i64)]⟩
def s_z0d_t2 : Sig := ⟨[1, 3, 4, 5], [.ptr 0 0 0, .ptr 1 0 0, .fn 41 [(1, 0, 0)], .hs 3 0], [.cell BlockT, .one false [.mp 2], .mf WayT (.int .i64), .row (.int .i64)]⟩
def s_z0d_tl : Sig := ⟨[3], [.ptr 0 0 0], [.one false [.mp 1], .mf WayT (.int .i64)]⟩
def p_z0d : Pol := ⟨fun i => if i = 0 then some [(1, (.own BlockT)), (3, .keep), (4, .keep), (5, (.own (.int .i64))), (28, .keep), (29, .keep)] else if i = 2 then some [(1, (.own BlockT)), (3, .keep), (4, .keep), (5, (.own (.int .i64))), (38, .keep), (39, .keep), (40, .keep)] else none, fun i => if i = 0 then some [(1, (.own BlockT)), (3, .keep), (4, .keep), (5, (.own (.int .i64)))] else if i = 3 then some [(1, (.own BlockT)), (3, .keep), (4, .keep), (5, (.own (.int .i64))), (38, .keep), (39, .keep), (40, .keep)] else if i = 2 then some [(1, (.own BlockT)), (3, .keep), (4, .keep), (5, (.own (.int .i64)))] else none, some [(2, (.own WayT))], [(.own WayT)], []⟩
def e_z0d : List EK := [.agg BlockT]
def h_z0d : List HK := []
noncomputable def cf_z0d : CallF := mkCF [(17, c_z0a), (42, c_z0b), (41, c_z0c)] [(17, [BlockT]), (42, [InstrT])]
noncomputable def ls_z0d (n : Nat) : Loops := fun i => if i = 0 then some (loopT 0 (p_z0d.head 0) s_z0d_h0 fun K v => L_z0d_0 n (fun z3 => K (.ex 0) (s_z0d_t0.enc (((), ((), ((), (v.1.2.2.2.1, ())))), (v.2.1, (((), ()), (v.2.2.2.1, (z3, ()))))))) v.1.2.2.2.1 v.1.2.2.2.2.1 n v.1.2.2.2.2.2.1 v.2.2.2.2.1)
  else if i = 2 then some (loopT 0 (p_z0d.head 2) s_z0d_h2 fun K v => L_z0d_2 n (fun z2 z3 => K (.ex 2) (s_z0d_t2.enc (((), ((), ((), (v.1.2.2.2.1, ())))), (v.2.1, (((), ()), (z2, (z3, ()))))))) v.1.2.2.2.1 v.1.2.2.2.2.1 v.1.2.2.2.2.2.1 n v.1.2.2.2.2.2.2.1 v.2.2.2.1 v.2.2.2.2.1)
  else  none
noncomputable def b_z0d_0 : Code := partOf (bodyOf Try.f23) [1, 1, 1, 1, 1, 0, 1, 0, 0]
noncomputable def V_z0d_0 (n : Nat) (K : Cont) (rec : Sig.sem s_z0d_h0 → Option Res) (v : Sig.sem s_z0d_h0) : Option Res := F_z0d_0 n (fun z3 => K (.ex 0) (s_z0d_t0.enc (((), ((), ((), (v.1.2.2.2.1, ())))), (v.2.1, (((), ()), (v.2.2.2.1, (z3, ()))))))) v.1.2.2.2.1 v.1.2.2.2.2.1 (fun z2 z5 => rec (((), ((), ((), (v.1.2.2.2.1, (v.1.2.2.2.2.1, (z2, ())))))), (v.2.1, (((), ()), (v.2.2.2.1, (z5, ())))))) v.1.2.2.2.2.2.1 v.2.2.2.2.1
theorem t_z0d_0 (n : Nat) (K : Cont) (rec : Sig.sem s_z0d_h0 → Option Res) (v : Sig.sem s_z0d_h0) : runT Try.prog cf_z0d Try.f23.ntmps 0 p_z0d (ls_z0d n) b_z0d_0 (s_z0d_h0.enc v) (turnK 0 (p_z0d.head 0) s_z0d_h0 rec K) = V_z0d_0 n K rec v := by kernel_rfl
noncomputable def W_z0d_0 (n : Nat) (K : Cont) (m : Nat) (v : Sig.sem s_z0d_h0) : Option Res := L_z0d_0 n (fun z3 => K (.ex 0) (s_z0d_t0.enc (((), ((), ((), (v.1.2.2.2.1, ())))), (v.2.1, (((), ()), (v.2.2.2.1, (z3, ()))))))) v.1.2.2.2.1 v.1.2.2.2.2.1 m v.1.2.2.2.2.2.1 v.2.2.2.2.1
theorem i_z0d_0 (n : Nat) (K : Cont) : ∀ m v, iter (V_z0d_0 n K) m v = W_z0d_0 n K m v := by
  intro m
  induction m with
  | zero => intro v; rfl
  | succ m ih =>
    intro v
    show V_z0d_0 n K (iter (V_z0d_0 n K) m) v = V_z0d_0 n K (W_z0d_0 n K m) v
    rw [show iter (V_z0d_0 n K) m = W_z0d_0 n K m from funext ih]
theorem o_z0d_0 (n : Nat) : ∀ L, ls_z0d n 0 = some L → ∀ s K r, L s K = some r → ∃ x s', loopN (run Try.prog cf_z0d Try.f23.ntmps 0 n p_z0d none b_z0d_0) (gc 0 (p_z0d.head 0)) n s = some (x, s') ∧ K x s' = some r := by
  intro L hL s K r h
  have hL : some (loopT 0 (p_z0d.head 0) s_z0d_h0 fun K v => W_z0d_0 n K n v) = some L := hL
  cases hL
  have hb : LOk Try.prog cf_z0d Try.f23.ntmps 0 n p_z0d (ls_z0d n) b_z0d_0 := ⟨trivial, ⟨⟨trivial, trivial⟩, ⟨⟨trivial, trivial⟩, trivial⟩⟩⟩
  refine loopT_ok hb (V_z0d_0 n) (t_z0d_0 n) n s K r ?_
  rw [← h]
  unfold loopT
  simp only [i_z0d_0]
noncomputable def b_z0d_2 : Code := partOf (bodyOf Try.f23) [1, 1, 1, 1, 1, 1, 0, 1, 0, 0]
noncomputable def V_z0d_2 (n : Nat) (K : Cont) (rec : Sig.sem s_z0d_h2 → Option Res) (v : Sig.sem s_z0d_h2) : Option Res := F_z0d_2 n (fun z2 z3 => K (.ex 2) (s_z0d_t2.enc (((), ((), ((), (v.1.2.2.2.1, ())))), (v.2.1, (((), ()), (z2, (z3, ()))))))) v.1.2.2.2.1 v.1.2.2.2.2.1 v.1.2.2.2.2.2.1 (fun z3 z5 z6 => rec (((), ((), ((), (v.1.2.2.2.1, (v.1.2.2.2.2.1, (v.1.2.2.2.2.2.1, (z3, ()))))))), (v.2.1, (((), ()), (z5, (z6, ())))))) v.1.2.2.2.2.2.2.1 v.2.2.2.1 v.2.2.2.2.1
theorem t_z0d_2 (n : Nat) (K : Cont) (rec : Sig.sem s_z0d_h2 → Option Res) (v : Sig.sem s_z0d_h2) : runT Try.prog cf_z0d Try.f23.ntmps 0 p_z0d (ls_z0d n) b_z0d_2 (s_z0d_h2.enc v) (turnK 0 (p_z0d.head 2) s_z0d_h2 rec K) = V_z0d_2 n K rec v := by kernel_rfl
noncomputable def W_z0d_2 (n : Nat) (K : Cont) (m : Nat) (v : Sig.sem s_z0d_h2) : Option Res := L_z0d_2 n (fun z2 z3 => K (.ex 2) (s_z0d_t2.enc (((), ((), ((), (v.1.2.2.2.1, ())))), (v.2.1, (((), ()), (z2, (z3, ()))))))) v.1.2.2.2.1 v.1.2.2.2.2.1 v.1.2.2.2.2.2.1 m v.1.2.2.2.2.2.2.1 v.2.2.2.1 v.2.2.2.2.1
theorem i_z0d_2 (n : Nat) (K : Cont) : ∀ m v, iter (V_z0d_2 n K) m v = W_z0d_2 n K m v := by
  intro m
  induction m with
  | zero => intro v; rfl
  | succ m ih =>
    intro v
    show V_z0d_2 n K (iter (V_z0d_2 n K) m) v = V_z0d_2 n K (W_z0d_2 n K m) v
    rw [show iter (V_z0d_2 n K) m = W_z0d_2 n K m from funext ih]
theorem o_z0d_2 (n : Nat) : ∀ L, ls_z0d n 2 = some L → ∀ s K r, L s K = some r → ∃ x s', loopN (run Try.prog cf_z0d Try.f23.ntmps 0 n p_z0d none b_z0d_2) (gc 0 (p_z0d.head 2)) n s = some (x, s') ∧ K x s' = some r := by
  intro L hL s K r h
  have hL : some (loopT 0 (p_z0d.head 2) s_z0d_h2 fun K v => W_z0d_2 n K n v) = some L := hL
  cases hL
  have hb : LOk Try.prog cf_z0d Try.f23.ntmps 0 n p_z0d (ls_z0d n) b_z0d_2 := ⟨trivial, ⟨⟨trivial, trivial⟩, ⟨⟨trivial, ⟨trivial, ⟨⟨trivial, ⟨trivial, trivial⟩⟩, ⟨⟨trivial, ⟨trivial, ⟨⟨trivial, trivial⟩, trivial⟩⟩⟩, ⟨trivial, ⟨trivial, ⟨trivial, trivial⟩⟩⟩⟩⟩⟩⟩, trivial⟩⟩⟩
  refine loopT_ok hb (V_z0d_2 n) (t_z0d_2 n) n s K r ?_
  rw [← h]
  unfold loopT
  simp only [i_z0d_2]
noncomputable def tl_z0d : TailS := ⟨[(3, .keep)], [3], 2, specQ [.ptr 0 0 0] [.one false [.mp 1], .mf WayT (.int .i64)] ro_z00 rh_z00 fun a b => Q_z00 b.2.1, true⟩
theorem m_z0d (n : Nat) (a0 : BlockS) : runFX Try.prog tl_z0d [1, 1, 1, 1, 1, 1, 1, 1] cf_z0d p_z0d (ls_z0d n) Try.f23 (bodyOf Try.f23) (EK.encs e_z0d ((a0, ()), ()).1) (HK.encs h_z0d ((a0, ()), ()).2) = M_z0d n a0 := by kernel_rfl
theorem g_z0d (n : Nat) (a0 : BlockS) {r : Res} (h : M_z0d n a0 = some r) : runFX Try.prog tl_z0d [1, 1, 1, 1, 1, 1, 1, 1] cf_z0d p_z0d (ls_z0d n) Try.f23 (bodyOf Try.f23) (EK.encs e_z0d ((a0, ()), ()).1) (HK.encs h_z0d ((a0, ()), ()).2) = some r := (m_z0d n a0).trans h
noncomputable def c_z0d : Spec := specQ e_z0d h_z0d ro_z0d rh_z0d fun a b => Q_z0d a.1
theorem k_z0d (hm : Try.prog.follows .mixedOrders = true) : SpecOk Try.prog 23 c_z0d := specX_ok (tl := tl_z0d) (pth := [1, 1, 1, 1, 1, 1, 1, 1]) (pol := p_z0d) (n := FUEL) (cf := cf_z0d) (ls := ls_z0d FUEL) hm (tab_ok (specs_cons (k_z0a hm) (specs_cons (k_z0b hm) (specs_cons (k_z0c hm) specs_nil)))) Try.func23 (show Try.f23.body = some (bodyOf Try.f23) from rfl) (show (1 : Nat) ≤ 125 by decide) rfl (by kernel_rfl) (show LOk Try.prog cf_z0d Try.f23.ntmps 0 FUEL p_z0d (ls_z0d FUEL) (bodyOf Try.f23) from ⟨trivial, ⟨⟨trivial, ⟨⟨trivial, trivial⟩, trivial⟩⟩, ⟨trivial, ⟨trivial, ⟨trivial, ⟨⟨trivial, (o_z0d_0 FUEL)⟩, ⟨⟨trivial, (o_z0d_2 FUEL)⟩, ⟨⟨trivial, ⟨trivial, ⟨trivial, trivial⟩⟩⟩, ⟨trivial, ⟨⟨trivial, (noLoop (by rfl))⟩, ⟨trivial, ⟨trivial, trivial⟩⟩⟩⟩⟩⟩⟩⟩⟩⟩⟩⟩) H19.tail_ok fun a b r h => g_z0d FUEL a.1 (decRes_some h)
def s_z0e_r : Sig := ⟨[4], [.ty .bool], []⟩
def s_z0e_h0 : Sig := ⟨[0, 1, 5], [.ty (.slice WayT), .ty (.slice WayT), .ty (.int .i64)], []⟩
def s_z0e_t0 : Sig := ⟨[], [], []⟩
def p_z0e : Pol := ⟨fun i => if i = 0 then some [(0, .keep), (1, .keep), (5, .keep)] else none, fun i => if i = 0 then some [] else none, some [(4, .keep)], [.keep], []⟩
def e_z0e : List EK := [.ty (.slice WayT), .ty (.slice WayT)]
def h_z0e : List HK := []
noncomputable def cf_z0e : CallF := mkCF [] []
noncomputable def ls_z0e (n : Nat) : Loops := fun i => if i = 0 then some (loopT 0 (p_z0e.head 0) s_z0e_h0 fun K v => L_z0e_0 n (fun z0 => K .rt (s_z0e_r.enc ((z0, ()), ()))) (fun _ => K (.ex 0) (s_z0e_t0.enc ((), ()))) v.1.1 v.1.2.1 n v.1.2.2.1)
  else  none
noncomputable def b_z0e_0 : Code := partOf (bodyOf Try.f24) [1, 1, 0, 1, 0, 0]
noncomputable def V_z0e_0 (n : Nat) (K : Cont) (rec : Sig.sem s_z0e_h0 → Option Res) (v : Sig.sem s_z0e_h0) : Option Res := F_z0e_0 n (fun z0 => K .rt (s_z0e_r.enc ((z0, ()), ()))) (fun _ => K (.ex 0) (s_z0e_t0.enc ((), ()))) v.1.1 v.1.2.1 (fun z2 => rec ((v.1.1, (v.1.2.1, (z2, ()))), ())) v.1.2.2.1
theorem t_z0e_0 (n : Nat) (K : Cont) (rec : Sig.sem s_z0e_h0 → Option Res) (v : Sig.sem s_z0e_h0) : runT Try.prog cf_z0e Try.f24.ntmps 0 p_z0e (ls_z0e n) b_z0e_0 (s_z0e_h0.enc v) (turnK 0 (p_z0e.head 0) s_z0e_h0 rec K) = V_z0e_0 n K rec v := by kernel_rfl
noncomputable def W_z0e_0 (n : Nat) (K : Cont) (m : Nat) (v : Sig.sem s_z0e_h0) : Option Res := L_z0e_0 n (fun z0 => K .rt (s_z0e_r.enc ((z0, ()), ()))) (fun _ => K (.ex 0) (s_z0e_t0.enc ((), ()))) v.1.1 v.1.2.1 m v.1.2.2.1
theorem i_z0e_0 (n : Nat) (K : Cont) : ∀ m v, iter (V_z0e_0 n K) m v = W_z0e_0 n K m v := by
  intro m
  induction m with
  | zero => intro v; rfl
  | succ m ih =>
    intro v
    show V_z0e_0 n K (iter (V_z0e_0 n K) m) v = V_z0e_0 n K (W_z0e_0 n K m) v
    rw [show iter (V_z0e_0 n K) m = W_z0e_0 n K m from funext ih]
theorem o_z0e_0 (n : Nat) : ∀ L, ls_z0e n 0 = some L → ∀ s K r, L s K = some r → ∃ x s', loopN (run Try.prog cf_z0e Try.f24.ntmps 0 n p_z0e none b_z0e_0) (gc 0 (p_z0e.head 0)) n s = some (x, s') ∧ K x s' = some r := by
  intro L hL s K r h
  have hL : some (loopT 0 (p_z0e.head 0) s_z0e_h0 fun K v => W_z0e_0 n K n v) = some L := hL
  cases hL
  have hb : LOk Try.prog cf_z0e Try.f24.ntmps 0 n p_z0e (ls_z0e n) b_z0e_0 := ⟨⟨trivial, ⟨trivial, trivial⟩⟩, ⟨⟨trivial, ⟨⟨trivial, trivial⟩, trivial⟩⟩, trivial⟩⟩
  refine loopT_ok hb (V_z0e_0 n) (t_z0e_0 n) n s K r ?_
  rw [← h]
  unfold loopT
  simp only [i_z0e_0]
theorem m_z0e (n : Nat) (a0 : (List WayS)) (a1 : (List WayS)) : runFT Try.prog cf_z0e p_z0e (ls_z0e n) Try.f24 (bodyOf Try.f24) (EK.encs e_z0e ((a0, (a1, ())), ()).1) (HK.encs h_z0e ((a0, (a1, ())), ()).2) = M_z0e n a0 a1 := by kernel_rfl
theorem g_z0e (n : Nat) (a0 : (List WayS)) (a1 : (List WayS)) {r : Res} (h : M_z0e n a0 a1 = some r) : runF Try.prog cf_z0e n p_z0e 24 (EK.encs e_z0e ((a0, (a1, ())), ()).1) (HK.encs h_z0e ((a0, (a1, ())), ()).2) = some r := by
  have hb : LOk Try.prog cf_z0e Try.f24.ntmps 0 n p_z0e (ls_z0e n) (bodyOf Try.f24) := ⟨trivial, ⟨⟨trivial, ⟨⟨trivial, trivial⟩, trivial⟩⟩, ⟨⟨trivial, (o_z0e_0 n)⟩, ⟨trivial, trivial⟩⟩⟩⟩
  exact runFT_some Try.prog (c := bodyOf Try.f24) Try.func24 (show Try.f24.body = some (bodyOf Try.f24) from rfl) (show (2 : Nat) ≤ 26 by decide) hb ((m_z0e n a0 a1).trans h) rfl (by kernel_rfl)
noncomputable def c_z0e : Spec := specQ e_z0e h_z0e ro_z0e rh_z0e fun a b => Q_z0e a.1 a.2.1
theorem k_z0e (hm : Try.prog.follows .mixedOrders = true) : SpecOk Try.prog 24 c_z0e := specQ_ok (pol := p_z0e) hm (cf := cf_z0e) (tab_ok specs_nil) fun a b r h => ⟨FUEL, g_z0e FUEL a.1 a.2.1 (decRes_some h)⟩
def s_z0f_h0 : Sig := ⟨[3, 7, 8, 9], [.ty (.int .i64), .hs 0 0, .ty (.int .i64), .ty (.int .i64)], [.row WayT]⟩
def s_z0f_t0 : Sig := ⟨[3], [.ty (.int .i64)], []⟩
def s_z0f_r : Sig := ⟨[2], [.ty (.int .i64)], []⟩
def p_z0f : Pol := ⟨fun i => if i = 0 then some [(3, .keep), (7, (.own WayT)), (8, .keep), (9, .keep)] else none, fun i => if i = 0 then some [(3, .keep)] else none, some [(2, .keep)], [.keep], []⟩
def e_z0f : List EK := [.agg BlockT]
def h_z0f : List HK := []
noncomputable def cf_z0f : CallF := mkCF [(23, c_z0d)] [(23, [BlockT])]
noncomputable def ls_z0f (n : Nat) : Loops := fun i => if i = 0 then some (loopT 0 (p_z0f.head 0) s_z0f_h0 fun K v => L_z0f_0 n (fun z0 => K (.ex 0) (s_z0f_t0.enc ((z0, ()), ()))) v.1.2.1 v.1.2.2.1 v.2.1 n v.1.1 v.1.2.2.2.1)
  else  none
noncomputable def b_z0f_0 : Code := partOf (bodyOf Try.f26) [1, 1, 0, 1, 0, 0]
noncomputable def V_z0f_0 (n : Nat) (K : Cont) (rec : Sig.sem s_z0f_h0 → Option Res) (v : Sig.sem s_z0f_h0) : Option Res := F_z0f_0 n (fun z0 => K (.ex 0) (s_z0f_t0.enc ((z0, ()), ()))) v.1.2.1 v.1.2.2.1 v.2.1 (fun z0 z3 => rec ((z0, (v.1.2.1, (v.1.2.2.1, (z3, ())))), (v.2.1, ()))) v.1.1 v.1.2.2.2.1
theorem t_z0f_0 (n : Nat) (K : Cont) (rec : Sig.sem s_z0f_h0 → Option Res) (v : Sig.sem s_z0f_h0) : runT Try.prog cf_z0f Try.f26.ntmps 0 p_z0f (ls_z0f n) b_z0f_0 (s_z0f_h0.enc v) (turnK 0 (p_z0f.head 0) s_z0f_h0 rec K) = V_z0f_0 n K rec v := by kernel_rfl
noncomputable def W_z0f_0 (n : Nat) (K : Cont) (m : Nat) (v : Sig.sem s_z0f_h0) : Option Res := L_z0f_0 n (fun z0 => K (.ex 0) (s_z0f_t0.enc ((z0, ()), ()))) v.1.2.1 v.1.2.2.1 v.2.1 m v.1.1 v.1.2.2.2.1
theorem i_z0f_0 (n : Nat) (K : Cont) : ∀ m v, iter (V_z0f_0 n K) m v = W_z0f_0 n K m v := by
  intro m
  induction m with
  | zero => intro v; rfl
  | succ m ih =>
    intro v
    show V_z0f_0 n K (iter (V_z0f_0 n K) m) v = V_z0f_0 n K (W_z0f_0 n K m) v
    rw [show iter (V_z0f_0 n K) m = W_z0f_0 n K m from funext ih]
theorem o_z0f_0 (n : Nat) : ∀ L, ls_z0f n 0 = some L → ∀ s K r, L s K = some r → ∃ x s', loopN (run Try.prog cf_z0f Try.f26.ntmps 0 n p_z0f none b_z0f_0) (gc 0 (p_z0f.head 0)) n s = some (x, s') ∧ K x s' = some r := by
  intro L hL s K r h
  have hL : some (loopT 0 (p_z0f.head 0) s_z0f_h0 fun K v => W_z0f_0 n K n v) = some L := hL
  cases hL
  have hb : LOk Try.prog cf_z0f Try.f26.ntmps 0 n p_z0f (ls_z0f n) b_z0f_0 := ⟨trivial, ⟨⟨trivial, trivial⟩, ⟨⟨trivial, trivial⟩, trivial⟩⟩⟩
  refine loopT_ok hb (V_z0f_0 n) (t_z0f_0 n) n s K r ?_
  rw [← h]
  unfold loopT
  simp only [i_z0f_0]
theorem m_z0f (n : Nat) (a0 : BlockS) : runFT Try.prog cf_z0f p_z0f (ls_z0f n) Try.f26 (bodyOf Try.f26) (EK.encs e_z0f ((a0, ()), ()).1) (HK.encs h_z0f ((a0, ()), ()).2) = M_z0f n a0 := by kernel_rfl
theorem g_z0f (n : Nat) (a0 : BlockS) {r : Res} (h : M_z0f n a0 = some r) : runF Try.prog cf_z0f n p_z0f 26 (EK.encs e_z0f ((a0, ()), ()).1) (HK.encs h_z0f ((a0, ()), ()).2) = some r := by
  have hb : LOk Try.prog cf_z0f Try.f26.ntmps 0 n p_z0f (ls_z0f n) (bodyOf Try.f26) := ⟨trivial, ⟨trivial, ⟨⟨trivial, (o_z0f_0 n)⟩, ⟨trivial, trivial⟩⟩⟩⟩
  exact runFT_some Try.prog (c := bodyOf Try.f26) Try.func26 (show Try.f26.body = some (bodyOf Try.f26) from rfl) (show (1 : Nat) ≤ 19 by decide) hb ((m_z0f n a0).trans h) rfl (by kernel_rfl)
noncomputable def c_z0f : Spec := specQ e_z0f h_z0f ro_z0f rh_z0f fun a b => Q_z0f a.1
theorem k_z0f (hm : Try.prog.follows .mixedOrders = true) : SpecOk Try.prog 26 c_z0f := specQ_ok (pol := p_z0f) hm (cf := cf_z0f) (tab_ok (specs_cons (k_z0d hm) specs_nil)) fun a b r h => ⟨FUEL, g_z0f FUEL a.1 (decRes_some h)⟩
def s_z0g_r : Sig := ⟨[0], [.ty .bool], []⟩
def p_z0g : Pol := ⟨fun i => none, fun i => none, some [(0, .keep)], [.keep], []⟩
def e_z0g : List EK := []
def h_z0g : List HK := []
noncomputable def cf_z0g : CallF := mkCF [(18, c_z01), (12, c_z06), (15, c_z07), (14, c_z08), (23, c_z0d), (24, c_z0e), (17, c_z0a), (26, c_z0f)] [(18, [(.int .u64)]), (12, [InstrT]), (15, [InstrT]), (14, [(.slice NameT), (.slice NameT)]), (23, [BlockT]), (24, [(.slice WayT), (.slice WayT)]), (17, [BlockT]), (26, [BlockT])]
noncomputable def ls_z0g (n : Nat) : Loops := fun i =>  none
theorem m_z0g (n : Nat) : runFT Try.prog cf_z0g p_z0g (ls_z0g n) Try.f11 (bodyOf Try.f11) (EK.encs e_z0g ((), ()).1) (HK.encs h_z0g ((), ()).2) = M_z0g n := by kernel_rfl
theorem g_z0g (n : Nat) {r : Res} (h : M_z0g n = some r) : runF Try.prog cf_z0g n p_z0g 11 (EK.encs e_z0g ((), ()).1) (HK.encs h_z0g ((), ()).2) = some r := by
  have hb : LOk Try.prog cf_z0g Try.f11.ntmps 0 n p_z0g (ls_z0g n) (bodyOf Try.f11) := ⟨trivial, ⟨trivial, ⟨trivial, ⟨trivial, ⟨trivial, ⟨trivial, ⟨trivial, ⟨trivial, trivial⟩⟩⟩⟩⟩⟩⟩⟩
  exact runFT_some Try.prog (c := bodyOf Try.f11) Try.func11 (show Try.f11.body = some (bodyOf Try.f11) from rfl) (show (0 : Nat) ≤ 60 by decide) hb ((m_z0g n).trans h) rfl (by kernel_rfl)
noncomputable def c_z0g : Spec := specQ e_z0g h_z0g ro_z0g rh_z0g fun a b => Q_z0g
theorem k_z0g (hm : Try.prog.follows .mixedOrders = true) : SpecOk Try.prog 11 c_z0g := specQ_ok (pol := p_z0g) hm (cf := cf_z0g) (tab_ok (specs_cons (k_z01 hm) (specs_cons (k_z06 hm) (specs_cons (k_z07 hm) (specs_cons (k_z08 hm) (specs_cons (k_z0d hm) (specs_cons (k_z0e hm) (specs_cons (k_z0a hm) (specs_cons (k_z0f hm) specs_nil))))))))) fun a b r h => ⟨FUEL, g_z0g FUEL (decRes_some h)⟩
def s_z0h_r : Sig := ⟨[2], [.ptr 0 0 0], [.cell ArgT]⟩
def p_z0h : Pol := ⟨fun i => none, fun i => none, some [(2, (.own ArgT))], [.keep], []⟩
def e_z0h : List EK := [.ty (.int .u64)]
def h_z0h : List HK := []
noncomputable def cf_z0h : CallF := mkCF [] []
noncomputable def ls_z0h (n : Nat) : Loops := fun i =>  none
theorem m_z0h (n : Nat) (a0 : Int) : runFT Try.prog cf_z0h p_z0h (ls_z0h n) Try.f19 (bodyOf Try.f19) (EK.encs e_z0h ((a0, ()), ()).1) (HK.encs h_z0h ((a0, ()), ()).2) = M_z0h n a0 := by kernel_rfl
theorem g_z0h (n : Nat) (a0 : Int) {r : Res} (h : M_z0h n a0 = some r) : runF Try.prog cf_z0h n p_z0h 19 (EK.encs e_z0h ((a0, ()), ()).1) (HK.encs h_z0h ((a0, ()), ()).2) = some r := by
  have hb : LOk Try.prog cf_z0h Try.f19.ntmps 0 n p_z0h (ls_z0h n) (bodyOf Try.f19) := ⟨trivial, ⟨trivial, trivial⟩⟩
  exact runFT_some Try.prog (c := bodyOf Try.f19) Try.func19 (show Try.f19.body = some (bodyOf Try.f19) from rfl) (show (1 : Nat) ≤ 5 by decide) hb ((m_z0h n a0).trans h) rfl (by kernel_rfl)
noncomputable def c_z0h : Spec := specQ e_z0h h_z0h ro_z0h rh_z0h fun a b => Q_z0h a.1
theorem k_z0h (hm : Try.prog.follows .mixedOrders = true) : SpecOk Try.prog 19 c_z0h := specQ_ok (pol := p_z0h) hm (cf := cf_z0h) (tab_ok specs_nil) fun a b r h => ⟨FUEL, g_z0h FUEL a.1 (decRes_some h)⟩
def s_z0i_r : Sig := ⟨[2], [.ty .bool], []⟩
def p_z0i : Pol := ⟨fun i => none, fun i => none, some [(2, .keep)], [.keep], []⟩
def e_z0i : List EK := [.ty (.int .i64)]
def h_z0i : List HK := []
noncomputable def cf_z0i : CallF := mkCF [] []
noncomputable def ls_z0i (n : Nat) : Loops := fun i =>  none
theorem m_z0i (n : Nat) (a0 : Int) : runFT Try.prog cf_z0i p_z0i (ls_z0i n) Try.f37 (bodyOf Try.f37) (EK.encs e_z0i ((a0, ()), ()).1) (HK.encs h_z0i ((a0, ()), ()).2) = M_z0i n a0 := by kernel_rfl
theorem g_z0i (n : Nat) (a0 : Int) {r : Res} (h : M_z0i n a0 = some r) : runF Try.prog cf_z0i n p_z0i 37 (EK.encs e_z0i ((a0, ()), ()).1) (HK.encs h_z0i ((a0, ()), ()).2) = some r := by
  have hb : LOk Try.prog cf_z0i Try.f37.ntmps 0 n p_z0i (ls_z0i n) (bodyOf Try.f37) := ⟨trivial, ⟨trivial, trivial⟩⟩
  exact runFT_some Try.prog (c := bodyOf Try.f37) Try.func37 (show Try.f37.body = some (bodyOf Try.f37) from rfl) (show (1 : Nat) ≤ 9 by decide) hb ((m_z0i n a0).trans h) rfl (by kernel_rfl)
noncomputable def c_z0i : Spec := specQ e_z0i h_z0i ro_z0i rh_z0i fun a b => Q_z0i a.1
theorem k_z0i (hm : Try.prog.follows .mixedOrders = true) : SpecOk Try.prog 37 c_z0i := specQ_ok (pol := p_z0i) hm (cf := cf_z0i) (tab_ok specs_nil) fun a b r h => ⟨FUEL, g_z0i FUEL a.1 (decRes_some h)⟩
def s_z0j_r : Sig := ⟨[2], [.ty .bool], []⟩
def p_z0j : Pol := ⟨fun i => none, fun i => none, some [(2, .keep)], [.keep], []⟩
def e_z0j : List EK := [.agg ArgT]
def h_z0j : List HK := []
noncomputable def cf_z0j : CallF := mkCF [] []
noncomputable def ls_z0j (n : Nat) : Loops := fun i =>  none
theorem m_z0j (n : Nat) (a0 : ArgS) : runFT Try.prog cf_z0j p_z0j (ls_z0j n) Try.f38 (bodyOf Try.f38) (EK.encs e_z0j ((a0, ()), ()).1) (HK.encs h_z0j ((a0, ()), ()).2) = M_z0j n a0 := by kernel_rfl
theorem g_z0j (n : Nat) (a0 : ArgS) {r : Res} (h : M_z0j n a0 = some r) : runF Try.prog cf_z0j n p_z0j 38 (EK.encs e_z0j ((a0, ()), ()).1) (HK.encs h_z0j ((a0, ()), ()).2) = some r := by
  have hb : LOk Try.prog cf_z0j Try.f38.ntmps 0 n p_z0j (ls_z0j n) (bodyOf Try.f38) := ⟨trivial, ⟨⟨trivial, ⟨trivial, ⟨⟨trivial, trivial⟩, ⟨trivial, ⟨⟨trivial, trivial⟩, ⟨trivial, ⟨⟨trivial, trivial⟩, trivial⟩⟩⟩⟩⟩⟩⟩, ⟨trivial, trivial⟩⟩⟩
  exact runFT_some Try.prog (c := bodyOf Try.f38) Try.func38 (show Try.f38.body = some (bodyOf Try.f38) from rfl) (show (1 : Nat) ≤ 35 by decide) hb ((m_z0j n a0).trans h) rfl (by kernel_rfl)
noncomputable def c_z0j : Spec := specQ e_z0j h_z0j ro_z0j rh_z0j fun a b => Q_z0j a.1
theorem k_z0j (hm : Try.prog.follows .mixedOrders = true) : SpecOk Try.prog 38 c_z0j := specQ_ok (pol := p_z0j) hm (cf := cf_z0j) (tab_ok specs_nil) fun a b r h => ⟨FUEL, g_z0j FUEL a.1 (decRes_some h)⟩
def s_z0k_r : Sig := ⟨[2], [.ty .bool], []⟩
def p_z0k : Pol := ⟨fun i => none, fun i => none, some [(2, .keep)], [.keep], []⟩
def e_z0k : List EK := [.agg ArgT]
def h_z0k : List HK := []
noncomputable def cf_z0k : CallF := mkCF [] []
noncomputable def ls_z0k (n : Nat) : Loops := fun i =>  none
theorem m_z0k (n : Nat) (a0 : ArgS) : runFT Try.prog cf_z0k p_z0k (ls_z0k n) Try.f39 (bodyOf Try.f39) (EK.encs e_z0k ((a0, ()), ()).1) (HK.encs h_z0k ((a0, ()), ()).2) = M_z0k n a0 := by kernel_rfl
theorem g_z0k (n : Nat) (a0 : ArgS) {r : Res} (h : M_z0k n a0 = some r) : runF Try.prog cf_z0k n p_z0k 39 (EK.encs e_z0k ((a0, ()), ()).1) (HK.encs h_z0k ((a0, ()), ()).2) = some r := by
  have hb : LOk Try.prog cf_z0k Try.f39.ntmps 0 n p_z0k (ls_z0k n) (bodyOf Try.f39) := ⟨trivial, ⟨trivial, trivial⟩⟩
  exact runFT_some Try.prog (c := bodyOf Try.f39) Try.func39 (show Try.f39.body = some (bodyOf Try.f39) from rfl) (show (1 : Nat) ≤ 11 by decide) hb ((m_z0k n a0).trans h) rfl (by kernel_rfl)
noncomputable def c_z0k : Spec := specQ e_z0k h_z0k ro_z0k rh_z0k fun a b => Q_z0k a.1
theorem k_z0k (hm : Try.prog.follows .mixedOrders = true) : SpecOk Try.prog 39 c_z0k := specQ_ok (pol := p_z0k) hm (cf := cf_z0k) (tab_ok specs_nil) fun a b r h => ⟨FUEL, g_z0k FUEL a.1 (decRes_some h)⟩
def s_z0l_r : Sig := ⟨[2], [.ty .bool], []⟩
def p_z0l : Pol := ⟨fun i => none, fun i => none, some [(2, .keep)], [.keep], []⟩
def e_z0l : List EK := [.agg InstrT]
def h_z0l : List HK := []
noncomputable def cf_z0l : CallF := mkCF [(37, c_z0i), (38, c_z0j), (39, c_z0k)] [(37, [(.int .i64)]), (38, [ArgT]), (39, [ArgT])]
noncomputable def ls_z0l (n : Nat) : Loops := fun i =>  none
theorem m_z0l (n : Nat) (a0 : InstrS) : runFT Try.prog cf_z0l p_z0l (ls_z0l n) Try.f21 (bodyOf Try.f21) (EK.encs e_z0l ((a0, ()), ()).1) (HK.encs h_z0l ((a0, ()), ()).2) = M_z0l n a0 := by kernel_rfl
theorem g_z0l (n : Nat) (a0 : InstrS) {r : Res} (h : M_z0l n a0 = some r) : runF Try.prog cf_z0l n p_z0l 21 (EK.encs e_z0l ((a0, ()), ()).1) (HK.encs h_z0l ((a0, ()), ()).2) = some r := by
  have hb : LOk Try.prog cf_z0l Try.f21.ntmps 0 n p_z0l (ls_z0l n) (bodyOf Try.f21) := ⟨trivial, ⟨⟨trivial, ⟨⟨trivial, ⟨trivial, ⟨trivial, ⟨trivial, ⟨trivial, ⟨trivial, ⟨trivial, ⟨trivial, ⟨trivial, ⟨trivial, ⟨trivial, ⟨trivial, ⟨trivial, ⟨trivial, trivial⟩⟩⟩⟩⟩⟩⟩⟩⟩⟩⟩⟩⟩⟩, ⟨⟨trivial, trivial⟩, ⟨⟨trivial, ⟨trivial, trivial⟩⟩, ⟨⟨trivial, trivial⟩, ⟨trivial, ⟨⟨trivial, trivial⟩, ⟨trivial, ⟨⟨trivial, trivial⟩, ⟨⟨trivial, ⟨trivial, ⟨trivial, ⟨trivial, trivial⟩⟩⟩⟩, ⟨⟨trivial, trivial⟩, ⟨trivial, ⟨⟨trivial, trivial⟩, ⟨trivial, ⟨⟨trivial, trivial⟩, ⟨⟨trivial, ⟨trivial, trivial⟩⟩, ⟨⟨trivial, trivial⟩, ⟨trivial, ⟨⟨trivial, trivial⟩, ⟨trivial, ⟨⟨trivial, trivial⟩, ⟨⟨trivial, ⟨trivial, trivial⟩⟩, ⟨⟨trivial, trivial⟩, trivial⟩⟩⟩⟩⟩⟩⟩⟩⟩⟩⟩⟩⟩⟩⟩⟩⟩⟩⟩⟩⟩⟩⟩, ⟨trivial, trivial⟩⟩⟩
  exact runFT_some Try.prog (c := bodyOf Try.f21) Try.func21 (show Try.f21.body = some (bodyOf Try.f21) from rfl) (show (1 : Nat) ≤ 268 by decide) hb ((m_z0l n a0).trans h) rfl (by kernel_rfl)
noncomputable def c_z0l : Spec := specQ e_z0l h_z0l ro_z0l rh_z0l fun a b => Q_z0l a.1
theorem k_z0l (hm : Try.prog.follows .mixedOrders = true) : SpecOk Try.prog 21 c_z0l := specQ_ok (pol := p_z0l) hm (cf := cf_z0l) (tab_ok (specs_cons (k_z0i hm) (specs_cons (k_z0j hm) (specs_cons (k_z0k hm) specs_nil)))) fun a b r h => ⟨FUEL, g_z0l FUEL a.1 (decRes_some h)⟩
def s_z0m_r : Sig := ⟨[2], [.hs 0 0], [.row NameT]⟩
def p_z0m : Pol := ⟨fun i => none, fun i => none, some [(2, (.own NameT))], [(.own NameT)], []⟩
def e_z0m : List EK := [.agg InstrT]
def h_z0m : List HK := []
noncomputable def cf_z0m : CallF := mkCF [(21, c_z0l)] [(21, [InstrT])]
noncomputable def ls_z0m (n : Nat) : Loops := fun i =>  none
theorem m_z0m (n : Nat) (a0 : InstrS) : runFT Try.prog cf_z0m p_z0m (ls_z0m n) Try.f16 (bodyOf Try.f16) (EK.encs e_z0m ((a0, ()), ()).1) (HK.encs h_z0m ((a0, ()), ()).2) = M_z0m n a0 := by kernel_rfl
theorem g_z0m (n : Nat) (a0 : InstrS) {r : Res} (h : M_z0m n a0 = some r) : runF Try.prog cf_z0m n p_z0m 16 (EK.encs e_z0m ((a0, ()), ()).1) (HK.encs h_z0m ((a0, ()), ()).2) = some r := by
  have hb : LOk Try.prog cf_z0m Try.f16.ntmps 0 n p_z0m (ls_z0m n) (bodyOf Try.f16) := ⟨trivial, ⟨trivial, ⟨⟨trivial, ⟨⟨trivial, trivial⟩, trivial⟩⟩, ⟨⟨trivial, ⟨trivial, trivial⟩⟩, ⟨⟨trivial, ⟨trivial, trivial⟩⟩, ⟨⟨trivial, ⟨trivial, trivial⟩⟩, ⟨⟨trivial, ⟨trivial, ⟨trivial, ⟨trivial, ⟨trivial, ⟨trivial, ⟨trivial, ⟨trivial, ⟨trivial, ⟨⟨trivial, ⟨trivial, ⟨trivial, ⟨trivial, trivial⟩⟩⟩⟩, ⟨trivial, trivial⟩⟩⟩⟩⟩⟩⟩⟩⟩⟩⟩, ⟨trivial, trivial⟩⟩⟩⟩⟩⟩⟩⟩
  exact runFT_some Try.prog (c := bodyOf Try.f16) Try.func16 (show Try.f16.body = some (bodyOf Try.f16) from rfl) (show (1 : Nat) ≤ 90 by decide) hb ((m_z0m n a0).trans h) rfl (by kernel_rfl)
noncomputable def c_z0m : Spec := specQ e_z0m h_z0m ro_z0m rh_z0m fun a b => Q_z0m a.1
theorem k_z0m (hm : Try.prog.follows .mixedOrders = true) : SpecOk Try.prog 16 c_z0m := specQ_ok (pol := p_z0m) hm (cf := cf_z0m) (tab_ok (specs_cons (k_z0l hm) specs_nil)) fun a b r h => ⟨FUEL, g_z0m FUEL a.1 (decRes_some h)⟩
def s_z0n_r : Sig := ⟨[2], [.ty .bool], []⟩
def s_z0n_h0 : Sig := ⟨[1, 3], [.ptr 0 0 0, .ty (.int .i64)], [.cell BlockT]⟩
def s_z0n_t0 : Sig := ⟨[], [], []⟩
def p_z0n : Pol := ⟨fun i => if i = 0 then some [(1, (.own BlockT)), (3, .keep)] else none, fun i => if i = 0 then some [] else none, some [(2, .keep)], [.keep], []⟩
def e_z0n : List EK := [.agg BlockT]
def h_z0n : List HK := []
noncomputable def cf_z0n : CallF := mkCF [(37, c_z0i), (21, c_z0l)] [(37, [(.int .i64)]), (21, [InstrT])]
noncomputable def ls_z0n (n : Nat) : Loops := fun i => if i = 0 then some (loopT 0 (p_z0n.head 0) s_z0n_h0 fun K v => L_z0n_0 n (fun z0 => K .rt (s_z0n_r.enc ((z0, ()), ()))) (fun _ => K (.ex 0) (s_z0n_t0.enc ((), ()))) v.2.1 n v.1.2.1)
  else  none
noncomputable def b_z0n_0 : Code := partOf (bodyOf Try.f25) [1, 1, 0, 1, 0, 0]
noncomputable def V_z0n_0 (n : Nat) (K : Cont) (rec : Sig.sem s_z0n_h0 → Option Res) (v : Sig.sem s_z0n_h0) : Option Res := F_z0n_0 n (fun z0 => K .rt (s_z0n_r.enc ((z0, ()), ()))) (fun _ => K (.ex 0) (s_z0n_t0.enc ((), ()))) v.2.1 (fun z0 => rec (((), (z0, ())), (v.2.1, ()))) v.1.2.1
theorem t_z0n_0 (n : Nat) (K : Cont) (rec : Sig.sem s_z0n_h0 → Option Res) (v : Sig.sem s_z0n_h0) : runT Try.prog cf_z0n Try.f25.ntmps 0 p_z0n (ls_z0n n) b_z0n_0 (s_z0n_h0.enc v) (turnK 0 (p_z0n.head 0) s_z0n_h0 rec K) = V_z0n_0 n K rec v := by kernel_rfl
noncomputable def W_z0n_0 (n : Nat) (K : Cont) (m : Nat) (v : Sig.sem s_z0n_h0) : Option Res := L_z0n_0 n (fun z0 => K .rt (s_z0n_r.enc ((z0, ()), ()))) (fun _ => K (.ex 0) (s_z0n_t0.enc ((), ()))) v.2.1 m v.1.2.1
theorem i_z0n_0 (n : Nat) (K : Cont) : ∀ m v, iter (V_z0n_0 n K) m v = W_z0n_0 n K m v := by
  intro m
  induction m with
  | zero => intro v; rfl
  | succ m ih =>
    intro v
    show V_z0n_0 n K (iter (V_z0n_0 n K) m) v = V_z0n_0 n K (W_z0n_0 n K m) v
    rw [show iter (V_z0n_0 n K) m = W_z0n_0 n K m from funext ih]
theorem o_z0n_0 (n : Nat) : ∀ L, ls_z0n n 0 = some L → ∀ s K r, L s K = some r → ∃ x s', loopN (run Try.prog cf_z0n Try.f25.ntmps 0 n p_z0n none b_z0n_0) (gc 0 (p_z0n.head 0)) n s = some (x, s') ∧ K x s' = some r := by
  intro L hL s K r h
  have hL : some (loopT 0 (p_z0n.head 0) s_z0n_h0 fun K v => W_z0n_0 n K n v) = some L := hL
  cases hL
  have hb : LOk Try.prog cf_z0n Try.f25.ntmps 0 n p_z0n (ls_z0n n) b_z0n_0 := ⟨⟨trivial, ⟨trivial, trivial⟩⟩, ⟨⟨trivial, ⟨⟨trivial, trivial⟩, trivial⟩⟩, trivial⟩⟩
  refine loopT_ok hb (V_z0n_0 n) (t_z0n_0 n) n s K r ?_
  rw [← h]
  unfold loopT
  simp only [i_z0n_0]
theorem m_z0n (n : Nat) (a0 : BlockS) : runFT Try.prog cf_z0n p_z0n (ls_z0n n) Try.f25 (bodyOf Try.f25) (EK.encs e_z0n ((a0, ()), ()).1) (HK.encs h_z0n ((a0, ()), ()).2) = M_z0n n a0 := by kernel_rfl
theorem g_z0n (n : Nat) (a0 : BlockS) {r : Res} (h : M_z0n n a0 = some r) : runF Try.prog cf_z0n n p_z0n 25 (EK.encs e_z0n ((a0, ()), ()).1) (HK.encs h_z0n ((a0, ()), ()).2) = some r := by
  have hb : LOk Try.prog cf_z0n Try.f25.ntmps 0 n p_z0n (ls_z0n n) (bodyOf Try.f25) := ⟨trivial, ⟨⟨trivial, ⟨⟨trivial, trivial⟩, trivial⟩⟩, ⟨⟨trivial, (o_z0n_0 n)⟩, ⟨trivial, trivial⟩⟩⟩⟩
  exact runFT_some Try.prog (c := bodyOf Try.f25) Try.func25 (show Try.f25.body = some (bodyOf Try.f25) from rfl) (show (1 : Nat) ≤ 52 by decide) hb ((m_z0n n a0).trans h) rfl (by kernel_rfl)
noncomputable def c_z0n : Spec := specQ e_z0n h_z0n ro_z0n rh_z0n fun a b => Q_z0n a.1
theorem k_z0n (hm : Try.prog.follows .mixedOrders = true) : SpecOk Try.prog 25 c_z0n := specQ_ok (pol := p_z0n) hm (cf := cf_z0n) (tab_ok (specs_cons (k_z0i hm) (specs_cons (k_z0l hm) specs_nil))) fun a b r h => ⟨FUEL, g_z0n FUEL a.1 (decRes_some h)⟩
def s_z0o_h0 : Sig := ⟨[0, 3, 5, 6, 7], [.ty (.slice WayT), .ptr 0 0 0, .hs 1 0, .ty .bool, .ty (.int .i64)], [.cell WayT, .row WayT]⟩
def s_z0o_t0 : Sig := ⟨[3, 5, 6], [.ptr 0 0 0, .hs 1 0, .ty .bool], [.cell WayT, .row WayT]⟩
def s_z0o_r : Sig := ⟨[4], [.hs 0 0], [.row WayT]⟩
def p_z0o : Pol := ⟨fun i => if i = 0 then some [(0, .keep), (3, (.own WayT)), (5, (.own WayT)), (6, .keep), (7, .keep)] else none, fun i => if i = 0 then some [(3, (.own WayT)), (5, (.own WayT)), (6, .keep)] else none, some [(4, (.own WayT))], [(.own WayT)], []⟩
def e_z0o : List EK := [.ty (.slice WayT), .agg WayT]
def h_z0o : List HK := []
noncomputable def cf_z0o : CallF := mkCF [] []
noncomputable def ls_z0o (n : Nat) : Loops := fun i => if i = 0 then some (loopT 0 (p_z0o.head 0) s_z0o_h0 fun K v => L_z0o_0 n (fun z0 z1 z3 => K (.ex 0) (s_z0o_t0.enc (((), (z0, (z1, ()))), (v.2.1, (z3, ()))))) v.1.1 v.2.1 n v.1.2.2.1 v.1.2.2.2.1 v.1.2.2.2.2.1 v.2.2.1)
  else  none
noncomputable def b_z0o_0 : Code := partOf (bodyOf Try.f48) [1, 1, 1, 0, 1, 0, 0]
noncomputable def V_z0o_0 (n : Nat) (K : Cont) (rec : Sig.sem s_z0o_h0 → Option Res) (v : Sig.sem s_z0o_h0) : Option Res := F_z0o_0 n (fun z0 z1 z3 => K (.ex 0) (s_z0o_t0.enc (((), (z0, (z1, ()))), (v.2.1, (z3, ()))))) v.1.1 v.2.1 (fun z1 z2 z3 z5 => rec ((v.1.1, ((), (z1, (z2, (z3, ()))))), (v.2.1, (z5, ())))) v.1.2.2.1 v.1.2.2.2.1 v.1.2.2.2.2.1 v.2.2.1
theorem t_z0o_0 (n : Nat) (K : Cont) (rec : Sig.sem s_z0o_h0 → Option Res) (v : Sig.sem s_z0o_h0) : runT Try.prog cf_z0o Try.f48.ntmps 0 p_z0o (ls_z0o n) b_z0o_0 (s_z0o_h0.enc v) (turnK 0 (p_z0o.head 0) s_z0o_h0 rec K) = V_z0o_0 n K rec v := by kernel_rfl
noncomputable def W_z0o_0 (n : Nat) (K : Cont) (m : Nat) (v : Sig.sem s_z0o_h0) : Option Res := L_z0o_0 n (fun z0 z1 z3 => K (.ex 0) (s_z0o_t0.enc (((), (z0, (z1, ()))), (v.2.1, (z3, ()))))) v.1.1 v.2.1 m v.1.2.2.1 v.1.2.2.2.1 v.1.2.2.2.2.1 v.2.2.1
theorem i_z0o_0 (n : Nat) (K : Cont) : ∀ m v, iter (V_z0o_0 n K) m v = W_z0o_0 n K m v := by
  intro m
  induction m with
  | zero => intro v; rfl
  | succ m ih =>
    intro v
    show V_z0o_0 n K (iter (V_z0o_0 n K) m) v = V_z0o_0 n K (W_z0o_0 n K m) v
    rw [show iter (V_z0o_0 n K) m = W_z0o_0 n K m from funext ih]
theorem o_z0o_0 (n : Nat) : ∀ L, ls_z0o n 0 = some L → ∀ s K r, L s K = some r → ∃ x s', loopN (run Try.prog cf_z0o Try.f48.ntmps 0 n p_z0o none b_z0o_0) (gc 0 (p_z0o.head 0)) n s = some (x, s') ∧ K x s' = some r := by
  intro L hL s K r h
  have hL : some (loopT 0 (p_z0o.head 0) s_z0o_h0 fun K v => W_z0o_0 n K n v) = some L := hL
  cases hL
  have hb : LOk Try.prog cf_z0o Try.f48.ntmps 0 n p_z0o (ls_z0o n) b_z0o_0 := ⟨⟨trivial, ⟨trivial, trivial⟩⟩, ⟨⟨trivial, ⟨⟨trivial, ⟨⟨trivial, trivial⟩, ⟨trivial, ⟨⟨trivial, trivial⟩, trivial⟩⟩⟩⟩, trivial⟩⟩, trivial⟩⟩
  refine loopT_ok hb (V_z0o_0 n) (t_z0o_0 n) n s K r ?_
  rw [← h]
  unfold loopT
  simp only [i_z0o_0]
theorem m_z0o (n : Nat) (a0 : (List WayS)) (a1 : WayS) : runFT Try.prog cf_z0o p_z0o (ls_z0o n) Try.f48 (bodyOf Try.f48) (EK.encs e_z0o ((a0, (a1, ())), ()).1) (HK.encs h_z0o ((a0, (a1, ())), ()).2) = M_z0o n a0 a1 := by kernel_rfl
theorem g_z0o (n : Nat) (a0 : (List WayS)) (a1 : WayS) {r : Res} (h : M_z0o n a0 a1 = some r) : runF Try.prog cf_z0o n p_z0o 48 (EK.encs e_z0o ((a0, (a1, ())), ()).1) (HK.encs h_z0o ((a0, (a1, ())), ()).2) = some r := by
  have hb : LOk Try.prog cf_z0o Try.f48.ntmps 0 n p_z0o (ls_z0o n) (bodyOf Try.f48) := ⟨trivial, ⟨trivial, ⟨trivial, ⟨⟨trivial, (o_z0o_0 n)⟩, ⟨⟨trivial, ⟨trivial, trivial⟩⟩, ⟨trivial, trivial⟩⟩⟩⟩⟩⟩
  exact runFT_some Try.prog (c := bodyOf Try.f48) Try.func48 (show Try.f48.body = some (bodyOf Try.f48) from rfl) (show (2 : Nat) ≤ 75 by decide) hb ((m_z0o n a0 a1).trans h) rfl (by kernel_rfl)
noncomputable def c_z0o : Spec := specQ e_z0o h_z0o ro_z0o rh_z0o fun a b => Q_z0o a.1 a.2.1
theorem k_z0o (hm : Try.prog.follows .mixedOrders = true) : SpecOk Try.prog 48 c_z0o := specQ_ok (pol := p_z0o) hm (cf := cf_z0o) (tab_ok specs_nil) fun a b r h => ⟨FUEL, g_z0o FUEL a.1 a.2.1 (decRes_some h)⟩
def s_z0p_h0 : Sig := ⟨[0, 1, 5], [.ty (.slice WayT), .ty (.slice WayT), .ty (.int .i64)], []⟩
def s_z0p_t0 : Sig := ⟨[0], [.ty (.slice WayT)], []⟩
def s_z0p_r : Sig := ⟨[4], [.ty (.slice WayT)], []⟩
def p_z0p : Pol := ⟨fun i => if i = 0 then some [(0, (.data (.slice WayT))), (1, .keep), (5, .keep)] else none, fun i => if i = 0 then some [(0, (.data (.slice WayT)))] else none, some [(4, .keep)], [.keep], []⟩
def e_z0p : List EK := [.ty (.slice WayT), .ty (.slice WayT)]
def h_z0p : List HK := []
noncomputable def cf_z0p : CallF := mkCF [(48, c_z0o)] [(48, [(.slice WayT), WayT])]
noncomputable def ls_z0p (n : Nat) : Loops := fun i => if i = 0 then some (loopT 0 (p_z0p.head 0) s_z0p_h0 fun K v => L_z0p_0 n (fun z0 => K (.ex 0) (s_z0p_t0.enc ((z0, ()), ()))) v.1.2.1 n v.1.1 v.1.2.2.1)
  else  none
noncomputable def b_z0p_0 : Code := partOf (bodyOf Try.f31) [1, 0, 1, 0, 0]
noncomputable def V_z0p_0 (n : Nat) (K : Cont) (rec : Sig.sem s_z0p_h0 → Option Res) (v : Sig.sem s_z0p_h0) : Option Res := F_z0p_0 n (fun z0 => K (.ex 0) (s_z0p_t0.enc ((z0, ()), ()))) v.1.2.1 (fun z0 z2 => rec ((z0, (v.1.2.1, (z2, ()))), ())) v.1.1 v.1.2.2.1
theorem t_z0p_0 (n : Nat) (K : Cont) (rec : Sig.sem s_z0p_h0 → Option Res) (v : Sig.sem s_z0p_h0) : runT Try.prog cf_z0p Try.f31.ntmps 0 p_z0p (ls_z0p n) b_z0p_0 (s_z0p_h0.enc v) (turnK 0 (p_z0p.head 0) s_z0p_h0 rec K) = V_z0p_0 n K rec v := by kernel_rfl
noncomputable def W_z0p_0 (n : Nat) (K : Cont) (m : Nat) (v : Sig.sem s_z0p_h0) : Option Res := L_z0p_0 n (fun z0 => K (.ex 0) (s_z0p_t0.enc ((z0, ()), ()))) v.1.2.1 m v.1.1 v.1.2.2.1
theorem i_z0p_0 (n : Nat) (K : Cont) : ∀ m v, iter (V_z0p_0 n K) m v = W_z0p_0 n K m v := by
  intro m
  induction m with
  | zero => intro v; rfl
  | succ m ih =>
    intro v
    show V_z0p_0 n K (iter (V_z0p_0 n K) m) v = V_z0p_0 n K (W_z0p_0 n K m) v
    rw [show iter (V_z0p_0 n K) m = W_z0p_0 n K m from funext ih]
theorem o_z0p_0 (n : Nat) : ∀ L, ls_z0p n 0 = some L → ∀ s K r, L s K = some r → ∃ x s', loopN (run Try.prog cf_z0p Try.f31.ntmps 0 n p_z0p none b_z0p_0) (gc 0 (p_z0p.head 0)) n s = some (x, s') ∧ K x s' = some r := by
  intro L hL s K r h
  have hL : some (loopT 0 (p_z0p.head 0) s_z0p_h0 fun K v => W_z0p_0 n K n v) = some L := hL
  cases hL
  have hb : LOk Try.prog cf_z0p Try.f31.ntmps 0 n p_z0p (ls_z0p n) b_z0p_0 := ⟨⟨trivial, ⟨trivial, trivial⟩⟩, ⟨trivial, trivial⟩⟩
  refine loopT_ok hb (V_z0p_0 n) (t_z0p_0 n) n s K r ?_
  rw [← h]
  unfold loopT
  simp only [i_z0p_0]
theorem m_z0p (n : Nat) (a0 : (List WayS)) (a1 : (List WayS)) : runFT Try.prog cf_z0p p_z0p (ls_z0p n) Try.f31 (bodyOf Try.f31) (EK.encs e_z0p ((a0, (a1, ())), ()).1) (HK.encs h_z0p ((a0, (a1, ())), ()).2) = M_z0p n a0 a1 := by kernel_rfl
theorem g_z0p (n : Nat) (a0 : (List WayS)) (a1 : (List WayS)) {r : Res} (h : M_z0p n a0 a1 = some r) : runF Try.prog cf_z0p n p_z0p 31 (EK.encs e_z0p ((a0, (a1, ())), ()).1) (HK.encs h_z0p ((a0, (a1, ())), ()).2) = some r := by
  have hb : LOk Try.prog cf_z0p Try.f31.ntmps 0 n p_z0p (ls_z0p n) (bodyOf Try.f31) := ⟨trivial, ⟨⟨trivial, (o_z0p_0 n)⟩, ⟨trivial, trivial⟩⟩⟩
  exact runFT_some Try.prog (c := bodyOf Try.f31) Try.func31 (show Try.f31.body = some (bodyOf Try.f31) from rfl) (show (2 : Nat) ≤ 19 by decide) hb ((m_z0p n a0 a1).trans h) rfl (by kernel_rfl)
noncomputable def c_z0p : Spec := specQ e_z0p h_z0p ro_z0p rh_z0p fun a b => Q_z0p a.1 a.2.1
theorem k_z0p (hm : Try.prog.follows .mixedOrders = true) : SpecOk Try.prog 31 c_z0p := specQ_ok (pol := p_z0p) hm (cf := cf_z0p) (tab_ok (specs_cons (k_z0o hm) specs_nil)) fun a b r h => ⟨FUEL, g_z0p FUEL a.1 a.2.1 (decRes_some h)⟩
noncomputable def c_z0q : Spec := specQ [.ty (.slice InstrT)] [] ro_z0q rh_z0q fun a b => Q_z0q a.1
theorem k_z0q (hm : Try.prog.follows .mixedOrders = true) : SpecOk Try.prog 40 c_z0q := H19.from_ok (k_z0p hm)
def s_z0r_r : Sig := ⟨[2], [.ty (.slice WayT)], []⟩
def p_z0r : Pol := ⟨fun i => none, fun i => none, some [(2, (.data (.slice WayT)))], [(.data (.slice WayT))], []⟩
def e_z0r : List EK := [.agg BlockT]
def h_z0r : List HK := []
noncomputable def cf_z0r : CallF := mkCF [(25, c_z0n), (40, c_z0q)] [(25, [BlockT])]
noncomputable def ls_z0r (n : Nat) : Loops := fun i =>  none
theorem m_z0r (n : Nat) (a0 : BlockS) : runFT Try.prog cf_z0r p_z0r (ls_z0r n) Try.f22 (bodyOf Try.f22) (EK.encs e_z0r ((a0, ()), ()).1) (HK.encs h_z0r ((a0, ()), ()).2) = M_z0r n a0 := by kernel_rfl
theorem g_z0r (n : Nat) (a0 : BlockS) {r : Res} (h : M_z0r n a0 = some r) : runF Try.prog cf_z0r n p_z0r 22 (EK.encs e_z0r ((a0, ()), ()).1) (HK.encs h_z0r ((a0, ()), ()).2) = some r := by
  have hb : LOk Try.prog cf_z0r Try.f22.ntmps 0 n p_z0r (ls_z0r n) (bodyOf Try.f22) := ⟨trivial, ⟨⟨trivial, ⟨⟨trivial, trivial⟩, trivial⟩⟩, ⟨trivial, trivial⟩⟩⟩
  exact runFT_some Try.prog (c := bodyOf Try.f22) Try.func22 (show Try.f22.body = some (bodyOf Try.f22) from rfl) (show (1 : Nat) ≤ 11 by decide) hb ((m_z0r n a0).trans h) rfl (by kernel_rfl)
noncomputable def c_z0r : Spec := specQ e_z0r h_z0r ro_z0r rh_z0r fun a b => Q_z0r a.1
theorem k_z0r (hm : Try.prog.follows .mixedOrders = true) : SpecOk Try.prog 22 c_z0r := specQ_ok (pol := p_z0r) hm (cf := cf_z0r) (tab_ok (specs_cons (k_z0n hm) (specs_cons (k_z0q hm) specs_nil))) fun a b r h => ⟨FUEL, g_z0r FUEL a.1 (decRes_some h)⟩
def s_z0s_h0 : Sig := ⟨[3, 4, 5], [.ty (.slice WayT), .ty (.int .i64), .ty (.int .i64)], []⟩
def s_z0s_t0 : Sig := ⟨[4], [.ty (.int .i64)], []⟩
def s_z0s_r : Sig := ⟨[2], [.ty (.int .i64)], []⟩
def p_z0s : Pol := ⟨fun i => if i = 0 then some [(3, .keep), (4, .keep), (5, .keep)] else none, fun i => if i = 0 then some [(4, .keep)] else none, some [(2, .keep)], [.keep], []⟩
def e_z0s : List EK := [.agg BlockT]
def h_z0s : List HK := []
noncomputable def cf_z0s : CallF := mkCF [(22, c_z0r)] [(22, [BlockT])]
noncomputable def ls_z0s (n : Nat) : Loops := fun i => if i = 0 then some (loopT 0 (p_z0s.head 0) s_z0s_h0 fun K v => L_z0s_0 n (fun z0 => K (.ex 0) (s_z0s_t0.enc ((z0, ()), ()))) v.1.1 n v.1.2.1 v.1.2.2.1)
  else  none
noncomputable def b_z0s_0 : Code := partOf (bodyOf Try.f27) [1, 1, 1, 0, 1, 0, 0]
noncomputable def V_z0s_0 (n : Nat) (K : Cont) (rec : Sig.sem s_z0s_h0 → Option Res) (v : Sig.sem s_z0s_h0) : Option Res := F_z0s_0 n (fun z0 => K (.ex 0) (s_z0s_t0.enc ((z0, ()), ()))) v.1.1 (fun z1 z2 => rec ((v.1.1, (z1, (z2, ()))), ())) v.1.2.1 v.1.2.2.1
theorem t_z0s_0 (n : Nat) (K : Cont) (rec : Sig.sem s_z0s_h0 → Option Res) (v : Sig.sem s_z0s_h0) : runT Try.prog cf_z0s Try.f27.ntmps 0 p_z0s (ls_z0s n) b_z0s_0 (s_z0s_h0.enc v) (turnK 0 (p_z0s.head 0) s_z0s_h0 rec K) = V_z0s_0 n K rec v := by kernel_rfl
noncomputable def W_z0s_0 (n : Nat) (K : Cont) (m : Nat) (v : Sig.sem s_z0s_h0) : Option Res := L_z0s_0 n (fun z0 => K (.ex 0) (s_z0s_t0.enc ((z0, ()), ()))) v.1.1 m v.1.2.1 v.1.2.2.1
theorem i_z0s_0 (n : Nat) (K : Cont) : ∀ m v, iter (V_z0s_0 n K) m v = W_z0s_0 n K m v := by
  intro m
  induction m with
  | zero => intro v; rfl
  | succ m ih =>
    intro v
    show V_z0s_0 n K (iter (V_z0s_0 n K) m) v = V_z0s_0 n K (W_z0s_0 n K m) v
    rw [show iter (V_z0s_0 n K) m = W_z0s_0 n K m from funext ih]
theorem o_z0s_0 (n : Nat) : ∀ L, ls_z0s n 0 = some L → ∀ s K r, L s K = some r → ∃ x s', loopN (run Try.prog cf_z0s Try.f27.ntmps 0 n p_z0s none b_z0s_0) (gc 0 (p_z0s.head 0)) n s = some (x, s') ∧ K x s' = some r := by
  intro L hL s K r h
  have hL : some (loopT 0 (p_z0s.head 0) s_z0s_h0 fun K v => W_z0s_0 n K n v) = some L := hL
  cases hL
  have hb : LOk Try.prog cf_z0s Try.f27.ntmps 0 n p_z0s (ls_z0s n) b_z0s_0 := ⟨⟨trivial, ⟨trivial, trivial⟩⟩, ⟨trivial, trivial⟩⟩
  refine loopT_ok hb (V_z0s_0 n) (t_z0s_0 n) n s K r ?_
  rw [← h]
  unfold loopT
  simp only [i_z0s_0]
theorem m_z0s (n : Nat) (a0 : BlockS) : runFT Try.prog cf_z0s p_z0s (ls_z0s n) Try.f27 (bodyOf Try.f27) (EK.encs e_z0s ((a0, ()), ()).1) (HK.encs h_z0s ((a0, ()), ()).2) = M_z0s n a0 := by kernel_rfl
theorem g_z0s (n : Nat) (a0 : BlockS) {r : Res} (h : M_z0s n a0 = some r) : runF Try.prog cf_z0s n p_z0s 27 (EK.encs e_z0s ((a0, ()), ()).1) (HK.encs h_z0s ((a0, ()), ()).2) = some r := by
  have hb : LOk Try.prog cf_z0s Try.f27.ntmps 0 n p_z0s (ls_z0s n) (bodyOf Try.f27) := ⟨trivial, ⟨trivial, ⟨trivial, ⟨⟨trivial, (o_z0s_0 n)⟩, ⟨trivial, trivial⟩⟩⟩⟩⟩
  exact runFT_some Try.prog (c := bodyOf Try.f27) Try.func27 (show Try.f27.body = some (bodyOf Try.f27) from rfl) (show (1 : Nat) ≤ 22 by decide) hb ((m_z0s n a0).trans h) rfl (by kernel_rfl)
noncomputable def c_z0s : Spec := specQ e_z0s h_z0s ro_z0s rh_z0s fun a b => Q_z0s a.1
theorem k_z0s (hm : Try.prog.follows .mixedOrders = true) : SpecOk Try.prog 27 c_z0s := specQ_ok (pol := p_z0s) hm (cf := cf_z0s) (tab_ok (specs_cons (k_z0r hm) specs_nil)) fun a b r h => ⟨FUEL, g_z0s FUEL a.1 (decRes_some h)⟩
def s_z0t_r : Sig := ⟨[2], [.ty .bool], []⟩
def s_z0t_h0 : Sig := ⟨[1, 3, 4, 5], [.ptr 0 0 0, .ptr 1 0 0, .ty (.slice WayT), .ty (.int .i64)], [.cell BlockT, .one false [.ty (.int .i64), .hs 2 0], .row InstrT]⟩
def s_z0t_h2 : Sig := ⟨[1, 3, 4, 5, 6, 7], [.ptr 0 0 0, .ptr 1 0 0, .ty (.slice WayT), .ty (.int .i64), .hs 3 0, .ty (.int .i64)], [.cell BlockT, .one false [.ty (.int .i64), .hs 2 0], .row InstrT, .row WayT]⟩
def s_z0t_t2 : Sig := ⟨[1, 3, 4, 5], [.ptr 0 0 0, .ptr 1 0 0, .ty (.slice WayT), .ty (.int .i64)], [.cell BlockT, .one false [.ty (.int .i64), .hs 2 0], .row InstrT]⟩
def s_z0t_t0 : Sig := ⟨[1, 3], [.ptr 0 0 0, .ptr 1 0 0], [.cell BlockT, .one false [.ty (.int .i64), .hs 2 0], .row InstrT]⟩
def s_z0t_h4 : Sig := ⟨[1, 3, 8], [.ptr 0 0 0, .ptr 1 0 0, .ty (.int .i64)], [.cell BlockT, .one false [.ty (.int .i64), .hs 2 0], .row InstrT]⟩
def s_z0t_t4 : Sig := ⟨[1, 3], [.ptr 0 0 0, .ptr 1 0 0], [.cell BlockT, .one false [.ty (.int .i64), .hs 2 0], .row InstrT]⟩
def p_z0t : Pol := ⟨fun i => if i = 0 then some [(1, (.own BlockT)), (3, .keep), (4, .keep), (5, .keep)] else if i = 2 then some [(1, (.own BlockT)), (3, .keep), (4, .keep), (5, .keep), (6, (.own WayT)), (7, .keep)] else if i = 4 then some [(1, (.own BlockT)), (3, .keep), (8, .keep)] else none, fun i => if i = 2 then some [(1, (.own BlockT)), (3, .keep), (4, .keep), (5, .keep)] else if i = 0 then some [(1, (.own BlockT)), (3, .keep)] else if i = 4 then some [(1, (.own BlockT)), (3, .keep)] else none, some [(2, .keep)], [.keep], []⟩
def e_z0t : List EK := [.agg BlockT]
def h_z0t : List HK := []
noncomputable def cf_z0t : CallF := mkCF [(11, c_z0g), (22, c_z0r), (23, c_z0d), (24, c_z0e), (17, c_z0a), (25, c_z0n), (26, c_z0f), (27, c_z0s)] [(11, []), (22, [BlockT]), (23, [BlockT]), (24, [(.slice WayT), (.slice WayT)]), (17, [BlockT]), (25, [BlockT]), (26, [BlockT]), (27, [BlockT])]
noncomputable def ls_z0t (n : Nat) : Loops := fun i => if i = 2 then some (loopT 0 (p_z0t.head 2) s_z0t_h2 fun K v => L_z0t_2 n (fun _ => K (.ex 2) (s_z0t_t2.enc (((), ((), (v.1.2.2.1, (v.1.2.2.2.1, ())))), (v.2.1, ((v.2.2.1.1, (v.2.2.1.2.1, ())), (v.2.2.2.1, ())))))) v.1.2.2.2.2.1 n v.1.2.2.2.2.2.1 v.2.2.2.2.1)
  else if i = 0 then some (loopT 0 (p_z0t.head 0) s_z0t_h0 fun K v => L_z0t_0 n (fun z0 => K .rt (s_z0t_r.enc ((z0, ()), ()))) (fun _ => K (.ex 0) (s_z0t_t0.enc (((), ((), ())), (v.2.1, ((v.2.2.1.1, (v.2.2.1.2.1, ())), (v.2.2.2.1, ())))))) v.1.2.2.1 v.2.2.1.1 v.2.2.1.2.1 v.2.2.2.1 n v.1.2.2.2.1)
  else if i = 4 then some (loopT 0 (p_z0t.head 4) s_z0t_h4 fun K v => L_z0t_4 n (fun z0 => K .rt (s_z0t_r.enc ((z0, ()), ()))) (fun _ => K (.ex 4) (s_z0t_t4.enc (((), ((), ())), (v.2.1, ((v.2.2.1.1, (v.2.2.1.2.1, ())), (v.2.2.2.1, ())))))) v.2.1 v.2.2.1.2.1 v.2.2.2.1 n v.1.2.2.1)
  else  none
noncomputable def b_z0t_2 : Code := partOf (bodyOf Try.f5) [1, 1, 1, 1, 0, 1, 0, 0, 1, 0, 0, 1, 1, 1, 0, 0]
noncomputable def V_z0t_2 (n : Nat) (K : Cont) (rec : Sig.sem s_z0t_h2 → Option Res) (v : Sig.sem s_z0t_h2) : Option Res := F_z0t_2 n (fun _ => K (.ex 2) (s_z0t_t2.enc (((), ((), (v.1.2.2.1, (v.1.2.2.2.1, ())))), (v.2.1, ((v.2.2.1.1, (v.2.2.1.2.1, ())), (v.2.2.2.1, ())))))) v.1.2.2.2.2.1 (fun z3 z8 => rec (((), ((), (v.1.2.2.1, (v.1.2.2.2.1, (v.1.2.2.2.2.1, (z3, ())))))), (v.2.1, ((v.2.2.1.1, (v.2.2.1.2.1, ())), (v.2.2.2.1, (z8, ())))))) v.1.2.2.2.2.2.1 v.2.2.2.2.1
theorem t_z0t_2 (n : Nat) (K : Cont) (rec : Sig.sem s_z0t_h2 → Option Res) (v : Sig.sem s_z0t_h2) : runT Try.prog cf_z0t Try.f5.ntmps 0 p_z0t (ls_z0t n) b_z0t_2 (s_z0t_h2.enc v) (turnK 0 (p_z0t.head 2) s_z0t_h2 rec K) = V_z0t_2 n K rec v := by kernel_rfl
noncomputable def W_z0t_2 (n : Nat) (K : Cont) (m : Nat) (v : Sig.sem s_z0t_h2) : Option Res := L_z0t_2 n (fun _ => K (.ex 2) (s_z0t_t2.enc (((), ((), (v.1.2.2.1, (v.1.2.2.2.1, ())))), (v.2.1, ((v.2.2.1.1, (v.2.2.1.2.1, ())), (v.2.2.2.1, ())))))) v.1.2.2.2.2.1 m v.1.2.2.2.2.2.1 v.2.2.2.2.1
theorem i_z0t_2 (n : Nat) (K : Cont) : ∀ m v, iter (V_z0t_2 n K) m v = W_z0t_2 n K m v := by
  intro m
  induction m with
  | zero => intro v; rfl
  | succ m ih =>
    intro v
    show V_z0t_2 n K (iter (V_z0t_2 n K) m) v = V_z0t_2 n K (W_z0t_2 n K m) v
    rw [show iter (V_z0t_2 n K) m = W_z0t_2 n K m from funext ih]
theorem o_z0t_2 (n : Nat) : ∀ L, ls_z0t n 2 = some L → ∀ s K r, L s K = some r → ∃ x s', loopN (run Try.prog cf_z0t Try.f5.ntmps 0 n p_z0t none b_z0t_2) (gc 0 (p_z0t.head 2)) n s = some (x, s') ∧ K x s' = some r := by
  intro L hL s K r h
  have hL : some (loopT 0 (p_z0t.head 2) s_z0t_h2 fun K v => W_z0t_2 n K n v) = some L := hL
  cases hL
  have hb : LOk Try.prog cf_z0t Try.f5.ntmps 0 n p_z0t (ls_z0t n) b_z0t_2 := ⟨⟨trivial, ⟨trivial, trivial⟩⟩, ⟨trivial, trivial⟩⟩
  refine loopT_ok hb (V_z0t_2 n) (t_z0t_2 n) n s K r ?_
  rw [← h]
  unfold loopT
  simp only [i_z0t_2]
noncomputable def b_z0t_0 : Code := partOf (bodyOf Try.f5) [1, 1, 1, 1, 0, 1, 0, 0]
noncomputable def V_z0t_0 (n : Nat) (K : Cont) (rec : Sig.sem s_z0t_h0 → Option Res) (v : Sig.sem s_z0t_h0) : Option Res := F_z0t_0 n (fun z0 => K .rt (s_z0t_r.enc ((z0, ()), ()))) (fun _ => K (.ex 0) (s_z0t_t0.enc (((), ((), ())), (v.2.1, ((v.2.2.1.1, (v.2.2.1.2.1, ())), (v.2.2.2.1, ())))))) v.1.2.2.1 v.2.2.1.1 v.2.2.1.2.1 v.2.2.2.1 (fun z1 => rec (((), ((), (v.1.2.2.1, (z1, ())))), (v.2.1, ((v.2.2.1.1, (v.2.2.1.2.1, ())), (v.2.2.2.1, ()))))) v.1.2.2.2.1
theorem t_z0t_0 (n : Nat) (K : Cont) (rec : Sig.sem s_z0t_h0 → Option Res) (v : Sig.sem s_z0t_h0) : runT Try.prog cf_z0t Try.f5.ntmps 0 p_z0t (ls_z0t n) b_z0t_0 (s_z0t_h0.enc v) (turnK 0 (p_z0t.head 0) s_z0t_h0 rec K) = V_z0t_0 n K rec v := by kernel_rfl
noncomputable def W_z0t_0 (n : Nat) (K : Cont) (m : Nat) (v : Sig.sem s_z0t_h0) : Option Res := L_z0t_0 n (fun z0 => K .rt (s_z0t_r.enc ((z0, ()), ()))) (fun _ => K (.ex 0) (s_z0t_t0.enc (((), ((), ())), (v.2.1, ((v.2.2.1.1, (v.2.2.1.2.1, ())), (v.2.2.2.1, ())))))) v.1.2.2.1 v.2.2.1.1 v.2.2.1.2.1 v.2.2.2.1 m v.1.2.2.2.1
theorem i_z0t_0 (n : Nat) (K : Cont) : ∀ m v, iter (V_z0t_0 n K) m v = W_z0t_0 n K m v := by
  intro m
  induction m with
  | zero => intro v; rfl
  | succ m ih =>
    intro v
    show V_z0t_0 n K (iter (V_z0t_0 n K) m) v = V_z0t_0 n K (W_z0t_0 n K m) v
    rw [show iter (V_z0t_0 n K) m = W_z0t_0 n K m from funext ih]
theorem o_z0t_0 (n : Nat) : ∀ L, ls_z0t n 0 = some L → ∀ s K r, L s K = some r → ∃ x s', loopN (run Try.prog cf_z0t Try.f5.ntmps 0 n p_z0t none b_z0t_0) (gc 0 (p_z0t.head 0)) n s = some (x, s') ∧ K x s' = some r := by
  intro L hL s K r h
  have hL : some (loopT 0 (p_z0t.head 0) s_z0t_h0 fun K v => W_z0t_0 n K n v) = some L := hL
  cases hL
  have hb : LOk Try.prog cf_z0t Try.f5.ntmps 0 n p_z0t (ls_z0t n) b_z0t_0 := ⟨⟨trivial, ⟨trivial, trivial⟩⟩, ⟨⟨trivial, ⟨⟨trivial, ⟨⟨trivial, trivial⟩, trivial⟩⟩, ⟨trivial, (o_z0t_2 n)⟩⟩⟩, trivial⟩⟩
  refine loopT_ok hb (V_z0t_0 n) (t_z0t_0 n) n s K r ?_
  rw [← h]
  unfold loopT
  simp only [i_z0t_0]
noncomputable def b_z0t_4 : Code := partOf (bodyOf Try.f5) [1, 1, 1, 1, 1, 0, 1, 0, 0]
noncomputable def V_z0t_4 (n : Nat) (K : Cont) (rec : Sig.sem s_z0t_h4 → Option Res) (v : Sig.sem s_z0t_h4) : Option Res := F_z0t_4 n (fun z0 => K .rt (s_z0t_r.enc ((z0, ()), ()))) (fun _ => K (.ex 4) (s_z0t_t4.enc (((), ((), ())), (v.2.1, ((v.2.2.1.1, (v.2.2.1.2.1, ())), (v.2.2.2.1, ())))))) v.2.1 v.2.2.1.2.1 v.2.2.2.1 (fun z0 => rec (((), ((), (z0, ()))), (v.2.1, ((v.2.2.1.1, (v.2.2.1.2.1, ())), (v.2.2.2.1, ()))))) v.1.2.2.1
theorem t_z0t_4 (n : Nat) (K : Cont) (rec : Sig.sem s_z0t_h4 → Option Res) (v : Sig.sem s_z0t_h4) : runT Try.prog cf_z0t Try.f5.ntmps 0 p_z0t (ls_z0t n) b_z0t_4 (s_z0t_h4.enc v) (turnK 0 (p_z0t.head 4) s_z0t_h4 rec K) = V_z0t_4 n K rec v := by kernel_rfl
noncomputable def W_z0t_4 (n : Nat) (K : Cont) (m : Nat) (v : Sig.sem s_z0t_h4) : Option Res := L_z0t_4 n (fun z0 => K .rt (s_z0t_r.enc ((z0, ()), ()))) (fun _ => K (.ex 4) (s_z0t_t4.enc (((), ((), ())), (v.2.1, ((v.2.2.1.1, (v.2.2.1.2.1, ())), (v.2.2.2.1, ())))))) v.2.1 v.2.2.1.2.1 v.2.2.2.1 m v.1.2.2.1
theorem i_z0t_4 (n : Nat) (K : Cont) : ∀ m v, iter (V_z0t_4 n K) m v = W_z0t_4 n K m v := by
  intro m
  induction m with
  | zero => intro v; rfl
  | succ m ih =>
    intro v
    show V_z0t_4 n K (iter (V_z0t_4 n K) m) v = V_z0t_4 n K (W_z0t_4 n K m) v
    rw [show iter (V_z0t_4 n K) m = W_z0t_4 n K m from funext ih]
theorem o_z0t_4 (n : Nat) : ∀ L, ls_z0t n 4 = some L → ∀ s K r, L s K = some r → ∃ x s', loopN (run Try.prog cf_z0t Try.f5.ntmps 0 n p_z0t none b_z0t_4) (gc 0 (p_z0t.head 4)) n s = some (x, s') ∧ K x s' = some r := by
  intro L hL s K r h
  have hL : some (loopT 0 (p_z0t.head 4) s_z0t_h4 fun K v => W_z0t_4 n K n v) = some L := hL
  cases hL
  have hb : LOk Try.prog cf_z0t Try.f5.ntmps 0 n p_z0t (ls_z0t n) b_z0t_4 := ⟨⟨trivial, ⟨trivial, trivial⟩⟩, ⟨⟨trivial, ⟨⟨trivial, trivial⟩, trivial⟩⟩, trivial⟩⟩
  refine loopT_ok hb (V_z0t_4 n) (t_z0t_4 n) n s K r ?_
  rw [← h]
  unfold loopT
  simp only [i_z0t_4]
theorem m_z0t (n : Nat) (a0 : BlockS) : runFT Try.prog cf_z0t p_z0t (ls_z0t n) Try.f5 (bodyOf Try.f5) (EK.encs e_z0t ((a0, ()), ()).1) (HK.encs h_z0t ((a0, ()), ()).2) = M_z0t n a0 := by kernel_rfl
theorem g_z0t (n : Nat) (a0 : BlockS) {r : Res} (h : M_z0t n a0 = some r) : runF Try.prog cf_z0t n p_z0t 5 (EK.encs e_z0t ((a0, ()), ()).1) (HK.encs h_z0t ((a0, ()), ()).2) = some r := by
  have hb : LOk Try.prog cf_z0t Try.f5.ntmps 0 n p_z0t (ls_z0t n) (bodyOf Try.f5) := ⟨trivial, ⟨⟨trivial, ⟨⟨trivial, trivial⟩, trivial⟩⟩, ⟨trivial, ⟨trivial, ⟨⟨trivial, (o_z0t_0 n)⟩, ⟨⟨trivial, (o_z0t_4 n)⟩, ⟨trivial, trivial⟩⟩⟩⟩⟩⟩⟩
  exact runFT_some Try.prog (c := bodyOf Try.f5) Try.func5 (show Try.f5.body = some (bodyOf Try.f5) from rfl) (show (1 : Nat) ≤ 76 by decide) hb ((m_z0t n a0).trans h) rfl (by kernel_rfl)
noncomputable def c_z0t : Spec := specQ e_z0t h_z0t ro_z0t rh_z0t fun a b => Q_z0t a.1
theorem k_z0t (hm : Try.prog.follows .mixedOrders = true) : SpecOk Try.prog 5 c_z0t := specQ_ok (pol := p_z0t) hm (cf := cf_z0t) (tab_ok (specs_cons (k_z0g hm) (specs_cons (k_z0r hm) (specs_cons (k_z0d hm) (specs_cons (k_z0e hm) (specs_cons (k_z0a hm) (specs_cons (k_z0n hm) (specs_cons (k_z0f hm) (specs_cons (k_z0s hm) specs_nil))))))))) fun a b r h => ⟨FUEL, g_z0t FUEL a.1 (decRes_some h)⟩
end Go.AMach
