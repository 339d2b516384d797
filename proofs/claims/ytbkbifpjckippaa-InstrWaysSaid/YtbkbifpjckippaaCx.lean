/- A part of the walk. -/
import Derived.Test.YtbkbifpjckippaaDx
import Derived.Test.YtbkbifpjckippaaProg
import Derived.Test.YtbkbifpjckippaaHa
import Derived.Test.YtbkbifpjckippaaHs
import Derived.Test.YtbkbifpjckippaaHf
import Derived.Test.YtbkbifpjckippaaHy
import Derived.Test.YtbkbifpjckippaaAm23
import Derived.Test.YtbkbifpjckippaaAm27
namespace Go.AMach
set_option linter.unusedVariables false
set_option linter.unusedSimpArgs false
set_option linter.unnecessarySimpa false
open Go Go.Proofs
set_option linter.unusedVariables false
theorem waysEnd_ : True := trivial
theorem waysRun_ : True := trivial
def s_z02_r : Sig := ⟨[2], [.ptr 0 0 0], [.cell ArgT]⟩
def p_z02 : Pol := ⟨fun i => none, fun i => none, some [(2, (.own ArgT))], [.keep], []⟩
def e_z02 : List EK := [.ty (.int .u64)]
def h_z02 : List HK := []
noncomputable def cf_z02 : CallF := mkCF [] []
noncomputable def ls_z02 (n : Nat) : Loops := fun i =>  none
theorem m_z02 (n : Nat) (a0 : Int) : runFT Try.prog cf_z02 p_z02 (ls_z02 n) Try.f18 (bodyOf Try.f18) (EK.encs e_z02 ((a0, ()), ()).1) (HK.encs h_z02 ((a0, ()), ()).2) = M_z02 n a0 := by kernel_rfl
theorem g_z02 (n : Nat) (a0 : Int) {r : Res} (h : M_z02 n a0 = some r) : runF Try.prog cf_z02 n p_z02 18 (EK.encs e_z02 ((a0, ()), ()).1) (HK.encs h_z02 ((a0, ()), ()).2) = some r := by
  have hb : LOk Try.prog cf_z02 Try.f18.ntmps 0 n p_z02 (ls_z02 n) (bodyOf Try.f18) := ⟨trivial, ⟨trivial, trivial⟩⟩
  exact runFT_some Try.prog (c := bodyOf Try.f18) Try.func18 (show Try.f18.body = some (bodyOf Try.f18) from rfl) (show (1 : Nat) ≤ 5 by decide) hb ((m_z02 n a0).trans h) rfl (by kernel_rfl)
noncomputable def c_z02 : Spec := specQ e_z02 h_z02 ro_z02 rh_z02 fun a b => Q_z02 a.1
theorem k_z02 (hm : Try.prog.follows .mixedOrders = true) : SpecOk Try.prog 18 c_z02 := specQ_ok (pol := p_z02) hm (cf := cf_z02) (tab_ok specs_nil) fun a b r h => ⟨FUEL, g_z02 FUEL a.1 (decRes_some h)⟩
noncomputable def c_z03 : Spec := instr_of_s
theorem k_z03 (hm : Try.prog.follows .mixedOrders = true) : SpecOk Try.prog 32 c_z03 := H19.of_ok hm
noncomputable def c_shape_target : Spec := shape_target_s
theorem k_shape_target (hm : Try.prog.follows .mixedOrders = true) : SpecOk Try.prog 33 c_shape_target := H19.target_ok hm
def s_z04_r : Sig := ⟨[2], [.ty .bool], []⟩
def p_z04 : Pol := ⟨fun i => none, fun i => none, some [(2, .keep)], [.keep], []⟩
def e_z04 : List EK := [.agg ArgT]
def h_z04 : List HK := []
noncomputable def cf_z04 : CallF := mkCF [] []
noncomputable def ls_z04 (n : Nat) : Loops := fun i =>  none
theorem m_z04 (n : Nat) (a0 : ArgS) : runFT Try.prog cf_z04 p_z04 (ls_z04 n) Try.f35 (bodyOf Try.f35) (EK.encs e_z04 ((a0, ()), ()).1) (HK.encs h_z04 ((a0, ()), ()).2) = M_z04 n a0 := by kernel_rfl
theorem g_z04 (n : Nat) (a0 : ArgS) {r : Res} (h : M_z04 n a0 = some r) : runF Try.prog cf_z04 n p_z04 35 (EK.encs e_z04 ((a0, ()), ()).1) (HK.encs h_z04 ((a0, ()), ()).2) = some r := by
  have hb : LOk Try.prog cf_z04 Try.f35.ntmps 0 n p_z04 (ls_z04 n) (bodyOf Try.f35) := ⟨trivial, ⟨trivial, trivial⟩⟩
  exact runFT_some Try.prog (c := bodyOf Try.f35) Try.func35 (show Try.f35.body = some (bodyOf Try.f35) from rfl) (show (1 : Nat) ≤ 16 by decide) hb ((m_z04 n a0).trans h) rfl (by kernel_rfl)
noncomputable def c_z04 : Spec := specQ e_z04 h_z04 ro_z04 rh_z04 fun a b => Q_z04 a.1
theorem k_z04 (hm : Try.prog.follows .mixedOrders = true) : SpecOk Try.prog 35 c_z04 := specQ_ok (pol := p_z04) hm (cf := cf_z04) (tab_ok specs_nil) fun a b r h => ⟨FUEL, g_z04 FUEL a.1 (decRes_some h)⟩
def s_z05_r : Sig := ⟨[2], [.ty .bool], []⟩
def p_z05 : Pol := ⟨fun i => none, fun i => none, some [(2, .keep)], [.keep], []⟩
def e_z05 : List EK := [.agg ArgT]
def h_z05 : List HK := []
noncomputable def cf_z05 : CallF := mkCF [(35, c_z04)] [(35, [ArgT])]
noncomputable def ls_z05 (n : Nat) : Loops := fun i =>  none
theorem m_z05 (n : Nat) (a0 : ArgS) : runFT Try.prog cf_z05 p_z05 (ls_z05 n) Try.f55 (bodyOf Try.f55) (EK.encs e_z05 ((a0, ()), ()).1) (HK.encs h_z05 ((a0, ()), ()).2) = M_z05 n a0 := by kernel_rfl
theorem g_z05 (n : Nat) (a0 : ArgS) {r : Res} (h : M_z05 n a0 = some r) : runF Try.prog cf_z05 n p_z05 55 (EK.encs e_z05 ((a0, ()), ()).1) (HK.encs h_z05 ((a0, ()), ()).2) = some r := by
  have hb : LOk Try.prog cf_z05 Try.f55.ntmps 0 n p_z05 (ls_z05 n) (bodyOf Try.f55) := ⟨trivial, ⟨⟨trivial, ⟨trivial, ⟨⟨trivial, trivial⟩, ⟨trivial, ⟨⟨trivial, trivial⟩, ⟨⟨trivial, ⟨trivial, trivial⟩⟩, ⟨⟨trivial, trivial⟩, trivial⟩⟩⟩⟩⟩⟩⟩, ⟨trivial, trivial⟩⟩⟩
  exact runFT_some Try.prog (c := bodyOf Try.f55) Try.func55 (show Try.f55.body = some (bodyOf Try.f55) from rfl) (show (1 : Nat) ≤ 20 by decide) hb ((m_z05 n a0).trans h) rfl (by kernel_rfl)
noncomputable def c_z05 : Spec := specQ e_z05 h_z05 ro_z05 rh_z05 fun a b => Q_z05 a.1
theorem k_z05 (hm : Try.prog.follows .mixedOrders = true) : SpecOk Try.prog 55 c_z05 := specQ_ok (pol := p_z05) hm (cf := cf_z05) (tab_ok (specs_cons (k_z04 hm) specs_nil)) fun a b r h => ⟨FUEL, g_z05 FUEL a.1 (decRes_some h)⟩
def s_z06_r : Sig := ⟨[2], [.ty .bool], []⟩
def p_z06 : Pol := ⟨fun i => none, fun i => none, some [(2, .keep)], [.keep], []⟩
def e_z06 : List EK := [.agg ArgT]
def h_z06 : List HK := []
noncomputable def cf_z06 : CallF := mkCF [] []
noncomputable def ls_z06 (n : Nat) : Loops := fun i =>  none
theorem m_z06 (n : Nat) (a0 : ArgS) : runFT Try.prog cf_z06 p_z06 (ls_z06 n) Try.f54 (bodyOf Try.f54) (EK.encs e_z06 ((a0, ()), ()).1) (HK.encs h_z06 ((a0, ()), ()).2) = M_z06 n a0 := by kernel_rfl
theorem g_z06 (n : Nat) (a0 : ArgS) {r : Res} (h : M_z06 n a0 = some r) : runF Try.prog cf_z06 n p_z06 54 (EK.encs e_z06 ((a0, ()), ()).1) (HK.encs h_z06 ((a0, ()), ()).2) = some r := by
  have hb : LOk Try.prog cf_z06 Try.f54.ntmps 0 n p_z06 (ls_z06 n) (bodyOf Try.f54) := ⟨trivial, ⟨trivial, trivial⟩⟩
  exact runFT_some Try.prog (c := bodyOf Try.f54) Try.func54 (show Try.f54.body = some (bodyOf Try.f54) from rfl) (show (1 : Nat) ≤ 6 by decide) hb ((m_z06 n a0).trans h) rfl (by kernel_rfl)
noncomputable def c_z06 : Spec := specQ e_z06 h_z06 ro_z06 rh_z06 fun a b => Q_z06 a.1
theorem k_z06 (hm : Try.prog.follows .mixedOrders = true) : SpecOk Try.prog 54 c_z06 := specQ_ok (pol := p_z06) hm (cf := cf_z06) (tab_ok specs_nil) fun a b r h => ⟨FUEL, g_z06 FUEL a.1 (decRes_some h)⟩
noncomputable def c_shape_number : Spec := shape_number_s
theorem k_shape_number (hm : Try.prog.follows .mixedOrders = true) : SpecOk Try.prog 34 c_shape_number := H19.number_ok hm
def s_z07_r : Sig := ⟨[2], [.ty .bool], []⟩
def p_z07 : Pol := ⟨fun i => none, fun i => none, some [(2, .keep)], [.keep], []⟩
def e_z07 : List EK := [.agg InstrT]
def h_z07 : List HK := []
noncomputable def cf_z07 : CallF := mkCF [(32, c_z03), (33, c_shape_target), (55, c_z05), (54, c_z06), (34, c_shape_number), (35, c_z04)] [(55, [ArgT]), (54, [ArgT]), (35, [ArgT])]
noncomputable def ls_z07 (n : Nat) : Loops := fun i =>  none
theorem m_z07 (n : Nat) (a0 : InstrS) : runFT Try.prog cf_z07 p_z07 (ls_z07 n) Try.f12 (bodyOf Try.f12) (EK.encs e_z07 ((a0, ()), ()).1) (HK.encs h_z07 ((a0, ()), ()).2) = M_z07 n a0 := by kernel_rfl
theorem g_z07 (n : Nat) (a0 : InstrS) {r : Res} (h : M_z07 n a0 = some r) : runF Try.prog cf_z07 n p_z07 12 (EK.encs e_z07 ((a0, ()), ()).1) (HK.encs h_z07 ((a0, ()), ()).2) = some r := by
  have hb : LOk Try.prog cf_z07 Try.f12.ntmps 0 n p_z07 (ls_z07 n) (bodyOf Try.f12) := ⟨trivial, ⟨trivial, ⟨trivial, trivial⟩⟩⟩
  exact runFT_some Try.prog (c := bodyOf Try.f12) Try.func12 (show Try.f12.body = some (bodyOf Try.f12) from rfl) (show (1 : Nat) ≤ 38 by decide) hb ((m_z07 n a0).trans h) rfl (by kernel_rfl)
noncomputable def c_z07 : Spec := specQ e_z07 h_z07 ro_z07 rh_z07 fun a b => Q_z07 a.1
theorem k_z07 (hm : Try.prog.follows .mixedOrders = true) : SpecOk Try.prog 12 c_z07 := specQ_ok (pol := p_z07) hm (cf := cf_z07) (tab_ok (specs_cons (k_z03 hm) (specs_cons (k_shape_target hm) (specs_cons (k_z05 hm) (specs_cons (k_z06 hm) (specs_cons (k_shape_number hm) (specs_cons (k_z04 hm) specs_nil))))))) fun a b r h => ⟨FUEL, g_z07 FUEL a.1 (decRes_some h)⟩
def s_z08_r : Sig := ⟨[2], [.hs 0 0], [.row NameT]⟩
def s_z08_h0 : Sig := ⟨[1, 3, 5, 29, 30, 31], [.ptr 0 0 0, .ptr 1 0 0, .hs 2 0, .hs 3 0, .ty (.int .i64), .ty (.int .i64)], [.cell InstrT, .one false [.ty .bool, .ty .bool, .junk, .junk, .ty (.int .u8), .ty (.int .i64), .ty (.int .i64)], .row NameT, .row ArgT]⟩
def s_z08_t0 : Sig := ⟨[1, 3, 5], [.ptr 0 0 0, .ptr 1 0 0, .hs 2 0], [.cell InstrT, .one false [.ty .bool, .ty .bool, .junk, .junk, .ty (.int .u8), .ty (.int .i64), .ty (.int .i64)], .row NameT]⟩
def p_z08 : Pol := ⟨fun i => if i = 0 then some [(1, (.own InstrT)), (3, (.flds [.keep, .keep, .drop, .drop, .keep, .keep, .keep])), (5, (.own NameT)), (29, (.own ArgT)), (30, .keep), (31, .keep)] else none, fun i => if i = 0 then some [(1, (.own InstrT)), (3, (.flds [.keep, .keep, .drop, .drop, .keep, .keep, .keep])), (5, (.own NameT))] else none, some [(2, (.own NameT))], [(.own NameT)], []⟩
def e_z08 : List EK := [.agg InstrT]
def h_z08 : List HK := []
noncomputable def cf_z08 : CallF := mkCF [(12, c_z07), (32, c_z03), (35, c_z04)] [(12, [InstrT]), (35, [ArgT])]
noncomputable def ls_z08 (n : Nat) : Loops := fun i => if i = 0 then some (loopT 0 (p_z08.head 0) s_z08_h0 fun K v => L_z08_0 n (fun z0 z7 => K (.ex 0) (s_z08_t0.enc (((), ((), (z0, ()))), (v.2.1, ((v.2.2.1.1, (v.2.2.1.2.1, ((), ((), (v.2.2.1.2.2.2.2.1, (v.2.2.1.2.2.2.2.2.1, (v.2.2.1.2.2.2.2.2.2.1, ()))))))), (z7, ())))))) v.1.2.2.2.1 v.1.2.2.2.2.1 v.2.2.2.2.1 n v.1.2.2.1 v.1.2.2.2.2.2.1 v.2.2.2.1)
  else  none
noncomputable def b_z08_0 : Code := partOf (bodyOf Try.f15) [1, 1, 1, 1, 1, 0, 1, 0, 0]
noncomputable def V_z08_0 (n : Nat) (K : Cont) (rec : Sig.sem s_z08_h0 → Option Res) (v : Sig.sem s_z08_h0) : Option Res := F_z08_0 n (fun z0 z7 => K (.ex 0) (s_z08_t0.enc (((), ((), (z0, ()))), (v.2.1, ((v.2.2.1.1, (v.2.2.1.2.1, ((), ((), (v.2.2.1.2.2.2.2.1, (v.2.2.1.2.2.2.2.2.1, (v.2.2.1.2.2.2.2.2.2.1, ()))))))), (z7, ())))))) v.1.2.2.2.1 v.1.2.2.2.2.1 v.2.2.2.2.1 (fun z0 z3 z10 => rec (((), ((), (z0, (v.1.2.2.2.1, (v.1.2.2.2.2.1, (z3, ())))))), (v.2.1, ((v.2.2.1.1, (v.2.2.1.2.1, ((), ((), (v.2.2.1.2.2.2.2.1, (v.2.2.1.2.2.2.2.2.1, (v.2.2.1.2.2.2.2.2.2.1, ()))))))), (z10, (v.2.2.2.2.1, ())))))) v.1.2.2.1 v.1.2.2.2.2.2.1 v.2.2.2.1
theorem t_z08_0 (n : Nat) (K : Cont) (rec : Sig.sem s_z08_h0 → Option Res) (v : Sig.sem s_z08_h0) : runT Try.prog cf_z08 Try.f15.ntmps 0 p_z08 (ls_z08 n) b_z08_0 (s_z08_h0.enc v) (turnK 0 (p_z08.head 0) s_z08_h0 rec K) = V_z08_0 n K rec v := by kernel_rfl
noncomputable def W_z08_0 (n : Nat) (K : Cont) (m : Nat) (v : Sig.sem s_z08_h0) : Option Res := L_z08_0 n (fun z0 z7 => K (.ex 0) (s_z08_t0.enc (((), ((), (z0, ()))), (v.2.1, ((v.2.2.1.1, (v.2.2.1.2.1, ((), ((), (v.2.2.1.2.2.2.2.1, (v.2.2.1.2.2.2.2.2.1, (v.2.2.1.2.2.2.2.2.2.1, ()))))))), (z7, ())))))) v.1.2.2.2.1 v.1.2.2.2.2.1 v.2.2.2.2.1 m v.1.2.2.1 v.1.2.2.2.2.2.1 v.2.2.2.1
theorem i_z08_0 (n : Nat) (K : Cont) : ∀ m v, iter (V_z08_0 n K) m v = W_z08_0 n K m v := by
  intro m
  induction m with
  | zero => intro v; rfl
  | succ m ih =>
    intro v
    show V_z08_0 n K (iter (V_z08_0 n K) m) v = V_z08_0 n K (W_z08_0 n K m) v
    rw [show iter (V_z08_0 n K) m = W_z08_0 n K m from funext ih]
theorem o_z08_0 (n : Nat) : ∀ L, ls_z08 n 0 = some L → ∀ s K r, L s K = some r → ∃ x s', loopN (run Try.prog cf_z08 Try.f15.ntmps 0 n p_z08 none b_z08_0) (gc 0 (p_z08.head 0)) n s = some (x, s') ∧ K x s' = some r := by
  intro L hL s K r h
  have hL : some (loopT 0 (p_z08.head 0) s_z08_h0 fun K v => W_z08_0 n K n v) = some L := hL
  cases hL
  have hb : LOk Try.prog cf_z08 Try.f15.ntmps 0 n p_z08 (ls_z08 n) b_z08_0 := ⟨trivial, ⟨⟨trivial, trivial⟩, ⟨⟨trivial, ⟨trivial, ⟨trivial, trivial⟩⟩⟩, trivial⟩⟩⟩
  refine loopT_ok hb (V_z08_0 n) (t_z08_0 n) n s K r ?_
  rw [← h]
  unfold loopT
  simp only [i_z08_0]
theorem m_z08 (n : Nat) (a0 : InstrS) : runFT Try.prog cf_z08 p_z08 (ls_z08 n) Try.f15 (bodyOf Try.f15) (EK.encs e_z08 ((a0, ()), ()).1) (HK.encs h_z08 ((a0, ()), ()).2) = M_z08 n a0 := by kernel_rfl
theorem g_z08 (n : Nat) (a0 : InstrS) {r : Res} (h : M_z08 n a0 = some r) : runF Try.prog cf_z08 n p_z08 15 (EK.encs e_z08 ((a0, ()), ()).1) (HK.encs h_z08 ((a0, ()), ()).2) = some r := by
  have hb : LOk Try.prog cf_z08 Try.f15.ntmps 0 n p_z08 (ls_z08 n) (bodyOf Try.f15) := ⟨trivial, ⟨⟨trivial, ⟨⟨trivial, trivial⟩, trivial⟩⟩, ⟨trivial, ⟨trivial, ⟨⟨trivial, ⟨trivial, trivial⟩⟩, ⟨⟨trivial, (o_z08_0 n)⟩, ⟨⟨trivial, ⟨trivial, trivial⟩⟩, ⟨trivial, trivial⟩⟩⟩⟩⟩⟩⟩⟩
  exact runFT_some Try.prog (c := bodyOf Try.f15) Try.func15 (show Try.f15.body = some (bodyOf Try.f15) from rfl) (show (1 : Nat) ≤ 57 by decide) hb ((m_z08 n a0).trans h) rfl (by kernel_rfl)
noncomputable def c_z08 : Spec := specQ e_z08 h_z08 ro_z08 rh_z08 fun a b => Q_z08 a.1
theorem k_z08 (hm : Try.prog.follows .mixedOrders = true) : SpecOk Try.prog 15 c_z08 := specQ_ok (pol := p_z08) hm (cf := cf_z08) (tab_ok (specs_cons (k_z07 hm) (specs_cons (k_z03 hm) (specs_cons (k_z04 hm) specs_nil)))) fun a b r h => ⟨FUEL, g_z08 FUEL a.1 (decRes_some h)⟩
def s_z09_r : Sig := ⟨[4], [.ty .bool], []⟩
def s_z09_h0 : Sig := ⟨[0, 1, 5], [.ty (.slice NameT), .ty (.slice NameT), .ty (.int .i64)], []⟩
def s_z09_t0 : Sig := ⟨[], [], []⟩
def p_z09 : Pol := ⟨fun i => if i = 0 then some [(0, .keep), (1, .keep), (5, .keep)] else none, fun i => if i = 0 then some [] else none, some [(4, .keep)], [.keep], []⟩
def e_z09 : List EK := [.ty (.slice NameT), .ty (.slice NameT)]
def h_z09 : List HK := []
noncomputable def cf_z09 : CallF := mkCF [] []
noncomputable def ls_z09 (n : Nat) : Loops := fun i => if i = 0 then some (loopT 0 (p_z09.head 0) s_z09_h0 fun K v => L_z09_0 n (fun z0 => K .rt (s_z09_r.enc ((z0, ()), ()))) (fun _ => K (.ex 0) (s_z09_t0.enc ((), ()))) v.1.1 v.1.2.1 n v.1.2.2.1)
  else  none
noncomputable def b_z09_0 : Code := partOf (bodyOf Try.f14) [1, 1, 0, 1, 0, 0]
noncomputable def V_z09_0 (n : Nat) (K : Cont) (rec : Sig.sem s_z09_h0 → Option Res) (v : Sig.sem s_z09_h0) : Option Res := F_z09_0 n (fun z0 => K .rt (s_z09_r.enc ((z0, ()), ()))) (fun _ => K (.ex 0) (s_z09_t0.enc ((), ()))) v.1.1 v.1.2.1 (fun z2 => rec ((v.1.1, (v.1.2.1, (z2, ()))), ())) v.1.2.2.1
theorem t_z09_0 (n : Nat) (K : Cont) (rec : Sig.sem s_z09_h0 → Option Res) (v : Sig.sem s_z09_h0) : runT Try.prog cf_z09 Try.f14.ntmps 0 p_z09 (ls_z09 n) b_z09_0 (s_z09_h0.enc v) (turnK 0 (p_z09.head 0) s_z09_h0 rec K) = V_z09_0 n K rec v := by kernel_rfl
noncomputable def W_z09_0 (n : Nat) (K : Cont) (m : Nat) (v : Sig.sem s_z09_h0) : Option Res := L_z09_0 n (fun z0 => K .rt (s_z09_r.enc ((z0, ()), ()))) (fun _ => K (.ex 0) (s_z09_t0.enc ((), ()))) v.1.1 v.1.2.1 m v.1.2.2.1
theorem i_z09_0 (n : Nat) (K : Cont) : ∀ m v, iter (V_z09_0 n K) m v = W_z09_0 n K m v := by
  intro m
  induction m with
  | zero => intro v; rfl
  | succ m ih =>
    intro v
    show V_z09_0 n K (iter (V_z09_0 n K) m) v = V_z09_0 n K (W_z09_0 n K m) v
    rw [show iter (V_z09_0 n K) m = W_z09_0 n K m from funext ih]
theorem o_z09_0 (n : Nat) : ∀ L, ls_z09 n 0 = some L → ∀ s K r, L s K = some r → ∃ x s', loopN (run Try.prog cf_z09 Try.f14.ntmps 0 n p_z09 none b_z09_0) (gc 0 (p_z09.head 0)) n s = some (x, s') ∧ K x s' = some r := by
  intro L hL s K r h
  have hL : some (loopT 0 (p_z09.head 0) s_z09_h0 fun K v => W_z09_0 n K n v) = some L := hL
  cases hL
  have hb : LOk Try.prog cf_z09 Try.f14.ntmps 0 n p_z09 (ls_z09 n) b_z09_0 := ⟨⟨trivial, ⟨trivial, trivial⟩⟩, ⟨⟨trivial, ⟨⟨trivial, trivial⟩, trivial⟩⟩, trivial⟩⟩
  refine loopT_ok hb (V_z09_0 n) (t_z09_0 n) n s K r ?_
  rw [← h]
  unfold loopT
  simp only [i_z09_0]
theorem m_z09 (n : Nat) (a0 : (List NameS)) (a1 : (List NameS)) : runFT Try.prog cf_z09 p_z09 (ls_z09 n) Try.f14 (bodyOf Try.f14) (EK.encs e_z09 ((a0, (a1, ())), ()).1) (HK.encs h_z09 ((a0, (a1, ())), ()).2) = M_z09 n a0 a1 := by kernel_rfl
theorem g_z09 (n : Nat) (a0 : (List NameS)) (a1 : (List NameS)) {r : Res} (h : M_z09 n a0 a1 = some r) : runF Try.prog cf_z09 n p_z09 14 (EK.encs e_z09 ((a0, (a1, ())), ()).1) (HK.encs h_z09 ((a0, (a1, ())), ()).2) = some r := by
  have hb : LOk Try.prog cf_z09 Try.f14.ntmps 0 n p_z09 (ls_z09 n) (bodyOf Try.f14) := ⟨trivial, ⟨⟨trivial, ⟨⟨trivial, trivial⟩, trivial⟩⟩, ⟨⟨trivial, (o_z09_0 n)⟩, ⟨trivial, trivial⟩⟩⟩⟩
  exact runFT_some Try.prog (c := bodyOf Try.f14) Try.func14 (show Try.f14.body = some (bodyOf Try.f14) from rfl) (show (2 : Nat) ≤ 26 by decide) hb ((m_z09 n a0 a1).trans h) rfl (by kernel_rfl)
noncomputable def c_z09 : Spec := specQ e_z09 h_z09 ro_z09 rh_z09 fun a b => Q_z09 a.1 a.2.1
theorem k_z09 (hm : Try.prog.follows .mixedOrders = true) : SpecOk Try.prog 14 c_z09 := specQ_ok (pol := p_z09) hm (cf := cf_z09) (tab_ok specs_nil) fun a b r h => ⟨FUEL, g_z09 FUEL a.1 a.2.1 (decRes_some h)⟩
def s_z0a_r : Sig := ⟨[2], [.ty .bool], []⟩
def p_z0a : Pol := ⟨fun i => none, fun i => none, some [(2, .keep)], [.keep], []⟩
def e_z0a : List EK := [.ty (.int .i64)]
def h_z0a : List HK := []
noncomputable def cf_z0a : CallF := mkCF [] []
noncomputable def ls_z0a (n : Nat) : Loops := fun i =>  none
theorem m_z0a (n : Nat) (a0 : Int) : runFT Try.prog cf_z0a p_z0a (ls_z0a n) Try.f36 (bodyOf Try.f36) (EK.encs e_z0a ((a0, ()), ()).1) (HK.encs h_z0a ((a0, ()), ()).2) = M_z0a n a0 := by kernel_rfl
theorem g_z0a (n : Nat) (a0 : Int) {r : Res} (h : M_z0a n a0 = some r) : runF Try.prog cf_z0a n p_z0a 36 (EK.encs e_z0a ((a0, ()), ()).1) (HK.encs h_z0a ((a0, ()), ()).2) = some r := by
  have hb : LOk Try.prog cf_z0a Try.f36.ntmps 0 n p_z0a (ls_z0a n) (bodyOf Try.f36) := ⟨trivial, ⟨trivial, trivial⟩⟩
  exact runFT_some Try.prog (c := bodyOf Try.f36) Try.func36 (show Try.f36.body = some (bodyOf Try.f36) from rfl) (show (1 : Nat) ≤ 9 by decide) hb ((m_z0a n a0).trans h) rfl (by kernel_rfl)
noncomputable def c_z0a : Spec := specQ e_z0a h_z0a ro_z0a rh_z0a fun a b => Q_z0a a.1
theorem k_z0a (hm : Try.prog.follows .mixedOrders = true) : SpecOk Try.prog 36 c_z0a := specQ_ok (pol := p_z0a) hm (cf := cf_z0a) (tab_ok specs_nil) fun a b r h => ⟨FUEL, g_z0a FUEL a.1 (decRes_some h)⟩
def s_z0b_r : Sig := ⟨[2], [.ty .bool], []⟩
def s_z0b_h0 : Sig := ⟨[1, 16, 17, 18], [.ptr 0 0 0, .ty (.slice InstrT), .ty (.int .i64), .ty (.int .i64)], [.cell BlockT]⟩
def s_z0b_t0 : Sig := ⟨[], [], []⟩
def p_z0b : Pol := ⟨fun i => if i = 0 then some [(1, (.own BlockT)), (16, .keep), (17, .keep), (18, .keep)] else none, fun i => if i = 0 then some [] else none, some [(2, .keep)], [.keep], []⟩
def e_z0b : List EK := [.agg BlockT]
def h_z0b : List HK := []
noncomputable def cf_z0b : CallF := mkCF [(36, c_z0a), (12, c_z07)] [(36, [(.int .i64)]), (12, [InstrT])]
noncomputable def ls_z0b (n : Nat) : Loops := fun i => if i = 0 then some (loopT 0 (p_z0b.head 0) s_z0b_h0 fun K v => L_z0b_0 n (fun z0 => K .rt (s_z0b_r.enc ((z0, ()), ()))) (fun _ => K (.ex 0) (s_z0b_t0.enc ((), ()))) v.1.2.1 v.1.2.2.1 v.2.1 n v.1.2.2.2.1)
  else  none
noncomputable def b_z0b_0 : Code := partOf (bodyOf Try.f17) [1, 1, 0, 1, 0, 0]
noncomputable def V_z0b_0 (n : Nat) (K : Cont) (rec : Sig.sem s_z0b_h0 → Option Res) (v : Sig.sem s_z0b_h0) : Option Res := F_z0b_0 n (fun z0 => K .rt (s_z0b_r.enc ((z0, ()), ()))) (fun _ => K (.ex 0) (s_z0b_t0.enc ((), ()))) v.1.2.1 v.1.2.2.1 v.2.1 (fun z2 => rec (((), (v.1.2.1, (v.1.2.2.1, (z2, ())))), (v.2.1, ()))) v.1.2.2.2.1
theorem t_z0b_0 (n : Nat) (K : Cont) (rec : Sig.sem s_z0b_h0 → Option Res) (v : Sig.sem s_z0b_h0) : runT Try.prog cf_z0b Try.f17.ntmps 0 p_z0b (ls_z0b n) b_z0b_0 (s_z0b_h0.enc v) (turnK 0 (p_z0b.head 0) s_z0b_h0 rec K) = V_z0b_0 n K rec v := by kernel_rfl
noncomputable def W_z0b_0 (n : Nat) (K : Cont) (m : Nat) (v : Sig.sem s_z0b_h0) : Option Res := L_z0b_0 n (fun z0 => K .rt (s_z0b_r.enc ((z0, ()), ()))) (fun _ => K (.ex 0) (s_z0b_t0.enc ((), ()))) v.1.2.1 v.1.2.2.1 v.2.1 m v.1.2.2.2.1
theorem i_z0b_0 (n : Nat) (K : Cont) : ∀ m v, iter (V_z0b_0 n K) m v = W_z0b_0 n K m v := by
  intro m
  induction m with
  | zero => intro v; rfl
  | succ m ih =>
    intro v
    show V_z0b_0 n K (iter (V_z0b_0 n K) m) v = V_z0b_0 n K (W_z0b_0 n K m) v
    rw [show iter (V_z0b_0 n K) m = W_z0b_0 n K m from funext ih]
theorem o_z0b_0 (n : Nat) : ∀ L, ls_z0b n 0 = some L → ∀ s K r, L s K = some r → ∃ x s', loopN (run Try.prog cf_z0b Try.f17.ntmps 0 n p_z0b none b_z0b_0) (gc 0 (p_z0b.head 0)) n s = some (x, s') ∧ K x s' = some r := by
  intro L hL s K r h
  have hL : some (loopT 0 (p_z0b.head 0) s_z0b_h0 fun K v => W_z0b_0 n K n v) = some L := hL
  cases hL
  have hb : LOk Try.prog cf_z0b Try.f17.ntmps 0 n p_z0b (ls_z0b n) b_z0b_0 := ⟨trivial, ⟨⟨trivial, trivial⟩, ⟨⟨trivial, ⟨trivial, ⟨⟨trivial, trivial⟩, trivial⟩⟩⟩, trivial⟩⟩⟩
  refine loopT_ok hb (V_z0b_0 n) (t_z0b_0 n) n s K r ?_
  rw [← h]
  unfold loopT
  simp only [i_z0b_0]
theorem m_z0b (n : Nat) (a0 : BlockS) : runFT Try.prog cf_z0b p_z0b (ls_z0b n) Try.f17 (bodyOf Try.f17) (EK.encs e_z0b ((a0, ()), ()).1) (HK.encs h_z0b ((a0, ()), ()).2) = M_z0b n a0 := by kernel_rfl
theorem g_z0b (n : Nat) (a0 : BlockS) {r : Res} (h : M_z0b n a0 = some r) : runF Try.prog cf_z0b n p_z0b 17 (EK.encs e_z0b ((a0, ()), ()).1) (HK.encs h_z0b ((a0, ()), ()).2) = some r := by
  have hb : LOk Try.prog cf_z0b Try.f17.ntmps 0 n p_z0b (ls_z0b n) (bodyOf Try.f17) := ⟨trivial, ⟨⟨trivial, ⟨⟨trivial, trivial⟩, trivial⟩⟩, ⟨⟨trivial, (o_z0b_0 n)⟩, ⟨trivial, trivial⟩⟩⟩⟩
  exact runFT_some Try.prog (c := bodyOf Try.f17) Try.func17 (show Try.f17.body = some (bodyOf Try.f17) from rfl) (show (1 : Nat) ≤ 43 by decide) hb ((m_z0b n a0).trans h) rfl (by kernel_rfl)
noncomputable def c_z0b : Spec := specQ e_z0b h_z0b ro_z0b rh_z0b fun a b => Q_z0b a.1
theorem k_z0b (hm : Try.prog.follows .mixedOrders = true) : SpecOk Try.prog 17 c_z0b := specQ_ok (pol := p_z0b) hm (cf := cf_z0b) (tab_ok (specs_cons (k_z0a hm) (specs_cons (k_z07 hm) specs_nil))) fun a b r h => ⟨FUEL, g_z0b FUEL a.1 (decRes_some h)⟩
def s_z0c_r : Sig := ⟨[2, 3], [.ptr 0 0 0, .ty .bool], [.cell WayT]⟩
def p_z0c : Pol := ⟨fun i => none, fun i => none, some [(2, (.own WayT)), (3, .keep)], [.keep, .keep], []⟩
def e_z0c : List EK := [.agg InstrT]
def h_z0c : List HK := []
noncomputable def cf_z0c : CallF := mkCF [] []
noncomputable def ls_z0c (n : Nat) : Loops := fun i =>  none
theorem m_z0c (n : Nat) (a0 : InstrS) : runFT Try.prog cf_z0c p_z0c (ls_z0c n) Try.f42 (bodyOf Try.f42) (EK.encs e_z0c ((a0, ()), ()).1) (HK.encs h_z0c ((a0, ()), ()).2) = M_z0c n a0 := by kernel_rfl
theorem g_z0c (n : Nat) (a0 : InstrS) {r : Res} (h : M_z0c n a0 = some r) : runF Try.prog cf_z0c n p_z0c 42 (EK.encs e_z0c ((a0, ()), ()).1) (HK.encs h_z0c ((a0, ()), ()).2) = some r := by
  have hb : LOk Try.prog cf_z0c Try.f42.ntmps 0 n p_z0c (ls_z0c n) (bodyOf Try.f42) := ⟨trivial, ⟨⟨trivial, ⟨⟨trivial, ⟨trivial, trivial⟩⟩, ⟨⟨trivial, trivial⟩, ⟨⟨trivial, ⟨trivial, trivial⟩⟩, ⟨⟨trivial, trivial⟩, trivial⟩⟩⟩⟩⟩, ⟨trivial, trivial⟩⟩⟩
  exact runFT_some Try.prog (c := bodyOf Try.f42) Try.func42 (show Try.f42.body = some (bodyOf Try.f42) from rfl) (show (1 : Nat) ≤ 19 by decide) hb ((m_z0c n a0).trans h) rfl (by kernel_rfl)
noncomputable def c_z0c : Spec := specQ e_z0c h_z0c ro_z0c rh_z0c fun a b => Q_z0c a.1
theorem k_z0c (hm : Try.prog.follows .mixedOrders = true) : SpecOk Try.prog 42 c_z0c := specQ_ok (pol := p_z0c) hm (cf := cf_z0c) (tab_ok specs_nil) fun a b r h => ⟨FUEL, g_z0c FUEL a.1 (decRes_some h)⟩
def p_z0d : Pol := ⟨fun i => none, fun i => none, none, [], []⟩
def e_z0d : List EK := [.agg WayT, .ty (.int .i64), .ptr 0 0 0]
def h_z0d : List HK := [.one false [.mp 1], .mf WayT (.int .i64)]
noncomputable def cf_z0d : CallF := mkCF [] []
noncomputable def ls_z0d (n : Nat) : Loops := fun i =>  none
theorem m_z0d (n : Nat) (a0 : WayS) (a1 : Int) (a2 : (WayS → Option (Int))) : runFT Try.prog cf_z0d p_z0d (ls_z0d n) Try.f41 (bodyOf Try.f41) (EK.encs e_z0d ((a0, (a1, ((), ()))), (((), ()), (a2, ()))).1) (HK.encs h_z0d ((a0, (a1, ((), ()))), (((), ()), (a2, ()))).2) = M_z0d n a0 a1 a2 := by kernel_rfl
theorem g_z0d (n : Nat) (a0 : WayS) (a1 : Int) (a2 : (WayS → Option (Int))) {r : Res} (h : M_z0d n a0 a1 a2 = some r) : runF Try.prog cf_z0d n p_z0d 41 (EK.encs e_z0d ((a0, (a1, ((), ()))), (((), ()), (a2, ()))).1) (HK.encs h_z0d ((a0, (a1, ((), ()))), (((), ()), (a2, ()))).2) = some r := by
  have hb : LOk Try.prog cf_z0d Try.f41.ntmps 2 n p_z0d (ls_z0d n) (bodyOf Try.f41) := ⟨trivial, trivial⟩
  exact runFT_some Try.prog (c := bodyOf Try.f41) Try.func41 (show Try.f41.body = some (bodyOf Try.f41) from rfl) (show (3 : Nat) ≤ 12 by decide) hb ((m_z0d n a0 a1 a2).trans h) rfl (by kernel_rfl)
noncomputable def c_z0d : Spec := specQ e_z0d h_z0d ro_z0d rh_z0d fun a b => Q_z0d a.1 a.2.1 b.2.1
theorem k_z0d (hm : Try.prog.follows .mixedOrders = true) : SpecOk Try.prog 41 c_z0d := specQ_ok (pol := p_z0d) hm (cf := cf_z0d) (tab_ok specs_nil) fun a b r h => ⟨FUEL, g_z0d FUEL a.1 a.2.1 b.2.1 (decRes_some h)⟩
def s_z0e_r : Sig := ⟨[2], [.hs 0 0], [.row WayT]⟩
def s_z0e_h0 : Sig := ⟨[1, 3, 4, 5, 28, 29], [.ptr 0 0 0, .ptr 1 0 0, .fn 41 [(1, 0, 0)], .hs 3 0, .ty (.int .i64), .ty (.int .i64)], [.cell BlockT, .one false [.mp 2], .mf WayT (.int .i64), .row (.int .i64)]⟩
def s_z0e_t0 : Sig := ⟨[1, 3, 4, 5], [.ptr 0 0 0, .ptr 1 0 0, .fn 41 [(1, 0, 0)], .hs 3 0], [.cell BlockT, .one false [.mp 2], .mf WayT (.int .i64), .row (.int .i64)]⟩
def s_z0e_h2 : Sig := ⟨[1, 3, 4, 5, 38, 39, 40], [.ptr 0 0 0, .ptr 1 0 0, .fn 41 [(1, 0, 0)], .hs 3 0, .ty (.slice InstrT), .ty (.int .i64), .ty (.int .i64)], [.cell BlockT, .one false [.mp 2], .mf WayT (.int .i64), .row (.int .i64)]⟩
def s_z0e_t3 : Sig := ⟨[1, 3, 4, 5, 38, 39, 40], [.ptr 0 0 0, .ptr 1 0 0, .fn 41 [(1, 0, 0)], .hs 3 0, .ty (.slice InstrT), .ty (.int .i64), .ty (.int .i64)], [.cell BlockT, .one false [.mp 2], .mf WayT (.int .i64), .row (.int .i64)]⟩
def s_z0e_t2 : Sig := ⟨[1, 3, 4, 5], [.ptr 0 0 0, .ptr 1 0 0, .fn 41 [(1, 0, 0)], .hs 3 0], [.cell BlockT, .one false [.mp 2], .mf WayT (.int .i64), .row (.int .i64)]⟩
def s_z0e_tl : Sig := ⟨[3], [.ptr 0 0 0], [.one false [.mp 1], .mf WayT (.int .i64)]⟩
def p_z0e : Pol := ⟨fun i => if i = 0 then some [(1, (.own BlockT)), (3, .keep), (4, .keep), (5, (.own (.int .i64))), (28, .keep), (29, .keep)] else if i = 2 then some [(1, (.own BlockT)), (3, .keep), (4, .keep), (5, (.own (.int .i64))), (38, .keep), (39, .keep), (40, .keep)] else none, fun i => if i = 0 then some [(1, (.own BlockT)), (3, .keep), (4, .keep), (5, (.own (.int .i64)))] else if i = 3 then some [(1, (.own BlockT)), (3, .keep), (4, .keep), (5, (.own (.int .i64))), (38, .keep), (39, .keep), (40, .keep)] else if i = 2 then some [(1, (.own BlockT)), (3, .keep), (4, .keep), (5, (.own (.int .i64)))] else none, some [(2, (.own WayT))], [(.own WayT)], []⟩
def e_z0e : List EK := [.agg BlockT]
def h_z0e : List HK := []
noncomputable def cf_z0e : CallF := mkCF [(17, c_z0b), (42, c_z0c), (41, c_z0d)] [(17, [BlockT]), (42, [InstrT])]
noncomputable def ls_z0e (n : Nat) : Loops := fun i => if i = 0 then some (loopT 0 (p_z0e.head 0) s_z0e_h0 fun K v => L_z0e_0 n (fun z3 => K (.ex 0) (s_z0e_t0.enc (((), ((), ((), (v.1.2.2.2.1, ())))), (v.2.1, (((), ()), (v.2.2.2.1, (z3, ()))))))) v.1.2.2.2.1 v.1.2.2.2.2.1 n v.1.2.2.2.2.2.1 v.2.2.2.2.1)
  else if i = 2 then some (loopT 0 (p_z0e.head 2) s_z0e_h2 fun K v => L_z0e_2 n (fun z2 z3 => K (.ex 2) (s_z0e_t2.enc (((), ((), ((), (v.1.2.2.2.1, ())))), (v.2.1, (((), ()), (z2, (z3, ()))))))) v.1.2.2.2.1 v.1.2.2.2.2.1 v.1.2.2.2.2.2.1 n v.1.2.2.2.2.2.2.1 v.2.2.2.1 v.2.2.2.2.1)
  else  none
noncomputable def b_z0e_0 : Code := partOf (bodyOf Try.f23) [1, 1, 1, 1, 1, 0, 1, 0, 0]
noncomputable def V_z0e_0 (n : Nat) (K : Cont) (rec : Sig.sem s_z0e_h0 → Option Res) (v : Sig.sem s_z0e_h0) : Option Res := F_z0e_0 n (fun z3 => K (.ex 0) (s_z0e_t0.enc (((), ((), ((), (v.1.2.2.2.1, ())))), (v.2.1, (((), ()), (v.2.2.2.1, (z3, ()))))))) v.1.2.2.2.1 v.1.2.2.2.2.1 (fun z2 z5 => rec (((), ((), ((), (v.1.2.2.2.1, (v.1.2.2.2.2.1, (z2, ())))))), (v.2.1, (((), ()), (v.2.2.2.1, (z5, ())))))) v.1.2.2.2.2.2.1 v.2.2.2.2.1
theorem t_z0e_0 (n : Nat) (K : Cont) (rec : Sig.sem s_z0e_h0 → Option Res) (v : Sig.sem s_z0e_h0) : runT Try.prog cf_z0e Try.f23.ntmps 0 p_z0e (ls_z0e n) b_z0e_0 (s_z0e_h0.enc v) (turnK 0 (p_z0e.head 0) s_z0e_h0 rec K) = V_z0e_0 n K rec v := by kernel_rfl
noncomputable def W_z0e_0 (n : Nat) (K : Cont) (m : Nat) (v : Sig.sem s_z0e_h0) : Option Res := L_z0e_0 n (fun z3 => K (.ex 0) (s_z0e_t0.enc (((), ((), ((), (v.1.2.2.2.1, ())))), (v.2.1, (((), ()), (v.2.2.2.1, (z3, ()))))))) v.1.2.2.2.1 v.1.2.2.2.2.1 m v.1.2.2.2.2.2.1 v.2.2.2.2.1
theorem i_z0e_0 (n : Nat) (K : Cont) : ∀ m v, iter (V_z0e_0 n K) m v = W_z0e_0 n K m v := by
  intro m
  induction m with
  | zero => intro v; rfl
  | succ m ih =>
    intro v
    show V_z0e_0 n K (iter (V_z0e_0 n K) m) v = V_z0e_0 n K (W_z0e_0 n K m) v
    rw [show iter (V_z0e_0 n K) m = W_z0e_0 n K m from funext ih]
theorem o_z0e_0 (n : Nat) : ∀ L, ls_z0e n 0 = some L → ∀ s K r, L s K = some r → ∃ x s', loopN (run Try.prog cf_z0e Try.f23.ntmps 0 n p_z0e none b_z0e_0) (gc 0 (p_z0e.head 0)) n s = some (x, s') ∧ K x s' = some r := by
  intro L hL s K r h
  have hL : some (loopT 0 (p_z0e.head 0) s_z0e_h0 fun K v => W_z0e_0 n K n v) = some L := hL
  cases hL
  have hb : LOk Try.prog cf_z0e Try.f23.ntmps 0 n p_z0e (ls_z0e n) b_z0e_0 := ⟨trivial, ⟨⟨trivial, trivial⟩, ⟨⟨trivial, trivial⟩, trivial⟩⟩⟩
  refine loopT_ok hb (V_z0e_0 n) (t_z0e_0 n) n s K r ?_
  rw [← h]
  unfold loopT
  simp only [i_z0e_0]
noncomputable def b_z0e_2 : Code := partOf (bodyOf Try.f23) [1, 1, 1, 1, 1, 1, 0, 1, 0, 0]
noncomputable def V_z0e_2 (n : Nat) (K : Cont) (rec : Sig.sem s_z0e_h2 → Option Res) (v : Sig.sem s_z0e_h2) : Option Res := F_z0e_2 n (fun z2 z3 => K (.ex 2) (s_z0e_t2.enc (((), ((), ((), (v.1.2.2.2.1, ())))), (v.2.1, (((), ()), (z2, (z3, ()))))))) v.1.2.2.2.1 v.1.2.2.2.2.1 v.1.2.2.2.2.2.1 (fun z3 z5 z6 => rec (((), ((), ((), (v.1.2.2.2.1, (v.1.2.2.2.2.1, (v.1.2.2.2.2.2.1, (z3, ()))))))), (v.2.1, (((), ()), (z5, (z6, ())))))) v.1.2.2.2.2.2.2.1 v.2.2.2.1 v.2.2.2.2.1
theorem t_z0e_2 (n : Nat) (K : Cont) (rec : Sig.sem s_z0e_h2 → Option Res) (v : Sig.sem s_z0e_h2) : runT Try.prog cf_z0e Try.f23.ntmps 0 p_z0e (ls_z0e n) b_z0e_2 (s_z0e_h2.enc v) (turnK 0 (p_z0e.head 2) s_z0e_h2 rec K) = V_z0e_2 n K rec v := by kernel_rfl
noncomputable def W_z0e_2 (n : Nat) (K : Cont) (m : Nat) (v : Sig.sem s_z0e_h2) : Option Res := L_z0e_2 n (fun z2 z3 => K (.ex 2) (s_z0e_t2.enc (((), ((), ((), (v.1.2.2.2.1, ())))), (v.2.1, (((), ()), (z2, (z3, ()))))))) v.1.2.2.2.1 v.1.2.2.2.2.1 v.1.2.2.2.2.2.1 m v.1.2.2.2.2.2.2.1 v.2.2.2.1 v.2.2.2.2.1
theorem i_z0e_2 (n : Nat) (K : Cont) : ∀ m v, iter (V_z0e_2 n K) m v = W_z0e_2 n K m v := by
  intro m
  induction m with
  | zero => intro v; rfl
  | succ m ih =>
    intro v
    show V_z0e_2 n K (iter (V_z0e_2 n K) m) v = V_z0e_2 n K (W_z0e_2 n K m) v
    rw [show iter (V_z0e_2 n K) m = W_z0e_2 n K m from funext ih]
theorem o_z0e_2 (n : Nat) : ∀ L, ls_z0e n 2 = some L → ∀ s K r, L s K = some r → ∃ x s', loopN (run Try.prog cf_z0e Try.f23.ntmps 0 n p_z0e none b_z0e_2) (gc 0 (p_z0e.head 2)) n s = some (x, s') ∧ K x s' = some r := by
  intro L hL s K r h
  have hL : some (loopT 0 (p_z0e.head 2) s_z0e_h2 fun K v => W_z0e_2 n K n v) = some L := hL
  cases hL
  have hb : LOk Try.prog cf_z0e Try.f23.ntmps 0 n p_z0e (ls_z0e n) b_z0e_2 := ⟨trivial, ⟨⟨trivial, trivial⟩, ⟨⟨trivial, ⟨trivial, ⟨⟨trivial, ⟨trivial, trivial⟩⟩, ⟨⟨trivial, ⟨trivial, ⟨⟨trivial, trivial⟩, trivial⟩⟩⟩, ⟨trivial, ⟨trivial, ⟨trivial, trivial⟩⟩⟩⟩⟩⟩⟩, trivial⟩⟩⟩
  refine loopT_ok hb (V_z0e_2 n) (t_z0e_2 n) n s K r ?_
  rw [← h]
  unfold loopT
  simp only [i_z0e_2]
noncomputable def tl_z0e : TailS := ⟨[(3, .keep)], [3], 2, specQ [.ptr 0 0 0] [.one false [.mp 1], .mf WayT (.int .i64)] ro_z00 rh_z00 fun a b => Q_z00 b.2.1, true⟩
theorem m_z0e (n : Nat) (a0 : BlockS) : runFX Try.prog tl_z0e [1, 1, 1, 1, 1, 1, 1, 1] cf_z0e p_z0e (ls_z0e n) Try.f23 (bodyOf Try.f23) (EK.encs e_z0e ((a0, ()), ()).1) (HK.encs h_z0e ((a0, ()), ()).2) = M_z0e n a0 := by kernel_rfl
theorem g_z0e (n : Nat) (a0 : BlockS) {r : Res} (h : M_z0e n a0 = some r) : runFX Try.prog tl_z0e [1, 1, 1, 1, 1, 1, 1, 1] cf_z0e p_z0e (ls_z0e n) Try.f23 (bodyOf Try.f23) (EK.encs e_z0e ((a0, ()), ()).1) (HK.encs h_z0e ((a0, ()), ()).2) = some r := (m_z0e n a0).trans h
noncomputable def c_z0e : Spec := specQ e_z0e h_z0e ro_z0e rh_z0e fun a b => Q_z0e a.1
theorem k_z0e (hm : Try.prog.follows .mixedOrders = true) : SpecOk Try.prog 23 c_z0e := specX_ok (tl := tl_z0e) (pth := [1, 1, 1, 1, 1, 1, 1, 1]) (pol := p_z0e) (n := FUEL) (cf := cf_z0e) (ls := ls_z0e FUEL) hm (tab_ok (specs_cons (k_z0b hm) (specs_cons (k_z0c hm) (specs_cons (k_z0d hm) specs_nil)))) Try.func23 (show Try.f23.body = some (bodyOf Try.f23) from rfl) (show (1 : Nat) ≤ 125 by decide) rfl (by kernel_rfl) (show LOk Try.prog cf_z0e Try.f23.ntmps 0 FUEL p_z0e (ls_z0e FUEL) (bodyOf Try.f23) from ⟨trivial, ⟨⟨trivial, ⟨⟨trivial, trivial⟩, trivial⟩⟩, ⟨trivial, ⟨trivial, ⟨trivial, ⟨⟨trivial, (o_z0e_0 FUEL)⟩, ⟨⟨trivial, (o_z0e_2 FUEL)⟩, ⟨⟨trivial, ⟨trivial, ⟨trivial, trivial⟩⟩⟩, ⟨trivial, ⟨⟨trivial, (noLoop (by rfl))⟩, ⟨trivial, ⟨trivial, trivial⟩⟩⟩⟩⟩⟩⟩⟩⟩⟩⟩⟩) H19.tail_ok fun a b r h => g_z0e FUEL a.1 (decRes_some h)
def s_z0f_r : Sig := ⟨[4], [.ty .bool], []⟩
def s_z0f_h0 : Sig := ⟨[0, 1, 5], [.ty (.slice WayT), .ty (.slice WayT), .ty (.int .i64)], []⟩
def s_z0f_t0 : Sig := ⟨[], [], []⟩
def p_z0f : Pol := ⟨fun i => if i = 0 then some [(0, .keep), (1, .keep), (5, .keep)] else none, fun i => if i = 0 then some [] else none, some [(4, .keep)], [.keep], []⟩
def e_z0f : List EK := [.ty (.slice WayT), .ty (.slice WayT)]
def h_z0f : List HK := []
noncomputable def cf_z0f : CallF := mkCF [] []
noncomputable def ls_z0f (n : Nat) : Loops := fun i => if i = 0 then some (loopT 0 (p_z0f.head 0) s_z0f_h0 fun K v => L_z0f_0 n (fun z0 => K .rt (s_z0f_r.enc ((z0, ()), ()))) (fun _ => K (.ex 0) (s_z0f_t0.enc ((), ()))) v.1.1 v.1.2.1 n v.1.2.2.1)
  else  none
noncomputable def b_z0f_0 : Code := partOf (bodyOf Try.f24) [1, 1, 0, 1, 0, 0]
noncomputable def V_z0f_0 (n : Nat) (K : Cont) (rec : Sig.sem s_z0f_h0 → Option Res) (v : Sig.sem s_z0f_h0) : Option Res := F_z0f_0 n (fun z0 => K .rt (s_z0f_r.enc ((z0, ()), ()))) (fun _ => K (.ex 0) (s_z0f_t0.enc ((), ()))) v.1.1 v.1.2.1 (fun z2 => rec ((v.1.1, (v.1.2.1, (z2, ()))), ())) v.1.2.2.1
theorem t_z0f_0 (n : Nat) (K : Cont) (rec : Sig.sem s_z0f_h0 → Option Res) (v : Sig.sem s_z0f_h0) : runT Try.prog cf_z0f Try.f24.ntmps 0 p_z0f (ls_z0f n) b_z0f_0 (s_z0f_h0.enc v) (turnK 0 (p_z0f.head 0) s_z0f_h0 rec K) = V_z0f_0 n K rec v := by kernel_rfl
noncomputable def W_z0f_0 (n : Nat) (K : Cont) (m : Nat) (v : Sig.sem s_z0f_h0) : Option Res := L_z0f_0 n (fun z0 => K .rt (s_z0f_r.enc ((z0, ()), ()))) (fun _ => K (.ex 0) (s_z0f_t0.enc ((), ()))) v.1.1 v.1.2.1 m v.1.2.2.1
theorem i_z0f_0 (n : Nat) (K : Cont) : ∀ m v, iter (V_z0f_0 n K) m v = W_z0f_0 n K m v := by
  intro m
  induction m with
  | zero => intro v; rfl
  | succ m ih =>
    intro v
    show V_z0f_0 n K (iter (V_z0f_0 n K) m) v = V_z0f_0 n K (W_z0f_0 n K m) v
    rw [show iter (V_z0f_0 n K) m = W_z0f_0 n K m from funext ih]
theorem o_z0f_0 (n : Nat) : ∀ L, ls_z0f n 0 = some L → ∀ s K r, L s K = some r → ∃ x s', loopN (run Try.prog cf_z0f Try.f24.ntmps 0 n p_z0f none b_z0f_0) (gc 0 (p_z0f.head 0)) n s = some (x, s') ∧ K x s' = some r := by
  intro L hL s K r h
  have hL : some (loopT 0 (p_z0f.head 0) s_z0f_h0 fun K v => W_z0f_0 n K n v) = some L := hL
  cases hL
  have hb : LOk Try.prog cf_z0f Try.f24.ntmps 0 n p_z0f (ls_z0f n) b_z0f_0 := ⟨⟨trivial, ⟨trivial, trivial⟩⟩, ⟨⟨trivial, ⟨⟨trivial, trivial⟩, trivial⟩⟩, trivial⟩⟩
  refine loopT_ok hb (V_z0f_0 n) (t_z0f_0 n) n s K r ?_
  rw [← h]
  unfold loopT
  simp only [i_z0f_0]
theorem m_z0f (n : Nat) (a0 : (List WayS)) (a1 : (List WayS)) : runFT Try.prog cf_z0f p_z0f (ls_z0f n) Try.f24 (bodyOf Try.f24) (EK.encs e_z0f ((a0, (a1, ())), ()).1) (HK.encs h_z0f ((a0, (a1, ())), ()).2) = M_z0f n a0 a1 := by kernel_rfl
theorem g_z0f (n : Nat) (a0 : (List WayS)) (a1 : (List WayS)) {r : Res} (h : M_z0f n a0 a1 = some r) : runF Try.prog cf_z0f n p_z0f 24 (EK.encs e_z0f ((a0, (a1, ())), ()).1) (HK.encs h_z0f ((a0, (a1, ())), ()).2) = some r := by
  have hb : LOk Try.prog cf_z0f Try.f24.ntmps 0 n p_z0f (ls_z0f n) (bodyOf Try.f24) := ⟨trivial, ⟨⟨trivial, ⟨⟨trivial, trivial⟩, trivial⟩⟩, ⟨⟨trivial, (o_z0f_0 n)⟩, ⟨trivial, trivial⟩⟩⟩⟩
  exact runFT_some Try.prog (c := bodyOf Try.f24) Try.func24 (show Try.f24.body = some (bodyOf Try.f24) from rfl) (show (2 : Nat) ≤ 26 by decide) hb ((m_z0f n a0 a1).trans h) rfl (by kernel_rfl)
noncomputable def c_z0f : Spec := specQ e_z0f h_z0f ro_z0f rh_z0f fun a b => Q_z0f a.1 a.2.1
theorem k_z0f (hm : Try.prog.follows .mixedOrders = true) : SpecOk Try.prog 24 c_z0f := specQ_ok (pol := p_z0f) hm (cf := cf_z0f) (tab_ok specs_nil) fun a b r h => ⟨FUEL, g_z0f FUEL a.1 a.2.1 (decRes_some h)⟩
def s_z0g_h0 : Sig := ⟨[3, 7, 8, 9], [.ty (.int .i64), .hs 0 0, .ty (.int .i64), .ty (.int .i64)], [.row WayT]⟩
def s_z0g_t0 : Sig := ⟨[3], [.ty (.int .i64)], []⟩
def s_z0g_r : Sig := ⟨[2], [.ty (.int .i64)], []⟩
def p_z0g : Pol := ⟨fun i => if i = 0 then some [(3, .keep), (7, (.own WayT)), (8, .keep), (9, .keep)] else none, fun i => if i = 0 then some [(3, .keep)] else none, some [(2, .keep)], [.keep], []⟩
def e_z0g : List EK := [.agg BlockT]
def h_z0g : List HK := []
noncomputable def cf_z0g : CallF := mkCF [(23, c_z0e)] [(23, [BlockT])]
noncomputable def ls_z0g (n : Nat) : Loops := fun i => if i = 0 then some (loopT 0 (p_z0g.head 0) s_z0g_h0 fun K v => L_z0g_0 n (fun z0 => K (.ex 0) (s_z0g_t0.enc ((z0, ()), ()))) v.1.2.1 v.1.2.2.1 v.2.1 n v.1.1 v.1.2.2.2.1)
  else  none
noncomputable def b_z0g_0 : Code := partOf (bodyOf Try.f26) [1, 1, 0, 1, 0, 0]
noncomputable def V_z0g_0 (n : Nat) (K : Cont) (rec : Sig.sem s_z0g_h0 → Option Res) (v : Sig.sem s_z0g_h0) : Option Res := F_z0g_0 n (fun z0 => K (.ex 0) (s_z0g_t0.enc ((z0, ()), ()))) v.1.2.1 v.1.2.2.1 v.2.1 (fun z0 z3 => rec ((z0, (v.1.2.1, (v.1.2.2.1, (z3, ())))), (v.2.1, ()))) v.1.1 v.1.2.2.2.1
theorem t_z0g_0 (n : Nat) (K : Cont) (rec : Sig.sem s_z0g_h0 → Option Res) (v : Sig.sem s_z0g_h0) : runT Try.prog cf_z0g Try.f26.ntmps 0 p_z0g (ls_z0g n) b_z0g_0 (s_z0g_h0.enc v) (turnK 0 (p_z0g.head 0) s_z0g_h0 rec K) = V_z0g_0 n K rec v := by kernel_rfl
noncomputable def W_z0g_0 (n : Nat) (K : Cont) (m : Nat) (v : Sig.sem s_z0g_h0) : Option Res := L_z0g_0 n (fun z0 => K (.ex 0) (s_z0g_t0.enc ((z0, ()), ()))) v.1.2.1 v.1.2.2.1 v.2.1 m v.1.1 v.1.2.2.2.1
theorem i_z0g_0 (n : Nat) (K : Cont) : ∀ m v, iter (V_z0g_0 n K) m v = W_z0g_0 n K m v := by
  intro m
  induction m with
  | zero => intro v; rfl
  | succ m ih =>
    intro v
    show V_z0g_0 n K (iter (V_z0g_0 n K) m) v = V_z0g_0 n K (W_z0g_0 n K m) v
    rw [show iter (V_z0g_0 n K) m = W_z0g_0 n K m from funext ih]
theorem o_z0g_0 (n : Nat) : ∀ L, ls_z0g n 0 = some L → ∀ s K r, L s K = some r → ∃ x s', loopN (run Try.prog cf_z0g Try.f26.ntmps 0 n p_z0g none b_z0g_0) (gc 0 (p_z0g.head 0)) n s = some (x, s') ∧ K x s' = some r := by
  intro L hL s K r h
  have hL : some (loopT 0 (p_z0g.head 0) s_z0g_h0 fun K v => W_z0g_0 n K n v) = some L := hL
  cases hL
  have hb : LOk Try.prog cf_z0g Try.f26.ntmps 0 n p_z0g (ls_z0g n) b_z0g_0 := ⟨trivial, ⟨⟨trivial, trivial⟩, ⟨⟨trivial, trivial⟩, trivial⟩⟩⟩
  refine loopT_ok hb (V_z0g_0 n) (t_z0g_0 n) n s K r ?_
  rw [← h]
  unfold loopT
  simp only [i_z0g_0]
theorem m_z0g (n : Nat) (a0 : BlockS) : runFT Try.prog cf_z0g p_z0g (ls_z0g n) Try.f26 (bodyOf Try.f26) (EK.encs e_z0g ((a0, ()), ()).1) (HK.encs h_z0g ((a0, ()), ()).2) = M_z0g n a0 := by kernel_rfl
theorem g_z0g (n : Nat) (a0 : BlockS) {r : Res} (h : M_z0g n a0 = some r) : runF Try.prog cf_z0g n p_z0g 26 (EK.encs e_z0g ((a0, ()), ()).1) (HK.encs h_z0g ((a0, ()), ()).2) = some r := by
  have hb : LOk Try.prog cf_z0g Try.f26.ntmps 0 n p_z0g (ls_z0g n) (bodyOf Try.f26) := ⟨trivial, ⟨trivial, ⟨⟨trivial, (o_z0g_0 n)⟩, ⟨trivial, trivial⟩⟩⟩⟩
  exact runFT_some Try.prog (c := bodyOf Try.f26) Try.func26 (show Try.f26.body = some (bodyOf Try.f26) from rfl) (show (1 : Nat) ≤ 19 by decide) hb ((m_z0g n a0).trans h) rfl (by kernel_rfl)
noncomputable def c_z0g : Spec := specQ e_z0g h_z0g ro_z0g rh_z0g fun a b => Q_z0g a.1
theorem k_z0g (hm : Try.prog.follows .mixedOrders = true) : SpecOk Try.prog 26 c_z0g := specQ_ok (pol := p_z0g) hm (cf := cf_z0g) (tab_ok (specs_cons (k_z0e hm) specs_nil)) fun a b r h => ⟨FUEL, g_z0g FUEL a.1 (decRes_some h)⟩
def s_z0h_r : Sig := ⟨[0], [.ty .bool], []⟩
def p_z0h : Pol := ⟨fun i => none, fun i => none, some [(0, .keep)], [.keep], []⟩
def e_z0h : List EK := []
def h_z0h : List HK := []
noncomputable def cf_z0h : CallF := mkCF [(18, c_z02), (12, c_z07), (15, c_z08), (14, c_z09), (23, c_z0e), (24, c_z0f), (17, c_z0b), (26, c_z0g)] [(18, [(.int .u64)]), (12, [InstrT]), (15, [InstrT]), (14, [(.slice NameT), (.slice NameT)]), (23, [BlockT]), (24, [(.slice WayT), (.slice WayT)]), (17, [BlockT]), (26, [BlockT])]
noncomputable def ls_z0h (n : Nat) : Loops := fun i =>  none
theorem m_z0h (n : Nat) : runFT Try.prog cf_z0h p_z0h (ls_z0h n) Try.f11 (bodyOf Try.f11) (EK.encs e_z0h ((), ()).1) (HK.encs h_z0h ((), ()).2) = M_z0h n := by kernel_rfl
theorem g_z0h (n : Nat) {r : Res} (h : M_z0h n = some r) : runF Try.prog cf_z0h n p_z0h 11 (EK.encs e_z0h ((), ()).1) (HK.encs h_z0h ((), ()).2) = some r := by
  have hb : LOk Try.prog cf_z0h Try.f11.ntmps 0 n p_z0h (ls_z0h n) (bodyOf Try.f11) := ⟨trivial, ⟨trivial, ⟨trivial, ⟨trivial, ⟨trivial, ⟨trivial, ⟨trivial, ⟨trivial, trivial⟩⟩⟩⟩⟩⟩⟩⟩
  exact runFT_some Try.prog (c := bodyOf Try.f11) Try.func11 (show Try.f11.body = some (bodyOf Try.f11) from rfl) (show (0 : Nat) ≤ 60 by decide) hb ((m_z0h n).trans h) rfl (by kernel_rfl)
noncomputable def c_z0h : Spec := specQ e_z0h h_z0h ro_z0h rh_z0h fun a b => Q_z0h
theorem k_z0h (hm : Try.prog.follows .mixedOrders = true) : SpecOk Try.prog 11 c_z0h := specQ_ok (pol := p_z0h) hm (cf := cf_z0h) (tab_ok (specs_cons (k_z02 hm) (specs_cons (k_z07 hm) (specs_cons (k_z08 hm) (specs_cons (k_z09 hm) (specs_cons (k_z0e hm) (specs_cons (k_z0f hm) (specs_cons (k_z0b hm) (specs_cons (k_z0g hm) specs_nil))))))))) fun a b r h => ⟨FUEL, g_z0h FUEL (decRes_some h)⟩
def s_z0i_r : Sig := ⟨[2], [.ptr 0 0 0], [.cell ArgT]⟩
def p_z0i : Pol := ⟨fun i => none, fun i => none, some [(2, (.own ArgT))], [.keep], []⟩
def e_z0i : List EK := [.ty (.int .u64)]
def h_z0i : List HK := []
noncomputable def cf_z0i : CallF := mkCF [] []
noncomputable def ls_z0i (n : Nat) : Loops := fun i =>  none
theorem m_z0i (n : Nat) (a0 : Int) : runFT Try.prog cf_z0i p_z0i (ls_z0i n) Try.f19 (bodyOf Try.f19) (EK.encs e_z0i ((a0, ()), ()).1) (HK.encs h_z0i ((a0, ()), ()).2) = M_z0i n a0 := by kernel_rfl
theorem g_z0i (n : Nat) (a0 : Int) {r : Res} (h : M_z0i n a0 = some r) : runF Try.prog cf_z0i n p_z0i 19 (EK.encs e_z0i ((a0, ()), ()).1) (HK.encs h_z0i ((a0, ()), ()).2) = some r := by
  have hb : LOk Try.prog cf_z0i Try.f19.ntmps 0 n p_z0i (ls_z0i n) (bodyOf Try.f19) := ⟨trivial, ⟨trivial, trivial⟩⟩
  exact runFT_some Try.prog (c := bodyOf Try.f19) Try.func19 (show Try.f19.body = some (bodyOf Try.f19) from rfl) (show (1 : Nat) ≤ 5 by decide) hb ((m_z0i n a0).trans h) rfl (by kernel_rfl)
noncomputable def c_z0i : Spec := specQ e_z0i h_z0i ro_z0i rh_z0i fun a b => Q_z0i a.1
theorem k_z0i (hm : Try.prog.follows .mixedOrders = true) : SpecOk Try.prog 19 c_z0i := specQ_ok (pol := p_z0i) hm (cf := cf_z0i) (tab_ok specs_nil) fun a b r h => ⟨FUEL, g_z0i FUEL a.1 (decRes_some h)⟩
def s_z0j_r : Sig := ⟨[2], [.ptr 0 0 0], [.cell InstrT]⟩
def p_z0j : Pol := ⟨fun i => none, fun i => none, some [(2, (.own InstrT))], [.keep], []⟩
def e_z0j : List EK := [.ty (.int .u8)]
def h_z0j : List HK := []
noncomputable def cf_z0j : CallF := mkCF [(18, c_z02), (19, c_z0i)] [(18, [(.int .u64)]), (19, [(.int .u64)])]
noncomputable def ls_z0j (n : Nat) : Loops := fun i =>  none
theorem m_z0j (n : Nat) (a0 : Int) : runFT Try.prog cf_z0j p_z0j (ls_z0j n) Try.f13 (bodyOf Try.f13) (EK.encs e_z0j ((a0, ()), ()).1) (HK.encs h_z0j ((a0, ()), ()).2) = M_z0j n a0 := by kernel_rfl
theorem g_z0j (n : Nat) (a0 : Int) {r : Res} (h : M_z0j n a0 = some r) : runF Try.prog cf_z0j n p_z0j 13 (EK.encs e_z0j ((a0, ()), ()).1) (HK.encs h_z0j ((a0, ()), ()).2) = some r := by
  have hb : LOk Try.prog cf_z0j Try.f13.ntmps 0 n p_z0j (ls_z0j n) (bodyOf Try.f13) := ⟨trivial, ⟨trivial, ⟨⟨trivial, ⟨⟨trivial, ⟨trivial, ⟨trivial, ⟨trivial, ⟨trivial, ⟨trivial, ⟨trivial, ⟨trivial, ⟨trivial, ⟨trivial, ⟨trivial, ⟨trivial, ⟨trivial, ⟨trivial, trivial⟩⟩⟩⟩⟩⟩⟩⟩⟩⟩⟩⟩⟩⟩, ⟨trivial, ⟨⟨trivial, ⟨trivial, trivial⟩⟩, ⟨trivial, ⟨trivial, ⟨trivial, ⟨trivial, ⟨trivial, ⟨⟨trivial, ⟨trivial, ⟨trivial, ⟨trivial, trivial⟩⟩⟩⟩, ⟨trivial, ⟨trivial, ⟨trivial, ⟨trivial, ⟨trivial, ⟨⟨trivial, ⟨trivial, trivial⟩⟩, ⟨trivial, ⟨trivial, ⟨trivial, trivial⟩⟩⟩⟩⟩⟩⟩⟩⟩⟩⟩⟩⟩⟩⟩⟩⟩⟩⟩, ⟨trivial, trivial⟩⟩⟩⟩
  exact runFT_some Try.prog (c := bodyOf Try.f13) Try.func13 (show Try.f13.body = some (bodyOf Try.f13) from rfl) (show (1 : Nat) ≤ 65 by decide) hb ((m_z0j n a0).trans h) rfl (by kernel_rfl)
noncomputable def c_z0j : Spec := specQ e_z0j h_z0j ro_z0j rh_z0j fun a b => Q_z0j a.1
theorem k_z0j (hm : Try.prog.follows .mixedOrders = true) : SpecOk Try.prog 13 c_z0j := specQ_ok (pol := p_z0j) hm (cf := cf_z0j) (tab_ok (specs_cons (k_z02 hm) (specs_cons (k_z0i hm) specs_nil))) fun a b r h => ⟨FUEL, g_z0j FUEL a.1 (decRes_some h)⟩
def s_z0k_r : Sig := ⟨[2], [.ty .bool], []⟩
def p_z0k : Pol := ⟨fun i => none, fun i => none, some [(2, .keep)], [.keep], []⟩
def e_z0k : List EK := [.ty (.int .i64)]
def h_z0k : List HK := []
noncomputable def cf_z0k : CallF := mkCF [] []
noncomputable def ls_z0k (n : Nat) : Loops := fun i =>  none
theorem m_z0k (n : Nat) (a0 : Int) : runFT Try.prog cf_z0k p_z0k (ls_z0k n) Try.f37 (bodyOf Try.f37) (EK.encs e_z0k ((a0, ()), ()).1) (HK.encs h_z0k ((a0, ()), ()).2) = M_z0k n a0 := by kernel_rfl
theorem g_z0k (n : Nat) (a0 : Int) {r : Res} (h : M_z0k n a0 = some r) : runF Try.prog cf_z0k n p_z0k 37 (EK.encs e_z0k ((a0, ()), ()).1) (HK.encs h_z0k ((a0, ()), ()).2) = some r := by
  have hb : LOk Try.prog cf_z0k Try.f37.ntmps 0 n p_z0k (ls_z0k n) (bodyOf Try.f37) := ⟨trivial, ⟨trivial, trivial⟩⟩
  exact runFT_some Try.prog (c := bodyOf Try.f37) Try.func37 (show Try.f37.body = some (bodyOf Try.f37) from rfl) (show (1 : Nat) ≤ 9 by decide) hb ((m_z0k n a0).trans h) rfl (by kernel_rfl)
noncomputable def c_z0k : Spec := specQ e_z0k h_z0k ro_z0k rh_z0k fun a b => Q_z0k a.1
theorem k_z0k (hm : Try.prog.follows .mixedOrders = true) : SpecOk Try.prog 37 c_z0k := specQ_ok (pol := p_z0k) hm (cf := cf_z0k) (tab_ok specs_nil) fun a b r h => ⟨FUEL, g_z0k FUEL a.1 (decRes_some h)⟩
def s_z0l_r : Sig := ⟨[2], [.ty .bool], []⟩
def p_z0l : Pol := ⟨fun i => none, fun i => none, some [(2, .keep)], [.keep], []⟩
def e_z0l : List EK := [.agg ArgT]
def h_z0l : List HK := []
noncomputable def cf_z0l : CallF := mkCF [] []
noncomputable def ls_z0l (n : Nat) : Loops := fun i =>  none
theorem m_z0l (n : Nat) (a0 : ArgS) : runFT Try.prog cf_z0l p_z0l (ls_z0l n) Try.f38 (bodyOf Try.f38) (EK.encs e_z0l ((a0, ()), ()).1) (HK.encs h_z0l ((a0, ()), ()).2) = M_z0l n a0 := by kernel_rfl
theorem g_z0l (n : Nat) (a0 : ArgS) {r : Res} (h : M_z0l n a0 = some r) : runF Try.prog cf_z0l n p_z0l 38 (EK.encs e_z0l ((a0, ()), ()).1) (HK.encs h_z0l ((a0, ()), ()).2) = some r := by
  have hb : LOk Try.prog cf_z0l Try.f38.ntmps 0 n p_z0l (ls_z0l n) (bodyOf Try.f38) := ⟨trivial, ⟨⟨trivial, ⟨trivial, ⟨⟨trivial, trivial⟩, ⟨trivial, ⟨⟨trivial, trivial⟩, ⟨trivial, ⟨⟨trivial, trivial⟩, trivial⟩⟩⟩⟩⟩⟩⟩, ⟨trivial, trivial⟩⟩⟩
  exact runFT_some Try.prog (c := bodyOf Try.f38) Try.func38 (show Try.f38.body = some (bodyOf Try.f38) from rfl) (show (1 : Nat) ≤ 35 by decide) hb ((m_z0l n a0).trans h) rfl (by kernel_rfl)
noncomputable def c_z0l : Spec := specQ e_z0l h_z0l ro_z0l rh_z0l fun a b => Q_z0l a.1
theorem k_z0l (hm : Try.prog.follows .mixedOrders = true) : SpecOk Try.prog 38 c_z0l := specQ_ok (pol := p_z0l) hm (cf := cf_z0l) (tab_ok specs_nil) fun a b r h => ⟨FUEL, g_z0l FUEL a.1 (decRes_some h)⟩
def s_z0m_r : Sig := ⟨[2], [.ty .bool], []⟩
def p_z0m : Pol := ⟨fun i => none, fun i => none, some [(2, .keep)], [.keep], []⟩
def e_z0m : List EK := [.agg ArgT]
def h_z0m : List HK := []
noncomputable def cf_z0m : CallF := mkCF [] []
noncomputable def ls_z0m (n : Nat) : Loops := fun i =>  none
theorem m_z0m (n : Nat) (a0 : ArgS) : runFT Try.prog cf_z0m p_z0m (ls_z0m n) Try.f39 (bodyOf Try.f39) (EK.encs e_z0m ((a0, ()), ()).1) (HK.encs h_z0m ((a0, ()), ()).2) = M_z0m n a0 := by kernel_rfl
theorem g_z0m (n : Nat) (a0 : ArgS) {r : Res} (h : M_z0m n a0 = some r) : runF Try.prog cf_z0m n p_z0m 39 (EK.encs e_z0m ((a0, ()), ()).1) (HK.encs h_z0m ((a0, ()), ()).2) = some r := by
  have hb : LOk Try.prog cf_z0m Try.f39.ntmps 0 n p_z0m (ls_z0m n) (bodyOf Try.f39) := ⟨trivial, ⟨trivial, trivial⟩⟩
  exact runFT_some Try.prog (c := bodyOf Try.f39) Try.func39 (show Try.f39.body = some (bodyOf Try.f39) from rfl) (show (1 : Nat) ≤ 11 by decide) hb ((m_z0m n a0).trans h) rfl (by kernel_rfl)
noncomputable def c_z0m : Spec := specQ e_z0m h_z0m ro_z0m rh_z0m fun a b => Q_z0m a.1
theorem k_z0m (hm : Try.prog.follows .mixedOrders = true) : SpecOk Try.prog 39 c_z0m := specQ_ok (pol := p_z0m) hm (cf := cf_z0m) (tab_ok specs_nil) fun a b r h => ⟨FUEL, g_z0m FUEL a.1 (decRes_some h)⟩
def s_z0n_r : Sig := ⟨[2], [.ty .bool], []⟩
def p_z0n : Pol := ⟨fun i => none, fun i => none, some [(2, .keep)], [.keep], []⟩
def e_z0n : List EK := [.agg InstrT]
def h_z0n : List HK := []
noncomputable def cf_z0n : CallF := mkCF [(37, c_z0k), (38, c_z0l), (39, c_z0m)] [(37, [(.int .i64)]), (38, [ArgT]), (39, [ArgT])]
noncomputable def ls_z0n (n : Nat) : Loops := fun i =>  none
theorem m_z0n (n : Nat) (a0 : InstrS) : runFT Try.prog cf_z0n p_z0n (ls_z0n n) Try.f21 (bodyOf Try.f21) (EK.encs e_z0n ((a0, ()), ()).1) (HK.encs h_z0n ((a0, ()), ()).2) = M_z0n n a0 := by kernel_rfl
theorem g_z0n (n : Nat) (a0 : InstrS) {r : Res} (h : M_z0n n a0 = some r) : runF Try.prog cf_z0n n p_z0n 21 (EK.encs e_z0n ((a0, ()), ()).1) (HK.encs h_z0n ((a0, ()), ()).2) = some r := by
  have hb : LOk Try.prog cf_z0n Try.f21.ntmps 0 n p_z0n (ls_z0n n) (bodyOf Try.f21) := ⟨trivial, ⟨⟨trivial, ⟨⟨trivial, ⟨trivial, ⟨trivial, ⟨trivial, ⟨trivial, ⟨trivial, ⟨trivial, ⟨trivial, ⟨trivial, ⟨trivial, ⟨trivial, ⟨trivial, ⟨trivial, ⟨trivial, trivial⟩⟩⟩⟩⟩⟩⟩⟩⟩⟩⟩⟩⟩⟩, ⟨⟨trivial, trivial⟩, ⟨⟨trivial, ⟨trivial, trivial⟩⟩, ⟨⟨trivial, trivial⟩, ⟨trivial, ⟨⟨trivial, trivial⟩, ⟨trivial, ⟨⟨trivial, trivial⟩, ⟨⟨trivial, ⟨trivial, ⟨trivial, ⟨trivial, trivial⟩⟩⟩⟩, ⟨⟨trivial, trivial⟩, ⟨trivial, ⟨⟨trivial, trivial⟩, ⟨trivial, ⟨⟨trivial, trivial⟩, ⟨⟨trivial, ⟨trivial, trivial⟩⟩, ⟨⟨trivial, trivial⟩, ⟨trivial, ⟨⟨trivial, trivial⟩, ⟨trivial, ⟨⟨trivial, trivial⟩, ⟨⟨trivial, ⟨trivial, trivial⟩⟩, ⟨⟨trivial, trivial⟩, trivial⟩⟩⟩⟩⟩⟩⟩⟩⟩⟩⟩⟩⟩⟩⟩⟩⟩⟩⟩⟩⟩⟩⟩, ⟨trivial, trivial⟩⟩⟩
  exact runFT_some Try.prog (c := bodyOf Try.f21) Try.func21 (show Try.f21.body = some (bodyOf Try.f21) from rfl) (show (1 : Nat) ≤ 268 by decide) hb ((m_z0n n a0).trans h) rfl (by kernel_rfl)
noncomputable def c_z0n : Spec := specQ e_z0n h_z0n ro_z0n rh_z0n fun a b => Q_z0n a.1
theorem k_z0n (hm : Try.prog.follows .mixedOrders = true) : SpecOk Try.prog 21 c_z0n := specQ_ok (pol := p_z0n) hm (cf := cf_z0n) (tab_ok (specs_cons (k_z0k hm) (specs_cons (k_z0l hm) (specs_cons (k_z0m hm) specs_nil)))) fun a b r h => ⟨FUEL, g_z0n FUEL a.1 (decRes_some h)⟩
def s_z0o_r : Sig := ⟨[2], [.hs 0 0], [.row NameT]⟩
def p_z0o : Pol := ⟨fun i => none, fun i => none, some [(2, (.own NameT))], [(.own NameT)], []⟩
def e_z0o : List EK := [.agg InstrT]
def h_z0o : List HK := []
noncomputable def cf_z0o : CallF := mkCF [(21, c_z0n)] [(21, [InstrT])]
noncomputable def ls_z0o (n : Nat) : Loops := fun i =>  none
theorem m_z0o (n : Nat) (a0 : InstrS) : runFT Try.prog cf_z0o p_z0o (ls_z0o n) Try.f16 (bodyOf Try.f16) (EK.encs e_z0o ((a0, ()), ()).1) (HK.encs h_z0o ((a0, ()), ()).2) = M_z0o n a0 := by kernel_rfl
theorem g_z0o (n : Nat) (a0 : InstrS) {r : Res} (h : M_z0o n a0 = some r) : runF Try.prog cf_z0o n p_z0o 16 (EK.encs e_z0o ((a0, ()), ()).1) (HK.encs h_z0o ((a0, ()), ()).2) = some r := by
  have hb : LOk Try.prog cf_z0o Try.f16.ntmps 0 n p_z0o (ls_z0o n) (bodyOf Try.f16) := ⟨trivial, ⟨trivial, ⟨⟨trivial, ⟨⟨trivial, trivial⟩, trivial⟩⟩, ⟨⟨trivial, ⟨trivial, trivial⟩⟩, ⟨⟨trivial, ⟨trivial, trivial⟩⟩, ⟨⟨trivial, ⟨trivial, trivial⟩⟩, ⟨⟨trivial, ⟨trivial, ⟨trivial, ⟨trivial, ⟨trivial, ⟨trivial, ⟨trivial, ⟨trivial, ⟨trivial, ⟨⟨trivial, ⟨trivial, ⟨trivial, ⟨trivial, trivial⟩⟩⟩⟩, ⟨trivial, trivial⟩⟩⟩⟩⟩⟩⟩⟩⟩⟩⟩, ⟨trivial, trivial⟩⟩⟩⟩⟩⟩⟩⟩
  exact runFT_some Try.prog (c := bodyOf Try.f16) Try.func16 (show Try.f16.body = some (bodyOf Try.f16) from rfl) (show (1 : Nat) ≤ 90 by decide) hb ((m_z0o n a0).trans h) rfl (by kernel_rfl)
noncomputable def c_z0o : Spec := specQ e_z0o h_z0o ro_z0o rh_z0o fun a b => Q_z0o a.1
theorem k_z0o (hm : Try.prog.follows .mixedOrders = true) : SpecOk Try.prog 16 c_z0o := specQ_ok (pol := p_z0o) hm (cf := cf_z0o) (tab_ok (specs_cons (k_z0n hm) specs_nil)) fun a b r h => ⟨FUEL, g_z0o FUEL a.1 (decRes_some h)⟩
def s_z0p_r : Sig := ⟨[2], [.ty .bool], []⟩
def s_z0p_h0 : Sig := ⟨[1, 3], [.ptr 0 0 0, .ty (.int .i64)], [.cell BlockT]⟩
def s_z0p_t0 : Sig := ⟨[], [], []⟩
def p_z0p : Pol := ⟨fun i => if i = 0 then some [(1, (.own BlockT)), (3, .keep)] else none, fun i => if i = 0 then some [] else none, some [(2, .keep)], [.keep], []⟩
def e_z0p : List EK := [.agg BlockT]
def h_z0p : List HK := []
noncomputable def cf_z0p : CallF := mkCF [(37, c_z0k), (21, c_z0n)] [(37, [(.int .i64)]), (21, [InstrT])]
noncomputable def ls_z0p (n : Nat) : Loops := fun i => if i = 0 then some (loopT 0 (p_z0p.head 0) s_z0p_h0 fun K v => L_z0p_0 n (fun z0 => K .rt (s_z0p_r.enc ((z0, ()), ()))) (fun _ => K (.ex 0) (s_z0p_t0.enc ((), ()))) v.2.1 n v.1.2.1)
  else  none
noncomputable def b_z0p_0 : Code := partOf (bodyOf Try.f25) [1, 1, 0, 1, 0, 0]
noncomputable def V_z0p_0 (n : Nat) (K : Cont) (rec : Sig.sem s_z0p_h0 → Option Res) (v : Sig.sem s_z0p_h0) : Option Res := F_z0p_0 n (fun z0 => K .rt (s_z0p_r.enc ((z0, ()), ()))) (fun _ => K (.ex 0) (s_z0p_t0.enc ((), ()))) v.2.1 (fun z0 => rec (((), (z0, ())), (v.2.1, ()))) v.1.2.1
theorem t_z0p_0 (n : Nat) (K : Cont) (rec : Sig.sem s_z0p_h0 → Option Res) (v : Sig.sem s_z0p_h0) : runT Try.prog cf_z0p Try.f25.ntmps 0 p_z0p (ls_z0p n) b_z0p_0 (s_z0p_h0.enc v) (turnK 0 (p_z0p.head 0) s_z0p_h0 rec K) = V_z0p_0 n K rec v := by kernel_rfl
noncomputable def W_z0p_0 (n : Nat) (K : Cont) (m : Nat) (v : Sig.sem s_z0p_h0) : Option Res := L_z0p_0 n (fun z0 => K .rt (s_z0p_r.enc ((z0, ()), ()))) (fun _ => K (.ex 0) (s_z0p_t0.enc ((), ()))) v.2.1 m v.1.2.1
theorem i_z0p_0 (n : Nat) (K : Cont) : ∀ m v, iter (V_z0p_0 n K) m v = W_z0p_0 n K m v := by
  intro m
  induction m with
  | zero => intro v; rfl
  | succ m ih =>
    intro v
    show V_z0p_0 n K (iter (V_z0p_0 n K) m) v = V_z0p_0 n K (W_z0p_0 n K m) v
    rw [show iter (V_z0p_0 n K) m = W_z0p_0 n K m from funext ih]
theorem o_z0p_0 (n : Nat) : ∀ L, ls_z0p n 0 = some L → ∀ s K r, L s K = some r → ∃ x s', loopN (run Try.prog cf_z0p Try.f25.ntmps 0 n p_z0p none b_z0p_0) (gc 0 (p_z0p.head 0)) n s = some (x, s') ∧ K x s' = some r := by
  intro L hL s K r h
  have hL : some (loopT 0 (p_z0p.head 0) s_z0p_h0 fun K v => W_z0p_0 n K n v) = some L := hL
  cases hL
  have hb : LOk Try.prog cf_z0p Try.f25.ntmps 0 n p_z0p (ls_z0p n) b_z0p_0 := ⟨⟨trivial, ⟨trivial, trivial⟩⟩, ⟨⟨trivial, ⟨⟨trivial, trivial⟩, trivial⟩⟩, trivial⟩⟩
  refine loopT_ok hb (V_z0p_0 n) (t_z0p_0 n) n s K r ?_
  rw [← h]
  unfold loopT
  simp only [i_z0p_0]
theorem m_z0p (n : Nat) (a0 : BlockS) : runFT Try.prog cf_z0p p_z0p (ls_z0p n) Try.f25 (bodyOf Try.f25) (EK.encs e_z0p ((a0, ()), ()).1) (HK.encs h_z0p ((a0, ()), ()).2) = M_z0p n a0 := by kernel_rfl
theorem g_z0p (n : Nat) (a0 : BlockS) {r : Res} (h : M_z0p n a0 = some r) : runF Try.prog cf_z0p n p_z0p 25 (EK.encs e_z0p ((a0, ()), ()).1) (HK.encs h_z0p ((a0, ()), ()).2) = some r := by
  have hb : LOk Try.prog cf_z0p Try.f25.ntmps 0 n p_z0p (ls_z0p n) (bodyOf Try.f25) := ⟨trivial, ⟨⟨trivial, ⟨⟨trivial, trivial⟩, trivial⟩⟩, ⟨⟨trivial, (o_z0p_0 n)⟩, ⟨trivial, trivial⟩⟩⟩⟩
  exact runFT_some Try.prog (c := bodyOf Try.f25) Try.func25 (show Try.f25.body = some (bodyOf Try.f25) from rfl) (show (1 : Nat) ≤ 52 by decide) hb ((m_z0p n a0).trans h) rfl (by kernel_rfl)
noncomputable def c_z0p : Spec := specQ e_z0p h_z0p ro_z0p rh_z0p fun a b => Q_z0p a.1
theorem k_z0p (hm : Try.prog.follows .mixedOrders = true) : SpecOk Try.prog 25 c_z0p := specQ_ok (pol := p_z0p) hm (cf := cf_z0p) (tab_ok (specs_cons (k_z0k hm) (specs_cons (k_z0n hm) specs_nil))) fun a b r h => ⟨FUEL, g_z0p FUEL a.1 (decRes_some h)⟩
def s_z0q_h0 : Sig := ⟨[0, 3, 5, 6, 7], [.ty (.slice WayT), .ptr 0 0 0, .hs 1 0, .ty .bool, .ty (.int .i64)], [.cell WayT, .row WayT]⟩
def s_z0q_t0 : Sig := ⟨[3, 5, 6], [.ptr 0 0 0, .hs 1 0, .ty .bool], [.cell WayT, .row WayT]⟩
def s_z0q_r : Sig := ⟨[4], [.hs 0 0], [.row WayT]⟩
def p_z0q : Pol := ⟨fun i => if i = 0 then some [(0, .keep), (3, (.own WayT)), (5, (.own WayT)), (6, .keep), (7, .keep)] else none, fun i => if i = 0 then some [(3, (.own WayT)), (5, (.own WayT)), (6, .keep)] else none, some [(4, (.own WayT))], [(.own WayT)], []⟩
def e_z0q : List EK := [.ty (.slice WayT), .agg WayT]
def h_z0q : List HK := []
noncomputable def cf_z0q : CallF := mkCF [] []
noncomputable def ls_z0q (n : Nat) : Loops := fun i => if i = 0 then some (loopT 0 (p_z0q.head 0) s_z0q_h0 fun K v => L_z0q_0 n (fun z0 z1 z3 => K (.ex 0) (s_z0q_t0.enc (((), (z0, (z1, ()))), (v.2.1, (z3, ()))))) v.1.1 v.2.1 n v.1.2.2.1 v.1.2.2.2.1 v.1.2.2.2.2.1 v.2.2.1)
  else  none
noncomputable def b_z0q_0 : Code := partOf (bodyOf Try.f48) [1, 1, 1, 0, 1, 0, 0]
noncomputable def V_z0q_0 (n : Nat) (K : Cont) (rec : Sig.sem s_z0q_h0 → Option Res) (v : Sig.sem s_z0q_h0) : Option Res := F_z0q_0 n (fun z0 z1 z3 => K (.ex 0) (s_z0q_t0.enc (((), (z0, (z1, ()))), (v.2.1, (z3, ()))))) v.1.1 v.2.1 (fun z1 z2 z3 z5 => rec ((v.1.1, ((), (z1, (z2, (z3, ()))))), (v.2.1, (z5, ())))) v.1.2.2.1 v.1.2.2.2.1 v.1.2.2.2.2.1 v.2.2.1
theorem t_z0q_0 (n : Nat) (K : Cont) (rec : Sig.sem s_z0q_h0 → Option Res) (v : Sig.sem s_z0q_h0) : runT Try.prog cf_z0q Try.f48.ntmps 0 p_z0q (ls_z0q n) b_z0q_0 (s_z0q_h0.enc v) (turnK 0 (p_z0q.head 0) s_z0q_h0 rec K) = V_z0q_0 n K rec v := by kernel_rfl
noncomputable def W_z0q_0 (n : Nat) (K : Cont) (m : Nat) (v : Sig.sem s_z0q_h0) : Option Res := L_z0q_0 n (fun z0 z1 z3 => K (.ex 0) (s_z0q_t0.enc (((), (z0, (z1, ()))), (v.2.1, (z3, ()))))) v.1.1 v.2.1 m v.1.2.2.1 v.1.2.2.2.1 v.1.2.2.2.2.1 v.2.2.1
theorem i_z0q_0 (n : Nat) (K : Cont) : ∀ m v, iter (V_z0q_0 n K) m v = W_z0q_0 n K m v := by
  intro m
  induction m with
  | zero => intro v; rfl
  | succ m ih =>
    intro v
    show V_z0q_0 n K (iter (V_z0q_0 n K) m) v = V_z0q_0 n K (W_z0q_0 n K m) v
    rw [show iter (V_z0q_0 n K) m = W_z0q_0 n K m from funext ih]
theorem o_z0q_0 (n : Nat) : ∀ L, ls_z0q n 0 = some L → ∀ s K r, L s K = some r → ∃ x s', loopN (run Try.prog cf_z0q Try.f48.ntmps 0 n p_z0q none b_z0q_0) (gc 0 (p_z0q.head 0)) n s = some (x, s') ∧ K x s' = some r := by
  intro L hL s K r h
  have hL : some (loopT 0 (p_z0q.head 0) s_z0q_h0 fun K v => W_z0q_0 n K n v) = some L := hL
  cases hL
  have hb : LOk Try.prog cf_z0q Try.f48.ntmps 0 n p_z0q (ls_z0q n) b_z0q_0 := ⟨⟨trivial, ⟨trivial, trivial⟩⟩, ⟨⟨trivial, ⟨⟨trivial, ⟨⟨trivial, trivial⟩, ⟨trivial, ⟨⟨trivial, trivial⟩, trivial⟩⟩⟩⟩, trivial⟩⟩, trivial⟩⟩
  refine loopT_ok hb (V_z0q_0 n) (t_z0q_0 n) n s K r ?_
  rw [← h]
  unfold loopT
  simp only [i_z0q_0]
theorem m_z0q (n : Nat) (a0 : (List WayS)) (a1 : WayS) : runFT Try.prog cf_z0q p_z0q (ls_z0q n) Try.f48 (bodyOf Try.f48) (EK.encs e_z0q ((a0, (a1, ())), ()).1) (HK.encs h_z0q ((a0, (a1, ())), ()).2) = M_z0q n a0 a1 := by kernel_rfl
theorem g_z0q (n : Nat) (a0 : (List WayS)) (a1 : WayS) {r : Res} (h : M_z0q n a0 a1 = some r) : runF Try.prog cf_z0q n p_z0q 48 (EK.encs e_z0q ((a0, (a1, ())), ()).1) (HK.encs h_z0q ((a0, (a1, ())), ()).2) = some r := by
  have hb : LOk Try.prog cf_z0q Try.f48.ntmps 0 n p_z0q (ls_z0q n) (bodyOf Try.f48) := ⟨trivial, ⟨trivial, ⟨trivial, ⟨⟨trivial, (o_z0q_0 n)⟩, ⟨⟨trivial, ⟨trivial, trivial⟩⟩, ⟨trivial, trivial⟩⟩⟩⟩⟩⟩
  exact runFT_some Try.prog (c := bodyOf Try.f48) Try.func48 (show Try.f48.body = some (bodyOf Try.f48) from rfl) (show (2 : Nat) ≤ 75 by decide) hb ((m_z0q n a0 a1).trans h) rfl (by kernel_rfl)
noncomputable def c_z0q : Spec := specQ e_z0q h_z0q ro_z0q rh_z0q fun a b => Q_z0q a.1 a.2.1
theorem k_z0q (hm : Try.prog.follows .mixedOrders = true) : SpecOk Try.prog 48 c_z0q := specQ_ok (pol := p_z0q) hm (cf := cf_z0q) (tab_ok specs_nil) fun a b r h => ⟨FUEL, g_z0q FUEL a.1 a.2.1 (decRes_some h)⟩
def s_z0r_h0 : Sig := ⟨[0, 1, 5], [.ty (.slice WayT), .ty (.slice WayT), .ty (.int .i64)], []⟩
def s_z0r_t0 : Sig := ⟨[0], [.ty (.slice WayT)], []⟩
def s_z0r_r : Sig := ⟨[4], [.ty (.slice WayT)], []⟩
def p_z0r : Pol := ⟨fun i => if i = 0 then some [(0, (.data (.slice WayT))), (1, .keep), (5, .keep)] else none, fun i => if i = 0 then some [(0, (.data (.slice WayT)))] else none, some [(4, .keep)], [.keep], []⟩
def e_z0r : List EK := [.ty (.slice WayT), .ty (.slice WayT)]
def h_z0r : List HK := []
noncomputable def cf_z0r : CallF := mkCF [(48, c_z0q)] [(48, [(.slice WayT), WayT])]
noncomputable def ls_z0r (n : Nat) : Loops := fun i => if i = 0 then some (loopT 0 (p_z0r.head 0) s_z0r_h0 fun K v => L_z0r_0 n (fun z0 => K (.ex 0) (s_z0r_t0.enc ((z0, ()), ()))) v.1.2.1 n v.1.1 v.1.2.2.1)
  else  none
noncomputable def b_z0r_0 : Code := partOf (bodyOf Try.f31) [1, 0, 1, 0, 0]
noncomputable def V_z0r_0 (n : Nat) (K : Cont) (rec : Sig.sem s_z0r_h0 → Option Res) (v : Sig.sem s_z0r_h0) : Option Res := F_z0r_0 n (fun z0 => K (.ex 0) (s_z0r_t0.enc ((z0, ()), ()))) v.1.2.1 (fun z0 z2 => rec ((z0, (v.1.2.1, (z2, ()))), ())) v.1.1 v.1.2.2.1
theorem t_z0r_0 (n : Nat) (K : Cont) (rec : Sig.sem s_z0r_h0 → Option Res) (v : Sig.sem s_z0r_h0) : runT Try.prog cf_z0r Try.f31.ntmps 0 p_z0r (ls_z0r n) b_z0r_0 (s_z0r_h0.enc v) (turnK 0 (p_z0r.head 0) s_z0r_h0 rec K) = V_z0r_0 n K rec v := by kernel_rfl
noncomputable def W_z0r_0 (n : Nat) (K : Cont) (m : Nat) (v : Sig.sem s_z0r_h0) : Option Res := L_z0r_0 n (fun z0 => K (.ex 0) (s_z0r_t0.enc ((z0, ()), ()))) v.1.2.1 m v.1.1 v.1.2.2.1
theorem i_z0r_0 (n : Nat) (K : Cont) : ∀ m v, iter (V_z0r_0 n K) m v = W_z0r_0 n K m v := by
  intro m
  induction m with
  | zero => intro v; rfl
  | succ m ih =>
    intro v
    show V_z0r_0 n K (iter (V_z0r_0 n K) m) v = V_z0r_0 n K (W_z0r_0 n K m) v
    rw [show iter (V_z0r_0 n K) m = W_z0r_0 n K m from funext ih]
theorem o_z0r_0 (n : Nat) : ∀ L, ls_z0r n 0 = some L → ∀ s K r, L s K = some r → ∃ x s', loopN (run Try.prog cf_z0r Try.f31.ntmps 0 n p_z0r none b_z0r_0) (gc 0 (p_z0r.head 0)) n s = some (x, s') ∧ K x s' = some r := by
  intro L hL s K r h
  have hL : some (loopT 0 (p_z0r.head 0) s_z0r_h0 fun K v => W_z0r_0 n K n v) = some L := hL
  cases hL
  have hb : LOk Try.prog cf_z0r Try.f31.ntmps 0 n p_z0r (ls_z0r n) b_z0r_0 := ⟨⟨trivial, ⟨trivial, trivial⟩⟩, ⟨trivial, trivial⟩⟩
  refine loopT_ok hb (V_z0r_0 n) (t_z0r_0 n) n s K r ?_
  rw [← h]
  unfold loopT
  simp only [i_z0r_0]
theorem m_z0r (n : Nat) (a0 : (List WayS)) (a1 : (List WayS)) : runFT Try.prog cf_z0r p_z0r (ls_z0r n) Try.f31 (bodyOf Try.f31) (EK.encs e_z0r ((a0, (a1, ())), ()).1) (HK.encs h_z0r ((a0, (a1, ())), ()).2) = M_z0r n a0 a1 := by kernel_rfl
theorem g_z0r (n : Nat) (a0 : (List WayS)) (a1 : (List WayS)) {r : Res} (h : M_z0r n a0 a1 = some r) : runF Try.prog cf_z0r n p_z0r 31 (EK.encs e_z0r ((a0, (a1, ())), ()).1) (HK.encs h_z0r ((a0, (a1, ())), ()).2) = some r := by
  have hb : LOk Try.prog cf_z0r Try.f31.ntmps 0 n p_z0r (ls_z0r n) (bodyOf Try.f31) := ⟨trivial, ⟨⟨trivial, (o_z0r_0 n)⟩, ⟨trivial, trivial⟩⟩⟩
  exact runFT_some Try.prog (c := bodyOf Try.f31) Try.func31 (show Try.f31.body = some (bodyOf Try.f31) from rfl) (show (2 : Nat) ≤ 19 by decide) hb ((m_z0r n a0 a1).trans h) rfl (by kernel_rfl)
noncomputable def c_z0r : Spec := specQ e_z0r h_z0r ro_z0r rh_z0r fun a b => Q_z0r a.1 a.2.1
theorem k_z0r (hm : Try.prog.follows .mixedOrders = true) : SpecOk Try.prog 31 c_z0r := specQ_ok (pol := p_z0r) hm (cf := cf_z0r) (tab_ok (specs_cons (k_z0q hm) specs_nil)) fun a b r h => ⟨FUEL, g_z0r FUEL a.1 a.2.1 (decRes_some h)⟩
noncomputable def c_z0s : Spec := specQ [.ty (.slice InstrT)] [] ro_z0s rh_z0s fun a b => Q_z0s a.1
theorem k_z0s (hm : Try.prog.follows .mixedOrders = true) : SpecOk Try.prog 40 c_z0s := H19.from_ok (k_z0r hm)
def s_z0t_r : Sig := ⟨[2], [.ty (.slice WayT)], []⟩
def p_z0t : Pol := ⟨fun i => none, fun i => none, some [(2, (.data (.slice WayT)))], [(.data (.slice WayT))], []⟩
def e_z0t : List EK := [.agg BlockT]
def h_z0t : List HK := []
noncomputable def cf_z0t : CallF := mkCF [(25, c_z0p), (40, c_z0s)] [(25, [BlockT])]
noncomputable def ls_z0t (n : Nat) : Loops := fun i =>  none
theorem m_z0t (n : Nat) (a0 : BlockS) : runFT Try.prog cf_z0t p_z0t (ls_z0t n) Try.f22 (bodyOf Try.f22) (EK.encs e_z0t ((a0, ()), ()).1) (HK.encs h_z0t ((a0, ()), ()).2) = M_z0t n a0 := by kernel_rfl
theorem g_z0t (n : Nat) (a0 : BlockS) {r : Res} (h : M_z0t n a0 = some r) : runF Try.prog cf_z0t n p_z0t 22 (EK.encs e_z0t ((a0, ()), ()).1) (HK.encs h_z0t ((a0, ()), ()).2) = some r := by
  have hb : LOk Try.prog cf_z0t Try.f22.ntmps 0 n p_z0t (ls_z0t n) (bodyOf Try.f22) := ⟨trivial, ⟨⟨trivial, ⟨⟨trivial, trivial⟩, trivial⟩⟩, ⟨trivial, trivial⟩⟩⟩
  exact runFT_some Try.prog (c := bodyOf Try.f22) Try.func22 (show Try.f22.body = some (bodyOf Try.f22) from rfl) (show (1 : Nat) ≤ 11 by decide) hb ((m_z0t n a0).trans h) rfl (by kernel_rfl)
noncomputable def c_z0t : Spec := specQ e_z0t h_z0t ro_z0t rh_z0t fun a b => Q_z0t a.1
theorem k_z0t (hm : Try.prog.follows .mixedOrders = true) : SpecOk Try.prog 22 c_z0t := specQ_ok (pol := p_z0t) hm (cf := cf_z0t) (tab_ok (specs_cons (k_z0p hm) (specs_cons (k_z0s hm) specs_nil))) fun a b r h => ⟨FUEL, g_z0t FUEL a.1 (decRes_some h)⟩
def s_z0u_h0 : Sig := ⟨[3, 4, 5], [.ty (.slice WayT), .ty (.int .i64), .ty (.int .i64)], []⟩
def s_z0u_t0 : Sig := ⟨[4], [.ty (.int .i64)], []⟩
def s_z0u_r : Sig := ⟨[2], [.ty (.int .i64)], []⟩
def p_z0u : Pol := ⟨fun i => if i = 0 then some [(3, .keep), (4, .keep), (5, .keep)] else none, fun i => if i = 0 then some [(4, .keep)] else none, some [(2, .keep)], [.keep], []⟩
def e_z0u : List EK := [.agg BlockT]
def h_z0u : List HK := []
noncomputable def cf_z0u : CallF := mkCF [(22, c_z0t)] [(22, [BlockT])]
noncomputable def ls_z0u (n : Nat) : Loops := fun i => if i = 0 then some (loopT 0 (p_z0u.head 0) s_z0u_h0 fun K v => L_z0u_0 n (fun z0 => K (.ex 0) (s_z0u_t0.enc ((z0, ()), ()))) v.1.1 n v.1.2.1 v.1.2.2.1)
  else  none
noncomputable def b_z0u_0 : Code := partOf (bodyOf Try.f27) [1, 1, 1, 0, 1, 0, 0]
noncomputable def V_z0u_0 (n : Nat) (K : Cont) (rec : Sig.sem s_z0u_h0 → Option Res) (v : Sig.sem s_z0u_h0) : Option Res := F_z0u_0 n (fun z0 => K (.ex 0) (s_z0u_t0.enc ((z0, ()), ()))) v.1.1 (fun z1 z2 => rec ((v.1.1, (z1, (z2, ()))), ())) v.1.2.1 v.1.2.2.1
theorem t_z0u_0 (n : Nat) (K : Cont) (rec : Sig.sem s_z0u_h0 → Option Res) (v : Sig.sem s_z0u_h0) : runT Try.prog cf_z0u Try.f27.ntmps 0 p_z0u (ls_z0u n) b_z0u_0 (s_z0u_h0.enc v) (turnK 0 (p_z0u.head 0) s_z0u_h0 rec K) = V_z0u_0 n K rec v := by kernel_rfl
noncomputable def W_z0u_0 (n : Nat) (K : Cont) (m : Nat) (v : Sig.sem s_z0u_h0) : Option Res := L_z0u_0 n (fun z0 => K (.ex 0) (s_z0u_t0.enc ((z0, ()), ()))) v.1.1 m v.1.2.1 v.1.2.2.1
theorem i_z0u_0 (n : Nat) (K : Cont) : ∀ m v, iter (V_z0u_0 n K) m v = W_z0u_0 n K m v := by
  intro m
  induction m with
  | zero => intro v; rfl
  | succ m ih =>
    intro v
    show V_z0u_0 n K (iter (V_z0u_0 n K) m) v = V_z0u_0 n K (W_z0u_0 n K m) v
    rw [show iter (V_z0u_0 n K) m = W_z0u_0 n K m from funext ih]
theorem o_z0u_0 (n : Nat) : ∀ L, ls_z0u n 0 = some L → ∀ s K r, L s K = some r → ∃ x s', loopN (run Try.prog cf_z0u Try.f27.ntmps 0 n p_z0u none b_z0u_0) (gc 0 (p_z0u.head 0)) n s = some (x, s') ∧ K x s' = some r := by
  intro L hL s K r h
  have hL : some (loopT 0 (p_z0u.head 0) s_z0u_h0 fun K v => W_z0u_0 n K n v) = some L := hL
  cases hL
  have hb : LOk Try.prog cf_z0u Try.f27.ntmps 0 n p_z0u (ls_z0u n) b_z0u_0 := ⟨⟨trivial, ⟨trivial, trivial⟩⟩, ⟨trivial, trivial⟩⟩
  refine loopT_ok hb (V_z0u_0 n) (t_z0u_0 n) n s K r ?_
  rw [← h]
  unfold loopT
  simp only [i_z0u_0]
theorem m_z0u (n : Nat) (a0 : BlockS) : runFT Try.prog cf_z0u p_z0u (ls_z0u n) Try.f27 (bodyOf Try.f27) (EK.encs e_z0u ((a0, ()), ()).1) (HK.encs h_z0u ((a0, ()), ()).2) = M_z0u n a0 := by kernel_rfl
theorem g_z0u (n : Nat) (a0 : BlockS) {r : Res} (h : M_z0u n a0 = some r) : runF Try.prog cf_z0u n p_z0u 27 (EK.encs e_z0u ((a0, ()), ()).1) (HK.encs h_z0u ((a0, ()), ()).2) = some r := by
  have hb : LOk Try.prog cf_z0u Try.f27.ntmps 0 n p_z0u (ls_z0u n) (bodyOf Try.f27) := ⟨trivial, ⟨trivial, ⟨trivial, ⟨⟨trivial, (o_z0u_0 n)⟩, ⟨trivial, trivial⟩⟩⟩⟩⟩
  exact runFT_some Try.prog (c := bodyOf Try.f27) Try.func27 (show Try.f27.body = some (bodyOf Try.f27) from rfl) (show (1 : Nat) ≤ 22 by decide) hb ((m_z0u n a0).trans h) rfl (by kernel_rfl)
noncomputable def c_z0u : Spec := specQ e_z0u h_z0u ro_z0u rh_z0u fun a b => Q_z0u a.1
theorem k_z0u (hm : Try.prog.follows .mixedOrders = true) : SpecOk Try.prog 27 c_z0u := specQ_ok (pol := p_z0u) hm (cf := cf_z0u) (tab_ok (specs_cons (k_z0t hm) specs_nil)) fun a b r h => ⟨FUEL, g_z0u FUEL a.1 (decRes_some h)⟩
def s_z0v_r : Sig := ⟨[2], [.ty .bool], []⟩
def s_z0v_h0 : Sig := ⟨[1, 3, 4, 5], [.ptr 0 0 0, .ptr 1 0 0, .ty (.slice WayT), .ty (.int .i64)], [.cell BlockT, .one false [.ty (.int .i64), .hs 2 0], .row InstrT]⟩
def s_z0v_h2 : Sig := ⟨[1, 3, 4, 5, 6, 7], [.ptr 0 0 0, .ptr 1 0 0, .ty (.slice WayT), .ty (.int .i64), .hs 3 0, .ty (.int .i64)], [.cell BlockT, .one false [.ty (.int .i64), .hs 2 0], .row InstrT, .row WayT]⟩
def s_z0v_t2 : Sig := ⟨[1, 3, 4, 5], [.ptr 0 0 0, .ptr 1 0 0, .ty (.slice WayT), .ty (.int .i64)], [.cell BlockT, .one false [.ty (.int .i64), .hs 2 0], .row InstrT]⟩
def s_z0v_t0 : Sig := ⟨[1, 3], [.ptr 0 0 0, .ptr 1 0 0], [.cell BlockT, .one false [.ty (.int .i64), .hs 2 0], .row InstrT]⟩
def s_z0v_h4 : Sig := ⟨[1, 3, 8], [.ptr 0 0 0, .ptr 1 0 0, .ty (.int .i64)], [.cell BlockT, .one false [.ty (.int .i64), .hs 2 0], .row InstrT]⟩
def s_z0v_t4 : Sig := ⟨[1, 3], [.ptr 0 0 0, .ptr 1 0 0], [.cell BlockT, .one false [.ty (.int .i64), .hs 2 0], .row InstrT]⟩
def p_z0v : Pol := ⟨fun i => if i = 0 then some [(1, (.own BlockT)), (3, .keep), (4, .keep), (5, .keep)] else if i = 2 then some [(1, (.own BlockT)), (3, .keep), (4, .keep), (5, .keep), (6, (.own WayT)), (7, .keep)] else if i = 4 then some [(1, (.own BlockT)), (3, .keep), (8, .keep)] else none, fun i => if i = 2 then some [(1, (.own BlockT)), (3, .keep), (4, .keep), (5, .keep)] else if i = 0 then some [(1, (.own BlockT)), (3, .keep)] else if i = 4 then some [(1, (.own BlockT)), (3, .keep)] else none, some [(2, .keep)], [.keep], []⟩
def e_z0v : List EK := [.agg BlockT]
def h_z0v : List HK := []
noncomputable def cf_z0v : CallF := mkCF [(11, c_z0h), (22, c_z0t), (23, c_z0e), (24, c_z0f), (17, c_z0b), (25, c_z0p), (26, c_z0g), (27, c_z0u)] [(11, []), (22, [BlockT]), (23, [BlockT]), (24, [(.slice WayT), (.slice WayT)]), (17, [BlockT]), (25, [BlockT]), (26, [BlockT]), (27, [BlockT])]
noncomputable def ls_z0v (n : Nat) : Loops := fun i => if i = 2 then some (loopT 0 (p_z0v.head 2) s_z0v_h2 fun K v => L_z0v_2 n (fun _ => K (.ex 2) (s_z0v_t2.enc (((), ((), (v.1.2.2.1, (v.1.2.2.2.1, ())))), (v.2.1, ((v.2.2.1.1, (v.2.2.1.2.1, ())), (v.2.2.2.1, ())))))) v.1.2.2.2.2.1 n v.1.2.2.2.2.2.1 v.2.2.2.2.1)
  else if i = 0 then some (loopT 0 (p_z0v.head 0) s_z0v_h0 fun K v => L_z0v_0 n (fun z0 => K .rt (s_z0v_r.enc ((z0, ()), ()))) (fun _ => K (.ex 0) (s_z0v_t0.enc (((), ((), ())), (v.2.1, ((v.2.2.1.1, (v.2.2.1.2.1, ())), (v.2.2.2.1, ())))))) v.1.2.2.1 v.2.2.1.1 v.2.2.1.2.1 v.2.2.2.1 n v.1.2.2.2.1)
  else if i = 4 then some (loopT 0 (p_z0v.head 4) s_z0v_h4 fun K v => L_z0v_4 n (fun z0 => K .rt (s_z0v_r.enc ((z0, ()), ()))) (fun _ => K (.ex 4) (s_z0v_t4.enc (((), ((), ())), (v.2.1, ((v.2.2.1.1, (v.2.2.1.2.1, ())), (v.2.2.2.1, ())))))) v.2.1 v.2.2.1.2.1 v.2.2.2.1 n v.1.2.2.1)
  else  none
noncomputable def b_z0v_2 : Code := partOf (bodyOf Try.f5) [1, 1, 1, 1, 0, 1, 0, 0, 1, 0, 0, 1, 1, 1, 0, 0]
noncomputable def V_z0v_2 (n : Nat) (K : Cont) (rec : Sig.sem s_z0v_h2 → Option Res) (v : Sig.sem s_z0v_h2) : Option Res := F_z0v_2 n (fun _ => K (.ex 2) (s_z0v_t2.enc (((), ((), (v.1.2.2.1, (v.1.2.2.2.1, ())))), (v.2.1, ((v.2.2.1.1, (v.2.2.1.2.1, ())), (v.2.2.2.1, ())))))) v.1.2.2.2.2.1 (fun z3 z8 => rec (((), ((), (v.1.2.2.1, (v.1.2.2.2.1, (v.1.2.2.2.2.1, (z3, ())))))), (v.2.1, ((v.2.2.1.1, (v.2.2.1.2.1, ())), (v.2.2.2.1, (z8, ())))))) v.1.2.2.2.2.2.1 v.2.2.2.2.1
theorem t_z0v_2 (n : Nat) (K : Cont) (rec : Sig.sem s_z0v_h2 → Option Res) (v : Sig.sem s_z0v_h2) : runT Try.prog cf_z0v Try.f5.ntmps 0 p_z0v (ls_z0v n) b_z0v_2 (s_z0v_h2.enc v) (turnK 0 (p_z0v.head 2) s_z0v_h2 rec K) = V_z0v_2 n K rec v := by kernel_rfl
noncomputable def W_z0v_2 (n : Nat) (K : Cont) (m : Nat) (v : Sig.sem s_z0v_h2) : Option Res := L_z0v_2 n (fun _ => K (.ex 2) (s_z0v_t2.enc (((), ((), (v.1.2.2.1, (v.1.2.2.2.1, ())))), (v.2.1, ((v.2.2.1.1, (v.2.2.1.2.1, ())), (v.2.2.2.1, ())))))) v.1.2.2.2.2.1 m v.1.2.2.2.2.2.1 v.2.2.2.2.1
theorem i_z0v_2 (n : Nat) (K : Cont) : ∀ m v, iter (V_z0v_2 n K) m v = W_z0v_2 n K m v := by
  intro m
  induction m with
  | zero => intro v; rfl
  | succ m ih =>
    intro v
    show V_z0v_2 n K (iter (V_z0v_2 n K) m) v = V_z0v_2 n K (W_z0v_2 n K m) v
    rw [show iter (V_z0v_2 n K) m = W_z0v_2 n K m from funext ih]
theorem o_z0v_2 (n : Nat) : ∀ L, ls_z0v n 2 = some L → ∀ s K r, L s K = some r → ∃ x s', loopN (run Try.prog cf_z0v Try.f5.ntmps 0 n p_z0v none b_z0v_2) (gc 0 (p_z0v.head 2)) n s = some (x, s') ∧ K x s' = some r := by
  intro L hL s K r h
  have hL : some (loopT 0 (p_z0v.head 2) s_z0v_h2 fun K v => W_z0v_2 n K n v) = some L := hL
  cases hL
  have hb : LOk Try.prog cf_z0v Try.f5.ntmps 0 n p_z0v (ls_z0v n) b_z0v_2 := ⟨⟨trivial, ⟨trivial, trivial⟩⟩, ⟨trivial, trivial⟩⟩
  refine loopT_ok hb (V_z0v_2 n) (t_z0v_2 n) n s K r ?_
  rw [← h]
  unfold loopT
  simp only [i_z0v_2]
noncomputable def b_z0v_0 : Code := partOf (bodyOf Try.f5) [1, 1, 1, 1, 0, 1, 0, 0]
noncomputable def V_z0v_0 (n : Nat) (K : Cont) (rec : Sig.sem s_z0v_h0 → Option Res) (v : Sig.sem s_z0v_h0) : Option Res := F_z0v_0 n (fun z0 => K .rt (s_z0v_r.enc ((z0, ()), ()))) (fun _ => K (.ex 0) (s_z0v_t0.enc (((), ((), ())), (v.2.1, ((v.2.2.1.1, (v.2.2.1.2.1, ())), (v.2.2.2.1, ())))))) v.1.2.2.1 v.2.2.1.1 v.2.2.1.2.1 v.2.2.2.1 (fun z1 => rec (((), ((), (v.1.2.2.1, (z1, ())))), (v.2.1, ((v.2.2.1.1, (v.2.2.1.2.1, ())), (v.2.2.2.1, ()))))) v.1.2.2.2.1
theorem t_z0v_0 (n : Nat) (K : Cont) (rec : Sig.sem s_z0v_h0 → Option Res) (v : Sig.sem s_z0v_h0) : runT Try.prog cf_z0v Try.f5.ntmps 0 p_z0v (ls_z0v n) b_z0v_0 (s_z0v_h0.enc v) (turnK 0 (p_z0v.head 0) s_z0v_h0 rec K) = V_z0v_0 n K rec v := by kernel_rfl
noncomputable def W_z0v_0 (n : Nat) (K : Cont) (m : Nat) (v : Sig.sem s_z0v_h0) : Option Res := L_z0v_0 n (fun z0 => K .rt (s_z0v_r.enc ((z0, ()), ()))) (fun _ => K (.ex 0) (s_z0v_t0.enc (((), ((), ())), (v.2.1, ((v.2.2.1.1, (v.2.2.1.2.1, ())), (v.2.2.2.1, ())))))) v.1.2.2.1 v.2.2.1.1 v.2.2.1.2.1 v.2.2.2.1 m v.1.2.2.2.1
theorem i_z0v_0 (n : Nat) (K : Cont) : ∀ m v, iter (V_z0v_0 n K) m v = W_z0v_0 n K m v := by
  intro m
  induction m with
  | zero => intro v; rfl
  | succ m ih =>
    intro v
    show V_z0v_0 n K (iter (V_z0v_0 n K) m) v = V_z0v_0 n K (W_z0v_0 n K m) v
    rw [show iter (V_z0v_0 n K) m = W_z0v_0 n K m from funext ih]
theorem o_z0v_0 (n : Nat) : ∀ L, ls_z0v n 0 = some L → ∀ s K r, L s K = some r → ∃ x s', loopN (run Try.prog cf_z0v Try.f5.ntmps 0 n p_z0v none b_z0v_0) (gc 0 (p_z0v.head 0)) n s = some (x, s') ∧ K x s' = some r := by
  intro L hL s K r h
  have hL : some (loopT 0 (p_z0v.head 0) s_z0v_h0 fun K v => W_z0v_0 n K n v) = some L := hL
  cases hL
  have hb : LOk Try.prog cf_z0v Try.f5.ntmps 0 n p_z0v (ls_z0v n) b_z0v_0 := ⟨⟨trivial, ⟨trivial, trivial⟩⟩, ⟨⟨trivial, ⟨⟨trivial, ⟨⟨trivial, trivial⟩, trivial⟩⟩, ⟨trivial, (o_z0v_2 n)⟩⟩⟩, trivial⟩⟩
  refine loopT_ok hb (V_z0v_0 n) (t_z0v_0 n) n s K r ?_
  rw [← h]
  unfold loopT
  simp only [i_z0v_0]
noncomputable def b_z0v_4 : Code := partOf (bodyOf Try.f5) [1, 1, 1, 1, 1, 0, 1, 0, 0]
noncomputable def V_z0v_4 (n : Nat) (K : Cont) (rec : Sig.sem s_z0v_h4 → Option Res) (v : Sig.sem s_z0v_h4) : Option Res := F_z0v_4 n (fun z0 => K .rt (s_z0v_r.enc ((z0, ()), ()))) (fun _ => K (.ex 4) (s_z0v_t4.enc (((), ((), ())), (v.2.1, ((v.2.2.1.1, (v.2.2.1.2.1, ())), (v.2.2.2.1, ())))))) v.2.1 v.2.2.1.2.1 v.2.2.2.1 (fun z0 => rec (((), ((), (z0, ()))), (v.2.1, ((v.2.2.1.1, (v.2.2.1.2.1, ())), (v.2.2.2.1, ()))))) v.1.2.2.1
theorem t_z0v_4 (n : Nat) (K : Cont) (rec : Sig.sem s_z0v_h4 → Option Res) (v : Sig.sem s_z0v_h4) : runT Try.prog cf_z0v Try.f5.ntmps 0 p_z0v (ls_z0v n) b_z0v_4 (s_z0v_h4.enc v) (turnK 0 (p_z0v.head 4) s_z0v_h4 rec K) = V_z0v_4 n K rec v := by kernel_rfl
noncomputable def W_z0v_4 (n : Nat) (K : Cont) (m : Nat) (v : Sig.sem s_z0v_h4) : Option Res := L_z0v_4 n (fun z0 => K .rt (s_z0v_r.enc ((z0, ()), ()))) (fun _ => K (.ex 4) (s_z0v_t4.enc (((), ((), ())), (v.2.1, ((v.2.2.1.1, (v.2.2.1.2.1, ())), (v.2.2.2.1, ())))))) v.2.1 v.2.2.1.2.1 v.2.2.2.1 m v.1.2.2.1
theorem i_z0v_4 (n : Nat) (K : Cont) : ∀ m v, iter (V_z0v_4 n K) m v = W_z0v_4 n K m v := by
  intro m
  induction m with
  | zero => intro v; rfl
  | succ m ih =>
    intro v
    show V_z0v_4 n K (iter (V_z0v_4 n K) m) v = V_z0v_4 n K (W_z0v_4 n K m) v
    rw [show iter (V_z0v_4 n K) m = W_z0v_4 n K m from funext ih]
theorem o_z0v_4 (n : Nat) : ∀ L, ls_z0v n 4 = some L → ∀ s K r, L s K = some r → ∃ x s', loopN (run Try.prog cf_z0v Try.f5.ntmps 0 n p_z0v none b_z0v_4) (gc 0 (p_z0v.head 4)) n s = some (x, s') ∧ K x s' = some r := by
  intro L hL s K r h
  have hL : some (loopT 0 (p_z0v.head 4) s_z0v_h4 fun K v => W_z0v_4 n K n v) = some L := hL
  cases hL
  have hb : LOk Try.prog cf_z0v Try.f5.ntmps 0 n p_z0v (ls_z0v n) b_z0v_4 := ⟨⟨trivial, ⟨trivial, trivial⟩⟩, ⟨⟨trivial, ⟨⟨trivial, trivial⟩, trivial⟩⟩, trivial⟩⟩
  refine loopT_ok hb (V_z0v_4 n) (t_z0v_4 n) n s K r ?_
  rw [← h]
  unfold loopT
  simp only [i_z0v_4]
theorem m_z0v (n : Nat) (a0 : BlockS) : runFT Try.prog cf_z0v p_z0v (ls_z0v n) Try.f5 (bodyOf Try.f5) (EK.encs e_z0v ((a0, ()), ()).1) (HK.encs h_z0v ((a0, ()), ()).2) = M_z0v n a0 := by kernel_rfl
theorem g_z0v (n : Nat) (a0 : BlockS) {r : Res} (h : M_z0v n a0 = some r) : runF Try.prog cf_z0v n p_z0v 5 (EK.encs e_z0v ((a0, ()), ()).1) (HK.encs h_z0v ((a0, ()), ()).2) = some r := by
  have hb : LOk Try.prog cf_z0v Try.f5.ntmps 0 n p_z0v (ls_z0v n) (bodyOf Try.f5) := ⟨trivial, ⟨⟨trivial, ⟨⟨trivial, trivial⟩, trivial⟩⟩, ⟨trivial, ⟨trivial, ⟨⟨trivial, (o_z0v_0 n)⟩, ⟨⟨trivial, (o_z0v_4 n)⟩, ⟨trivial, trivial⟩⟩⟩⟩⟩⟩⟩
  exact runFT_some Try.prog (c := bodyOf Try.f5) Try.func5 (show Try.f5.body = some (bodyOf Try.f5) from rfl) (show (1 : Nat) ≤ 76 by decide) hb ((m_z0v n a0).trans h) rfl (by kernel_rfl)
noncomputable def c_z0v : Spec := specQ e_z0v h_z0v ro_z0v rh_z0v fun a b => Q_z0v a.1
theorem k_z0v (hm : Try.prog.follows .mixedOrders = true) : SpecOk Try.prog 5 c_z0v := specQ_ok (pol := p_z0v) hm (cf := cf_z0v) (tab_ok (specs_cons (k_z0h hm) (specs_cons (k_z0t hm) (specs_cons (k_z0e hm) (specs_cons (k_z0f hm) (specs_cons (k_z0b hm) (specs_cons (k_z0p hm) (specs_cons (k_z0g hm) (specs_cons (k_z0u hm) specs_nil))))))))) fun a b r h => ⟨FUEL, g_z0v FUEL a.1 (decRes_some h)⟩
def s_z0w_r : Sig := ⟨[2, 3, 4], [.ty (.int .u8), .ty (.int .i64), .ty .bool], []⟩
def p_z0w : Pol := ⟨fun i => none, fun i => none, some [(2, .keep), (3, .keep), (4, .keep)], [.keep, .keep, .keep], []⟩
def e_z0w : List EK := [.agg InstrT]
def h_z0w : List HK := []
noncomputable def cf_z0w : CallF := mkCF [] []
noncomputable def ls_z0w (n : Nat) : Loops := fun i =>  none
theorem m_z0w (n : Nat) (a0 : InstrS) : runFT Try.prog cf_z0w p_z0w (ls_z0w n) Try.f30 (bodyOf Try.f30) (EK.encs e_z0w ((a0, ()), ()).1) (HK.encs h_z0w ((a0, ()), ()).2) = M_z0w n a0 := by kernel_rfl
theorem g_z0w (n : Nat) (a0 : InstrS) {r : Res} (h : M_z0w n a0 = some r) : runF Try.prog cf_z0w n p_z0w 30 (EK.encs e_z0w ((a0, ()), ()).1) (HK.encs h_z0w ((a0, ()), ()).2) = some r := by
  have hb : LOk Try.prog cf_z0w Try.f30.ntmps 0 n p_z0w (ls_z0w n) (bodyOf Try.f30) := ⟨trivial, ⟨⟨trivial, ⟨⟨trivial, ⟨trivial, trivial⟩⟩, ⟨⟨trivial, trivial⟩, ⟨⟨trivial, ⟨trivial, trivial⟩⟩, ⟨⟨trivial, trivial⟩, trivial⟩⟩⟩⟩⟩, ⟨trivial, trivial⟩⟩⟩
  exact runFT_some Try.prog (c := bodyOf Try.f30) Try.func30 (show Try.f30.body = some (bodyOf Try.f30) from rfl) (show (1 : Nat) ≤ 17 by decide) hb ((m_z0w n a0).trans h) rfl (by kernel_rfl)
noncomputable def c_z0w : Spec := specQ e_z0w h_z0w ro_z0w rh_z0w fun a b => Q_z0w a.1
theorem k_z0w (hm : Try.prog.follows .mixedOrders = true) : SpecOk Try.prog 30 c_z0w := specQ_ok (pol := p_z0w) hm (cf := cf_z0w) (tab_ok specs_nil) fun a b r h => ⟨FUEL, g_z0w FUEL a.1 (decRes_some h)⟩
def s_z0x_h0 : Sig := ⟨[0, 1, 7, 8], [.ty (.slice InstrT), .ty (.slice .bool), .ty (.int .i64), .ty (.int .i64)], []⟩
def s_z0x_r : Sig := ⟨[4, 5, 6], [.ty (.int .u8), .ty (.int .i64), .ty (.int .i64)], []⟩
def s_z0x_t0 : Sig := ⟨[7], [.ty (.int .i64)], []⟩
def p_z0x : Pol := ⟨fun i => if i = 0 then some [(0, .keep), (1, .keep), (7, .keep), (8, .keep)] else none, fun i => if i = 0 then some [(7, .keep)] else none, some [(4, .keep), (5, .keep), (6, .keep)], [.keep, .keep, .keep], []⟩
def e_z0x : List EK := [.ty (.slice InstrT), .ty (.slice .bool)]
def h_z0x : List HK := []
noncomputable def cf_z0x : CallF := mkCF [(30, c_z0w)] [(30, [InstrT])]
noncomputable def ls_z0x (n : Nat) : Loops := fun i => if i = 0 then some (loopT 0 (p_z0x.head 0) s_z0x_h0 fun K v => L_z0x_0 n (fun z0 z1 z2 => K .rt (s_z0x_r.enc ((z0, (z1, (z2, ()))), ()))) (fun z0 => K (.ex 0) (s_z0x_t0.enc ((z0, ()), ()))) v.1.1 v.1.2.1 n v.1.2.2.1 v.1.2.2.2.1)
  else  none
noncomputable def b_z0x_0 : Code := partOf (bodyOf Try.f28) [1, 1, 0, 1, 0, 0]
noncomputable def V_z0x_0 (n : Nat) (K : Cont) (rec : Sig.sem s_z0x_h0 → Option Res) (v : Sig.sem s_z0x_h0) : Option Res := F_z0x_0 n (fun z0 z1 z2 => K .rt (s_z0x_r.enc ((z0, (z1, (z2, ()))), ()))) (fun z0 => K (.ex 0) (s_z0x_t0.enc ((z0, ()), ()))) v.1.1 v.1.2.1 (fun z2 z3 => rec ((v.1.1, (v.1.2.1, (z2, (z3, ())))), ())) v.1.2.2.1 v.1.2.2.2.1
theorem t_z0x_0 (n : Nat) (K : Cont) (rec : Sig.sem s_z0x_h0 → Option Res) (v : Sig.sem s_z0x_h0) : runT Try.prog cf_z0x Try.f28.ntmps 0 p_z0x (ls_z0x n) b_z0x_0 (s_z0x_h0.enc v) (turnK 0 (p_z0x.head 0) s_z0x_h0 rec K) = V_z0x_0 n K rec v := by kernel_rfl
noncomputable def W_z0x_0 (n : Nat) (K : Cont) (m : Nat) (v : Sig.sem s_z0x_h0) : Option Res := L_z0x_0 n (fun z0 z1 z2 => K .rt (s_z0x_r.enc ((z0, (z1, (z2, ()))), ()))) (fun z0 => K (.ex 0) (s_z0x_t0.enc ((z0, ()), ()))) v.1.1 v.1.2.1 m v.1.2.2.1 v.1.2.2.2.1
theorem i_z0x_0 (n : Nat) (K : Cont) : ∀ m v, iter (V_z0x_0 n K) m v = W_z0x_0 n K m v := by
  intro m
  induction m with
  | zero => intro v; rfl
  | succ m ih =>
    intro v
    show V_z0x_0 n K (iter (V_z0x_0 n K) m) v = V_z0x_0 n K (W_z0x_0 n K m) v
    rw [show iter (V_z0x_0 n K) m = W_z0x_0 n K m from funext ih]
theorem o_z0x_0 (n : Nat) : ∀ L, ls_z0x n 0 = some L → ∀ s K r, L s K = some r → ∃ x s', loopN (run Try.prog cf_z0x Try.f28.ntmps 0 n p_z0x none b_z0x_0) (gc 0 (p_z0x.head 0)) n s = some (x, s') ∧ K x s' = some r := by
  intro L hL s K r h
  have hL : some (loopT 0 (p_z0x.head 0) s_z0x_h0 fun K v => W_z0x_0 n K n v) = some L := hL
  cases hL
  have hb : LOk Try.prog cf_z0x Try.f28.ntmps 0 n p_z0x (ls_z0x n) b_z0x_0 := ⟨⟨trivial, ⟨trivial, trivial⟩⟩, ⟨trivial, ⟨trivial, ⟨trivial, ⟨⟨trivial, ⟨⟨trivial, trivial⟩, trivial⟩⟩, ⟨trivial, ⟨trivial, ⟨trivial, trivial⟩⟩⟩⟩⟩⟩⟩⟩
  refine loopT_ok hb (V_z0x_0 n) (t_z0x_0 n) n s K r ?_
  rw [← h]
  unfold loopT
  simp only [i_z0x_0]
theorem m_z0x (n : Nat) (a0 : (List InstrS)) (a1 : (List Bool)) : runFT Try.prog cf_z0x p_z0x (ls_z0x n) Try.f28 (bodyOf Try.f28) (EK.encs e_z0x ((a0, (a1, ())), ()).1) (HK.encs h_z0x ((a0, (a1, ())), ()).2) = M_z0x n a0 a1 := by kernel_rfl
theorem g_z0x (n : Nat) (a0 : (List InstrS)) (a1 : (List Bool)) {r : Res} (h : M_z0x n a0 a1 = some r) : runF Try.prog cf_z0x n p_z0x 28 (EK.encs e_z0x ((a0, (a1, ())), ()).1) (HK.encs h_z0x ((a0, (a1, ())), ()).2) = some r := by
  have hb : LOk Try.prog cf_z0x Try.f28.ntmps 0 n p_z0x (ls_z0x n) (bodyOf Try.f28) := ⟨trivial, ⟨trivial, ⟨⟨trivial, (o_z0x_0 n)⟩, ⟨trivial, trivial⟩⟩⟩⟩
  exact runFT_some Try.prog (c := bodyOf Try.f28) Try.func28 (show Try.f28.body = some (bodyOf Try.f28) from rfl) (show (2 : Nat) ≤ 57 by decide) hb ((m_z0x n a0 a1).trans h) rfl (by kernel_rfl)
noncomputable def c_z0x : Spec := specQ e_z0x h_z0x ro_z0x rh_z0x fun a b => Q_z0x a.1 a.2.1
theorem k_z0x (hm : Try.prog.follows .mixedOrders = true) : SpecOk Try.prog 28 c_z0x := specQ_ok (pol := p_z0x) hm (cf := cf_z0x) (tab_ok (specs_cons (k_z0w hm) specs_nil)) fun a b r h => ⟨FUEL, g_z0x FUEL a.1 a.2.1 (decRes_some h)⟩
def s_z0y_h0 : Sig := ⟨[0, 1, 2, 7], [.ty (.slice WayT), .ty (.int .u8), .ty (.int .i64), .ty (.int .i64)], []⟩
def s_z0y_r : Sig := ⟨[6], [.ty (.int .i64)], []⟩
def s_z0y_t0 : Sig := ⟨[], [], []⟩
def p_z0y : Pol := ⟨fun i => if i = 0 then some [(0, .keep), (1, .keep), (2, .keep), (7, .keep)] else none, fun i => if i = 0 then some [] else none, some [(6, .keep)], [.keep], []⟩
def e_z0y : List EK := [.ty (.slice WayT), .ty (.int .u8), .ty (.int .i64)]
def h_z0y : List HK := []
noncomputable def cf_z0y : CallF := mkCF [] []
noncomputable def ls_z0y (n : Nat) : Loops := fun i => if i = 0 then some (loopT 0 (p_z0y.head 0) s_z0y_h0 fun K v => L_z0y_0 n (fun z0 => K .rt (s_z0y_r.enc ((z0, ()), ()))) (fun _ => K (.ex 0) (s_z0y_t0.enc ((), ()))) v.1.1 v.1.2.1 v.1.2.2.1 n v.1.2.2.2.1)
  else  none
noncomputable def b_z0y_0 : Code := partOf (bodyOf Try.f29) [1, 0, 1, 0, 0]
noncomputable def V_z0y_0 (n : Nat) (K : Cont) (rec : Sig.sem s_z0y_h0 → Option Res) (v : Sig.sem s_z0y_h0) : Option Res := F_z0y_0 n (fun z0 => K .rt (s_z0y_r.enc ((z0, ()), ()))) (fun _ => K (.ex 0) (s_z0y_t0.enc ((), ()))) v.1.1 v.1.2.1 v.1.2.2.1 (fun z3 => rec ((v.1.1, (v.1.2.1, (v.1.2.2.1, (z3, ())))), ())) v.1.2.2.2.1
theorem t_z0y_0 (n : Nat) (K : Cont) (rec : Sig.sem s_z0y_h0 → Option Res) (v : Sig.sem s_z0y_h0) : runT Try.prog cf_z0y Try.f29.ntmps 0 p_z0y (ls_z0y n) b_z0y_0 (s_z0y_h0.enc v) (turnK 0 (p_z0y.head 0) s_z0y_h0 rec K) = V_z0y_0 n K rec v := by kernel_rfl
noncomputable def W_z0y_0 (n : Nat) (K : Cont) (m : Nat) (v : Sig.sem s_z0y_h0) : Option Res := L_z0y_0 n (fun z0 => K .rt (s_z0y_r.enc ((z0, ()), ()))) (fun _ => K (.ex 0) (s_z0y_t0.enc ((), ()))) v.1.1 v.1.2.1 v.1.2.2.1 m v.1.2.2.2.1
theorem i_z0y_0 (n : Nat) (K : Cont) : ∀ m v, iter (V_z0y_0 n K) m v = W_z0y_0 n K m v := by
  intro m
  induction m with
  | zero => intro v; rfl
  | succ m ih =>
    intro v
    show V_z0y_0 n K (iter (V_z0y_0 n K) m) v = V_z0y_0 n K (W_z0y_0 n K m) v
    rw [show iter (V_z0y_0 n K) m = W_z0y_0 n K m from funext ih]
theorem o_z0y_0 (n : Nat) : ∀ L, ls_z0y n 0 = some L → ∀ s K r, L s K = some r → ∃ x s', loopN (run Try.prog cf_z0y Try.f29.ntmps 0 n p_z0y none b_z0y_0) (gc 0 (p_z0y.head 0)) n s = some (x, s') ∧ K x s' = some r := by
  intro L hL s K r h
  have hL : some (loopT 0 (p_z0y.head 0) s_z0y_h0 fun K v => W_z0y_0 n K n v) = some L := hL
  cases hL
  have hb : LOk Try.prog cf_z0y Try.f29.ntmps 0 n p_z0y (ls_z0y n) b_z0y_0 := ⟨⟨trivial, ⟨trivial, trivial⟩⟩, ⟨⟨trivial, ⟨⟨trivial, trivial⟩, trivial⟩⟩, trivial⟩⟩
  refine loopT_ok hb (V_z0y_0 n) (t_z0y_0 n) n s K r ?_
  rw [← h]
  unfold loopT
  simp only [i_z0y_0]
theorem m_z0y (n : Nat) (a0 : (List WayS)) (a1 : Int) (a2 : Int) : runFT Try.prog cf_z0y p_z0y (ls_z0y n) Try.f29 (bodyOf Try.f29) (EK.encs e_z0y ((a0, (a1, (a2, ()))), ()).1) (HK.encs h_z0y ((a0, (a1, (a2, ()))), ()).2) = M_z0y n a0 a1 a2 := by kernel_rfl
theorem g_z0y (n : Nat) (a0 : (List WayS)) (a1 : Int) (a2 : Int) {r : Res} (h : M_z0y n a0 a1 a2 = some r) : runF Try.prog cf_z0y n p_z0y 29 (EK.encs e_z0y ((a0, (a1, (a2, ()))), ()).1) (HK.encs h_z0y ((a0, (a1, (a2, ()))), ()).2) = some r := by
  have hb : LOk Try.prog cf_z0y Try.f29.ntmps 0 n p_z0y (ls_z0y n) (bodyOf Try.f29) := ⟨trivial, ⟨⟨trivial, (o_z0y_0 n)⟩, ⟨trivial, trivial⟩⟩⟩
  exact runFT_some Try.prog (c := bodyOf Try.f29) Try.func29 (show Try.f29.body = some (bodyOf Try.f29) from rfl) (show (3 : Nat) ≤ 35 by decide) hb ((m_z0y n a0 a1 a2).trans h) rfl (by kernel_rfl)
noncomputable def c_z0y : Spec := specQ e_z0y h_z0y ro_z0y rh_z0y fun a b => Q_z0y a.1 a.2.1 a.2.2.1
theorem k_z0y (hm : Try.prog.follows .mixedOrders = true) : SpecOk Try.prog 29 c_z0y := specQ_ok (pol := p_z0y) hm (cf := cf_z0y) (tab_ok specs_nil) fun a b r h => ⟨FUEL, g_z0y FUEL a.1 a.2.1 a.2.2.1 (decRes_some h)⟩
def s_z0z_r : Sig := ⟨[4], [.ty .bool], []⟩
def s_z0z_tl : Sig := ⟨[2, 5], [.ptr 0 0 0, .hs 1 0], [.cell BlockT, .row WayT]⟩
def p_z0z : Pol := ⟨fun i => none, fun i => none, some [(4, .keep)], [.keep], []⟩
def e_z0z : List EK := [.agg BlockT, .ty (.slice .bool)]
def h_z0z : List HK := []
noncomputable def cf_z0z : CallF := mkCF [(11, c_z0h), (23, c_z0e), (17, c_z0b), (26, c_z0g), (28, c_z0x), (29, c_z0y)] [(11, []), (23, [BlockT]), (17, [BlockT]), (26, [BlockT]), (28, [(.slice InstrT), (.slice .bool)]), (29, [(.slice WayT), (.int .u8), (.int .i64)])]
noncomputable def ls_z0z (n : Nat) : Loops := fun i =>  none
noncomputable def tl_z0z : TailS := ⟨[(2, (.own BlockT)), (5, (.own WayT))], [2, 5], 4, specQ [.ptr 0 0 0, .hs 1 0] [.cell BlockT, .row WayT] ro_z01 rh_z01 fun a b => Q_z01 a.2.1 b.1 b.2.1, true⟩
theorem m_z0z (n : Nat) (a0 : BlockS) (a1 : (List Bool)) : runFX Try.prog tl_z0z [1, 1, 1, 1, 1, 1, 1] cf_z0z p_z0z (ls_z0z n) Try.f6 (bodyOf Try.f6) (EK.encs e_z0z ((a0, (a1, ())), ()).1) (HK.encs h_z0z ((a0, (a1, ())), ()).2) = M_z0z n a0 a1 := by kernel_rfl
theorem g_z0z (n : Nat) (a0 : BlockS) (a1 : (List Bool)) {r : Res} (h : M_z0z n a0 a1 = some r) : runFX Try.prog tl_z0z [1, 1, 1, 1, 1, 1, 1] cf_z0z p_z0z (ls_z0z n) Try.f6 (bodyOf Try.f6) (EK.encs e_z0z ((a0, (a1, ())), ()).1) (HK.encs h_z0z ((a0, (a1, ())), ()).2) = some r := (m_z0z n a0 a1).trans h
noncomputable def c_z0z : Spec := specQ e_z0z h_z0z ro_z0z rh_z0z fun a b => Q_z0z a.1 a.2.1
theorem k_z0z (hm : Try.prog.follows .mixedOrders = true) : SpecOk Try.prog 6 c_z0z := specX_ok (tl := tl_z0z) (pth := [1, 1, 1, 1, 1, 1, 1]) (pol := p_z0z) (n := FUEL) (cf := cf_z0z) (ls := ls_z0z FUEL) hm (tab_ok (specs_cons (k_z0h hm) (specs_cons (k_z0e hm) (specs_cons (k_z0b hm) (specs_cons (k_z0g hm) (specs_cons (k_z0x hm) (specs_cons (k_z0y hm) specs_nil))))))) Try.func6 (show Try.f6.body = some (bodyOf Try.f6) from rfl) (show (2 : Nat) ≤ 189 by decide) rfl (by kernel_rfl) (show LOk Try.prog cf_z0z Try.f6.ntmps 0 FUEL p_z0z (ls_z0z FUEL) (bodyOf Try.f6) from ⟨trivial, ⟨⟨trivial, ⟨⟨trivial, trivial⟩, trivial⟩⟩, ⟨trivial, ⟨⟨trivial, ⟨⟨trivial, trivial⟩, trivial⟩⟩, ⟨⟨trivial, ⟨⟨trivial, trivial⟩, trivial⟩⟩, ⟨trivial, ⟨⟨trivial, ⟨⟨trivial, trivial⟩, trivial⟩⟩, ⟨trivial, ⟨⟨trivial, (noLoop (by rfl))⟩, ⟨trivial, ⟨trivial, ⟨⟨trivial, (noLoop (by rfl))⟩, ⟨⟨trivial, (noLoop (by rfl))⟩, ⟨trivial, trivial⟩⟩⟩⟩⟩⟩⟩⟩⟩⟩⟩⟩⟩⟩) (H19.tail2_ok (k_z0r hm) (k_z0w hm) (k_z0f hm)) fun a b r h => g_z0z FUEL a.1 a.2.1 (decRes_some h)
def s_z10_r : Sig := ⟨[4], [.ty .bool], []⟩
def s_z10_h0 : Sig := ⟨[9, 10, 11], [.hs 0 0, .hs 1 0, .ty (.int .i64)], [.row WayT, .row WayT]⟩
def s_z10_t0 : Sig := ⟨[], [], []⟩
def p_z10 : Pol := ⟨fun i => if i = 0 then some [(9, (.own WayT)), (10, (.own WayT)), (11, .keep)] else none, fun i => if i = 0 then some [] else none, some [(4, .keep)], [.keep], []⟩
def e_z10 : List EK := [.agg BlockT, .agg InstrT]
def h_z10 : List HK := []
noncomputable def cf_z10 : CallF := mkCF [(11, c_z0h), (30, c_z0w), (12, c_z07), (17, c_z0b), (23, c_z0e), (26, c_z0g)] [(11, []), (30, [InstrT]), (12, [InstrT]), (17, [BlockT]), (23, [BlockT]), (26, [BlockT])]
noncomputable def ls_z10 (n : Nat) : Loops := fun i => if i = 0 then some (loopT 0 (p_z10.head 0) s_z10_h0 fun K v => L_z10_0 n (fun z0 => K .rt (s_z10_r.enc ((z0, ()), ()))) (fun _ => K (.ex 0) (s_z10_t0.enc ((), ()))) v.1.1 v.1.2.1 v.2.1 v.2.2.1 n v.1.2.2.1)
  else  none
noncomputable def b_z10_0 : Code := partOf (bodyOf Try.f7) [1, 1, 1, 1, 1, 1, 1, 1, 1, 0, 1, 0, 0]
noncomputable def V_z10_0 (n : Nat) (K : Cont) (rec : Sig.sem s_z10_h0 → Option Res) (v : Sig.sem s_z10_h0) : Option Res := F_z10_0 n (fun z0 => K .rt (s_z10_r.enc ((z0, ()), ()))) (fun _ => K (.ex 0) (s_z10_t0.enc ((), ()))) v.1.1 v.1.2.1 v.2.1 v.2.2.1 (fun z2 => rec ((v.1.1, (v.1.2.1, (z2, ()))), (v.2.1, (v.2.2.1, ())))) v.1.2.2.1
theorem t_z10_0 (n : Nat) (K : Cont) (rec : Sig.sem s_z10_h0 → Option Res) (v : Sig.sem s_z10_h0) : runT Try.prog cf_z10 Try.f7.ntmps 0 p_z10 (ls_z10 n) b_z10_0 (s_z10_h0.enc v) (turnK 0 (p_z10.head 0) s_z10_h0 rec K) = V_z10_0 n K rec v := by kernel_rfl
noncomputable def W_z10_0 (n : Nat) (K : Cont) (m : Nat) (v : Sig.sem s_z10_h0) : Option Res := L_z10_0 n (fun z0 => K .rt (s_z10_r.enc ((z0, ()), ()))) (fun _ => K (.ex 0) (s_z10_t0.enc ((), ()))) v.1.1 v.1.2.1 v.2.1 v.2.2.1 m v.1.2.2.1
theorem i_z10_0 (n : Nat) (K : Cont) : ∀ m v, iter (V_z10_0 n K) m v = W_z10_0 n K m v := by
  intro m
  induction m with
  | zero => intro v; rfl
  | succ m ih =>
    intro v
    show V_z10_0 n K (iter (V_z10_0 n K) m) v = V_z10_0 n K (W_z10_0 n K m) v
    rw [show iter (V_z10_0 n K) m = W_z10_0 n K m from funext ih]
theorem o_z10_0 (n : Nat) : ∀ L, ls_z10 n 0 = some L → ∀ s K r, L s K = some r → ∃ x s', loopN (run Try.prog cf_z10 Try.f7.ntmps 0 n p_z10 none b_z10_0) (gc 0 (p_z10.head 0)) n s = some (x, s') ∧ K x s' = some r := by
  intro L hL s K r h
  have hL : some (loopT 0 (p_z10.head 0) s_z10_h0 fun K v => W_z10_0 n K n v) = some L := hL
  cases hL
  have hb : LOk Try.prog cf_z10 Try.f7.ntmps 0 n p_z10 (ls_z10 n) b_z10_0 := ⟨⟨trivial, ⟨trivial, trivial⟩⟩, ⟨⟨trivial, ⟨⟨trivial, trivial⟩, trivial⟩⟩, trivial⟩⟩
  refine loopT_ok hb (V_z10_0 n) (t_z10_0 n) n s K r ?_
  rw [← h]
  unfold loopT
  simp only [i_z10_0]
theorem m_z10 (n : Nat) (a0 : BlockS) (a1 : InstrS) : runFT Try.prog cf_z10 p_z10 (ls_z10 n) Try.f7 (bodyOf Try.f7) (EK.encs e_z10 ((a0, (a1, ())), ()).1) (HK.encs h_z10 ((a0, (a1, ())), ()).2) = M_z10 n a0 a1 := by kernel_rfl
theorem g_z10 (n : Nat) (a0 : BlockS) (a1 : InstrS) {r : Res} (h : M_z10 n a0 a1 = some r) : runF Try.prog cf_z10 n p_z10 7 (EK.encs e_z10 ((a0, (a1, ())), ()).1) (HK.encs h_z10 ((a0, (a1, ())), ()).2) = some r := by
  have hb : LOk Try.prog cf_z10 Try.f7.ntmps 0 n p_z10 (ls_z10 n) (bodyOf Try.f7) := ⟨trivial, ⟨⟨trivial, ⟨⟨trivial, trivial⟩, trivial⟩⟩, ⟨trivial, ⟨⟨trivial, ⟨⟨trivial, trivial⟩, trivial⟩⟩, ⟨trivial, ⟨trivial, ⟨trivial, ⟨⟨trivial, ⟨⟨trivial, trivial⟩, trivial⟩⟩, ⟨⟨trivial, ⟨⟨trivial, trivial⟩, trivial⟩⟩, ⟨⟨trivial, (o_z10_0 n)⟩, ⟨trivial, trivial⟩⟩⟩⟩⟩⟩⟩⟩⟩⟩⟩
  exact runFT_some Try.prog (c := bodyOf Try.f7) Try.func7 (show Try.f7.body = some (bodyOf Try.f7) from rfl) (show (2 : Nat) ≤ 129 by decide) hb ((m_z10 n a0 a1).trans h) rfl (by kernel_rfl)
noncomputable def c_z10 : Spec := specQ e_z10 h_z10 ro_z10 rh_z10 fun a b => Q_z10 a.1 a.2.1
theorem k_z10 (hm : Try.prog.follows .mixedOrders = true) : SpecOk Try.prog 7 c_z10 := specQ_ok (pol := p_z10) hm (cf := cf_z10) (tab_ok (specs_cons (k_z0h hm) (specs_cons (k_z0w hm) (specs_cons (k_z07 hm) (specs_cons (k_z0b hm) (specs_cons (k_z0e hm) (specs_cons (k_z0g hm) specs_nil))))))) fun a b r h => ⟨FUEL, g_z10 FUEL a.1 a.2.1 (decRes_some h)⟩
def s_z11_r : Sig := ⟨[4], [.ty .bool], []⟩
def s_z11_h0 : Sig := ⟨[1, 2, 5], [.ty (.slice InstrT), .ptr 0 0 0, .ty (.int .i64)], [.cell BlockT]⟩
def s_z11_t0 : Sig := ⟨[1, 2], [.ty (.slice InstrT), .ptr 0 0 0], [.cell BlockT]⟩
def p_z11 : Pol := ⟨fun i => if i = 0 then some [(1, .keep), (2, (.own BlockT)), (5, .keep)] else none, fun i => if i = 0 then some [(1, .keep), (2, (.own BlockT))] else none, some [(4, .keep)], [.keep], []⟩
def e_z11 : List EK := [.agg BlockT, .ty (.slice InstrT)]
def h_z11 : List HK := []
noncomputable def cf_z11 : CallF := mkCF [(11, c_z0h), (17, c_z0b), (23, c_z0e), (28, c_z0x), (26, c_z0g), (30, c_z0w)] [(11, []), (17, [BlockT]), (23, [BlockT]), (28, [(.slice InstrT), (.slice .bool)]), (26, [BlockT]), (30, [InstrT])]
noncomputable def ls_z11 (n : Nat) : Loops := fun i => if i = 0 then some (loopT 0 (p_z11.head 0) s_z11_h0 fun K v => L_z11_0 n (fun z0 => K .rt (s_z11_r.enc ((z0, ()), ()))) (fun _ => K (.ex 0) (s_z11_t0.enc ((v.1.1, ((), ())), (v.2.1, ())))) v.2.1 n v.1.2.2.1)
  else  none
noncomputable def b_z11_0 : Code := partOf (bodyOf Try.f8) [1, 1, 1, 0, 1, 0, 0]
noncomputable def V_z11_0 (n : Nat) (K : Cont) (rec : Sig.sem s_z11_h0 → Option Res) (v : Sig.sem s_z11_h0) : Option Res := F_z11_0 n (fun z0 => K .rt (s_z11_r.enc ((z0, ()), ()))) (fun _ => K (.ex 0) (s_z11_t0.enc ((v.1.1, ((), ())), (v.2.1, ())))) v.2.1 (fun z1 => rec ((v.1.1, ((), (z1, ()))), (v.2.1, ()))) v.1.2.2.1
theorem t_z11_0 (n : Nat) (K : Cont) (rec : Sig.sem s_z11_h0 → Option Res) (v : Sig.sem s_z11_h0) : runT Try.prog cf_z11 Try.f8.ntmps 0 p_z11 (ls_z11 n) b_z11_0 (s_z11_h0.enc v) (turnK 0 (p_z11.head 0) s_z11_h0 rec K) = V_z11_0 n K rec v := by kernel_rfl
noncomputable def W_z11_0 (n : Nat) (K : Cont) (m : Nat) (v : Sig.sem s_z11_h0) : Option Res := L_z11_0 n (fun z0 => K .rt (s_z11_r.enc ((z0, ()), ()))) (fun _ => K (.ex 0) (s_z11_t0.enc ((v.1.1, ((), ())), (v.2.1, ())))) v.2.1 m v.1.2.2.1
theorem i_z11_0 (n : Nat) (K : Cont) : ∀ m v, iter (V_z11_0 n K) m v = W_z11_0 n K m v := by
  intro m
  induction m with
  | zero => intro v; rfl
  | succ m ih =>
    intro v
    show V_z11_0 n K (iter (V_z11_0 n K) m) v = V_z11_0 n K (W_z11_0 n K m) v
    rw [show iter (V_z11_0 n K) m = W_z11_0 n K m from funext ih]
theorem o_z11_0 (n : Nat) : ∀ L, ls_z11 n 0 = some L → ∀ s K r, L s K = some r → ∃ x s', loopN (run Try.prog cf_z11 Try.f8.ntmps 0 n p_z11 none b_z11_0) (gc 0 (p_z11.head 0)) n s = some (x, s') ∧ K x s' = some r := by
  intro L hL s K r h
  have hL : some (loopT 0 (p_z11.head 0) s_z11_h0 fun K v => W_z11_0 n K n v) = some L := hL
  cases hL
  have hb : LOk Try.prog cf_z11 Try.f8.ntmps 0 n p_z11 (ls_z11 n) b_z11_0 := ⟨⟨trivial, ⟨trivial, trivial⟩⟩, ⟨⟨trivial, ⟨⟨trivial, trivial⟩, trivial⟩⟩, trivial⟩⟩
  refine loopT_ok hb (V_z11_0 n) (t_z11_0 n) n s K r ?_
  rw [← h]
  unfold loopT
  simp only [i_z11_0]
theorem m_z11 (n : Nat) (a0 : BlockS) (a1 : (List InstrS)) : runFT Try.prog cf_z11 p_z11 (ls_z11 n) Try.f8 (bodyOf Try.f8) (EK.encs e_z11 ((a0, (a1, ())), ()).1) (HK.encs h_z11 ((a0, (a1, ())), ()).2) = M_z11 n a0 a1 := by kernel_rfl
theorem g_z11 (n : Nat) (a0 : BlockS) (a1 : (List InstrS)) {r : Res} (h : M_z11 n a0 a1 = some r) : runF Try.prog cf_z11 n p_z11 8 (EK.encs e_z11 ((a0, (a1, ())), ()).1) (HK.encs h_z11 ((a0, (a1, ())), ()).2) = some r := by
  have hb : LOk Try.prog cf_z11 Try.f8.ntmps 0 n p_z11 (ls_z11 n) (bodyOf Try.f8) := ⟨trivial, ⟨⟨trivial, ⟨⟨trivial, trivial⟩, trivial⟩⟩, ⟨⟨trivial, ⟨⟨trivial, trivial⟩, trivial⟩⟩, ⟨⟨trivial, (o_z11_0 n)⟩, ⟨trivial, ⟨trivial, ⟨⟨trivial, ⟨⟨trivial, trivial⟩, trivial⟩⟩, ⟨⟨trivial, ⟨⟨trivial, ⟨trivial, ⟨⟨trivial, trivial⟩, trivial⟩⟩⟩, trivial⟩⟩, ⟨trivial, ⟨⟨trivial, ⟨⟨trivial, trivial⟩, trivial⟩⟩, ⟨trivial, ⟨trivial, trivial⟩⟩⟩⟩⟩⟩⟩⟩⟩⟩⟩⟩
  exact runFT_some Try.prog (c := bodyOf Try.f8) Try.func8 (show Try.f8.body = some (bodyOf Try.f8) from rfl) (show (2 : Nat) ≤ 127 by decide) hb ((m_z11 n a0 a1).trans h) rfl (by kernel_rfl)
noncomputable def c_z11 : Spec := specQ e_z11 h_z11 ro_z11 rh_z11 fun a b => Q_z11 a.1 a.2.1
theorem k_z11 (hm : Try.prog.follows .mixedOrders = true) : SpecOk Try.prog 8 c_z11 := specQ_ok (pol := p_z11) hm (cf := cf_z11) (tab_ok (specs_cons (k_z0h hm) (specs_cons (k_z0b hm) (specs_cons (k_z0e hm) (specs_cons (k_z0x hm) (specs_cons (k_z0g hm) (specs_cons (k_z0w hm) specs_nil))))))) fun a b r h => ⟨FUEL, g_z11 FUEL a.1 a.2.1 (decRes_some h)⟩
def s_z12_r : Sig := ⟨[6], [.ty .bool], []⟩
def s_z12_h0 : Sig := ⟨[1, 2, 3, 7], [.ty (.int .i64), .ty (.int .i64), .ptr 0 0 0, .ty (.int .i64)], [.cell BlockT]⟩
def s_z12_t0 : Sig := ⟨[1, 2, 3], [.ty (.int .i64), .ty (.int .i64), .ptr 0 0 0], [.cell BlockT]⟩
def p_z12 : Pol := ⟨fun i => if i = 0 then some [(1, .keep), (2, .keep), (3, (.own BlockT)), (7, .keep)] else none, fun i => if i = 0 then some [(1, .keep), (2, .keep), (3, (.own BlockT))] else none, some [(6, .keep)], [.keep], []⟩
def e_z12 : List EK := [.agg BlockT, .ty (.int .i64), .ty (.int .i64)]
def h_z12 : List HK := []
noncomputable def cf_z12 : CallF := mkCF [(11, c_z0h), (17, c_z0b), (13, c_z0j), (23, c_z0e), (28, c_z0x), (29, c_z0y)] [(11, []), (17, [BlockT]), (13, [(.int .u8)]), (23, [BlockT]), (28, [(.slice InstrT), (.slice .bool)]), (29, [(.slice WayT), (.int .u8), (.int .i64)])]
noncomputable def ls_z12 (n : Nat) : Loops := fun i => if i = 0 then some (loopT 0 (p_z12.head 0) s_z12_h0 fun K v => L_z12_0 n (fun z0 => K .rt (s_z12_r.enc ((z0, ()), ()))) (fun _ => K (.ex 0) (s_z12_t0.enc ((v.1.1, (v.1.2.1, ((), ()))), (v.2.1, ())))) v.2.1 n v.1.2.2.2.1)
  else  none
noncomputable def b_z12_0 : Code := partOf (bodyOf Try.f10) [1, 1, 1, 0, 1, 0, 0]
noncomputable def V_z12_0 (n : Nat) (K : Cont) (rec : Sig.sem s_z12_h0 → Option Res) (v : Sig.sem s_z12_h0) : Option Res := F_z12_0 n (fun z0 => K .rt (s_z12_r.enc ((z0, ()), ()))) (fun _ => K (.ex 0) (s_z12_t0.enc ((v.1.1, (v.1.2.1, ((), ()))), (v.2.1, ())))) v.2.1 (fun z2 => rec ((v.1.1, (v.1.2.1, ((), (z2, ())))), (v.2.1, ()))) v.1.2.2.2.1
theorem t_z12_0 (n : Nat) (K : Cont) (rec : Sig.sem s_z12_h0 → Option Res) (v : Sig.sem s_z12_h0) : runT Try.prog cf_z12 Try.f10.ntmps 0 p_z12 (ls_z12 n) b_z12_0 (s_z12_h0.enc v) (turnK 0 (p_z12.head 0) s_z12_h0 rec K) = V_z12_0 n K rec v := by kernel_rfl
noncomputable def W_z12_0 (n : Nat) (K : Cont) (m : Nat) (v : Sig.sem s_z12_h0) : Option Res := L_z12_0 n (fun z0 => K .rt (s_z12_r.enc ((z0, ()), ()))) (fun _ => K (.ex 0) (s_z12_t0.enc ((v.1.1, (v.1.2.1, ((), ()))), (v.2.1, ())))) v.2.1 m v.1.2.2.2.1
theorem i_z12_0 (n : Nat) (K : Cont) : ∀ m v, iter (V_z12_0 n K) m v = W_z12_0 n K m v := by
  intro m
  induction m with
  | zero => intro v; rfl
  | succ m ih =>
    intro v
    show V_z12_0 n K (iter (V_z12_0 n K) m) v = V_z12_0 n K (W_z12_0 n K m) v
    rw [show iter (V_z12_0 n K) m = W_z12_0 n K m from funext ih]
theorem o_z12_0 (n : Nat) : ∀ L, ls_z12 n 0 = some L → ∀ s K r, L s K = some r → ∃ x s', loopN (run Try.prog cf_z12 Try.f10.ntmps 0 n p_z12 none b_z12_0) (gc 0 (p_z12.head 0)) n s = some (x, s') ∧ K x s' = some r := by
  intro L hL s K r h
  have hL : some (loopT 0 (p_z12.head 0) s_z12_h0 fun K v => W_z12_0 n K n v) = some L := hL
  cases hL
  have hb : LOk Try.prog cf_z12 Try.f10.ntmps 0 n p_z12 (ls_z12 n) b_z12_0 := ⟨⟨trivial, ⟨trivial, trivial⟩⟩, ⟨⟨trivial, ⟨⟨trivial, trivial⟩, trivial⟩⟩, trivial⟩⟩
  refine loopT_ok hb (V_z12_0 n) (t_z12_0 n) n s K r ?_
  rw [← h]
  unfold loopT
  simp only [i_z12_0]
theorem m_z12 (n : Nat) (a0 : BlockS) (a1 : Int) (a2 : Int) : runFT Try.prog cf_z12 p_z12 (ls_z12 n) Try.f10 (bodyOf Try.f10) (EK.encs e_z12 ((a0, (a1, (a2, ()))), ()).1) (HK.encs h_z12 ((a0, (a1, (a2, ()))), ()).2) = M_z12 n a0 a1 a2 := by kernel_rfl
theorem g_z12 (n : Nat) (a0 : BlockS) (a1 : Int) (a2 : Int) {r : Res} (h : M_z12 n a0 a1 a2 = some r) : runF Try.prog cf_z12 n p_z12 10 (EK.encs e_z12 ((a0, (a1, (a2, ()))), ()).1) (HK.encs h_z12 ((a0, (a1, (a2, ()))), ()).2) = some r := by
  have hb : LOk Try.prog cf_z12 Try.f10.ntmps 0 n p_z12 (ls_z12 n) (bodyOf Try.f10) := ⟨trivial, ⟨⟨trivial, ⟨⟨trivial, trivial⟩, trivial⟩⟩, ⟨⟨trivial, ⟨⟨trivial, trivial⟩, trivial⟩⟩, ⟨⟨trivial, (o_z12_0 n)⟩, ⟨trivial, ⟨trivial, ⟨trivial, ⟨trivial, ⟨⟨trivial, ⟨⟨trivial, trivial⟩, trivial⟩⟩, ⟨⟨trivial, ⟨⟨trivial, trivial⟩, trivial⟩⟩, ⟨trivial, ⟨trivial, ⟨trivial, ⟨trivial, ⟨trivial, ⟨⟨trivial, ⟨⟨trivial, trivial⟩, trivial⟩⟩, ⟨trivial, trivial⟩⟩⟩⟩⟩⟩⟩⟩⟩⟩⟩⟩⟩⟩⟩⟩⟩
  exact runFT_some Try.prog (c := bodyOf Try.f10) Try.func10 (show Try.f10.body = some (bodyOf Try.f10) from rfl) (show (3 : Nat) ≤ 197 by decide) hb ((m_z12 n a0 a1 a2).trans h) rfl (by kernel_rfl)
noncomputable def c_z12 : Spec := specQ e_z12 h_z12 ro_z12 rh_z12 fun a b => Q_z12 a.1 a.2.1 a.2.2.1
theorem k_z12 (hm : Try.prog.follows .mixedOrders = true) : SpecOk Try.prog 10 c_z12 := specQ_ok (pol := p_z12) hm (cf := cf_z12) (tab_ok (specs_cons (k_z0h hm) (specs_cons (k_z0b hm) (specs_cons (k_z0j hm) (specs_cons (k_z0e hm) (specs_cons (k_z0x hm) (specs_cons (k_z0y hm) specs_nil))))))) fun a b r h => ⟨FUEL, g_z12 FUEL a.1 a.2.1 a.2.2.1 (decRes_some h)⟩
end Go.AMach
