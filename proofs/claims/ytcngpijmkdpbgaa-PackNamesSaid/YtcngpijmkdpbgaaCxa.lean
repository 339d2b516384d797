/- A part of the walk. -/
import Derived.Test.YtcngpijmkdpbgaaDx
import Derived.Test.YtcngpijmkdpbgaaProg
import Derived.Test.YtcngpijmkdpbgaaHa
import Derived.Test.YtcngpijmkdpbgaaAm23
import Derived.Test.YtcngpijmkdpbgaaAm26
namespace Go.AMach
set_option linter.unusedVariables false
set_option linter.unusedSimpArgs false
set_option linter.unnecessarySimpa false
open Go Go.Proofs
set_option linter.unusedVariables false
noncomputable instance : Sites := ⟨fun k => if k = 0 then rfOf (partOf (bodyOf Try.f58) [1, 1, 1, 1, 0, 1, 0]) else none⟩
def s_z00_h0 : Sig := ⟨[0, 3, 4], [.ty (.slice NodeT), .ty (.int .i64), .ty (.int .i64)], []⟩
def s_z00_t0 : Sig := ⟨[3], [.ty (.int .i64)], []⟩
def s_z00_r : Sig := ⟨[2], [.ty .bool], []⟩
def p_z00 : Pol := ⟨fun i => if i = 0 then some [(0, .keep), (3, .keep), (4, .keep)] else none, fun i => if i = 0 then some [(3, .keep)] else none, some [(2, .keep)], [.keep], []⟩
def e_z00 : List EK := [.ty (.slice NodeT)]
def h_z00 : List HK := []
noncomputable def cf_z00 : CallF := mkCF [] []
noncomputable def ls_z00 (n : Nat) : Loops := fun i => if i = 0 then some (loopT 0 (p_z00.head 0) s_z00_h0 fun K v => L_z00_0 n (fun z0 => K (.ex 0) (s_z00_t0.enc ((z0, ()), ()))) v.1.1 n v.1.2.1 v.1.2.2.1)
  else  none
noncomputable def b_z00_0 : Code := partOf (bodyOf Try.f35) [1, 1, 0, 1, 0, 0]
noncomputable def V_z00_0 (n : Nat) (K : Cont) (rec : Sig.sem s_z00_h0 → Option Res) (v : Sig.sem s_z00_h0) : Option Res := F_z00_0 n (fun z0 => K (.ex 0) (s_z00_t0.enc ((z0, ()), ()))) v.1.1 (fun z1 z2 => rec ((v.1.1, (z1, (z2, ()))), ())) v.1.2.1 v.1.2.2.1
theorem t_z00_0 (n : Nat) (K : Cont) (rec : Sig.sem s_z00_h0 → Option Res) (v : Sig.sem s_z00_h0) : runT Try.prog cf_z00 Try.f35.ntmps 0 p_z00 (ls_z00 n) b_z00_0 (s_z00_h0.enc v) (turnK 0 (p_z00.head 0) s_z00_h0 rec K) = V_z00_0 n K rec v := by kernel_rfl
noncomputable def W_z00_0 (n : Nat) (K : Cont) (m : Nat) (v : Sig.sem s_z00_h0) : Option Res := L_z00_0 n (fun z0 => K (.ex 0) (s_z00_t0.enc ((z0, ()), ()))) v.1.1 m v.1.2.1 v.1.2.2.1
theorem i_z00_0 (n : Nat) (K : Cont) : ∀ m v, iter (V_z00_0 n K) m v = W_z00_0 n K m v := by
  intro m
  induction m with
  | zero => intro v; rfl
  | succ m ih =>
    intro v
    show V_z00_0 n K (iter (V_z00_0 n K) m) v = V_z00_0 n K (W_z00_0 n K m) v
    rw [show iter (V_z00_0 n K) m = W_z00_0 n K m from funext ih]
theorem o_z00_0 (n : Nat) : ∀ L, ls_z00 n 0 = some L → ∀ s K r, L s K = some r → ∃ x s', loopN (run Try.prog cf_z00 Try.f35.ntmps 0 n p_z00 none b_z00_0) (gc 0 (p_z00.head 0)) n s = some (x, s') ∧ K x s' = some r := by
  intro L hL s K r h
  have hL : some (loopT 0 (p_z00.head 0) s_z00_h0 fun K v => W_z00_0 n K n v) = some L := hL
  cases hL
  have hb : LOk Try.prog cf_z00 Try.f35.ntmps 0 n p_z00 (ls_z00 n) b_z00_0 := ⟨⟨trivial, ⟨trivial, trivial⟩⟩, ⟨trivial, trivial⟩⟩
  refine loopT_ok hb (V_z00_0 n) (t_z00_0 n) n s K r ?_
  rw [← h]
  unfold loopT
  simp only [i_z00_0]
theorem m_z00 (n : Nat) (a0 : (List NodeS)) : runFT Try.prog cf_z00 p_z00 (ls_z00 n) Try.f35 (bodyOf Try.f35) (EK.encs e_z00 ((a0, ()), ()).1) (HK.encs h_z00 ((a0, ()), ()).2) = M_z00 n a0 := by kernel_rfl
theorem g_z00 (n : Nat) (a0 : (List NodeS)) {r : Res} (h : M_z00 n a0 = some r) : runF Try.prog cf_z00 n p_z00 35 (EK.encs e_z00 ((a0, ()), ()).1) (HK.encs h_z00 ((a0, ()), ()).2) = some r := by
  have hb : LOk Try.prog cf_z00 Try.f35.ntmps 0 n p_z00 (ls_z00 n) (bodyOf Try.f35) := ⟨trivial, ⟨trivial, ⟨⟨trivial, (o_z00_0 n)⟩, ⟨trivial, trivial⟩⟩⟩⟩
  exact runFT_some Try.prog (c := bodyOf Try.f35) Try.func35 (show Try.f35.body = some (bodyOf Try.f35) from rfl) (show (1 : Nat) ≤ 27 by decide) hb ((m_z00 n a0).trans h) rfl (by kernel_rfl)
noncomputable def c_z00 : Spec := specQ e_z00 h_z00 ro_z00 rh_z00 fun a b => Q_z00 a.1
theorem k_z00 (hm : Try.prog.follows .mixedOrders = true) : SpecOk Try.prog 35 c_z00 := specQ_ok (pol := p_z00) hm (cf := cf_z00) (tab_ok specs_nil) fun a b r h => ⟨FUEL, g_z00 FUEL a.1 (decRes_some h)⟩
def s_z01_r : Sig := ⟨[2, 3], [.nul 0, .ty (.int .i64)], []⟩
def s_z01_r1 : Sig := ⟨[2, 3], [.ptr 0 0 0, .ty (.int .i64)], [.one false [.hs 1 0], .row (.int .u8)]⟩
def p_z01 : Pol := ⟨fun i => none, fun i => none, some [(2, .keep), (3, .keep)], [.keep, .keep], []⟩
def e_z01 : List EK := [.ty .str]
def h_z01 : List HK := []
noncomputable def cf_z01 : CallF := mkCF [] []
noncomputable def ls_z01 (n : Nat) : Loops := fun i =>  none
theorem m_z01 (n : Nat) (a0 : ByteArray) : runFT Try.prog cf_z01 p_z01 (ls_z01 n) Try.f57 (bodyOf Try.f57) (EK.encs e_z01 ((a0, ()), ()).1) (HK.encs h_z01 ((a0, ()), ()).2) = M_z01 n a0 := by kernel_rfl
theorem g_z01 (n : Nat) (a0 : ByteArray) {r : Res} (h : M_z01 n a0 = some r) : runF Try.prog cf_z01 n p_z01 57 (EK.encs e_z01 ((a0, ()), ()).1) (HK.encs h_z01 ((a0, ()), ()).2) = some r := by
  have hb : LOk Try.prog cf_z01 Try.f57.ntmps 0 n p_z01 (ls_z01 n) (bodyOf Try.f57) := ⟨trivial, ⟨⟨trivial, ⟨⟨trivial, trivial⟩, trivial⟩⟩, ⟨trivial, trivial⟩⟩⟩
  exact runFT_some Try.prog (c := bodyOf Try.f57) Try.func57 (show Try.f57.body = some (bodyOf Try.f57) from rfl) (show (1 : Nat) ≤ 11 by decide) hb ((m_z01 n a0).trans h) rfl (by kernel_rfl)
noncomputable def c_z01 : Spec := specTr e_z01 h_z01 fun a b => (altTr ro_z01 rh_z01 (Q_z01 a.1) (altTr ro_z01_1 rh_z01_1 (Q_z01_1 a.1) .no))
theorem k_z01 (hm : Try.prog.follows .mixedOrders = true) : SpecOk Try.prog 57 c_z01 := specTr_ok (pol := p_z01) hm (cf := cf_z01) (tab_ok specs_nil) fun a b r => (fun h => (altTr_val h).elim (fun ⟨x, hx, e⟩ => ⟨FUEL, e ▸ g_z01 FUEL a.1 (decRes_some hx)⟩) (fun h => (altTr_val h).elim (fun ⟨x, hx, e⟩ => ⟨FUEL, e ▸ g_z01 FUEL a.1 (decRes_some hx)⟩) (fun h => by cases h)))
def s_z02_r : Sig := ⟨[4, 5], [.ptr 0 0 0, .ty (.int .i64)], [.one false [.ptr 1 0 0, .nul 4, .ptr 3 0 0, .ty (.int .i64)], .one false [.hs 2 0], .row (.int .u8), .one false [.hs 4 0], .row (.int .u8)]⟩
def s_z02_r1 : Sig := ⟨[4, 5], [.ptr 0 0 0, .ty (.int .i64)], [.one false [.ptr 1 0 0, .nul 4, .nul 0, .ty (.int .i64)], .one false [.hs 2 0], .row (.int .u8)]⟩
def s_z02_r2 : Sig := ⟨[4, 5], [.nul 0, .ty (.int .i64)], []⟩
def p_z02 : Pol := ⟨fun i => none, fun i => none, some [(4, .keep), (5, .keep)], [.keep, .keep], []⟩
def e_z02 : List EK := [.ty (.int .i64), .ty .str]
def h_z02 : List HK := []
noncomputable def cf_z02 : CallF := mkCF [(57, c_z01)] [(57, [.str])]
noncomputable def ls_z02 (n : Nat) : Loops := fun i =>  none
theorem m_z02 (n : Nat) (a0 : Int) (a1 : ByteArray) : runFT Try.prog cf_z02 p_z02 (ls_z02 n) Try.f30 (bodyOf Try.f30) (EK.encs e_z02 ((a0, (a1, ())), ()).1) (HK.encs h_z02 ((a0, (a1, ())), ()).2) = M_z02 n a0 a1 := by kernel_rfl
theorem g_z02 (n : Nat) (a0 : Int) (a1 : ByteArray) {r : Res} (h : M_z02 n a0 a1 = some r) : runF Try.prog cf_z02 n p_z02 30 (EK.encs e_z02 ((a0, (a1, ())), ()).1) (HK.encs h_z02 ((a0, (a1, ())), ()).2) = some r := by
  have hb : LOk Try.prog cf_z02 Try.f30.ntmps 0 n p_z02 (ls_z02 n) (bodyOf Try.f30) := ⟨trivial, ⟨trivial, ⟨⟨trivial, ⟨⟨trivial, trivial⟩, trivial⟩⟩, ⟨trivial, ⟨trivial, trivial⟩⟩⟩⟩⟩
  exact runFT_some Try.prog (c := bodyOf Try.f30) Try.func30 (show Try.f30.body = some (bodyOf Try.f30) from rfl) (show (2 : Nat) ≤ 29 by decide) hb ((m_z02 n a0 a1).trans h) rfl (by kernel_rfl)
noncomputable def c_z02 : Spec := specTr e_z02 h_z02 fun a b => (altTr ro_z02 rh_z02 (Q_z02 a.1 a.2.1) (altTr ro_z02_2 rh_z02_2 (Q_z02_2 a.1 a.2.1) .no))
theorem k_z02 (hm : Try.prog.follows .mixedOrders = true) : SpecOk Try.prog 30 c_z02 := specTr_ok (pol := p_z02) hm (cf := cf_z02) (tab_ok (specs_cons (k_z01 hm) specs_nil)) fun a b r => (fun h => (altTr_val h).elim (fun ⟨x, hx, e⟩ => ⟨FUEL, e ▸ g_z02 FUEL a.1 a.2.1 (decRes_some hx)⟩) (fun h => (altTr_val h).elim (fun ⟨x, hx, e⟩ => ⟨FUEL, e ▸ g_z02 FUEL a.1 a.2.1 (decRes_some hx)⟩) (fun h => by cases h)))
def s_z03_r : Sig := ⟨[2], [.ty .str], [.one false [.hs 1 0], .row (.int .u8)]⟩
def p_z03 : Pol := ⟨fun i => none, fun i => none, some [(2, .keep)], [.keep], []⟩
def e_z03 : List EK := [.ptr 0 0 0]
def h_z03 : List HK := [.one false [.hs 1 0], .row (.int .u8)]
noncomputable def cf_z03 : CallF := mkCF [] []
noncomputable def ls_z03 (n : Nat) : Loops := fun i =>  none
theorem m_z03 (n : Nat) (a0 : Nat) (a1 : (List Int)) : runFT Try.prog cf_z03 p_z03 (ls_z03 n) Try.f45 (bodyOf Try.f45) (EK.encs e_z03 (((), ()), ((a0, ()), (a1, ()))).1) (HK.encs h_z03 (((), ()), ((a0, ()), (a1, ()))).2) = M_z03 n a0 a1 := by kernel_rfl
theorem g_z03 (n : Nat) (a0 : Nat) (a1 : (List Int)) {r : Res} (h : M_z03 n a0 a1 = some r) : runF Try.prog cf_z03 n p_z03 45 (EK.encs e_z03 (((), ()), ((a0, ()), (a1, ()))).1) (HK.encs h_z03 (((), ()), ((a0, ()), (a1, ()))).2) = some r := by
  have hb : LOk Try.prog cf_z03 Try.f45.ntmps 2 n p_z03 (ls_z03 n) (bodyOf Try.f45) := ⟨trivial, ⟨⟨trivial, ⟨⟨trivial, trivial⟩, trivial⟩⟩, ⟨trivial, trivial⟩⟩⟩
  exact runFT_some Try.prog (c := bodyOf Try.f45) Try.func45 (show Try.f45.body = some (bodyOf Try.f45) from rfl) (show (1 : Nat) ≤ 10 by decide) hb ((m_z03 n a0 a1).trans h) rfl (by kernel_rfl)
noncomputable def c_z03 : Spec := specQ e_z03 h_z03 ro_z03 rh_z03 fun a b => Q_z03 b.1.1 b.2.1
theorem k_z03 (hm : Try.prog.follows .mixedOrders = true) : SpecOk Try.prog 45 c_z03 := specQ_ok (pol := p_z03) hm (cf := cf_z03) (tab_ok specs_nil) fun a b r h => ⟨FUEL, g_z03 FUEL b.1.1 b.2.1 (decRes_some h)⟩
def s_z04_r : Sig := ⟨[2], [.ty .str], [.one false [.ptr 1 0 0, .nul 4, .ptr 3 0 0, .ty (.int .i64)], .one false [.hs 2 0], .row (.int .u8), .one false [.hs 4 0], .row (.int .u8)]⟩
def p_z04 : Pol := ⟨fun i => none, fun i => none, some [(2, .keep)], [.keep], []⟩
def e_z04 : List EK := [.ptr 0 0 0]
def h_z04 : List HK := [.one false [.ptr 1 0 0, .nul 4, .ptr 3 0 0, .ty (.int .i64)], .one false [.hs 2 0], .row (.int .u8), .one false [.hs 4 0], .row (.int .u8)]
noncomputable def cf_z04 : CallF := mkCF [(45, c_z03)] []
noncomputable def ls_z04 (n : Nat) : Loops := fun i =>  none
theorem m_z04 (n : Nat) (a0 : Int) (a1 : Nat) (a2 : (List Int)) (a3 : Nat) (a4 : (List Int)) : runFT Try.prog cf_z04 p_z04 (ls_z04 n) Try.f17 (bodyOf Try.f17) (EK.encs e_z04 (((), ()), (((), ((), ((), (a0, ())))), ((a1, ()), (a2, ((a3, ()), (a4, ())))))).1) (HK.encs h_z04 (((), ()), (((), ((), ((), (a0, ())))), ((a1, ()), (a2, ((a3, ()), (a4, ())))))).2) = M_z04 n a0 a1 a2 a3 a4 := by kernel_rfl
theorem g_z04 (n : Nat) (a0 : Int) (a1 : Nat) (a2 : (List Int)) (a3 : Nat) (a4 : (List Int)) {r : Res} (h : M_z04 n a0 a1 a2 a3 a4 = some r) : runF Try.prog cf_z04 n p_z04 17 (EK.encs e_z04 (((), ()), (((), ((), ((), (a0, ())))), ((a1, ()), (a2, ((a3, ()), (a4, ())))))).1) (HK.encs h_z04 (((), ()), (((), ((), ((), (a0, ())))), ((a1, ()), (a2, ((a3, ()), (a4, ())))))).2) = some r := by
  have hb : LOk Try.prog cf_z04 Try.f17.ntmps 5 n p_z04 (ls_z04 n) (bodyOf Try.f17) := ⟨trivial, ⟨⟨trivial, ⟨⟨trivial, trivial⟩, trivial⟩⟩, ⟨trivial, trivial⟩⟩⟩
  exact runFT_some Try.prog (c := bodyOf Try.f17) Try.func17 (show Try.f17.body = some (bodyOf Try.f17) from rfl) (show (1 : Nat) ≤ 11 by decide) hb ((m_z04 n a0 a1 a2 a3 a4).trans h) rfl (by kernel_rfl)
noncomputable def c_z04 : Spec := specQ e_z04 h_z04 ro_z04 rh_z04 fun a b => Q_z04 b.1.2.2.2.1 b.2.1.1 b.2.2.1 b.2.2.2.1.1 b.2.2.2.2.1
theorem k_z04 (hm : Try.prog.follows .mixedOrders = true) : SpecOk Try.prog 17 c_z04 := specQ_ok (pol := p_z04) hm (cf := cf_z04) (tab_ok (specs_cons (k_z03 hm) specs_nil)) fun a b r h => ⟨FUEL, g_z04 FUEL b.1.2.2.2.1 b.2.1.1 b.2.2.1 b.2.2.2.1.1 b.2.2.2.2.1 (decRes_some h)⟩
def s_z05_r : Sig := ⟨[2], [.ty .bool], []⟩
def p_z05 : Pol := ⟨fun i => none, fun i => none, some [(2, .keep)], [.keep], []⟩
def e_z05 : List EK := [.ty (.int .i64)]
def h_z05 : List HK := []
noncomputable def cf_z05 : CallF := mkCF [] []
noncomputable def ls_z05 (n : Nat) : Loops := fun i =>  none
theorem m_z05 (n : Nat) (a0 : Int) : runFT Try.prog cf_z05 p_z05 (ls_z05 n) Try.f85 (bodyOf Try.f85) (EK.encs e_z05 ((a0, ()), ()).1) (HK.encs h_z05 ((a0, ()), ()).2) = M_z05 n a0 := by kernel_rfl
theorem g_z05 (n : Nat) (a0 : Int) {r : Res} (h : M_z05 n a0 = some r) : runF Try.prog cf_z05 n p_z05 85 (EK.encs e_z05 ((a0, ()), ()).1) (HK.encs h_z05 ((a0, ()), ()).2) = some r := by
  have hb : LOk Try.prog cf_z05 Try.f85.ntmps 0 n p_z05 (ls_z05 n) (bodyOf Try.f85) := ⟨trivial, ⟨trivial, trivial⟩⟩
  exact runFT_some Try.prog (c := bodyOf Try.f85) Try.func85 (show Try.f85.body = some (bodyOf Try.f85) from rfl) (show (1 : Nat) ≤ 9 by decide) hb ((m_z05 n a0).trans h) rfl (by kernel_rfl)
noncomputable def c_z05 : Spec := specQ e_z05 h_z05 ro_z05 rh_z05 fun a b => Q_z05 a.1
theorem k_z05 (hm : Try.prog.follows .mixedOrders = true) : SpecOk Try.prog 85 c_z05 := specQ_ok (pol := p_z05) hm (cf := cf_z05) (tab_ok specs_nil) fun a b r h => ⟨FUEL, g_z05 FUEL a.1 (decRes_some h)⟩
def s_z06_r : Sig := ⟨[2], [.ty .bool], []⟩
def p_z06 : Pol := ⟨fun i => none, fun i => none, some [(2, .keep)], [.keep], []⟩
def e_z06 : List EK := [.agg SpanT]
def h_z06 : List HK := []
noncomputable def cf_z06 : CallF := mkCF [] []
noncomputable def ls_z06 (n : Nat) : Loops := fun i =>  none
theorem m_z06 (n : Nat) (a0 : SpanS) : runFT Try.prog cf_z06 p_z06 (ls_z06 n) Try.f86 (bodyOf Try.f86) (EK.encs e_z06 ((a0, ()), ()).1) (HK.encs h_z06 ((a0, ()), ()).2) = M_z06 n a0 := by kernel_rfl
theorem g_z06 (n : Nat) (a0 : SpanS) {r : Res} (h : M_z06 n a0 = some r) : runF Try.prog cf_z06 n p_z06 86 (EK.encs e_z06 ((a0, ()), ()).1) (HK.encs h_z06 ((a0, ()), ()).2) = some r := by
  have hb : LOk Try.prog cf_z06 Try.f86.ntmps 0 n p_z06 (ls_z06 n) (bodyOf Try.f86) := ⟨trivial, ⟨⟨trivial, ⟨⟨trivial, trivial⟩, trivial⟩⟩, ⟨trivial, trivial⟩⟩⟩
  exact runFT_some Try.prog (c := bodyOf Try.f86) Try.func86 (show Try.f86.body = some (bodyOf Try.f86) from rfl) (show (1 : Nat) ≤ 29 by decide) hb ((m_z06 n a0).trans h) rfl (by kernel_rfl)
noncomputable def c_z06 : Spec := specQ e_z06 h_z06 ro_z06 rh_z06 fun a b => Q_z06 a.1
theorem k_z06 (hm : Try.prog.follows .mixedOrders = true) : SpecOk Try.prog 86 c_z06 := specQ_ok (pol := p_z06) hm (cf := cf_z06) (tab_ok specs_nil) fun a b r h => ⟨FUEL, g_z06 FUEL a.1 (decRes_some h)⟩
def s_z07_r : Sig := ⟨[2], [.ty .bool], []⟩
def p_z07 : Pol := ⟨fun i => none, fun i => none, some [(2, .keep)], [.keep], []⟩
def e_z07 : List EK := [.agg NodeT]
def h_z07 : List HK := []
noncomputable def cf_z07 : CallF := mkCF [] []
noncomputable def ls_z07 (n : Nat) : Loops := fun i =>  none
theorem m_z07 (n : Nat) (a0 : NodeS) : runFT Try.prog cf_z07 p_z07 (ls_z07 n) Try.f87 (bodyOf Try.f87) (EK.encs e_z07 ((a0, ()), ()).1) (HK.encs h_z07 ((a0, ()), ()).2) = M_z07 n a0 := by kernel_rfl
theorem g_z07 (n : Nat) (a0 : NodeS) {r : Res} (h : M_z07 n a0 = some r) : runF Try.prog cf_z07 n p_z07 87 (EK.encs e_z07 ((a0, ()), ()).1) (HK.encs h_z07 ((a0, ()), ()).2) = some r := by
  have hb : LOk Try.prog cf_z07 Try.f87.ntmps 0 n p_z07 (ls_z07 n) (bodyOf Try.f87) := ⟨trivial, ⟨⟨trivial, ⟨⟨trivial, trivial⟩, trivial⟩⟩, ⟨trivial, trivial⟩⟩⟩
  exact runFT_some Try.prog (c := bodyOf Try.f87) Try.func87 (show Try.f87.body = some (bodyOf Try.f87) from rfl) (show (1 : Nat) ≤ 17 by decide) hb ((m_z07 n a0).trans h) rfl (by kernel_rfl)
noncomputable def c_z07 : Spec := specQ e_z07 h_z07 ro_z07 rh_z07 fun a b => Q_z07 a.1
theorem k_z07 (hm : Try.prog.follows .mixedOrders = true) : SpecOk Try.prog 87 c_z07 := specQ_ok (pol := p_z07) hm (cf := cf_z07) (tab_ok specs_nil) fun a b r h => ⟨FUEL, g_z07 FUEL a.1 (decRes_some h)⟩
def s_z08_r : Sig := ⟨[2], [.ty .bool], []⟩
def s_z08_h0 : Sig := ⟨[1, 57, 58, 59], [.ptr 0 0 0, .ty (.slice ArmT), .ty (.int .i64), .ty (.int .i64)], [.cell NodeT]⟩
def s_z08_t0 : Sig := ⟨[], [], []⟩
def p_z08 : Pol := ⟨fun i => if i = 0 then some [(1, (.own NodeT)), (57, .keep), (58, .keep), (59, .keep)] else none, fun i => if i = 0 then some [] else none, some [(2, .keep)], [.keep], []⟩
def e_z08 : List EK := [.agg NodeT]
def h_z08 : List HK := []
noncomputable def cf_z08 : CallF := mkCF [(85, c_z05), (86, c_z06), (87, c_z07)] [(85, [(.int .i64)]), (86, [SpanT]), (87, [NodeT])]
noncomputable def ls_z08 (n : Nat) : Loops := fun i => if i = 0 then some (loopT 0 (p_z08.head 0) s_z08_h0 fun K v => L_z08_0 n (fun z0 => K .rt (s_z08_r.enc ((z0, ()), ()))) (fun _ => K (.ex 0) (s_z08_t0.enc ((), ()))) v.1.2.1 v.1.2.2.1 v.2.1 n v.1.2.2.2.1)
  else  none
noncomputable def b_z08_0 : Code := partOf (bodyOf Try.f79) [1, 1, 1, 0, 1, 0, 0]
noncomputable def V_z08_0 (n : Nat) (K : Cont) (rec : Sig.sem s_z08_h0 → Option Res) (v : Sig.sem s_z08_h0) : Option Res := F_z08_0 n (fun z0 => K .rt (s_z08_r.enc ((z0, ()), ()))) (fun _ => K (.ex 0) (s_z08_t0.enc ((), ()))) v.1.2.1 v.1.2.2.1 v.2.1 (fun z2 => rec (((), (v.1.2.1, (v.1.2.2.1, (z2, ())))), (v.2.1, ()))) v.1.2.2.2.1
theorem t_z08_0 (n : Nat) (K : Cont) (rec : Sig.sem s_z08_h0 → Option Res) (v : Sig.sem s_z08_h0) : runT Try.prog cf_z08 Try.f79.ntmps 0 p_z08 (ls_z08 n) b_z08_0 (s_z08_h0.enc v) (turnK 0 (p_z08.head 0) s_z08_h0 rec K) = V_z08_0 n K rec v := by kernel_rfl
noncomputable def W_z08_0 (n : Nat) (K : Cont) (m : Nat) (v : Sig.sem s_z08_h0) : Option Res := L_z08_0 n (fun z0 => K .rt (s_z08_r.enc ((z0, ()), ()))) (fun _ => K (.ex 0) (s_z08_t0.enc ((), ()))) v.1.2.1 v.1.2.2.1 v.2.1 m v.1.2.2.2.1
theorem i_z08_0 (n : Nat) (K : Cont) : ∀ m v, iter (V_z08_0 n K) m v = W_z08_0 n K m v := by
  intro m
  induction m with
  | zero => intro v; rfl
  | succ m ih =>
    intro v
    show V_z08_0 n K (iter (V_z08_0 n K) m) v = V_z08_0 n K (W_z08_0 n K m) v
    rw [show iter (V_z08_0 n K) m = W_z08_0 n K m from funext ih]
theorem o_z08_0 (n : Nat) : ∀ L, ls_z08 n 0 = some L → ∀ s K r, L s K = some r → ∃ x s', loopN (run Try.prog cf_z08 Try.f79.ntmps 0 n p_z08 none b_z08_0) (gc 0 (p_z08.head 0)) n s = some (x, s') ∧ K x s' = some r := by
  intro L hL s K r h
  have hL : some (loopT 0 (p_z08.head 0) s_z08_h0 fun K v => W_z08_0 n K n v) = some L := hL
  cases hL
  have hb : LOk Try.prog cf_z08 Try.f79.ntmps 0 n p_z08 (ls_z08 n) b_z08_0 := ⟨trivial, ⟨⟨trivial, trivial⟩, ⟨⟨trivial, ⟨trivial, ⟨⟨trivial, trivial⟩, trivial⟩⟩⟩, trivial⟩⟩⟩
  refine loopT_ok hb (V_z08_0 n) (t_z08_0 n) n s K r ?_
  rw [← h]
  unfold loopT
  simp only [i_z08_0]
theorem m_z08 (n : Nat) (a0 : NodeS) : runFT Try.prog cf_z08 p_z08 (ls_z08 n) Try.f79 (bodyOf Try.f79) (EK.encs e_z08 ((a0, ()), ()).1) (HK.encs h_z08 ((a0, ()), ()).2) = M_z08 n a0 := by kernel_rfl
theorem g_z08 (n : Nat) (a0 : NodeS) {r : Res} (h : M_z08 n a0 = some r) : runF Try.prog cf_z08 n p_z08 79 (EK.encs e_z08 ((a0, ()), ()).1) (HK.encs h_z08 ((a0, ()), ()).2) = some r := by
  have hb : LOk Try.prog cf_z08 Try.f79.ntmps 0 n p_z08 (ls_z08 n) (bodyOf Try.f79) := ⟨trivial, ⟨⟨trivial, ⟨⟨trivial, trivial⟩, trivial⟩⟩, ⟨⟨trivial, ⟨⟨trivial, trivial⟩, trivial⟩⟩, ⟨⟨trivial, (o_z08_0 n)⟩, ⟨trivial, trivial⟩⟩⟩⟩⟩
  exact runFT_some Try.prog (c := bodyOf Try.f79) Try.func79 (show Try.f79.body = some (bodyOf Try.f79) from rfl) (show (1 : Nat) ≤ 99 by decide) hb ((m_z08 n a0).trans h) rfl (by kernel_rfl)
noncomputable def c_z08 : Spec := specQ e_z08 h_z08 ro_z08 rh_z08 fun a b => Q_z08 a.1
theorem k_z08 (hm : Try.prog.follows .mixedOrders = true) : SpecOk Try.prog 79 c_z08 := specQ_ok (pol := p_z08) hm (cf := cf_z08) (tab_ok (specs_cons (k_z05 hm) (specs_cons (k_z06 hm) (specs_cons (k_z07 hm) specs_nil)))) fun a b r h => ⟨FUEL, g_z08 FUEL a.1 (decRes_some h)⟩
def s_z09_h0 : Sig := ⟨[0, 5, 6, 7], [.ty (.slice NodeT), .ty (.slice NodeT), .ty (.int .i64), .ty (.int .i64)], []⟩
def s_z09_r : Sig := ⟨[2], [.ty .bool], []⟩
def s_z09_t0 : Sig := ⟨[], [], []⟩
def p_z09 : Pol := ⟨fun i => if i = 0 then some [(0, .keep), (5, .keep), (6, .keep), (7, .keep)] else none, fun i => if i = 0 then some [] else none, some [(2, .keep)], [.keep], []⟩
def e_z09 : List EK := [.ty (.slice NodeT)]
def h_z09 : List HK := []
noncomputable def cf_z09 : CallF := mkCF [(79, c_z08)] [(79, [NodeT])]
noncomputable def ls_z09 (n : Nat) : Loops := fun i => if i = 0 then some (loopT 0 (p_z09.head 0) s_z09_h0 fun K v => L_z09_0 n (fun z0 => K .rt (s_z09_r.enc ((z0, ()), ()))) (fun _ => K (.ex 0) (s_z09_t0.enc ((), ()))) v.1.1 v.1.2.1 v.1.2.2.1 n v.1.2.2.2.1)
  else  none
noncomputable def b_z09_0 : Code := partOf (bodyOf Try.f72) [1, 0, 1, 0, 0]
noncomputable def V_z09_0 (n : Nat) (K : Cont) (rec : Sig.sem s_z09_h0 → Option Res) (v : Sig.sem s_z09_h0) : Option Res := F_z09_0 n (fun z0 => K .rt (s_z09_r.enc ((z0, ()), ()))) (fun _ => K (.ex 0) (s_z09_t0.enc ((), ()))) v.1.1 v.1.2.1 v.1.2.2.1 (fun z3 => rec ((v.1.1, (v.1.2.1, (v.1.2.2.1, (z3, ())))), ())) v.1.2.2.2.1
theorem t_z09_0 (n : Nat) (K : Cont) (rec : Sig.sem s_z09_h0 → Option Res) (v : Sig.sem s_z09_h0) : runT Try.prog cf_z09 Try.f72.ntmps 0 p_z09 (ls_z09 n) b_z09_0 (s_z09_h0.enc v) (turnK 0 (p_z09.head 0) s_z09_h0 rec K) = V_z09_0 n K rec v := by kernel_rfl
noncomputable def W_z09_0 (n : Nat) (K : Cont) (m : Nat) (v : Sig.sem s_z09_h0) : Option Res := L_z09_0 n (fun z0 => K .rt (s_z09_r.enc ((z0, ()), ()))) (fun _ => K (.ex 0) (s_z09_t0.enc ((), ()))) v.1.1 v.1.2.1 v.1.2.2.1 m v.1.2.2.2.1
theorem i_z09_0 (n : Nat) (K : Cont) : ∀ m v, iter (V_z09_0 n K) m v = W_z09_0 n K m v := by
  intro m
  induction m with
  | zero => intro v; rfl
  | succ m ih =>
    intro v
    show V_z09_0 n K (iter (V_z09_0 n K) m) v = V_z09_0 n K (W_z09_0 n K m) v
    rw [show iter (V_z09_0 n K) m = W_z09_0 n K m from funext ih]
theorem o_z09_0 (n : Nat) : ∀ L, ls_z09 n 0 = some L → ∀ s K r, L s K = some r → ∃ x s', loopN (run Try.prog cf_z09 Try.f72.ntmps 0 n p_z09 none b_z09_0) (gc 0 (p_z09.head 0)) n s = some (x, s') ∧ K x s' = some r := by
  intro L hL s K r h
  have hL : some (loopT 0 (p_z09.head 0) s_z09_h0 fun K v => W_z09_0 n K n v) = some L := hL
  cases hL
  have hb : LOk Try.prog cf_z09 Try.f72.ntmps 0 n p_z09 (ls_z09 n) b_z09_0 := ⟨trivial, ⟨⟨trivial, trivial⟩, ⟨⟨trivial, ⟨trivial, ⟨⟨trivial, trivial⟩, trivial⟩⟩⟩, trivial⟩⟩⟩
  refine loopT_ok hb (V_z09_0 n) (t_z09_0 n) n s K r ?_
  rw [← h]
  unfold loopT
  simp only [i_z09_0]
theorem m_z09 (n : Nat) (a0 : (List NodeS)) : runFT Try.prog cf_z09 p_z09 (ls_z09 n) Try.f72 (bodyOf Try.f72) (EK.encs e_z09 ((a0, ()), ()).1) (HK.encs h_z09 ((a0, ()), ()).2) = M_z09 n a0 := by kernel_rfl
theorem g_z09 (n : Nat) (a0 : (List NodeS)) {r : Res} (h : M_z09 n a0 = some r) : runF Try.prog cf_z09 n p_z09 72 (EK.encs e_z09 ((a0, ()), ()).1) (HK.encs h_z09 ((a0, ()), ()).2) = some r := by
  have hb : LOk Try.prog cf_z09 Try.f72.ntmps 0 n p_z09 (ls_z09 n) (bodyOf Try.f72) := ⟨trivial, ⟨⟨trivial, (o_z09_0 n)⟩, ⟨trivial, trivial⟩⟩⟩
  exact runFT_some Try.prog (c := bodyOf Try.f72) Try.func72 (show Try.f72.body = some (bodyOf Try.f72) from rfl) (show (1 : Nat) ≤ 31 by decide) hb ((m_z09 n a0).trans h) rfl (by kernel_rfl)
noncomputable def c_z09 : Spec := specQ e_z09 h_z09 ro_z09 rh_z09 fun a b => Q_z09 a.1
theorem k_z09 (hm : Try.prog.follows .mixedOrders = true) : SpecOk Try.prog 72 c_z09 := specQ_ok (pol := p_z09) hm (cf := cf_z09) (tab_ok (specs_cons (k_z08 hm) specs_nil)) fun a b r h => ⟨FUEL, g_z09 FUEL a.1 (decRes_some h)⟩
def s_z0a_h0 : Sig := ⟨[3, 10, 11, 12], [.hs 0 0, .ty (.slice ArmT), .ty (.int .i64), .ty (.int .i64)], [.row (.int .i64)]⟩
def s_z0a_t0 : Sig := ⟨[3], [.hs 0 0], [.row (.int .i64)]⟩
def s_z0a_r : Sig := ⟨[2], [.hs 0 0], [.row (.int .i64)]⟩
def p_z0a : Pol := ⟨fun i => if i = 0 then some [(3, (.own (.int .i64))), (10, .keep), (11, .keep), (12, .keep)] else none, fun i => if i = 0 then some [(3, (.own (.int .i64)))] else none, some [(2, (.own (.int .i64)))], [(.own (.int .i64))], []⟩
def e_z0a : List EK := [.agg NodeT]
def h_z0a : List HK := []
noncomputable def cf_z0a : CallF := mkCF [] []
noncomputable def ls_z0a (n : Nat) : Loops := fun i => if i = 0 then some (loopT 0 (p_z0a.head 0) s_z0a_h0 fun K v => L_z0a_0 n (fun z0 z1 => K (.ex 0) (s_z0a_t0.enc ((z0, ()), (z1, ())))) v.1.2.1 v.1.2.2.1 n v.1.1 v.1.2.2.2.1 v.2.1)
  else  none
noncomputable def b_z0a_0 : Code := partOf (bodyOf Try.f80) [1, 1, 0, 1, 0, 0]
noncomputable def V_z0a_0 (n : Nat) (K : Cont) (rec : Sig.sem s_z0a_h0 → Option Res) (v : Sig.sem s_z0a_h0) : Option Res := F_z0a_0 n (fun z0 z1 => K (.ex 0) (s_z0a_t0.enc ((z0, ()), (z1, ())))) v.1.2.1 v.1.2.2.1 (fun z0 z3 z4 => rec ((z0, (v.1.2.1, (v.1.2.2.1, (z3, ())))), (z4, ()))) v.1.1 v.1.2.2.2.1 v.2.1
theorem t_z0a_0 (n : Nat) (K : Cont) (rec : Sig.sem s_z0a_h0 → Option Res) (v : Sig.sem s_z0a_h0) : runT Try.prog cf_z0a Try.f80.ntmps 0 p_z0a (ls_z0a n) b_z0a_0 (s_z0a_h0.enc v) (turnK 0 (p_z0a.head 0) s_z0a_h0 rec K) = V_z0a_0 n K rec v := by kernel_rfl
noncomputable def W_z0a_0 (n : Nat) (K : Cont) (m : Nat) (v : Sig.sem s_z0a_h0) : Option Res := L_z0a_0 n (fun z0 z1 => K (.ex 0) (s_z0a_t0.enc ((z0, ()), (z1, ())))) v.1.2.1 v.1.2.2.1 m v.1.1 v.1.2.2.2.1 v.2.1
theorem i_z0a_0 (n : Nat) (K : Cont) : ∀ m v, iter (V_z0a_0 n K) m v = W_z0a_0 n K m v := by
  intro m
  induction m with
  | zero => intro v; rfl
  | succ m ih =>
    intro v
    show V_z0a_0 n K (iter (V_z0a_0 n K) m) v = V_z0a_0 n K (W_z0a_0 n K m) v
    rw [show iter (V_z0a_0 n K) m = W_z0a_0 n K m from funext ih]
theorem o_z0a_0 (n : Nat) : ∀ L, ls_z0a n 0 = some L → ∀ s K r, L s K = some r → ∃ x s', loopN (run Try.prog cf_z0a Try.f80.ntmps 0 n p_z0a none b_z0a_0) (gc 0 (p_z0a.head 0)) n s = some (x, s') ∧ K x s' = some r := by
  intro L hL s K r h
  have hL : some (loopT 0 (p_z0a.head 0) s_z0a_h0 fun K v => W_z0a_0 n K n v) = some L := hL
  cases hL
  have hb : LOk Try.prog cf_z0a Try.f80.ntmps 0 n p_z0a (ls_z0a n) b_z0a_0 := ⟨trivial, ⟨⟨trivial, trivial⟩, ⟨⟨trivial, trivial⟩, trivial⟩⟩⟩
  refine loopT_ok hb (V_z0a_0 n) (t_z0a_0 n) n s K r ?_
  rw [← h]
  unfold loopT
  simp only [i_z0a_0]
theorem m_z0a (n : Nat) (a0 : NodeS) : runFT Try.prog cf_z0a p_z0a (ls_z0a n) Try.f80 (bodyOf Try.f80) (EK.encs e_z0a ((a0, ()), ()).1) (HK.encs h_z0a ((a0, ()), ()).2) = M_z0a n a0 := by kernel_rfl
theorem g_z0a (n : Nat) (a0 : NodeS) {r : Res} (h : M_z0a n a0 = some r) : runF Try.prog cf_z0a n p_z0a 80 (EK.encs e_z0a ((a0, ()), ()).1) (HK.encs h_z0a ((a0, ()), ()).2) = some r := by
  have hb : LOk Try.prog cf_z0a Try.f80.ntmps 0 n p_z0a (ls_z0a n) (bodyOf Try.f80) := ⟨trivial, ⟨trivial, ⟨⟨trivial, (o_z0a_0 n)⟩, ⟨trivial, trivial⟩⟩⟩⟩
  exact runFT_some Try.prog (c := bodyOf Try.f80) Try.func80 (show Try.f80.body = some (bodyOf Try.f80) from rfl) (show (1 : Nat) ≤ 23 by decide) hb ((m_z0a n a0).trans h) rfl (by kernel_rfl)
noncomputable def c_z0a : Spec := specQ e_z0a h_z0a ro_z0a rh_z0a fun a b => Q_z0a a.1
theorem k_z0a (hm : Try.prog.follows .mixedOrders = true) : SpecOk Try.prog 80 c_z0a := specQ_ok (pol := p_z0a) hm (cf := cf_z0a) (tab_ok specs_nil) fun a b r h => ⟨FUEL, g_z0a FUEL a.1 (decRes_some h)⟩
def s_z0b_h0 : Sig := ⟨[1, 4, 8, 9, 10], [.ty (.int .i64), .ptr 0 0 0, .ty (.slice NodeT), .ty (.int .i64), .ty (.int .i64)], [.cell NodeT]⟩
def s_z0b_r : Sig := ⟨[4, 5], [.ptr 0 0 0, .ty .bool], [.cell NodeT]⟩
def s_z0b_t0 : Sig := ⟨[4], [.ptr 0 0 0], [.cell NodeT]⟩
def p_z0b : Pol := ⟨fun i => if i = 0 then some [(1, .keep), (4, (.own NodeT)), (8, .keep), (9, .keep), (10, .keep)] else none, fun i => if i = 0 then some [(4, (.own NodeT))] else none, some [(4, (.own NodeT)), (5, .keep)], [.keep, .keep], []⟩
def e_z0b : List EK := [.ty (.slice NodeT), .ty (.int .i64)]
def h_z0b : List HK := []
noncomputable def cf_z0b : CallF := mkCF [] []
noncomputable def ls_z0b (n : Nat) : Loops := fun i => if i = 0 then some (loopT 0 (p_z0b.head 0) s_z0b_h0 fun K v => L_z0b_0 n (fun z0 z1 => K .rt (s_z0b_r.enc (((), (z0, ())), (z1, ())))) (fun _ => K (.ex 0) (s_z0b_t0.enc (((), ()), (v.2.1, ())))) v.1.1 v.1.2.2.1 v.1.2.2.2.1 v.2.1 n v.1.2.2.2.2.1)
  else  none
noncomputable def b_z0b_0 : Code := partOf (bodyOf Try.f76) [1, 0, 1, 0, 0]
noncomputable def V_z0b_0 (n : Nat) (K : Cont) (rec : Sig.sem s_z0b_h0 → Option Res) (v : Sig.sem s_z0b_h0) : Option Res := F_z0b_0 n (fun z0 z1 => K .rt (s_z0b_r.enc (((), (z0, ())), (z1, ())))) (fun _ => K (.ex 0) (s_z0b_t0.enc (((), ()), (v.2.1, ())))) v.1.1 v.1.2.2.1 v.1.2.2.2.1 v.2.1 (fun z3 => rec ((v.1.1, ((), (v.1.2.2.1, (v.1.2.2.2.1, (z3, ()))))), (v.2.1, ()))) v.1.2.2.2.2.1
theorem t_z0b_0 (n : Nat) (K : Cont) (rec : Sig.sem s_z0b_h0 → Option Res) (v : Sig.sem s_z0b_h0) : runT Try.prog cf_z0b Try.f76.ntmps 0 p_z0b (ls_z0b n) b_z0b_0 (s_z0b_h0.enc v) (turnK 0 (p_z0b.head 0) s_z0b_h0 rec K) = V_z0b_0 n K rec v := by kernel_rfl
noncomputable def W_z0b_0 (n : Nat) (K : Cont) (m : Nat) (v : Sig.sem s_z0b_h0) : Option Res := L_z0b_0 n (fun z0 z1 => K .rt (s_z0b_r.enc (((), (z0, ())), (z1, ())))) (fun _ => K (.ex 0) (s_z0b_t0.enc (((), ()), (v.2.1, ())))) v.1.1 v.1.2.2.1 v.1.2.2.2.1 v.2.1 m v.1.2.2.2.2.1
theorem i_z0b_0 (n : Nat) (K : Cont) : ∀ m v, iter (V_z0b_0 n K) m v = W_z0b_0 n K m v := by
  intro m
  induction m with
  | zero => intro v; rfl
  | succ m ih =>
    intro v
    show V_z0b_0 n K (iter (V_z0b_0 n K) m) v = V_z0b_0 n K (W_z0b_0 n K m) v
    rw [show iter (V_z0b_0 n K) m = W_z0b_0 n K m from funext ih]
theorem o_z0b_0 (n : Nat) : ∀ L, ls_z0b n 0 = some L → ∀ s K r, L s K = some r → ∃ x s', loopN (run Try.prog cf_z0b Try.f76.ntmps 0 n p_z0b none b_z0b_0) (gc 0 (p_z0b.head 0)) n s = some (x, s') ∧ K x s' = some r := by
  intro L hL s K r h
  have hL : some (loopT 0 (p_z0b.head 0) s_z0b_h0 fun K v => W_z0b_0 n K n v) = some L := hL
  cases hL
  have hb : LOk Try.prog cf_z0b Try.f76.ntmps 0 n p_z0b (ls_z0b n) b_z0b_0 := ⟨trivial, ⟨⟨trivial, trivial⟩, ⟨⟨trivial, ⟨trivial, ⟨⟨trivial, trivial⟩, trivial⟩⟩⟩, trivial⟩⟩⟩
  refine loopT_ok hb (V_z0b_0 n) (t_z0b_0 n) n s K r ?_
  rw [← h]
  unfold loopT
  simp only [i_z0b_0]
theorem m_z0b (n : Nat) (a0 : (List NodeS)) (a1 : Int) : runFT Try.prog cf_z0b p_z0b (ls_z0b n) Try.f76 (bodyOf Try.f76) (EK.encs e_z0b ((a0, (a1, ())), ()).1) (HK.encs h_z0b ((a0, (a1, ())), ()).2) = M_z0b n a0 a1 := by kernel_rfl
theorem g_z0b (n : Nat) (a0 : (List NodeS)) (a1 : Int) {r : Res} (h : M_z0b n a0 a1 = some r) : runF Try.prog cf_z0b n p_z0b 76 (EK.encs e_z0b ((a0, (a1, ())), ()).1) (HK.encs h_z0b ((a0, (a1, ())), ()).2) = some r := by
  have hb : LOk Try.prog cf_z0b Try.f76.ntmps 0 n p_z0b (ls_z0b n) (bodyOf Try.f76) := ⟨trivial, ⟨⟨trivial, (o_z0b_0 n)⟩, ⟨trivial, trivial⟩⟩⟩
  exact runFT_some Try.prog (c := bodyOf Try.f76) Try.func76 (show Try.f76.body = some (bodyOf Try.f76) from rfl) (show (2 : Nat) ≤ 21 by decide) hb ((m_z0b n a0 a1).trans h) rfl (by kernel_rfl)
noncomputable def c_z0b : Spec := specQ e_z0b h_z0b ro_z0b rh_z0b fun a b => Q_z0b a.1 a.2.1
theorem k_z0b (hm : Try.prog.follows .mixedOrders = true) : SpecOk Try.prog 76 c_z0b := specQ_ok (pol := p_z0b) hm (cf := cf_z0b) (tab_ok specs_nil) fun a b r h => ⟨FUEL, g_z0b FUEL a.1 a.2.1 (decRes_some h)⟩
def s_z0c_h0 : Sig := ⟨[0, 9, 10, 11], [.ty (.slice NodeT), .ty (.slice NodeT), .ty (.int .i64), .ty (.int .i64)], []⟩
def s_z0c_h2 : Sig := ⟨[0, 9, 10, 11, 16, 17, 18], [.ty (.slice NodeT), .ty (.slice NodeT), .ty (.int .i64), .ty (.int .i64), .hs 0 0, .ty (.int .i64), .ty (.int .i64)], [.row (.int .i64)]⟩
def s_z0c_r : Sig := ⟨[2], [.ty .bool], []⟩
def s_z0c_t2 : Sig := ⟨[0, 9, 10, 11], [.ty (.slice NodeT), .ty (.slice NodeT), .ty (.int .i64), .ty (.int .i64)], []⟩
def s_z0c_t0 : Sig := ⟨[], [], []⟩
def p_z0c : Pol := ⟨fun i => if i = 0 then some [(0, .keep), (9, .keep), (10, .keep), (11, .keep)] else if i = 2 then some [(0, .keep), (9, .keep), (10, .keep), (11, .keep), (16, (.own (.int .i64))), (17, .keep), (18, .keep)] else none, fun i => if i = 2 then some [(0, .keep), (9, .keep), (10, .keep), (11, .keep)] else if i = 0 then some [] else none, some [(2, .keep)], [.keep], []⟩
def e_z0c : List EK := [.ty (.slice NodeT)]
def h_z0c : List HK := []
noncomputable def cf_z0c : CallF := mkCF [(80, c_z0a), (76, c_z0b)] [(80, [NodeT]), (76, [(.slice NodeT), (.int .i64)])]
noncomputable def ls_z0c (n : Nat) : Loops := fun i => if i = 2 then some (loopT 0 (p_z0c.head 2) s_z0c_h2 fun K v => L_z0c_2 n (fun z0 => K .rt (s_z0c_r.enc ((z0, ()), ()))) (fun _ => K (.ex 2) (s_z0c_t2.enc ((v.1.1, (v.1.2.1, (v.1.2.2.1, (v.1.2.2.2.1, ())))), ()))) v.1.1 v.1.2.1 v.1.2.2.1 v.1.2.2.2.1 v.1.2.2.2.2.1 v.1.2.2.2.2.2.1 v.2.1 n v.1.2.2.2.2.2.2.1)
  else if i = 0 then some (loopT 0 (p_z0c.head 0) s_z0c_h0 fun K v => L_z0c_0 n (fun z0 => K .rt (s_z0c_r.enc ((z0, ()), ()))) (fun _ => K (.ex 0) (s_z0c_t0.enc ((), ()))) v.1.1 v.1.2.1 v.1.2.2.1 n v.1.2.2.2.1)
  else  none
noncomputable def b_z0c_2 : Code := partOf (bodyOf Try.f73) [1, 0, 1, 0, 0, 1, 1, 0, 0, 1, 1, 0, 0]
noncomputable def V_z0c_2 (n : Nat) (K : Cont) (rec : Sig.sem s_z0c_h2 → Option Res) (v : Sig.sem s_z0c_h2) : Option Res := F_z0c_2 n (fun z0 => K .rt (s_z0c_r.enc ((z0, ()), ()))) (fun _ => K (.ex 2) (s_z0c_t2.enc ((v.1.1, (v.1.2.1, (v.1.2.2.1, (v.1.2.2.2.1, ())))), ()))) v.1.1 v.1.2.1 v.1.2.2.1 v.1.2.2.2.1 v.1.2.2.2.2.1 v.1.2.2.2.2.2.1 v.2.1 (fun z6 => rec ((v.1.1, (v.1.2.1, (v.1.2.2.1, (v.1.2.2.2.1, (v.1.2.2.2.2.1, (v.1.2.2.2.2.2.1, (z6, ()))))))), (v.2.1, ()))) v.1.2.2.2.2.2.2.1
theorem t_z0c_2 (n : Nat) (K : Cont) (rec : Sig.sem s_z0c_h2 → Option Res) (v : Sig.sem s_z0c_h2) : runT Try.prog cf_z0c Try.f73.ntmps 0 p_z0c (ls_z0c n) b_z0c_2 (s_z0c_h2.enc v) (turnK 0 (p_z0c.head 2) s_z0c_h2 rec K) = V_z0c_2 n K rec v := by kernel_rfl
noncomputable def W_z0c_2 (n : Nat) (K : Cont) (m : Nat) (v : Sig.sem s_z0c_h2) : Option Res := L_z0c_2 n (fun z0 => K .rt (s_z0c_r.enc ((z0, ()), ()))) (fun _ => K (.ex 2) (s_z0c_t2.enc ((v.1.1, (v.1.2.1, (v.1.2.2.1, (v.1.2.2.2.1, ())))), ()))) v.1.1 v.1.2.1 v.1.2.2.1 v.1.2.2.2.1 v.1.2.2.2.2.1 v.1.2.2.2.2.2.1 v.2.1 m v.1.2.2.2.2.2.2.1
theorem i_z0c_2 (n : Nat) (K : Cont) : ∀ m v, iter (V_z0c_2 n K) m v = W_z0c_2 n K m v := by
  intro m
  induction m with
  | zero => intro v; rfl
  | succ m ih =>
    intro v
    show V_z0c_2 n K (iter (V_z0c_2 n K) m) v = V_z0c_2 n K (W_z0c_2 n K m) v
    rw [show iter (V_z0c_2 n K) m = W_z0c_2 n K m from funext ih]
theorem o_z0c_2 (n : Nat) : ∀ L, ls_z0c n 2 = some L → ∀ s K r, L s K = some r → ∃ x s', loopN (run Try.prog cf_z0c Try.f73.ntmps 0 n p_z0c none b_z0c_2) (gc 0 (p_z0c.head 2)) n s = some (x, s') ∧ K x s' = some r := by
  intro L hL s K r h
  have hL : some (loopT 0 (p_z0c.head 2) s_z0c_h2 fun K v => W_z0c_2 n K n v) = some L := hL
  cases hL
  have hb : LOk Try.prog cf_z0c Try.f73.ntmps 0 n p_z0c (ls_z0c n) b_z0c_2 := ⟨trivial, ⟨⟨trivial, trivial⟩, ⟨⟨trivial, ⟨trivial, ⟨trivial, ⟨⟨trivial, trivial⟩, trivial⟩⟩⟩⟩, trivial⟩⟩⟩
  refine loopT_ok hb (V_z0c_2 n) (t_z0c_2 n) n s K r ?_
  rw [← h]
  unfold loopT
  simp only [i_z0c_2]
noncomputable def b_z0c_0 : Code := partOf (bodyOf Try.f73) [1, 0, 1, 0, 0]
noncomputable def V_z0c_0 (n : Nat) (K : Cont) (rec : Sig.sem s_z0c_h0 → Option Res) (v : Sig.sem s_z0c_h0) : Option Res := F_z0c_0 n (fun z0 => K .rt (s_z0c_r.enc ((z0, ()), ()))) (fun _ => K (.ex 0) (s_z0c_t0.enc ((), ()))) v.1.1 v.1.2.1 v.1.2.2.1 (fun z3 => rec ((v.1.1, (v.1.2.1, (v.1.2.2.1, (z3, ())))), ())) v.1.2.2.2.1
theorem t_z0c_0 (n : Nat) (K : Cont) (rec : Sig.sem s_z0c_h0 → Option Res) (v : Sig.sem s_z0c_h0) : runT Try.prog cf_z0c Try.f73.ntmps 0 p_z0c (ls_z0c n) b_z0c_0 (s_z0c_h0.enc v) (turnK 0 (p_z0c.head 0) s_z0c_h0 rec K) = V_z0c_0 n K rec v := by kernel_rfl
noncomputable def W_z0c_0 (n : Nat) (K : Cont) (m : Nat) (v : Sig.sem s_z0c_h0) : Option Res := L_z0c_0 n (fun z0 => K .rt (s_z0c_r.enc ((z0, ()), ()))) (fun _ => K (.ex 0) (s_z0c_t0.enc ((), ()))) v.1.1 v.1.2.1 v.1.2.2.1 m v.1.2.2.2.1
theorem i_z0c_0 (n : Nat) (K : Cont) : ∀ m v, iter (V_z0c_0 n K) m v = W_z0c_0 n K m v := by
  intro m
  induction m with
  | zero => intro v; rfl
  | succ m ih =>
    intro v
    show V_z0c_0 n K (iter (V_z0c_0 n K) m) v = V_z0c_0 n K (W_z0c_0 n K m) v
    rw [show iter (V_z0c_0 n K) m = W_z0c_0 n K m from funext ih]
theorem o_z0c_0 (n : Nat) : ∀ L, ls_z0c n 0 = some L → ∀ s K r, L s K = some r → ∃ x s', loopN (run Try.prog cf_z0c Try.f73.ntmps 0 n p_z0c none b_z0c_0) (gc 0 (p_z0c.head 0)) n s = some (x, s') ∧ K x s' = some r := by
  intro L hL s K r h
  have hL : some (loopT 0 (p_z0c.head 0) s_z0c_h0 fun K v => W_z0c_0 n K n v) = some L := hL
  cases hL
  have hb : LOk Try.prog cf_z0c Try.f73.ntmps 0 n p_z0c (ls_z0c n) b_z0c_0 := ⟨trivial, ⟨⟨trivial, trivial⟩, ⟨⟨trivial, ⟨trivial, (o_z0c_2 n)⟩⟩, trivial⟩⟩⟩
  refine loopT_ok hb (V_z0c_0 n) (t_z0c_0 n) n s K r ?_
  rw [← h]
  unfold loopT
  simp only [i_z0c_0]
theorem m_z0c (n : Nat) (a0 : (List NodeS)) : runFT Try.prog cf_z0c p_z0c (ls_z0c n) Try.f73 (bodyOf Try.f73) (EK.encs e_z0c ((a0, ()), ()).1) (HK.encs h_z0c ((a0, ()), ()).2) = M_z0c n a0 := by kernel_rfl
theorem g_z0c (n : Nat) (a0 : (List NodeS)) {r : Res} (h : M_z0c n a0 = some r) : runF Try.prog cf_z0c n p_z0c 73 (EK.encs e_z0c ((a0, ()), ()).1) (HK.encs h_z0c ((a0, ()), ()).2) = some r := by
  have hb : LOk Try.prog cf_z0c Try.f73.ntmps 0 n p_z0c (ls_z0c n) (bodyOf Try.f73) := ⟨trivial, ⟨⟨trivial, (o_z0c_0 n)⟩, ⟨trivial, trivial⟩⟩⟩
  exact runFT_some Try.prog (c := bodyOf Try.f73) Try.func73 (show Try.f73.body = some (bodyOf Try.f73) from rfl) (show (1 : Nat) ≤ 40 by decide) hb ((m_z0c n a0).trans h) rfl (by kernel_rfl)
noncomputable def c_z0c : Spec := specQ e_z0c h_z0c ro_z0c rh_z0c fun a b => Q_z0c a.1
theorem k_z0c (hm : Try.prog.follows .mixedOrders = true) : SpecOk Try.prog 73 c_z0c := specQ_ok (pol := p_z0c) hm (cf := cf_z0c) (tab_ok (specs_cons (k_z0a hm) (specs_cons (k_z0b hm) specs_nil))) fun a b r h => ⟨FUEL, g_z0c FUEL a.1 (decRes_some h)⟩
def s_z0d_r : Sig := ⟨[7], [.ty (.int .i64)], [.one true [.ty (.slice NodeT)], .one false [.mp 2], .mf (.int .i64) (.int .i64), .one true [.ty .bool], .one false [.mp 5], .mf (.int .i64) (.int .i64), .one false [.fn 81 [(0, 0, 0), (1, 0, 0), (3, 0, 0), (4, 0, 0), (6, 0, 0)]]]⟩
def s_z0d_h1 : Sig := ⟨[0, 2, 4, 5, 10, 40, 41, 42], [.ty (.int .i64), .ptr 1 0 0, .ptr 4 0 0, .ptr 6 0 0, .ty (.int .i64), .hs 7 0, .ty (.int .i64), .ty (.int .i64)], [.one true [.ty (.slice NodeT)], .one false [.mp 2], .mf (.int .i64) (.int .i64), .one true [.ty .bool], .one false [.mp 5], .mf (.int .i64) (.int .i64), .one false [.fn 81 [(0, 0, 0), (1, 0, 0), (3, 0, 0), (4, 0, 0), (6, 0, 0)]], .row (.int .i64)]⟩
def s_z0d_t1 : Sig := ⟨[0, 2, 4, 10], [.ty (.int .i64), .ptr 1 0 0, .ptr 4 0 0, .ty (.int .i64)], [.one true [.ty (.slice NodeT)], .one false [.mp 2], .mf (.int .i64) (.int .i64), .one true [.ty .bool], .one false [.mp 5], .mf (.int .i64) (.int .i64), .one false [.fn 81 [(0, 0, 0), (1, 0, 0), (3, 0, 0), (4, 0, 0), (6, 0, 0)]]]⟩
def p_z0d : Pol := ⟨fun i => if i = 1 then some [(0, .keep), (2, .keep), (4, .keep), (5, .keep), (10, .keep), (40, (.own (.int .i64))), (41, .keep), (42, .keep)] else none, fun i => if i = 1 then some [(0, .keep), (2, .keep), (4, .keep), (10, .keep)] else none, some [(7, .keep)], [.keep], []⟩
def e_z0d : List EK := [.ty (.int .i64), .ptr 0 0 0, .ptr 1 0 0, .ptr 3 0 0, .ptr 4 0 0, .ptr 6 0 0]
def h_z0d : List HK := [.one true [.ty (.slice NodeT)], .one false [.mp 2], .mf (.int .i64) (.int .i64), .one true [.ty .bool], .one false [.mp 5], .mf (.int .i64) (.int .i64), .one false [.fn 81 [(0, 0, 0), (1, 0, 0), (3, 0, 0), (4, 0, 0), (6, 0, 0)]]]
noncomputable def cf_z0d (qr_z0d : Int → (List NodeS) → (Int → Option (Int)) → Bool → (Int → Option (Int)) → Option (RS ro_z0d rh_z0d)) : CallF := mkCF [(76, c_z0b), (80, c_z0a), (81, (specQ e_z0d h_z0d ro_z0d rh_z0d fun a b => qr_z0d a.1 b.1.1 b.2.2.1 b.2.2.2.1.1 b.2.2.2.2.2.1))] [(76, [(.slice NodeT), (.int .i64)]), (80, [NodeT])]
noncomputable def ls_z0d (n : Nat) (qr_z0d : Int → (List NodeS) → (Int → Option (Int)) → Bool → (Int → Option (Int)) → Option (RS ro_z0d rh_z0d)) : Loops := fun i => if i = 1 then some (loopT 7 (p_z0d.head 1) s_z0d_h1 fun K v => L_z0d_1 n qr_z0d (fun z1 z2 z3 z4 z5 => K (.ex 1) (s_z0d_t1.enc ((v.1.1, ((), ((), (z1, ())))), ((z2, ()), (((), ()), (z3, ((z4, ()), (((), ()), (z5, (((), ()), ())))))))))) v.1.1 v.1.2.2.2.2.2.1 v.1.2.2.2.2.2.2.1 v.2.2.2.2.2.2.2.2.1 n v.1.2.2.2.2.1 v.1.2.2.2.2.2.2.2.1 v.2.1.1 v.2.2.2.1 v.2.2.2.2.1.1 v.2.2.2.2.2.2.1)
  else  none
noncomputable def b_z0d_1 : Code := partOf (bodyOf Try.f81) [1, 1, 1, 1, 1, 0, 1, 0, 0]
noncomputable def V_z0d_1 (qr_z0d : Int → (List NodeS) → (Int → Option (Int)) → Bool → (Int → Option (Int)) → Option (RS ro_z0d rh_z0d)) (n : Nat) (K : Cont) (rec : Sig.sem s_z0d_h1 → Option Res) (v : Sig.sem s_z0d_h1) : Option Res := F_z0d_1 n qr_z0d (fun z1 z2 z3 z4 z5 => K (.ex 1) (s_z0d_t1.enc ((v.1.1, ((), ((), (z1, ())))), ((z2, ()), (((), ()), (z3, ((z4, ()), (((), ()), (z5, (((), ()), ())))))))))) v.1.1 v.1.2.2.2.2.2.1 v.1.2.2.2.2.2.2.1 v.2.2.2.2.2.2.2.2.1 (fun z1 z4 z5 z6 z7 z8 => rec ((v.1.1, ((), ((), ((), (z1, (v.1.2.2.2.2.2.1, (v.1.2.2.2.2.2.2.1, (z4, ())))))))), ((z5, ()), (((), ()), (z6, ((z7, ()), (((), ()), (z8, (((), ()), (v.2.2.2.2.2.2.2.2.1, ())))))))))) v.1.2.2.2.2.1 v.1.2.2.2.2.2.2.2.1 v.2.1.1 v.2.2.2.1 v.2.2.2.2.1.1 v.2.2.2.2.2.2.1
theorem t_z0d_1 (qr_z0d : Int → (List NodeS) → (Int → Option (Int)) → Bool → (Int → Option (Int)) → Option (RS ro_z0d rh_z0d)) (n : Nat) (K : Cont) (rec : Sig.sem s_z0d_h1 → Option Res) (v : Sig.sem s_z0d_h1) : runT Try.prog (cf_z0d qr_z0d) Try.f81.ntmps 7 p_z0d (ls_z0d n qr_z0d) b_z0d_1 (s_z0d_h1.enc v) (turnK 7 (p_z0d.head 1) s_z0d_h1 rec K) = V_z0d_1 qr_z0d n K rec v := by kernel_rfl
noncomputable def W_z0d_1 (qr_z0d : Int → (List NodeS) → (Int → Option (Int)) → Bool → (Int → Option (Int)) → Option (RS ro_z0d rh_z0d)) (n : Nat) (K : Cont) (m : Nat) (v : Sig.sem s_z0d_h1) : Option Res := L_z0d_1 n qr_z0d (fun z1 z2 z3 z4 z5 => K (.ex 1) (s_z0d_t1.enc ((v.1.1, ((), ((), (z1, ())))), ((z2, ()), (((), ()), (z3, ((z4, ()), (((), ()), (z5, (((), ()), ())))))))))) v.1.1 v.1.2.2.2.2.2.1 v.1.2.2.2.2.2.2.1 v.2.2.2.2.2.2.2.2.1 m v.1.2.2.2.2.1 v.1.2.2.2.2.2.2.2.1 v.2.1.1 v.2.2.2.1 v.2.2.2.2.1.1 v.2.2.2.2.2.2.1
theorem i_z0d_1 (qr_z0d : Int → (List NodeS) → (Int → Option (Int)) → Bool → (Int → Option (Int)) → Option (RS ro_z0d rh_z0d)) (n : Nat) (K : Cont) : ∀ m v, iter (V_z0d_1 qr_z0d n K) m v = W_z0d_1 qr_z0d n K m v := by
  intro m
  induction m with
  | zero => intro v; rfl
  | succ m ih =>
    intro v
    show V_z0d_1 qr_z0d n K (iter (V_z0d_1 qr_z0d n K) m) v = V_z0d_1 qr_z0d n K (W_z0d_1 qr_z0d n K m) v
    rw [show iter (V_z0d_1 qr_z0d n K) m = W_z0d_1 qr_z0d n K m from funext ih]
theorem o_z0d_1 (qr_z0d : Int → (List NodeS) → (Int → Option (Int)) → Bool → (Int → Option (Int)) → Option (RS ro_z0d rh_z0d)) (n : Nat) : ∀ L, ls_z0d n qr_z0d 1 = some L → ∀ s K r, L s K = some r → ∃ x s', loopN (run Try.prog (cf_z0d qr_z0d) Try.f81.ntmps 7 n p_z0d none b_z0d_1) (gc 7 (p_z0d.head 1)) n s = some (x, s') ∧ K x s' = some r := by
  intro L hL s K r h
  have hL : some (loopT 7 (p_z0d.head 1) s_z0d_h1 fun K v => W_z0d_1 qr_z0d n K n v) = some L := hL
  cases hL
  have hb : LOk Try.prog (cf_z0d qr_z0d) Try.f81.ntmps 7 n p_z0d (ls_z0d n qr_z0d) b_z0d_1 := ⟨trivial, ⟨⟨trivial, trivial⟩, ⟨⟨trivial, trivial⟩, trivial⟩⟩⟩
  refine loopT_ok hb (V_z0d_1 qr_z0d n) (t_z0d_1 qr_z0d n) n s K r ?_
  rw [← h]
  unfold loopT
  simp only [i_z0d_1]
theorem m_z0d (n : Nat) (qr_z0d : Int → (List NodeS) → (Int → Option (Int)) → Bool → (Int → Option (Int)) → Option (RS ro_z0d rh_z0d)) (a0 : Int) (a1 : (List NodeS)) (a2 : (Int → Option (Int))) (a3 : Bool) (a4 : (Int → Option (Int))) : runFT Try.prog (cf_z0d qr_z0d) p_z0d (ls_z0d n qr_z0d) Try.f81 (bodyOf Try.f81) (EK.encs e_z0d ((a0, ((), ((), ((), ((), ((), ())))))), ((a1, ()), (((), ()), (a2, ((a3, ()), (((), ()), (a4, (((), ()), ())))))))).1) (HK.encs h_z0d ((a0, ((), ((), ((), ((), ((), ())))))), ((a1, ()), (((), ()), (a2, ((a3, ()), (((), ()), (a4, (((), ()), ())))))))).2) = M_z0d n qr_z0d a0 a1 a2 a3 a4 := by kernel_rfl
theorem g_z0d (n : Nat) (qr_z0d : Int → (List NodeS) → (Int → Option (Int)) → Bool → (Int → Option (Int)) → Option (RS ro_z0d rh_z0d)) (a0 : Int) (a1 : (List NodeS)) (a2 : (Int → Option (Int))) (a3 : Bool) (a4 : (Int → Option (Int))) {r : Res} (h : M_z0d n qr_z0d a0 a1 a2 a3 a4 = some r) : runF Try.prog (cf_z0d qr_z0d) n p_z0d 81 (EK.encs e_z0d ((a0, ((), ((), ((), ((), ((), ())))))), ((a1, ()), (((), ()), (a2, ((a3, ()), (((), ()), (a4, (((), ()), ())))))))).1) (HK.encs h_z0d ((a0, ((), ((), ((), ((), ((), ())))))), ((a1, ()), (((), ()), (a2, ((a3, ()), (((), ()), (a4, (((), ()), ())))))))).2) = some r := by
  have hb : LOk Try.prog (cf_z0d qr_z0d) Try.f81.ntmps 7 n p_z0d (ls_z0d n qr_z0d) (bodyOf Try.f81) := ⟨trivial, ⟨trivial, ⟨⟨trivial, ⟨⟨trivial, trivial⟩, ⟨trivial, ⟨⟨trivial, ⟨trivial, trivial⟩⟩, ⟨trivial, ⟨⟨trivial, trivial⟩, trivial⟩⟩⟩⟩⟩⟩, ⟨trivial, ⟨trivial, ⟨⟨trivial, (o_z0d_1 qr_z0d n)⟩, ⟨trivial, ⟨trivial, ⟨trivial, trivial⟩⟩⟩⟩⟩⟩⟩⟩⟩
  exact runFT_some Try.prog (c := bodyOf Try.f81) Try.func81 (show Try.f81.body = some (bodyOf Try.f81) from rfl) (show (6 : Nat) ≤ 62 by decide) hb ((m_z0d n qr_z0d a0 a1 a2 a3 a4).trans h) rfl (by kernel_rfl)
noncomputable def c_z0d : Spec := specQ e_z0d h_z0d ro_z0d rh_z0d fun a b => Q_z0d a.1 b.1.1 b.2.2.1 b.2.2.2.1.1 b.2.2.2.2.2.1
theorem kr_z0d (hm : Try.prog.follows .mixedOrders = true) (qr_z0d : Int → (List NodeS) → (Int → Option (Int)) → Bool → (Int → Option (Int)) → Option (RS ro_z0d rh_z0d)) (hr : SpecOk Try.prog 81 (specQ e_z0d h_z0d ro_z0d rh_z0d fun a b => qr_z0d a.1 b.1.1 b.2.2.1 b.2.2.2.1.1 b.2.2.2.2.2.1)) : CallSound Try.prog (cf_z0d qr_z0d) := tab_ok (specs_cons (k_z0b hm) (specs_cons (k_z0a hm) (specs_cons (hr) specs_nil)))
theorem kd_z0d (hm : Try.prog.follows .mixedOrders = true) : ∀ dp, SpecOk Try.prog 81 (specQ e_z0d h_z0d ro_z0d rh_z0d fun a b => Qd_z0d dp a.1 b.1.1 b.2.2.1 b.2.2.2.1.1 b.2.2.2.2.2.1)
  | 0 => specQ_ok (pol := p_z0d) hm (cf := mkCF [] []) (tab_ok specs_nil) fun a b r h => by cases h
  | dp + 1 => specQ_ok (pol := p_z0d) hm (kr_z0d hm (Qd_z0d dp) (kd_z0d hm dp)) fun a b r h => ⟨FUEL, g_z0d FUEL (Qd_z0d dp) a.1 b.1.1 b.2.2.1 b.2.2.2.1.1 b.2.2.2.2.2.1 (decRes_some h)⟩
theorem k_z0d (hm : Try.prog.follows .mixedOrders = true) : SpecOk Try.prog 81 c_z0d := kd_z0d hm FUEL
def s_z0e_h0 : Sig := ⟨[6, 7, 13, 14, 15], [.ptr 0 0 0, .ptr 1 0 0, .ty (.slice NodeT), .ty (.int .i64), .ty (.int .i64)], [.one true [.ty .bool], .one false [.fn 81 [(2, 0, 0), (3, 0, 0), (0, 0, 0), (5, 0, 0), (1, 0, 0)]], .one true [.ty (.slice NodeT)], .one false [.mp 4], .mf (.int .i64) (.int .i64), .one false [.mp 6], .mf (.int .i64) (.int .i64)]⟩
def s_z0e_t0 : Sig := ⟨[6, 7], [.ptr 0 0 0, .ptr 1 0 0], [.one true [.ty .bool], .one false [.fn 81 [(2, 0, 0), (3, 0, 0), (0, 0, 0), (5, 0, 0), (1, 0, 0)]], .one true [.ty (.slice NodeT)], .one false [.mp 4], .mf (.int .i64) (.int .i64), .one false [.mp 6], .mf (.int .i64) (.int .i64)]⟩
def s_z0e_r : Sig := ⟨[2, 3], [.fn 81 [(0, 0, 0), (1, 0, 0), (3, 0, 0), (4, 0, 0), (6, 0, 0)], .ty .bool], [.one true [.ty (.slice NodeT)], .one false [.mp 2], .mf (.int .i64) (.int .i64), .one true [.ty .bool], .one false [.mp 5], .mf (.int .i64) (.int .i64), .one false [.fn 81 [(0, 0, 0), (1, 0, 0), (3, 0, 0), (4, 0, 0), (6, 0, 0)]]]⟩
def p_z0e : Pol := ⟨fun i => if i = 0 then some [(6, .keep), (7, .keep), (13, .keep), (14, .keep), (15, .keep)] else none, fun i => if i = 0 then some [(6, .keep), (7, .keep)] else none, some [(2, .keep), (3, .keep)], [.keep, .keep], []⟩
def e_z0e : List EK := [.ty (.slice NodeT)]
def h_z0e : List HK := []
noncomputable def cf_z0e : CallF := mkCF [(81, c_z0d)] []
noncomputable def ls_z0e (n : Nat) : Loops := fun i => if i = 0 then some (loopT 0 (p_z0e.head 0) s_z0e_h0 fun K v => L_z0e_0 n (fun z0 z1 z2 z3 => K (.ex 0) (s_z0e_t0.enc (((), ((), ())), ((z0, ()), (((), ()), ((z1, ()), (((), ()), (z2, (((), ()), (z3, ())))))))))) v.1.2.2.1 v.1.2.2.2.1 n v.1.2.2.2.2.1 v.2.1.1 v.2.2.2.1.1 v.2.2.2.2.2.1 v.2.2.2.2.2.2.2.1)
  else  none
noncomputable def b_z0e_0 : Code := partOf (bodyOf Try.f74) [1, 1, 1, 1, 1, 0, 1, 0, 0]
noncomputable def V_z0e_0 (n : Nat) (K : Cont) (rec : Sig.sem s_z0e_h0 → Option Res) (v : Sig.sem s_z0e_h0) : Option Res := F_z0e_0 n (fun z0 z1 z2 z3 => K (.ex 0) (s_z0e_t0.enc (((), ((), ())), ((z0, ()), (((), ()), ((z1, ()), (((), ()), (z2, (((), ()), (z3, ())))))))))) v.1.2.2.1 v.1.2.2.2.1 (fun z2 z3 z4 z5 z6 => rec (((), ((), (v.1.2.2.1, (v.1.2.2.2.1, (z2, ()))))), ((z3, ()), (((), ()), ((z4, ()), (((), ()), (z5, (((), ()), (z6, ()))))))))) v.1.2.2.2.2.1 v.2.1.1 v.2.2.2.1.1 v.2.2.2.2.2.1 v.2.2.2.2.2.2.2.1
theorem t_z0e_0 (n : Nat) (K : Cont) (rec : Sig.sem s_z0e_h0 → Option Res) (v : Sig.sem s_z0e_h0) : runT Try.prog cf_z0e Try.f74.ntmps 0 p_z0e (ls_z0e n) b_z0e_0 (s_z0e_h0.enc v) (turnK 0 (p_z0e.head 0) s_z0e_h0 rec K) = V_z0e_0 n K rec v := by kernel_rfl
noncomputable def W_z0e_0 (n : Nat) (K : Cont) (m : Nat) (v : Sig.sem s_z0e_h0) : Option Res := L_z0e_0 n (fun z0 z1 z2 z3 => K (.ex 0) (s_z0e_t0.enc (((), ((), ())), ((z0, ()), (((), ()), ((z1, ()), (((), ()), (z2, (((), ()), (z3, ())))))))))) v.1.2.2.1 v.1.2.2.2.1 m v.1.2.2.2.2.1 v.2.1.1 v.2.2.2.1.1 v.2.2.2.2.2.1 v.2.2.2.2.2.2.2.1
theorem i_z0e_0 (n : Nat) (K : Cont) : ∀ m v, iter (V_z0e_0 n K) m v = W_z0e_0 n K m v := by
  intro m
  induction m with
  | zero => intro v; rfl
  | succ m ih =>
    intro v
    show V_z0e_0 n K (iter (V_z0e_0 n K) m) v = V_z0e_0 n K (W_z0e_0 n K m) v
    rw [show iter (V_z0e_0 n K) m = W_z0e_0 n K m from funext ih]
theorem o_z0e_0 (n : Nat) : ∀ L, ls_z0e n 0 = some L → ∀ s K r, L s K = some r → ∃ x s', loopN (run Try.prog cf_z0e Try.f74.ntmps 0 n p_z0e none b_z0e_0) (gc 0 (p_z0e.head 0)) n s = some (x, s') ∧ K x s' = some r := by
  intro L hL s K r h
  have hL : some (loopT 0 (p_z0e.head 0) s_z0e_h0 fun K v => W_z0e_0 n K n v) = some L := hL
  cases hL
  have hb : LOk Try.prog cf_z0e Try.f74.ntmps 0 n p_z0e (ls_z0e n) b_z0e_0 := ⟨trivial, ⟨⟨trivial, trivial⟩, ⟨⟨trivial, trivial⟩, trivial⟩⟩⟩
  refine loopT_ok hb (V_z0e_0 n) (t_z0e_0 n) n s K r ?_
  rw [← h]
  unfold loopT
  simp only [i_z0e_0]
theorem m_z0e (n : Nat) (a0 : (List NodeS)) : runFT Try.prog cf_z0e p_z0e (ls_z0e n) Try.f74 (bodyOf Try.f74) (EK.encs e_z0e ((a0, ()), ()).1) (HK.encs h_z0e ((a0, ()), ()).2) = M_z0e n a0 := by kernel_rfl
theorem g_z0e (n : Nat) (a0 : (List NodeS)) {r : Res} (h : M_z0e n a0 = some r) : runF Try.prog cf_z0e n p_z0e 74 (EK.encs e_z0e ((a0, ()), ()).1) (HK.encs h_z0e ((a0, ()), ()).2) = some r := by
  have hb : LOk Try.prog cf_z0e Try.f74.ntmps 0 n p_z0e (ls_z0e n) (bodyOf Try.f74) := ⟨trivial, ⟨trivial, ⟨trivial, ⟨trivial, ⟨trivial, ⟨⟨trivial, (o_z0e_0 n)⟩, ⟨trivial, trivial⟩⟩⟩⟩⟩⟩⟩
  exact runFT_some Try.prog (c := bodyOf Try.f74) Try.func74 (show Try.f74.body = some (bodyOf Try.f74) from rfl) (show (1 : Nat) ≤ 26 by decide) hb ((m_z0e n a0).trans h) rfl (by kernel_rfl)
noncomputable def c_z0e : Spec := specQ e_z0e h_z0e ro_z0e rh_z0e fun a b => Q_z0e a.1
theorem k_z0e (hm : Try.prog.follows .mixedOrders = true) : SpecOk Try.prog 74 c_z0e := specQ_ok (pol := p_z0e) hm (cf := cf_z0e) (tab_ok (specs_cons (k_z0d hm) specs_nil)) fun a b r h => ⟨FUEL, g_z0e FUEL a.1 (decRes_some h)⟩
def s_z0f_r : Sig := ⟨[2], [.ty (.int .i64)], []⟩
def p_z0f : Pol := ⟨fun i => none, fun i => none, some [(2, .keep)], [.keep], []⟩
def e_z0f : List EK := [.ty (.slice NodeT)]
def h_z0f : List HK := []
noncomputable def cf_z0f : CallF := mkCF [(72, c_z09), (73, c_z0c), (74, c_z0e)] [(72, [(.slice NodeT)]), (73, [(.slice NodeT)]), (74, [(.slice NodeT)])]
noncomputable def ls_z0f (n : Nat) : Loops := fun i =>  none
theorem m_z0f (n : Nat) (a0 : (List NodeS)) : runFT Try.prog cf_z0f p_z0f (ls_z0f n) Try.f67 (bodyOf Try.f67) (EK.encs e_z0f ((a0, ()), ()).1) (HK.encs h_z0f ((a0, ()), ()).2) = M_z0f n a0 := by kernel_rfl
theorem g_z0f (n : Nat) (a0 : (List NodeS)) {r : Res} (h : M_z0f n a0 = some r) : runF Try.prog cf_z0f n p_z0f 67 (EK.encs e_z0f ((a0, ()), ()).1) (HK.encs h_z0f ((a0, ()), ()).2) = some r := by
  have hb : LOk Try.prog cf_z0f Try.f67.ntmps 0 n p_z0f (ls_z0f n) (bodyOf Try.f67) := ⟨trivial, ⟨⟨trivial, ⟨⟨trivial, trivial⟩, ⟨trivial, ⟨⟨trivial, trivial⟩, ⟨trivial, ⟨⟨trivial, trivial⟩, trivial⟩⟩⟩⟩⟩⟩, ⟨⟨trivial, ⟨trivial, ⟨⟨trivial, trivial⟩, trivial⟩⟩⟩, ⟨trivial, trivial⟩⟩⟩⟩
  exact runFT_some Try.prog (c := bodyOf Try.f67) Try.func67 (show Try.f67.body = some (bodyOf Try.f67) from rfl) (show (1 : Nat) ≤ 24 by decide) hb ((m_z0f n a0).trans h) rfl (by kernel_rfl)
noncomputable def c_z0f : Spec := specQ e_z0f h_z0f ro_z0f rh_z0f fun a b => Q_z0f a.1
theorem k_z0f (hm : Try.prog.follows .mixedOrders = true) : SpecOk Try.prog 67 c_z0f := specQ_ok (pol := p_z0f) hm (cf := cf_z0f) (tab_ok (specs_cons (k_z09 hm) (specs_cons (k_z0c hm) (specs_cons (k_z0e hm) specs_nil)))) fun a b r h => ⟨FUEL, g_z0f FUEL a.1 (decRes_some h)⟩
def s_z0g_r : Sig := ⟨[4], [.fn 75 [(0, 0, 0), (1, 0, 0)]], [.one true [.ty (.slice NodeT)], .one true [.ty .str]]⟩
def p_z0g : Pol := ⟨fun i => none, fun i => none, some [(4, .keep)], [.keep], []⟩
def e_z0g : List EK := [.ty (.slice NodeT), .ty .str]
def h_z0g : List HK := []
noncomputable def cf_z0g : CallF := mkCF [] []
noncomputable def ls_z0g (n : Nat) : Loops := fun i =>  none
theorem m_z0g (n : Nat) (a0 : (List NodeS)) (a1 : ByteArray) : runFT Try.prog cf_z0g p_z0g (ls_z0g n) Try.f68 (bodyOf Try.f68) (EK.encs e_z0g ((a0, (a1, ())), ()).1) (HK.encs h_z0g ((a0, (a1, ())), ()).2) = M_z0g n a0 a1 := by kernel_rfl
theorem g_z0g (n : Nat) (a0 : (List NodeS)) (a1 : ByteArray) {r : Res} (h : M_z0g n a0 a1 = some r) : runF Try.prog cf_z0g n p_z0g 68 (EK.encs e_z0g ((a0, (a1, ())), ()).1) (HK.encs h_z0g ((a0, (a1, ())), ()).2) = some r := by
  have hb : LOk Try.prog cf_z0g Try.f68.ntmps 0 n p_z0g (ls_z0g n) (bodyOf Try.f68) := ⟨trivial, ⟨trivial, trivial⟩⟩
  exact runFT_some Try.prog (c := bodyOf Try.f68) Try.func68 (show Try.f68.body = some (bodyOf Try.f68) from rfl) (show (2 : Nat) ≤ 6 by decide) hb ((m_z0g n a0 a1).trans h) rfl (by kernel_rfl)
noncomputable def c_z0g : Spec := specQ e_z0g h_z0g ro_z0g rh_z0g fun a b => Q_z0g a.1 a.2.1
theorem k_z0g (hm : Try.prog.follows .mixedOrders = true) : SpecOk Try.prog 68 c_z0g := specQ_ok (pol := p_z0g) hm (cf := cf_z0g) (tab_ok specs_nil) fun a b r h => ⟨FUEL, g_z0g FUEL a.1 a.2.1 (decRes_some h)⟩
def s_z0h_r : Sig := ⟨[2], [.ty .bool], []⟩
def p_z0h : Pol := ⟨fun i => none, fun i => none, some [(2, .keep)], [.keep], []⟩
def e_z0h : List EK := [.agg NodeT]
def h_z0h : List HK := []
noncomputable def cf_z0h : CallF := mkCF [] []
noncomputable def ls_z0h (n : Nat) : Loops := fun i =>  none
theorem m_z0h (n : Nat) (a0 : NodeS) : runFT Try.prog cf_z0h p_z0h (ls_z0h n) Try.f82 (bodyOf Try.f82) (EK.encs e_z0h ((a0, ()), ()).1) (HK.encs h_z0h ((a0, ()), ()).2) = M_z0h n a0 := by kernel_rfl
theorem g_z0h (n : Nat) (a0 : NodeS) {r : Res} (h : M_z0h n a0 = some r) : runF Try.prog cf_z0h n p_z0h 82 (EK.encs e_z0h ((a0, ()), ()).1) (HK.encs h_z0h ((a0, ()), ()).2) = some r := by
  have hb : LOk Try.prog cf_z0h Try.f82.ntmps 0 n p_z0h (ls_z0h n) (bodyOf Try.f82) := ⟨trivial, ⟨⟨trivial, ⟨⟨trivial, trivial⟩, trivial⟩⟩, ⟨⟨trivial, ⟨⟨trivial, trivial⟩, trivial⟩⟩, ⟨trivial, trivial⟩⟩⟩⟩
  exact runFT_some Try.prog (c := bodyOf Try.f82) Try.func82 (show Try.f82.body = some (bodyOf Try.f82) from rfl) (show (1 : Nat) ≤ 50 by decide) hb ((m_z0h n a0).trans h) rfl (by kernel_rfl)
noncomputable def c_z0h : Spec := specQ e_z0h h_z0h ro_z0h rh_z0h fun a b => Q_z0h a.1
theorem k_z0h (hm : Try.prog.follows .mixedOrders = true) : SpecOk Try.prog 82 c_z0h := specQ_ok (pol := p_z0h) hm (cf := cf_z0h) (tab_ok specs_nil) fun a b r h => ⟨FUEL, g_z0h FUEL a.1 (decRes_some h)⟩
def s_z0i_r : Sig := ⟨[6], [.ty (.int .i64)], []⟩
def p_z0i : Pol := ⟨fun i => none, fun i => none, some [(6, .keep)], [.keep], []⟩
def e_z0i : List EK := [.ty .str, .ty (.int .i64), .ty (.int .i64)]
def h_z0i : List HK := []
noncomputable def cf_z0i : CallF := mkCF [] []
noncomputable def ls_z0i (n : Nat) : Loops := fun i =>  none
theorem m_z0i (n : Nat) (a0 : ByteArray) (a1 : Int) (a2 : Int) : runFT Try.prog cf_z0i p_z0i (ls_z0i n) Try.f69 (bodyOf Try.f69) (EK.encs e_z0i ((a0, (a1, (a2, ()))), ()).1) (HK.encs h_z0i ((a0, (a1, (a2, ()))), ()).2) = M_z0i n a0 a1 a2 := by kernel_rfl
theorem g_z0i (n : Nat) (a0 : ByteArray) (a1 : Int) (a2 : Int) {r : Res} (h : M_z0i n a0 a1 a2 = some r) : runF Try.prog cf_z0i n p_z0i 69 (EK.encs e_z0i ((a0, (a1, (a2, ()))), ()).1) (HK.encs h_z0i ((a0, (a1, (a2, ()))), ()).2) = some r := by
  have hb : LOk Try.prog cf_z0i Try.f69.ntmps 0 n p_z0i (ls_z0i n) (bodyOf Try.f69) := ⟨trivial, ⟨⟨trivial, ⟨⟨trivial, trivial⟩, ⟨trivial, ⟨⟨trivial, trivial⟩, trivial⟩⟩⟩⟩, ⟨trivial, trivial⟩⟩⟩
  exact runFT_some Try.prog (c := bodyOf Try.f69) Try.func69 (show Try.f69.body = some (bodyOf Try.f69) from rfl) (show (3 : Nat) ≤ 26 by decide) hb ((m_z0i n a0 a1 a2).trans h) rfl (by kernel_rfl)
noncomputable def c_z0i : Spec := specQ e_z0i h_z0i ro_z0i rh_z0i fun a b => Q_z0i a.1 a.2.1 a.2.2.1
theorem k_z0i (hm : Try.prog.follows .mixedOrders = true) : SpecOk Try.prog 69 c_z0i := specQ_ok (pol := p_z0i) hm (cf := cf_z0i) (tab_ok specs_nil) fun a b r h => ⟨FUEL, g_z0i FUEL a.1 a.2.1 a.2.2.1 (decRes_some h)⟩
def s_z0j_r : Sig := ⟨[4], [.ptr 0 0 0], [.cell WordT]⟩
def p_z0j : Pol := ⟨fun i => none, fun i => none, some [(4, (.own WordT))], [.keep], []⟩
def e_z0j : List EK := [.agg WordT, .ty (.int .i64)]
def h_z0j : List HK := []
noncomputable def cf_z0j : CallF := mkCF [] []
noncomputable def ls_z0j (n : Nat) : Loops := fun i =>  none
theorem m_z0j (n : Nat) (a0 : WordS) (a1 : Int) : runFT Try.prog cf_z0j p_z0j (ls_z0j n) Try.f71 (bodyOf Try.f71) (EK.encs e_z0j ((a0, (a1, ())), ()).1) (HK.encs h_z0j ((a0, (a1, ())), ()).2) = M_z0j n a0 a1 := by kernel_rfl
theorem g_z0j (n : Nat) (a0 : WordS) (a1 : Int) {r : Res} (h : M_z0j n a0 a1 = some r) : runF Try.prog cf_z0j n p_z0j 71 (EK.encs e_z0j ((a0, (a1, ())), ()).1) (HK.encs h_z0j ((a0, (a1, ())), ()).2) = some r := by
  have hb : LOk Try.prog cf_z0j Try.f71.ntmps 0 n p_z0j (ls_z0j n) (bodyOf Try.f71) := ⟨trivial, ⟨⟨trivial, ⟨⟨trivial, trivial⟩, ⟨trivial, ⟨⟨trivial, trivial⟩, trivial⟩⟩⟩⟩, ⟨trivial, trivial⟩⟩⟩
  exact runFT_some Try.prog (c := bodyOf Try.f71) Try.func71 (show Try.f71.body = some (bodyOf Try.f71) from rfl) (show (2 : Nat) ≤ 33 by decide) hb ((m_z0j n a0 a1).trans h) rfl (by kernel_rfl)
noncomputable def c_z0j : Spec := specQ e_z0j h_z0j ro_z0j rh_z0j fun a b => Q_z0j a.1 a.2.1
theorem k_z0j (hm : Try.prog.follows .mixedOrders = true) : SpecOk Try.prog 71 c_z0j := specQ_ok (pol := p_z0j) hm (cf := cf_z0j) (tab_ok specs_nil) fun a b r h => ⟨FUEL, g_z0j FUEL a.1 a.2.1 (decRes_some h)⟩
def s_z0k_r : Sig := ⟨[2], [.ptr 0 0 0], [.cell WordT]⟩
def p_z0k : Pol := ⟨fun i => none, fun i => none, some [(2, (.own WordT))], [.keep], []⟩
def e_z0k : List EK := [.ty (.int .u64)]
def h_z0k : List HK := []
noncomputable def cf_z0k : CallF := mkCF [] []
noncomputable def ls_z0k (n : Nat) : Loops := fun i =>  none
theorem m_z0k (n : Nat) (a0 : Int) : runFT Try.prog cf_z0k p_z0k (ls_z0k n) Try.f54 (bodyOf Try.f54) (EK.encs e_z0k ((a0, ()), ()).1) (HK.encs h_z0k ((a0, ()), ()).2) = M_z0k n a0 := by kernel_rfl
theorem g_z0k (n : Nat) (a0 : Int) {r : Res} (h : M_z0k n a0 = some r) : runF Try.prog cf_z0k n p_z0k 54 (EK.encs e_z0k ((a0, ()), ()).1) (HK.encs h_z0k ((a0, ()), ()).2) = some r := by
  have hb : LOk Try.prog cf_z0k Try.f54.ntmps 0 n p_z0k (ls_z0k n) (bodyOf Try.f54) := ⟨trivial, ⟨trivial, trivial⟩⟩
  exact runFT_some Try.prog (c := bodyOf Try.f54) Try.func54 (show Try.f54.body = some (bodyOf Try.f54) from rfl) (show (1 : Nat) ≤ 5 by decide) hb ((m_z0k n a0).trans h) rfl (by kernel_rfl)
noncomputable def c_z0k : Spec := specQ e_z0k h_z0k ro_z0k rh_z0k fun a b => Q_z0k a.1
theorem k_z0k (hm : Try.prog.follows .mixedOrders = true) : SpecOk Try.prog 54 c_z0k := specQ_ok (pol := p_z0k) hm (cf := cf_z0k) (tab_ok specs_nil) fun a b r h => ⟨FUEL, g_z0k FUEL a.1 (decRes_some h)⟩
def s_z0l_r : Sig := ⟨[4], [.ptr 0 0 0], [.cell WordT]⟩
def p_z0l : Pol := ⟨fun i => none, fun i => none, some [(4, (.own WordT))], [.keep], []⟩
def e_z0l : List EK := [.agg WordT, .agg WordT]
def h_z0l : List HK := []
noncomputable def cf_z0l : CallF := mkCF [] []
noncomputable def ls_z0l (n : Nat) : Loops := fun i =>  none
theorem m_z0l (n : Nat) (a0 : WordS) (a1 : WordS) : runFT Try.prog cf_z0l p_z0l (ls_z0l n) Try.f70 (bodyOf Try.f70) (EK.encs e_z0l ((a0, (a1, ())), ()).1) (HK.encs h_z0l ((a0, (a1, ())), ()).2) = M_z0l n a0 a1 := by kernel_rfl
theorem g_z0l (n : Nat) (a0 : WordS) (a1 : WordS) {r : Res} (h : M_z0l n a0 a1 = some r) : runF Try.prog cf_z0l n p_z0l 70 (EK.encs e_z0l ((a0, (a1, ())), ()).1) (HK.encs h_z0l ((a0, (a1, ())), ()).2) = some r := by
  have hb : LOk Try.prog cf_z0l Try.f70.ntmps 0 n p_z0l (ls_z0l n) (bodyOf Try.f70) := ⟨trivial, ⟨trivial, trivial⟩⟩
  exact runFT_some Try.prog (c := bodyOf Try.f70) Try.func70 (show Try.f70.body = some (bodyOf Try.f70) from rfl) (show (2 : Nat) ≤ 16 by decide) hb ((m_z0l n a0 a1).trans h) rfl (by kernel_rfl)
noncomputable def c_z0l : Spec := specQ e_z0l h_z0l ro_z0l rh_z0l fun a b => Q_z0l a.1 a.2.1
theorem k_z0l (hm : Try.prog.follows .mixedOrders = true) : SpecOk Try.prog 70 c_z0l := specQ_ok (pol := p_z0l) hm (cf := cf_z0l) (tab_ok specs_nil) fun a b r h => ⟨FUEL, g_z0l FUEL a.1 a.2.1 (decRes_some h)⟩
def s_z0m_r : Sig := ⟨[2], [.ptr 0 0 0], [.cell WordT]⟩
def p_z0m : Pol := ⟨fun i => none, fun i => none, some [(2, (.own WordT))], [.keep], []⟩
def e_z0m : List EK := [.agg WordT]
def h_z0m : List HK := []
noncomputable def cf_z0m : CallF := mkCF [] []
noncomputable def ls_z0m (n : Nat) : Loops := fun i =>  none
theorem m_z0m (n : Nat) (a0 : WordS) : runFT Try.prog cf_z0m p_z0m (ls_z0m n) Try.f65 (bodyOf Try.f65) (EK.encs e_z0m ((a0, ()), ()).1) (HK.encs h_z0m ((a0, ()), ()).2) = M_z0m n a0 := by kernel_rfl
theorem g_z0m (n : Nat) (a0 : WordS) {r : Res} (h : M_z0m n a0 = some r) : runF Try.prog cf_z0m n p_z0m 65 (EK.encs e_z0m ((a0, ()), ()).1) (HK.encs h_z0m ((a0, ()), ()).2) = some r := by
  have hb : LOk Try.prog cf_z0m Try.f65.ntmps 0 n p_z0m (ls_z0m n) (bodyOf Try.f65) := ⟨trivial, ⟨trivial, trivial⟩⟩
  exact runFT_some Try.prog (c := bodyOf Try.f65) Try.func65 (show Try.f65.body = some (bodyOf Try.f65) from rfl) (show (1 : Nat) ≤ 10 by decide) hb ((m_z0m n a0).trans h) rfl (by kernel_rfl)
noncomputable def c_z0m : Spec := specQ e_z0m h_z0m ro_z0m rh_z0m fun a b => Q_z0m a.1
theorem k_z0m (hm : Try.prog.follows .mixedOrders = true) : SpecOk Try.prog 65 c_z0m := specQ_ok (pol := p_z0m) hm (cf := cf_z0m) (tab_ok specs_nil) fun a b r h => ⟨FUEL, g_z0m FUEL a.1 (decRes_some h)⟩
def s_z0n_r : Sig := ⟨[4], [.ptr 0 0 0], [.cell WordT]⟩
def p_z0n : Pol := ⟨fun i => none, fun i => none, some [(4, (.own WordT))], [.keep], []⟩
def e_z0n : List EK := [.agg WordT, .ty (.int .i64)]
def h_z0n : List HK := []
noncomputable def cf_z0n : CallF := mkCF [] []
noncomputable def ls_z0n (n : Nat) : Loops := fun i =>  none
theorem m_z0n (n : Nat) (a0 : WordS) (a1 : Int) : runFT Try.prog cf_z0n p_z0n (ls_z0n n) Try.f64 (bodyOf Try.f64) (EK.encs e_z0n ((a0, (a1, ())), ()).1) (HK.encs h_z0n ((a0, (a1, ())), ()).2) = M_z0n n a0 a1 := by kernel_rfl
theorem g_z0n (n : Nat) (a0 : WordS) (a1 : Int) {r : Res} (h : M_z0n n a0 a1 = some r) : runF Try.prog cf_z0n n p_z0n 64 (EK.encs e_z0n ((a0, (a1, ())), ()).1) (HK.encs h_z0n ((a0, (a1, ())), ()).2) = some r := by
  have hb : LOk Try.prog cf_z0n Try.f64.ntmps 0 n p_z0n (ls_z0n n) (bodyOf Try.f64) := ⟨trivial, ⟨⟨trivial, ⟨⟨trivial, trivial⟩, ⟨trivial, ⟨⟨trivial, trivial⟩, trivial⟩⟩⟩⟩, ⟨trivial, trivial⟩⟩⟩
  exact runFT_some Try.prog (c := bodyOf Try.f64) Try.func64 (show Try.f64.body = some (bodyOf Try.f64) from rfl) (show (2 : Nat) ≤ 33 by decide) hb ((m_z0n n a0 a1).trans h) rfl (by kernel_rfl)
noncomputable def c_z0n : Spec := specQ e_z0n h_z0n ro_z0n rh_z0n fun a b => Q_z0n a.1 a.2.1
theorem k_z0n (hm : Try.prog.follows .mixedOrders = true) : SpecOk Try.prog 64 c_z0n := specQ_ok (pol := p_z0n) hm (cf := cf_z0n) (tab_ok specs_nil) fun a b r h => ⟨FUEL, g_z0n FUEL a.1 a.2.1 (decRes_some h)⟩
def s_z0o_r : Sig := ⟨[2], [.ptr 0 0 0], [.cell WordT]⟩
def p_z0o : Pol := ⟨fun i => none, fun i => none, some [(2, (.own WordT))], [.keep], []⟩
def e_z0o : List EK := [.ty (.int .i64)]
def h_z0o : List HK := []
noncomputable def cf_z0o : CallF := mkCF [(65, c_z0m), (64, c_z0n)] [(65, [WordT]), (64, [WordT, (.int .i64)])]
noncomputable def ls_z0o (n : Nat) : Loops := fun i =>  none
theorem m_z0o (n : Nat) (a0 : Int) : runFT Try.prog cf_z0o p_z0o (ls_z0o n) Try.f52 (bodyOf Try.f52) (EK.encs e_z0o ((a0, ()), ()).1) (HK.encs h_z0o ((a0, ()), ()).2) = M_z0o n a0 := by kernel_rfl
theorem g_z0o (n : Nat) (a0 : Int) {r : Res} (h : M_z0o n a0 = some r) : runF Try.prog cf_z0o n p_z0o 52 (EK.encs e_z0o ((a0, ()), ()).1) (HK.encs h_z0o ((a0, ()), ()).2) = some r := by
  have hb : LOk Try.prog cf_z0o Try.f52.ntmps 0 n p_z0o (ls_z0o n) (bodyOf Try.f52) := ⟨trivial, ⟨trivial, trivial⟩⟩
  exact runFT_some Try.prog (c := bodyOf Try.f52) Try.func52 (show Try.f52.body = some (bodyOf Try.f52) from rfl) (show (1 : Nat) ≤ 10 by decide) hb ((m_z0o n a0).trans h) rfl (by kernel_rfl)
noncomputable def c_z0o : Spec := specQ e_z0o h_z0o ro_z0o rh_z0o fun a b => Q_z0o a.1
theorem k_z0o (hm : Try.prog.follows .mixedOrders = true) : SpecOk Try.prog 52 c_z0o := specQ_ok (pol := p_z0o) hm (cf := cf_z0o) (tab_ok (specs_cons (k_z0m hm) (specs_cons (k_z0n hm) specs_nil))) fun a b r h => ⟨FUEL, g_z0o FUEL a.1 (decRes_some h)⟩
def s_z0p_r : Sig := ⟨[4], [.ptr 0 0 0], [.cell WordT]⟩
def p_z0p : Pol := ⟨fun i => none, fun i => none, some [(4, (.own WordT))], [.keep], []⟩
def e_z0p : List EK := [.agg WordT, .agg WordT]
def h_z0p : List HK := []
noncomputable def cf_z0p : CallF := mkCF [] []
noncomputable def ls_z0p (n : Nat) : Loops := fun i =>  none
theorem m_z0p (n : Nat) (a0 : WordS) (a1 : WordS) : runFT Try.prog cf_z0p p_z0p (ls_z0p n) Try.f51 (bodyOf Try.f51) (EK.encs e_z0p ((a0, (a1, ())), ()).1) (HK.encs h_z0p ((a0, (a1, ())), ()).2) = M_z0p n a0 a1 := by kernel_rfl
theorem g_z0p (n : Nat) (a0 : WordS) (a1 : WordS) {r : Res} (h : M_z0p n a0 a1 = some r) : runF Try.prog cf_z0p n p_z0p 51 (EK.encs e_z0p ((a0, (a1, ())), ()).1) (HK.encs h_z0p ((a0, (a1, ())), ()).2) = some r := by
  have hb : LOk Try.prog cf_z0p Try.f51.ntmps 0 n p_z0p (ls_z0p n) (bodyOf Try.f51) := ⟨trivial, ⟨trivial, trivial⟩⟩
  exact runFT_some Try.prog (c := bodyOf Try.f51) Try.func51 (show Try.f51.body = some (bodyOf Try.f51) from rfl) (show (2 : Nat) ≤ 16 by decide) hb ((m_z0p n a0 a1).trans h) rfl (by kernel_rfl)
noncomputable def c_z0p : Spec := specQ e_z0p h_z0p ro_z0p rh_z0p fun a b => Q_z0p a.1 a.2.1
theorem k_z0p (hm : Try.prog.follows .mixedOrders = true) : SpecOk Try.prog 51 c_z0p := specQ_ok (pol := p_z0p) hm (cf := cf_z0p) (tab_ok specs_nil) fun a b r h => ⟨FUEL, g_z0p FUEL a.1 a.2.1 (decRes_some h)⟩
def s_z0q_r : Sig := ⟨[4], [.ptr 0 0 0], [.cell WordT]⟩
def p_z0q : Pol := ⟨fun i => none, fun i => none, some [(4, (.own WordT))], [.keep], []⟩
def e_z0q : List EK := [.agg WordT, .ty (.int .i64)]
def h_z0q : List HK := []
noncomputable def cf_z0q : CallF := mkCF [(52, c_z0o), (51, c_z0p)] [(52, [(.int .i64)]), (51, [WordT, WordT])]
noncomputable def ls_z0q (n : Nat) : Loops := fun i =>  none
theorem m_z0q (n : Nat) (a0 : WordS) (a1 : Int) : runFT Try.prog cf_z0q p_z0q (ls_z0q n) Try.f24 (bodyOf Try.f24) (EK.encs e_z0q ((a0, (a1, ())), ()).1) (HK.encs h_z0q ((a0, (a1, ())), ()).2) = M_z0q n a0 a1 := by kernel_rfl
theorem g_z0q (n : Nat) (a0 : WordS) (a1 : Int) {r : Res} (h : M_z0q n a0 a1 = some r) : runF Try.prog cf_z0q n p_z0q 24 (EK.encs e_z0q ((a0, (a1, ())), ()).1) (HK.encs h_z0q ((a0, (a1, ())), ()).2) = some r := by
  have hb : LOk Try.prog cf_z0q Try.f24.ntmps 0 n p_z0q (ls_z0q n) (bodyOf Try.f24) := ⟨trivial, ⟨trivial, trivial⟩⟩
  exact runFT_some Try.prog (c := bodyOf Try.f24) Try.func24 (show Try.f24.body = some (bodyOf Try.f24) from rfl) (show (2 : Nat) ≤ 9 by decide) hb ((m_z0q n a0 a1).trans h) rfl (by kernel_rfl)
noncomputable def c_z0q : Spec := specQ e_z0q h_z0q ro_z0q rh_z0q fun a b => Q_z0q a.1 a.2.1
theorem k_z0q (hm : Try.prog.follows .mixedOrders = true) : SpecOk Try.prog 24 c_z0q := specQ_ok (pol := p_z0q) hm (cf := cf_z0q) (tab_ok (specs_cons (k_z0o hm) (specs_cons (k_z0p hm) specs_nil))) fun a b r h => ⟨FUEL, g_z0q FUEL a.1 a.2.1 (decRes_some h)⟩
def s_z0r_r : Sig := ⟨[6, 7], [.ptr 0 0 0, .ty (.int .i64)], [.cell WordT]⟩
def s_z0r_h0 : Sig := ⟨[0, 1, 2, 6, 9, 10, 11, 33, 34], [.ty .str, .ty (.int .i64), .ty (.int .i64), .ptr 0 0 0, .ty (.int .i64), .ty (.int .i64), .ptr 1 0 0, .ty (.int .i64), .ty (.int .i64)], [.cell WordT, .cell WordT]⟩
def s_z0r_t0 : Sig := ⟨[0, 1, 2, 6, 10, 11], [.ty .str, .ty (.int .i64), .ty (.int .i64), .ptr 0 0 0, .ty (.int .i64), .ptr 1 0 0], [.cell WordT, .cell WordT]⟩
def p_z0r : Pol := ⟨fun i => if i = 0 then some [(0, .keep), (1, .keep), (2, .keep), (6, (.own WordT)), (9, .keep), (10, .keep), (11, (.own WordT)), (33, .keep), (34, .keep)] else none, fun i => if i = 0 then some [(0, .keep), (1, .keep), (2, .keep), (6, (.own WordT)), (10, .keep), (11, (.own WordT))] else none, some [(6, (.own WordT)), (7, .keep)], [.keep, .keep], []⟩
def e_z0r : List EK := [.ty .str, .ty (.int .i64), .ty (.int .i64)]
def h_z0r : List HK := []
noncomputable def cf_z0r : CallF := mkCF [(69, c_z0i), (71, c_z0j), (54, c_z0k), (70, c_z0l), (24, c_z0q)] [(69, [.str, (.int .i64), (.int .i64)]), (71, [WordT, (.int .i64)]), (54, [(.int .u64)]), (70, [WordT, WordT]), (24, [WordT, (.int .i64)])]
noncomputable def ls_z0r (n : Nat) : Loops := fun i => if i = 0 then some (loopT 0 (p_z0r.head 0) s_z0r_h0 fun K v => L_z0r_0 n (fun z5 => K (.ex 0) (s_z0r_t0.enc ((v.1.1, (v.1.2.1, (v.1.2.2.1, ((), (v.1.2.2.2.2.2.1, ((), ())))))), (v.2.1, (z5, ()))))) v.1.1 v.1.2.1 v.1.2.2.1 v.1.2.2.2.2.1 v.1.2.2.2.2.2.1 v.1.2.2.2.2.2.2.2.1 v.2.1 n v.1.2.2.2.2.2.2.2.2.1 v.2.2.1)
  else  none
noncomputable def b_z0r_0 : Code := partOf (bodyOf Try.f60) [1, 1, 1, 1, 0, 1, 0, 0]
noncomputable def V_z0r_0 (n : Nat) (K : Cont) (rec : Sig.sem s_z0r_h0 → Option Res) (v : Sig.sem s_z0r_h0) : Option Res := F_z0r_0 n (fun z5 => K (.ex 0) (s_z0r_t0.enc ((v.1.1, (v.1.2.1, (v.1.2.2.1, ((), (v.1.2.2.2.2.2.1, ((), ())))))), (v.2.1, (z5, ()))))) v.1.1 v.1.2.1 v.1.2.2.1 v.1.2.2.2.2.1 v.1.2.2.2.2.2.1 v.1.2.2.2.2.2.2.2.1 v.2.1 (fun z6 z8 => rec ((v.1.1, (v.1.2.1, (v.1.2.2.1, ((), (v.1.2.2.2.2.1, (v.1.2.2.2.2.2.1, ((), (v.1.2.2.2.2.2.2.2.1, (z6, ()))))))))), (v.2.1, (z8, ())))) v.1.2.2.2.2.2.2.2.2.1 v.2.2.1
theorem t_z0r_0 (n : Nat) (K : Cont) (rec : Sig.sem s_z0r_h0 → Option Res) (v : Sig.sem s_z0r_h0) : runT Try.prog cf_z0r Try.f60.ntmps 0 p_z0r (ls_z0r n) b_z0r_0 (s_z0r_h0.enc v) (turnK 0 (p_z0r.head 0) s_z0r_h0 rec K) = V_z0r_0 n K rec v := by kernel_rfl
noncomputable def W_z0r_0 (n : Nat) (K : Cont) (m : Nat) (v : Sig.sem s_z0r_h0) : Option Res := L_z0r_0 n (fun z5 => K (.ex 0) (s_z0r_t0.enc ((v.1.1, (v.1.2.1, (v.1.2.2.1, ((), (v.1.2.2.2.2.2.1, ((), ())))))), (v.2.1, (z5, ()))))) v.1.1 v.1.2.1 v.1.2.2.1 v.1.2.2.2.2.1 v.1.2.2.2.2.2.1 v.1.2.2.2.2.2.2.2.1 v.2.1 m v.1.2.2.2.2.2.2.2.2.1 v.2.2.1
theorem i_z0r_0 (n : Nat) (K : Cont) : ∀ m v, iter (V_z0r_0 n K) m v = W_z0r_0 n K m v := by
  intro m
  induction m with
  | zero => intro v; rfl
  | succ m ih =>
    intro v
    show V_z0r_0 n K (iter (V_z0r_0 n K) m) v = V_z0r_0 n K (W_z0r_0 n K m) v
    rw [show iter (V_z0r_0 n K) m = W_z0r_0 n K m from funext ih]
theorem o_z0r_0 (n : Nat) : ∀ L, ls_z0r n 0 = some L → ∀ s K r, L s K = some r → ∃ x s', loopN (run Try.prog cf_z0r Try.f60.ntmps 0 n p_z0r none b_z0r_0) (gc 0 (p_z0r.head 0)) n s = some (x, s') ∧ K x s' = some r := by
  intro L hL s K r h
  have hL : some (loopT 0 (p_z0r.head 0) s_z0r_h0 fun K v => W_z0r_0 n K n v) = some L := hL
  cases hL
  have hb : LOk Try.prog cf_z0r Try.f60.ntmps 0 n p_z0r (ls_z0r n) b_z0r_0 := ⟨trivial, ⟨⟨trivial, trivial⟩, ⟨⟨trivial, trivial⟩, trivial⟩⟩⟩
  refine loopT_ok hb (V_z0r_0 n) (t_z0r_0 n) n s K r ?_
  rw [← h]
  unfold loopT
  simp only [i_z0r_0]
theorem m_z0r (n : Nat) (a0 : ByteArray) (a1 : Int) (a2 : Int) : runFT Try.prog cf_z0r p_z0r (ls_z0r n) Try.f60 (bodyOf Try.f60) (EK.encs e_z0r ((a0, (a1, (a2, ()))), ()).1) (HK.encs h_z0r ((a0, (a1, (a2, ()))), ()).2) = M_z0r n a0 a1 a2 := by kernel_rfl
theorem g_z0r (n : Nat) (a0 : ByteArray) (a1 : Int) (a2 : Int) {r : Res} (h : M_z0r n a0 a1 a2 = some r) : runF Try.prog cf_z0r n p_z0r 60 (EK.encs e_z0r ((a0, (a1, (a2, ()))), ()).1) (HK.encs h_z0r ((a0, (a1, (a2, ()))), ()).2) = some r := by
  have hb : LOk Try.prog cf_z0r Try.f60.ntmps 0 n p_z0r (ls_z0r n) (bodyOf Try.f60) := ⟨trivial, ⟨⟨trivial, ⟨trivial, ⟨⟨trivial, trivial⟩, trivial⟩⟩⟩, ⟨trivial, ⟨trivial, ⟨⟨trivial, (o_z0r_0 n)⟩, ⟨trivial, ⟨trivial, ⟨trivial, trivial⟩⟩⟩⟩⟩⟩⟩⟩
  exact runFT_some Try.prog (c := bodyOf Try.f60) Try.func60 (show Try.f60.body = some (bodyOf Try.f60) from rfl) (show (3 : Nat) ≤ 70 by decide) hb ((m_z0r n a0 a1 a2).trans h) rfl (by kernel_rfl)
noncomputable def c_z0r : Spec := specQ e_z0r h_z0r ro_z0r rh_z0r fun a b => Q_z0r a.1 a.2.1 a.2.2.1
theorem k_z0r (hm : Try.prog.follows .mixedOrders = true) : SpecOk Try.prog 60 c_z0r := specQ_ok (pol := p_z0r) hm (cf := cf_z0r) (tab_ok (specs_cons (k_z0i hm) (specs_cons (k_z0j hm) (specs_cons (k_z0k hm) (specs_cons (k_z0l hm) (specs_cons (k_z0q hm) specs_nil)))))) fun a b r h => ⟨FUEL, g_z0r FUEL a.1 a.2.1 a.2.2.1 (decRes_some h)⟩
def s_z0s_r : Sig := ⟨[8, 9], [.ty (.int .i64), .ty .bool], []⟩
def p_z0s : Pol := ⟨fun i => none, fun i => none, some [(8, .keep), (9, .keep)], [.keep, .keep], []⟩
def e_z0s : List EK := [.ty .str, .ty (.int .i64), .ty (.int .i64), .ty (.int .i64)]
def h_z0s : List HK := []
noncomputable def cf_z0s : CallF := mkCF [(60, c_z0r)] [(60, [.str, (.int .i64), (.int .i64)])]
noncomputable def ls_z0s (n : Nat) : Loops := fun i =>  none
theorem m_z0s (n : Nat) (a0 : ByteArray) (a1 : Int) (a2 : Int) (a3 : Int) : runFT Try.prog cf_z0s p_z0s (ls_z0s n) Try.f83 (bodyOf Try.f83) (EK.encs e_z0s ((a0, (a1, (a2, (a3, ())))), ()).1) (HK.encs h_z0s ((a0, (a1, (a2, (a3, ())))), ()).2) = M_z0s n a0 a1 a2 a3 := by kernel_rfl
theorem g_z0s (n : Nat) (a0 : ByteArray) (a1 : Int) (a2 : Int) (a3 : Int) {r : Res} (h : M_z0s n a0 a1 a2 a3 = some r) : runF Try.prog cf_z0s n p_z0s 83 (EK.encs e_z0s ((a0, (a1, (a2, (a3, ())))), ()).1) (HK.encs h_z0s ((a0, (a1, (a2, (a3, ())))), ()).2) = some r := by
  have hb : LOk Try.prog cf_z0s Try.f83.ntmps 0 n p_z0s (ls_z0s n) (bodyOf Try.f83) := ⟨trivial, ⟨⟨trivial, ⟨⟨trivial, trivial⟩, trivial⟩⟩, ⟨trivial, ⟨trivial, trivial⟩⟩⟩⟩
  exact runFT_some Try.prog (c := bodyOf Try.f83) Try.func83 (show Try.f83.body = some (bodyOf Try.f83) from rfl) (show (4 : Nat) ≤ 34 by decide) hb ((m_z0s n a0 a1 a2 a3).trans h) rfl (by kernel_rfl)
noncomputable def c_z0s : Spec := specQ e_z0s h_z0s ro_z0s rh_z0s fun a b => Q_z0s a.1 a.2.1 a.2.2.1 a.2.2.2.1
theorem k_z0s (hm : Try.prog.follows .mixedOrders = true) : SpecOk Try.prog 83 c_z0s := specQ_ok (pol := p_z0s) hm (cf := cf_z0s) (tab_ok (specs_cons (k_z0r hm) specs_nil)) fun a b r h => ⟨FUEL, g_z0s FUEL a.1 a.2.1 a.2.2.1 a.2.2.2.1 (decRes_some h)⟩
def s_z0t_r : Sig := ⟨[6, 7], [.ty (.int .i64), .ty (.int .i64)], []⟩
def p_z0t : Pol := ⟨fun i => none, fun i => none, some [(6, .keep), (7, .keep)], [.keep, .keep], []⟩
def e_z0t : List EK := [.agg NodeT, .ty .str, .ty (.int .i64)]
def h_z0t : List HK := []
noncomputable def cf_z0t : CallF := mkCF [(82, c_z0h), (83, c_z0s)] [(82, [NodeT]), (83, [.str, (.int .i64), (.int .i64), (.int .i64)])]
noncomputable def ls_z0t (n : Nat) : Loops := fun i =>  none
theorem m_z0t (n : Nat) (a0 : NodeS) (a1 : ByteArray) (a2 : Int) : runFT Try.prog cf_z0t p_z0t (ls_z0t n) Try.f77 (bodyOf Try.f77) (EK.encs e_z0t ((a0, (a1, (a2, ()))), ()).1) (HK.encs h_z0t ((a0, (a1, (a2, ()))), ()).2) = M_z0t n a0 a1 a2 := by kernel_rfl
theorem g_z0t (n : Nat) (a0 : NodeS) (a1 : ByteArray) (a2 : Int) {r : Res} (h : M_z0t n a0 a1 a2 = some r) : runF Try.prog cf_z0t n p_z0t 77 (EK.encs e_z0t ((a0, (a1, (a2, ()))), ()).1) (HK.encs h_z0t ((a0, (a1, (a2, ()))), ()).2) = some r := by
  have hb : LOk Try.prog cf_z0t Try.f77.ntmps 0 n p_z0t (ls_z0t n) (bodyOf Try.f77) := ⟨trivial, ⟨⟨trivial, ⟨⟨trivial, trivial⟩, trivial⟩⟩, ⟨trivial, ⟨⟨trivial, ⟨⟨trivial, ⟨⟨trivial, ⟨⟨trivial, trivial⟩, trivial⟩⟩, trivial⟩⟩, trivial⟩⟩, ⟨⟨trivial, ⟨⟨trivial, trivial⟩, ⟨trivial, ⟨⟨trivial, trivial⟩, trivial⟩⟩⟩⟩, ⟨trivial, trivial⟩⟩⟩⟩⟩⟩
  exact runFT_some Try.prog (c := bodyOf Try.f77) Try.func77 (show Try.f77.body = some (bodyOf Try.f77) from rfl) (show (3 : Nat) ≤ 58 by decide) hb ((m_z0t n a0 a1 a2).trans h) rfl (by kernel_rfl)
noncomputable def c_z0t : Spec := specQ e_z0t h_z0t ro_z0t rh_z0t fun a b => Q_z0t a.1 a.2.1 a.2.2.1
theorem k_z0t (hm : Try.prog.follows .mixedOrders = true) : SpecOk Try.prog 77 c_z0t := specQ_ok (pol := p_z0t) hm (cf := cf_z0t) (tab_ok (specs_cons (k_z0h hm) (specs_cons (k_z0s hm) specs_nil))) fun a b r h => ⟨FUEL, g_z0t FUEL a.1 a.2.1 a.2.2.1 (decRes_some h)⟩
def s_z0u_h0 : Sig := ⟨[2, 7, 18, 19, 20], [.ty (.int .u32), .ptr 0 0 0, .ty (.slice ArmT), .ty (.int .i64), .ty (.int .i64)], [.cell NodeT]⟩
def s_z0u_r : Sig := ⟨[6], [.ty (.int .i64)], []⟩
def s_z0u_t0 : Sig := ⟨[7], [.ptr 0 0 0], [.cell NodeT]⟩
def p_z0u : Pol := ⟨fun i => if i = 0 then some [(2, .keep), (7, (.own NodeT)), (18, .keep), (19, .keep), (20, .keep)] else none, fun i => if i = 0 then some [(7, (.own NodeT))] else none, some [(6, .keep)], [.keep], []⟩
def e_z0u : List EK := [.ty (.slice NodeT), .ty (.int .i64), .ty (.int .u32)]
def h_z0u : List HK := []
noncomputable def cf_z0u : CallF := mkCF [(76, c_z0b)] [(76, [(.slice NodeT), (.int .i64)])]
noncomputable def ls_z0u (n : Nat) : Loops := fun i => if i = 0 then some (loopT 0 (p_z0u.head 0) s_z0u_h0 fun K v => L_z0u_0 n (fun z0 => K .rt (s_z0u_r.enc ((z0, ()), ()))) (fun _ => K (.ex 0) (s_z0u_t0.enc (((), ()), (v.2.1, ())))) v.1.1 v.1.2.2.1 v.1.2.2.2.1 v.2.1 n v.1.2.2.2.2.1)
  else  none
noncomputable def b_z0u_0 : Code := partOf (bodyOf Try.f84) [1, 1, 0, 1, 0, 0]
noncomputable def V_z0u_0 (n : Nat) (K : Cont) (rec : Sig.sem s_z0u_h0 → Option Res) (v : Sig.sem s_z0u_h0) : Option Res := F_z0u_0 n (fun z0 => K .rt (s_z0u_r.enc ((z0, ()), ()))) (fun _ => K (.ex 0) (s_z0u_t0.enc (((), ()), (v.2.1, ())))) v.1.1 v.1.2.2.1 v.1.2.2.2.1 v.2.1 (fun z3 => rec ((v.1.1, ((), (v.1.2.2.1, (v.1.2.2.2.1, (z3, ()))))), (v.2.1, ()))) v.1.2.2.2.2.1
theorem t_z0u_0 (n : Nat) (K : Cont) (rec : Sig.sem s_z0u_h0 → Option Res) (v : Sig.sem s_z0u_h0) : runT Try.prog cf_z0u Try.f84.ntmps 0 p_z0u (ls_z0u n) b_z0u_0 (s_z0u_h0.enc v) (turnK 0 (p_z0u.head 0) s_z0u_h0 rec K) = V_z0u_0 n K rec v := by kernel_rfl
noncomputable def W_z0u_0 (n : Nat) (K : Cont) (m : Nat) (v : Sig.sem s_z0u_h0) : Option Res := L_z0u_0 n (fun z0 => K .rt (s_z0u_r.enc ((z0, ()), ()))) (fun _ => K (.ex 0) (s_z0u_t0.enc (((), ()), (v.2.1, ())))) v.1.1 v.1.2.2.1 v.1.2.2.2.1 v.2.1 m v.1.2.2.2.2.1
theorem i_z0u_0 (n : Nat) (K : Cont) : ∀ m v, iter (V_z0u_0 n K) m v = W_z0u_0 n K m v := by
  intro m
  induction m with
  | zero => intro v; rfl
  | succ m ih =>
    intro v
    show V_z0u_0 n K (iter (V_z0u_0 n K) m) v = V_z0u_0 n K (W_z0u_0 n K m) v
    rw [show iter (V_z0u_0 n K) m = W_z0u_0 n K m from funext ih]
theorem o_z0u_0 (n : Nat) : ∀ L, ls_z0u n 0 = some L → ∀ s K r, L s K = some r → ∃ x s', loopN (run Try.prog cf_z0u Try.f84.ntmps 0 n p_z0u none b_z0u_0) (gc 0 (p_z0u.head 0)) n s = some (x, s') ∧ K x s' = some r := by
  intro L hL s K r h
  have hL : some (loopT 0 (p_z0u.head 0) s_z0u_h0 fun K v => W_z0u_0 n K n v) = some L := hL
  cases hL
  have hb : LOk Try.prog cf_z0u Try.f84.ntmps 0 n p_z0u (ls_z0u n) b_z0u_0 := ⟨trivial, ⟨⟨trivial, trivial⟩, ⟨⟨trivial, ⟨trivial, ⟨⟨trivial, trivial⟩, trivial⟩⟩⟩, trivial⟩⟩⟩
  refine loopT_ok hb (V_z0u_0 n) (t_z0u_0 n) n s K r ?_
  rw [← h]
  unfold loopT
  simp only [i_z0u_0]
theorem m_z0u (n : Nat) (a0 : (List NodeS)) (a1 : Int) (a2 : Int) : runFT Try.prog cf_z0u p_z0u (ls_z0u n) Try.f84 (bodyOf Try.f84) (EK.encs e_z0u ((a0, (a1, (a2, ()))), ()).1) (HK.encs h_z0u ((a0, (a1, (a2, ()))), ()).2) = M_z0u n a0 a1 a2 := by kernel_rfl
theorem g_z0u (n : Nat) (a0 : (List NodeS)) (a1 : Int) (a2 : Int) {r : Res} (h : M_z0u n a0 a1 a2 = some r) : runF Try.prog cf_z0u n p_z0u 84 (EK.encs e_z0u ((a0, (a1, (a2, ()))), ()).1) (HK.encs h_z0u ((a0, (a1, (a2, ()))), ()).2) = some r := by
  have hb : LOk Try.prog cf_z0u Try.f84.ntmps 0 n p_z0u (ls_z0u n) (bodyOf Try.f84) := ⟨trivial, ⟨trivial, ⟨⟨trivial, (o_z0u_0 n)⟩, ⟨trivial, trivial⟩⟩⟩⟩
  exact runFT_some Try.prog (c := bodyOf Try.f84) Try.func84 (show Try.f84.body = some (bodyOf Try.f84) from rfl) (show (3 : Nat) ≤ 33 by decide) hb ((m_z0u n a0 a1 a2).trans h) rfl (by kernel_rfl)
noncomputable def c_z0u : Spec := specQ e_z0u h_z0u ro_z0u rh_z0u fun a b => Q_z0u a.1 a.2.1 a.2.2.1
theorem k_z0u (hm : Try.prog.follows .mixedOrders = true) : SpecOk Try.prog 84 c_z0u := specQ_ok (pol := p_z0u) hm (cf := cf_z0u) (tab_ok (specs_cons (k_z0b hm) specs_nil)) fun a b r h => ⟨FUEL, g_z0u FUEL a.1 a.2.1 a.2.2.1 (decRes_some h)⟩
def s_z0v_r : Sig := ⟨[8, 9], [.ty (.int .i64), .ty (.int .i64)], []⟩
def p_z0v : Pol := ⟨fun i => none, fun i => none, some [(8, .keep), (9, .keep)], [.keep, .keep], []⟩
def e_z0v : List EK := [.ty (.slice NodeT), .agg NodeT, .ty .str, .ty (.int .i64)]
def h_z0v : List HK := []
noncomputable def cf_z0v : CallF := mkCF [(83, c_z0s), (84, c_z0u)] [(83, [.str, (.int .i64), (.int .i64), (.int .i64)]), (84, [(.slice NodeT), (.int .i64), (.int .u32)])]
noncomputable def ls_z0v (n : Nat) : Loops := fun i =>  none
theorem m_z0v (n : Nat) (a0 : (List NodeS)) (a1 : NodeS) (a2 : ByteArray) (a3 : Int) : runFT Try.prog cf_z0v p_z0v (ls_z0v n) Try.f78 (bodyOf Try.f78) (EK.encs e_z0v ((a0, (a1, (a2, (a3, ())))), ()).1) (HK.encs h_z0v ((a0, (a1, (a2, (a3, ())))), ()).2) = M_z0v n a0 a1 a2 a3 := by kernel_rfl
theorem g_z0v (n : Nat) (a0 : (List NodeS)) (a1 : NodeS) (a2 : ByteArray) (a3 : Int) {r : Res} (h : M_z0v n a0 a1 a2 a3 = some r) : runF Try.prog cf_z0v n p_z0v 78 (EK.encs e_z0v ((a0, (a1, (a2, (a3, ())))), ()).1) (HK.encs h_z0v ((a0, (a1, (a2, (a3, ())))), ()).2) = some r := by
  have hb : LOk Try.prog cf_z0v Try.f78.ntmps 0 n p_z0v (ls_z0v n) (bodyOf Try.f78) := ⟨trivial, ⟨trivial, ⟨⟨trivial, ⟨⟨trivial, ⟨trivial, ⟨trivial, ⟨⟨trivial, trivial⟩, trivial⟩⟩⟩⟩, trivial⟩⟩, ⟨trivial, ⟨⟨trivial, ⟨⟨trivial, trivial⟩, trivial⟩⟩, ⟨trivial, trivial⟩⟩⟩⟩⟩⟩
  exact runFT_some Try.prog (c := bodyOf Try.f78) Try.func78 (show Try.f78.body = some (bodyOf Try.f78) from rfl) (show (4 : Nat) ≤ 37 by decide) hb ((m_z0v n a0 a1 a2 a3).trans h) rfl (by kernel_rfl)
noncomputable def c_z0v : Spec := specQ e_z0v h_z0v ro_z0v rh_z0v fun a b => Q_z0v a.1 a.2.1 a.2.2.1 a.2.2.2.1
theorem k_z0v (hm : Try.prog.follows .mixedOrders = true) : SpecOk Try.prog 78 c_z0v := specQ_ok (pol := p_z0v) hm (cf := cf_z0v) (tab_ok (specs_cons (k_z0s hm) (specs_cons (k_z0u hm) specs_nil))) fun a b r h => ⟨FUEL, g_z0v FUEL a.1 a.2.1 a.2.2.1 a.2.2.2.1 (decRes_some h)⟩
def s_z0w_h0 : Sig := ⟨[0, 1, 2, 4, 5, 6], [.yl 0, .ptr 5 0 0, .ptr 6 0 0, .ty (.int .i64), .ptr 8 0 0, .ty .bool], [.lp 0 [.junk, .junk, .junk, .junk, .junk, .junk, .junk, .ptr 1 0 0, .ptr 3 0 0, .ptr 4 0 0, .junk, .junk, .junk, .junk, .junk, .junk, .junk, .junk, .junk, .junk, .junk, .junk, .junk, .junk, .junk, .junk, .junk, .junk, .junk, .junk, .junk, .junk], .one false [.hs 7 0], .gone, .one true [.ty (.int .i64)], .one true [.ty (.int .i64)], .one true [.ty (.slice NodeT)], .one true [.ty .str], .row HeadT, .cell NodeT]⟩
def s_z0w_r : Sig := ⟨[], [], [.lp 0 [.junk, .junk, .junk, .junk, .junk, .junk, .junk, .ptr 1 0 0, .ptr 3 0 0, .ptr 4 0 0, .junk, .junk, .junk, .junk, .junk, .junk, .junk, .junk, .junk, .junk, .junk, .junk, .junk, .junk, .junk, .junk, .junk, .junk, .junk, .junk, .junk, .junk], .one false [.hs 7 0], .gone, .one true [.ty (.int .i64)], .one true [.ty (.int .i64)], .one true [.ty (.slice NodeT)], .one true [.ty .str], .row HeadT]⟩
def s_z0w_t0 : Sig := ⟨[], [], [.lp 0 [.junk, .junk, .junk, .junk, .junk, .junk, .junk, .ptr 1 0 0, .ptr 3 0 0, .ptr 4 0 0, .junk, .junk, .junk, .junk, .junk, .junk, .junk, .junk, .junk, .junk, .junk, .junk, .junk, .junk, .junk, .junk, .junk, .junk, .junk, .junk, .junk, .junk], .one false [.hs 7 0], .gone, .one true [.ty (.int .i64)], .one true [.ty (.int .i64)], .one true [.ty (.slice NodeT)], .one true [.ty .str], .row HeadT]⟩
def p_z0w : Pol := ⟨fun i => if i = 0 then some [(0, .keep), (1, .keep), (2, .keep), (4, .keep), (5, (.own NodeT)), (6, .keep)] else none, fun i => if i = 0 then some [] else none, some [], [], [2]⟩
def e_z0w : List EK := [.yl 0, .ptr 5 0 0, .ptr 6 0 0]
def h_z0w : List HK := [.lp 0 [.junk, .junk, .junk, .junk, .junk, .junk, .junk, .ptr 1 0 0, .ptr 3 0 0, .ptr 4 0 0, .junk, .junk, .junk, .junk, .junk, .junk, .junk, .junk, .junk, .junk, .junk, .junk, .junk, .junk, .junk, .junk, .junk, .junk, .junk, .junk, .junk, .junk], .one false [.hs 2 0], .row HeadT, .one true [.ty (.int .i64)], .one true [.ty (.int .i64)], .one true [.ty (.slice NodeT)], .one true [.ty .str]]
noncomputable def cf_z0w : CallF := mkCF [(76, c_z0b), (77, c_z0t), (78, c_z0v)] [(76, [(.slice NodeT), (.int .i64)]), (77, [NodeT, .str, (.int .i64)]), (78, [(.slice NodeT), NodeT, .str, (.int .i64)])]
noncomputable def ls_z0w (n : Nat) : Loops := fun i => if i = 0 then some (loopT 7 (p_z0w.head 0) s_z0w_h0 fun K v => L_z0w_0 n (fun z0 z1 z2 z5 => K .rt (s_z0w_r.enc ((), (((), ((), ((), ((), ((), ((), ((), ((), ((), ((), ((), ((), ((), ((), ((), ((), ((), ((), ((), ((), ((), ((), ((), ((), ((), ((), ((), ((), ((), ((), ((), ((), ())))))))))))))))))))))))))))))))), ((z0, ()), ((), ((z1, ()), ((z2, ()), ((v.2.2.2.2.2.2.1.1, ()), ((v.2.2.2.2.2.2.2.1.1, ()), (z5, ()))))))))))) (fun z0 z1 z2 z5 => K (.ex 0) (s_z0w_t0.enc ((), (((), ((), ((), ((), ((), ((), ((), ((), ((), ((), ((), ((), ((), ((), ((), ((), ((), ((), ((), ((), ((), ((), ((), ((), ((), ((), ((), ((), ((), ((), ((), ((), ())))))))))))))))))))))))))))))))), ((z0, ()), ((), ((z1, ()), ((z2, ()), ((v.2.2.2.2.2.2.1.1, ()), ((v.2.2.2.2.2.2.2.1.1, ()), (z5, ()))))))))))) v.2.2.2.2.2.2.1.1 v.2.2.2.2.2.2.2.1.1 n v.1.2.2.2.1 v.1.2.2.2.2.2.1 v.2.2.1.1 v.2.2.2.2.1.1 v.2.2.2.2.2.1.1 v.2.2.2.2.2.2.2.2.1 v.2.2.2.2.2.2.2.2.2.1)
  else  none
noncomputable def b_z0w_0 : Code := partOf (bodyOf Try.f75) [1, 1, 0, 0]
noncomputable def V_z0w_0 (n : Nat) (K : Cont) (rec : Sig.sem s_z0w_h0 → Option Res) (v : Sig.sem s_z0w_h0) : Option Res := F_z0w_0 n (fun z0 z1 z2 z5 => K .rt (s_z0w_r.enc ((), (((), ((), ((), ((), ((), ((), ((), ((), ((), ((), ((), ((), ((), ((), ((), ((), ((), ((), ((), ((), ((), ((), ((), ((), ((), ((), ((), ((), ((), ((), ((), ((), ())))))))))))))))))))))))))))))))), ((z0, ()), ((), ((z1, ()), ((z2, ()), ((v.2.2.2.2.2.2.1.1, ()), ((v.2.2.2.2.2.2.2.1.1, ()), (z5, ()))))))))))) (fun z0 z1 z2 z5 => K (.ex 0) (s_z0w_t0.enc ((), (((), ((), ((), ((), ((), ((), ((), ((), ((), ((), ((), ((), ((), ((), ((), ((), ((), ((), ((), ((), ((), ((), ((), ((), ((), ((), ((), ((), ((), ((), ((), ((), ())))))))))))))))))))))))))))))))), ((z0, ()), ((), ((z1, ()), ((z2, ()), ((v.2.2.2.2.2.2.1.1, ()), ((v.2.2.2.2.2.2.2.1.1, ()), (z5, ()))))))))))) v.2.2.2.2.2.2.1.1 v.2.2.2.2.2.2.2.1.1 (fun z0 z1 z2 z3 z4 z7 z8 => rec (((), ((), ((), (z0, ((), (z1, ())))))), (((), ((), ((), ((), ((), ((), ((), ((), ((), ((), ((), ((), ((), ((), ((), ((), ((), ((), ((), ((), ((), ((), ((), ((), ((), ((), ((), ((), ((), ((), ((), ((), ())))))))))))))))))))))))))))))))), ((z2, ()), ((), ((z3, ()), ((z4, ()), ((v.2.2.2.2.2.2.1.1, ()), ((v.2.2.2.2.2.2.2.1.1, ()), (z7, (z8, ()))))))))))) v.1.2.2.2.1 v.1.2.2.2.2.2.1 v.2.2.1.1 v.2.2.2.2.1.1 v.2.2.2.2.2.1.1 v.2.2.2.2.2.2.2.2.1 v.2.2.2.2.2.2.2.2.2.1
theorem t_z0w_0 (n : Nat) (K : Cont) (rec : Sig.sem s_z0w_h0 → Option Res) (v : Sig.sem s_z0w_h0) : runT Try.prog cf_z0w Try.f75.ntmps 7 p_z0w (ls_z0w n) b_z0w_0 (s_z0w_h0.enc v) (turnK 7 (p_z0w.head 0) s_z0w_h0 rec K) = V_z0w_0 n K rec v := by kernel_rfl
noncomputable def W_z0w_0 (n : Nat) (K : Cont) (m : Nat) (v : Sig.sem s_z0w_h0) : Option Res := L_z0w_0 n (fun z0 z1 z2 z5 => K .rt (s_z0w_r.enc ((), (((), ((), ((), ((), ((), ((), ((), ((), ((), ((), ((), ((), ((), ((), ((), ((), ((), ((), ((), ((), ((), ((), ((), ((), ((), ((), ((), ((), ((), ((), ((), ((), ())))))))))))))))))))))))))))))))), ((z0, ()), ((), ((z1, ()), ((z2, ()), ((v.2.2.2.2.2.2.1.1, ()), ((v.2.2.2.2.2.2.2.1.1, ()), (z5, ()))))))))))) (fun z0 z1 z2 z5 => K (.ex 0) (s_z0w_t0.enc ((), (((), ((), ((), ((), ((), ((), ((), ((), ((), ((), ((), ((), ((), ((), ((), ((), ((), ((), ((), ((), ((), ((), ((), ((), ((), ((), ((), ((), ((), ((), ((), ((), ())))))))))))))))))))))))))))))))), ((z0, ()), ((), ((z1, ()), ((z2, ()), ((v.2.2.2.2.2.2.1.1, ()), ((v.2.2.2.2.2.2.2.1.1, ()), (z5, ()))))))))))) v.2.2.2.2.2.2.1.1 v.2.2.2.2.2.2.2.1.1 m v.1.2.2.2.1 v.1.2.2.2.2.2.1 v.2.2.1.1 v.2.2.2.2.1.1 v.2.2.2.2.2.1.1 v.2.2.2.2.2.2.2.2.1 v.2.2.2.2.2.2.2.2.2.1
theorem i_z0w_0 (n : Nat) (K : Cont) : ∀ m v, iter (V_z0w_0 n K) m v = W_z0w_0 n K m v := by
  intro m
  induction m with
  | zero => intro v; rfl
  | succ m ih =>
    intro v
    show V_z0w_0 n K (iter (V_z0w_0 n K) m) v = V_z0w_0 n K (W_z0w_0 n K m) v
    rw [show iter (V_z0w_0 n K) m = W_z0w_0 n K m from funext ih]
theorem o_z0w_0 (n : Nat) : ∀ L, ls_z0w n 0 = some L → ∀ s K r, L s K = some r → ∃ x s', loopN (run Try.prog cf_z0w Try.f75.ntmps 7 n p_z0w none b_z0w_0) (gc 7 (p_z0w.head 0)) n s = some (x, s') ∧ K x s' = some r := by
  intro L hL s K r h
  have hL : some (loopT 7 (p_z0w.head 0) s_z0w_h0 fun K v => W_z0w_0 n K n v) = some L := hL
  cases hL
  have hb : LOk Try.prog cf_z0w Try.f75.ntmps 7 n p_z0w (ls_z0w n) b_z0w_0 := ⟨⟨trivial, ⟨trivial, trivial⟩⟩, ⟨trivial, ⟨⟨trivial, ⟨⟨trivial, trivial⟩, trivial⟩⟩, ⟨trivial, ⟨⟨trivial, ⟨trivial, trivial⟩⟩, ⟨trivial, trivial⟩⟩⟩⟩⟩⟩
  refine loopT_ok hb (V_z0w_0 n) (t_z0w_0 n) n s K r ?_
  rw [← h]
  unfold loopT
  simp only [i_z0w_0]
theorem m_z0w (n : Nat) (a0 : Nat) (a1 : (List HeadS)) (a2 : Int) (a3 : Int) (a4 : (List NodeS)) (a5 : ByteArray) : runFT Try.prog cf_z0w p_z0w (ls_z0w n) Try.f75 (bodyOf Try.f75) (EK.encs e_z0w (((), ((), ((), ()))), (((), ((), ((), ((), ((), ((), ((), ((), ((), ((), ((), ((), ((), ((), ((), ((), ((), ((), ((), ((), ((), ((), ((), ((), ((), ((), ((), ((), ((), ((), ((), ((), ())))))))))))))))))))))))))))))))), ((a0, ()), (a1, ((a2, ()), ((a3, ()), ((a4, ()), ((a5, ()), ())))))))).1) (HK.encs h_z0w (((), ((), ((), ()))), (((), ((), ((), ((), ((), ((), ((), ((), ((), ((), ((), ((), ((), ((), ((), ((), ((), ((), ((), ((), ((), ((), ((), ((), ((), ((), ((), ((), ((), ((), ((), ((), ())))))))))))))))))))))))))))))))), ((a0, ()), (a1, ((a2, ()), ((a3, ()), ((a4, ()), ((a5, ()), ())))))))).2) = M_z0w n a0 a1 a2 a3 a4 a5 := by kernel_rfl
theorem g_z0w (n : Nat) (a0 : Nat) (a1 : (List HeadS)) (a2 : Int) (a3 : Int) (a4 : (List NodeS)) (a5 : ByteArray) {r : Res} (h : M_z0w n a0 a1 a2 a3 a4 a5 = some r) : runF Try.prog cf_z0w n p_z0w 75 (EK.encs e_z0w (((), ((), ((), ()))), (((), ((), ((), ((), ((), ((), ((), ((), ((), ((), ((), ((), ((), ((), ((), ((), ((), ((), ((), ((), ((), ((), ((), ((), ((), ((), ((), ((), ((), ((), ((), ((), ())))))))))))))))))))))))))))))))), ((a0, ()), (a1, ((a2, ()), ((a3, ()), ((a4, ()), ((a5, ()), ())))))))).1) (HK.encs h_z0w (((), ((), ((), ()))), (((), ((), ((), ((), ((), ((), ((), ((), ((), ((), ((), ((), ((), ((), ((), ((), ((), ((), ((), ((), ((), ((), ((), ((), ((), ((), ((), ((), ((), ((), ((), ((), ())))))))))))))))))))))))))))))))), ((a0, ()), (a1, ((a2, ()), ((a3, ()), ((a4, ()), ((a5, ()), ())))))))).2) = some r := by
  have hb : LOk Try.prog cf_z0w Try.f75.ntmps 7 n p_z0w (ls_z0w n) (bodyOf Try.f75) := ⟨trivial, ⟨trivial, (o_z0w_0 n)⟩⟩
  exact runFT_some Try.prog (c := bodyOf Try.f75) Try.func75 (show Try.f75.body = some (bodyOf Try.f75) from rfl) (show (3 : Nat) ≤ 59 by decide) hb ((m_z0w n a0 a1 a2 a3 a4 a5).trans h) rfl (by kernel_rfl)
noncomputable def c_z0w : Spec := specQ e_z0w h_z0w ro_z0w rh_z0w fun a b => Q_z0w b.2.1.1 b.2.2.1 b.2.2.2.1.1 b.2.2.2.2.1.1 b.2.2.2.2.2.1.1 b.2.2.2.2.2.2.1.1
theorem k_z0w (hm : Try.prog.follows .mixedOrders = true) : SpecOk Try.prog 75 c_z0w := specQ_ok (pol := p_z0w) hm (cf := cf_z0w) (tab_ok (specs_cons (k_z0b hm) (specs_cons (k_z0t hm) (specs_cons (k_z0v hm) specs_nil)))) fun a b r h => ⟨FUEL, g_z0w FUEL b.2.1.1 b.2.2.1 b.2.2.2.1.1 b.2.2.2.2.1.1 b.2.2.2.2.2.1.1 b.2.2.2.2.2.2.1.1 (decRes_some h)⟩
def s_z0x_r : Sig := ⟨[4, 5, 6], [.hs 0 0, .ty (.int .i64), .ty (.int .i64)], [.row HeadT]⟩
def p_z0x : Pol := ⟨fun i => none, fun i => none, some [(4, (.own HeadT)), (5, .keep), (6, .keep)], [(.own HeadT), .keep, .keep], []⟩
def e_z0x : List EK := [.ty (.slice NodeT), .ty .str]
def h_z0x : List HK := []
noncomputable def cf_z0x : CallF := { (mkCFs [(67, c_z0f), (68, c_z0g), (75, c_z0w)] [(67, [(.slice NodeT)]), (68, [(.slice NodeT), .str])] 58 0 [7, 8, 9]) with grow := [36] }
noncomputable def ls_z0x (n : Nat) : Loops := fun i =>  none
theorem m_z0x (n : Nat) (a0 : (List NodeS)) (a1 : ByteArray) : runFT Try.prog cf_z0x p_z0x (ls_z0x n) Try.f58 (bodyOf Try.f58) (EK.encs e_z0x ((a0, (a1, ())), ()).1) (HK.encs h_z0x ((a0, (a1, ())), ()).2) = M_z0x n a0 a1 := by kernel_rfl
theorem g_z0x (n : Nat) (a0 : (List NodeS)) (a1 : ByteArray) {r : Res} (h : M_z0x n a0 a1 = some r) : runF Try.prog cf_z0x n p_z0x 58 (EK.encs e_z0x ((a0, (a1, ())), ()).1) (HK.encs h_z0x ((a0, (a1, ())), ()).2) = some r := by
  have hb : LOk Try.prog cf_z0x Try.f58.ntmps 0 n p_z0x (ls_z0x n) (bodyOf Try.f58) := ⟨trivial, ⟨⟨trivial, ⟨⟨trivial, trivial⟩, trivial⟩⟩, ⟨trivial, ⟨trivial, ⟨⟨trivial, trivial⟩, ⟨trivial, trivial⟩⟩⟩⟩⟩⟩
  exact runFT_some Try.prog (c := bodyOf Try.f58) Try.func58 (show Try.f58.body = some (bodyOf Try.f58) from rfl) (show (2 : Nat) ≤ 32 by decide) hb ((m_z0x n a0 a1).trans h) rfl (by kernel_rfl)
noncomputable def c_z0x : Spec := specQ e_z0x h_z0x ro_z0x rh_z0x fun a b => Q_z0x a.1 a.2.1
theorem k_z0x (hm : Try.prog.follows .mixedOrders = true) : SpecOk Try.prog 58 c_z0x := specQ_ok (pol := p_z0x) hm (cf := cf_z0x) (CallSound.grow <| tabs_ok Try.func58 (show Try.f58.body = some (bodyOf Try.f58) from rfl) (RfOk.seq trivial (RfOk.seq (RfOk.seq trivial (RfOk.cond (RfOk.seq trivial trivial) trivial)) (RfOk.seq trivial (RfOk.seq trivial (RfOk.seq (RfOk.seq trivial (RfOk.block (RfOk.range (by kernel_rfl)))) (RfOk.seq trivial trivial)))))) (specs_cons (k_z0f hm) (specs_cons (k_z0g hm) (specs_cons (k_z0w hm) specs_nil)))) fun a b r h => ⟨FUEL, g_z0x FUEL a.1 a.2.1 (decRes_some h)⟩
def s_z0y_r : Sig := ⟨[4, 5], [.ty (.int .i64), .ty (.int .i64)], [.one false [.ptr 1 0 0, .hs 5 0, .ptr 3 0 0, .ty (.int .i64)], .one false [.hs 2 0], .row (.int .u8), .one false [.hs 4 0], .row (.int .u8), .row HeadT]⟩
def p_z0y : Pol := ⟨fun i => none, fun i => none, some [(4, .keep), (5, .keep)], [.keep, .keep], []⟩
def e_z0y : List EK := [.ptr 0 0 0, .ty (.slice NodeT)]
def h_z0y : List HK := [.one false [.ptr 1 0 0, .nul 4, .ptr 3 0 0, .ty (.int .i64)], .one false [.hs 2 0], .row (.int .u8), .one false [.hs 4 0], .row (.int .u8)]
noncomputable def cf_z0y : CallF := mkCF [(17, c_z04), (58, c_z0x)] [(58, [(.slice NodeT), .str])]
noncomputable def ls_z0y (n : Nat) : Loops := fun i =>  none
theorem m_z0y (n : Nat) (a0 : (List NodeS)) (a1 : Int) (a2 : Nat) (a3 : (List Int)) (a4 : Nat) (a5 : (List Int)) : runFT Try.prog cf_z0y p_z0y (ls_z0y n) Try.f32 (bodyOf Try.f32) (EK.encs e_z0y (((), (a0, ())), (((), ((), ((), (a1, ())))), ((a2, ()), (a3, ((a4, ()), (a5, ())))))).1) (HK.encs h_z0y (((), (a0, ())), (((), ((), ((), (a1, ())))), ((a2, ()), (a3, ((a4, ()), (a5, ())))))).2) = M_z0y n a0 a1 a2 a3 a4 a5 := by kernel_rfl
theorem g_z0y (n : Nat) (a0 : (List NodeS)) (a1 : Int) (a2 : Nat) (a3 : (List Int)) (a4 : Nat) (a5 : (List Int)) {r : Res} (h : M_z0y n a0 a1 a2 a3 a4 a5 = some r) : runF Try.prog cf_z0y n p_z0y 32 (EK.encs e_z0y (((), (a0, ())), (((), ((), ((), (a1, ())))), ((a2, ()), (a3, ((a4, ()), (a5, ())))))).1) (HK.encs h_z0y (((), (a0, ())), (((), ((), ((), (a1, ())))), ((a2, ()), (a3, ((a4, ()), (a5, ())))))).2) = some r := by
  have hb : LOk Try.prog cf_z0y Try.f32.ntmps 5 n p_z0y (ls_z0y n) (bodyOf Try.f32) := ⟨trivial, ⟨⟨trivial, ⟨⟨trivial, trivial⟩, trivial⟩⟩, ⟨trivial, ⟨trivial, ⟨trivial, trivial⟩⟩⟩⟩⟩
  exact runFT_some Try.prog (c := bodyOf Try.f32) Try.func32 (show Try.f32.body = some (bodyOf Try.f32) from rfl) (show (2 : Nat) ≤ 26 by decide) hb ((m_z0y n a0 a1 a2 a3 a4 a5).trans h) rfl (by kernel_rfl)
noncomputable def c_z0y : Spec := specQ e_z0y h_z0y ro_z0y rh_z0y fun a b => Q_z0y a.2.1 b.1.2.2.2.1 b.2.1.1 b.2.2.1 b.2.2.2.1.1 b.2.2.2.2.1
theorem k_z0y (hm : Try.prog.follows .mixedOrders = true) : SpecOk Try.prog 32 c_z0y := specQ_ok (pol := p_z0y) hm (cf := cf_z0y) (tab_ok (specs_cons (k_z04 hm) (specs_cons (k_z0x hm) specs_nil))) fun a b r h => ⟨FUEL, g_z0y FUEL a.2.1 b.1.2.2.2.1 b.2.1.1 b.2.2.1 b.2.2.2.1.1 b.2.2.2.2.1 (decRes_some h)⟩
def s_z0z_r : Sig := ⟨[4], [.nul 0], []⟩
def s_z0z_r1 : Sig := ⟨[4], [.ptr 0 0 0], [.one false [.ptr 1 0 0, .hs 3 0, .ptr 4 0 0, .ty (.int .i64)], .one false [.hs 2 0], .row (.int .u8), .row HeadT, .one false [.hs 5 0], .row (.int .u8)]⟩
def p_z0z : Pol := ⟨fun i => none, fun i => none, some [(4, .keep)], [.keep], []⟩
def e_z0z : List EK := [.ty .str, .ty (.slice NodeT)]
def h_z0z : List HK := []
noncomputable def cf_z0z : CallF := { (mkCF [(35, c_z00), (30, c_z02), (32, c_z0y)] [(35, [(.slice NodeT)]), (30, [(.int .i64), .str])]) with mix := mixes [(32, [none, some ((.slice NodeT))])] }
noncomputable def ls_z0z (n : Nat) : Loops := fun i =>  none
theorem m_z0z (n : Nat) (a0 : ByteArray) (a1 : (List NodeS)) : runFT Try.prog cf_z0z p_z0z (ls_z0z n) Try.f10 (bodyOf Try.f10) (EK.encs e_z0z ((a0, (a1, ())), ()).1) (HK.encs h_z0z ((a0, (a1, ())), ()).2) = M_z0z n a0 a1 := by kernel_rfl
theorem g_z0z (n : Nat) (a0 : ByteArray) (a1 : (List NodeS)) {r : Res} (h : M_z0z n a0 a1 = some r) : runF Try.prog cf_z0z n p_z0z 10 (EK.encs e_z0z ((a0, (a1, ())), ()).1) (HK.encs h_z0z ((a0, (a1, ())), ()).2) = some r := by
  have hb : LOk Try.prog cf_z0z Try.f10.ntmps 0 n p_z0z (ls_z0z n) (bodyOf Try.f10) := ⟨trivial, ⟨⟨trivial, ⟨⟨trivial, trivial⟩, trivial⟩⟩, ⟨trivial, ⟨⟨trivial, ⟨⟨trivial, trivial⟩, trivial⟩⟩, ⟨trivial, ⟨trivial, trivial⟩⟩⟩⟩⟩⟩
  exact runFT_some Try.prog (c := bodyOf Try.f10) Try.func10 (show Try.f10.body = some (bodyOf Try.f10) from rfl) (show (2 : Nat) ≤ 25 by decide) hb ((m_z0z n a0 a1).trans h) rfl (by kernel_rfl)
noncomputable def c_z0z : Spec := specTr e_z0z h_z0z fun a b => (altTr ro_z0z rh_z0z (Q_z0z a.1 a.2.1) (altTr ro_z0z_1 rh_z0z_1 (Q_z0z_1 a.1 a.2.1) .no))
theorem k_z0z (hm : Try.prog.follows .mixedOrders = true) : SpecOk Try.prog 10 c_z0z := specTr_ok (pol := p_z0z) hm (cf := cf_z0z) (CallSound.mix <| tab_ok (specs_cons (k_z00 hm) (specs_cons (k_z02 hm) (specs_cons (k_z0y hm) specs_nil)))) fun a b r => (fun h => (altTr_val h).elim (fun ⟨x, hx, e⟩ => ⟨FUEL, e ▸ g_z0z FUEL a.1 a.2.1 (decRes_some hx)⟩) (fun h => (altTr_val h).elim (fun ⟨x, hx, e⟩ => ⟨FUEL, e ▸ g_z0z FUEL a.1 a.2.1 (decRes_some hx)⟩) (fun h => by cases h)))
def s_z10_r : Sig := ⟨[0], [.hs 0 0], [.row NodeT]⟩
def p_z10 : Pol := ⟨fun i => none, fun i => none, some [(0, (.own NodeT))], [(.own NodeT)], []⟩
def e_z10 : List EK := []
def h_z10 : List HK := []
noncomputable def cf_z10 : CallF := mkCF [] []
noncomputable def ls_z10 (n : Nat) : Loops := fun i =>  none
theorem m_z10 (n : Nat) : runFT Try.prog cf_z10 p_z10 (ls_z10 n) Try.f56 (bodyOf Try.f56) (EK.encs e_z10 ((), ()).1) (HK.encs h_z10 ((), ()).2) = M_z10 n := by kernel_rfl
theorem g_z10 (n : Nat) {r : Res} (h : M_z10 n = some r) : runF Try.prog cf_z10 n p_z10 56 (EK.encs e_z10 ((), ()).1) (HK.encs h_z10 ((), ()).2) = some r := by
  have hb : LOk Try.prog cf_z10 Try.f56.ntmps 0 n p_z10 (ls_z10 n) (bodyOf Try.f56) := ⟨trivial, ⟨trivial, trivial⟩⟩
  exact runFT_some Try.prog (c := bodyOf Try.f56) Try.func56 (show Try.f56.body = some (bodyOf Try.f56) from rfl) (show (0 : Nat) ≤ 6 by decide) hb ((m_z10 n).trans h) rfl (by kernel_rfl)
noncomputable def c_z10 : Spec := specQ e_z10 h_z10 ro_z10 rh_z10 fun a b => Q_z10
theorem k_z10 (hm : Try.prog.follows .mixedOrders = true) : SpecOk Try.prog 56 c_z10 := specQ_ok (pol := p_z10) hm (cf := cf_z10) (tab_ok specs_nil) fun a b r h => ⟨FUEL, g_z10 FUEL (decRes_some h)⟩
def s_z11_r : Sig := ⟨[0], [.nul 0], []⟩
def s_z11_r1 : Sig := ⟨[0], [.ptr 0 0 0], [.one false [.ptr 1 0 0, .hs 3 0, .ptr 4 0 0, .ty (.int .i64)], .one false [.hs 2 0], .row (.int .u8), .row HeadT, .one false [.hs 5 0], .row (.int .u8)]⟩
def p_z11 : Pol := ⟨fun i => none, fun i => none, some [(0, .keep)], [.keep], []⟩
def e_z11 : List EK := []
def h_z11 : List HK := []
noncomputable def cf_z11 : CallF := { (mkCF [(30, c_z02), (56, c_z10), (32, c_z0y)] [(30, [(.int .i64), .str]), (56, [])]) with mix := mixes [(32, [none, some ((.slice NodeT))])] }
noncomputable def ls_z11 (n : Nat) : Loops := fun i =>  none
theorem m_z11 (n : Nat) : runFT Try.prog cf_z11 p_z11 (ls_z11 n) Try.f29 (bodyOf Try.f29) (EK.encs e_z11 ((), ()).1) (HK.encs h_z11 ((), ()).2) = M_z11 n := by kernel_rfl
theorem g_z11 (n : Nat) {r : Res} (h : M_z11 n = some r) : runF Try.prog cf_z11 n p_z11 29 (EK.encs e_z11 ((), ()).1) (HK.encs h_z11 ((), ()).2) = some r := by
  have hb : LOk Try.prog cf_z11 Try.f29.ntmps 0 n p_z11 (ls_z11 n) (bodyOf Try.f29) := ⟨trivial, ⟨trivial, ⟨⟨trivial, ⟨⟨trivial, trivial⟩, trivial⟩⟩, ⟨trivial, ⟨⟨trivial, ⟨⟨trivial, trivial⟩, trivial⟩⟩, ⟨trivial, trivial⟩⟩⟩⟩⟩⟩
  exact runFT_some Try.prog (c := bodyOf Try.f29) Try.func29 (show Try.f29.body = some (bodyOf Try.f29) from rfl) (show (0 : Nat) ≤ 24 by decide) hb ((m_z11 n).trans h) rfl (by kernel_rfl)
noncomputable def c_z11 : Spec := specTr e_z11 h_z11 fun a b => (altTr ro_z11 rh_z11 (Q_z11) (altTr ro_z11_1 rh_z11_1 (Q_z11_1) .no))
theorem k_z11 (hm : Try.prog.follows .mixedOrders = true) : SpecOk Try.prog 29 c_z11 := specTr_ok (pol := p_z11) hm (cf := cf_z11) (CallSound.mix <| tab_ok (specs_cons (k_z02 hm) (specs_cons (k_z10 hm) (specs_cons (k_z0y hm) specs_nil)))) fun a b r => (fun h => (altTr_val h).elim (fun ⟨x, hx, e⟩ => ⟨FUEL, e ▸ g_z11 FUEL (decRes_some hx)⟩) (fun h => (altTr_val h).elim (fun ⟨x, hx, e⟩ => ⟨FUEL, e ▸ g_z11 FUEL (decRes_some hx)⟩) (fun h => by cases h)))
noncomputable def c_z12 : Spec := specQ [.ty (.slice HeadT)] [] ro_z12 rh_z12 fun a b => Q_z12 a.1
theorem k_z12 (hm : Try.prog.follows .mixedOrders = true) : SpecOk Try.prog 40 c_z12 := H17.clone_ok
def s_z13_r : Sig := ⟨[2], [.hs 6 0], [.one false [.ptr 1 0 0, .hs 3 0, .ptr 4 0 0, .ty (.int .i64)], .one false [.hs 2 0], .row (.int .u8), .row HeadT, .one false [.hs 5 0], .row (.int .u8), .row HeadT]⟩
def p_z13 : Pol := ⟨fun i => none, fun i => none, some [(2, (.own HeadT))], [(.own HeadT)], []⟩
def e_z13 : List EK := [.ptr 0 0 0]
def h_z13 : List HK := [.one false [.ptr 1 0 0, .hs 3 0, .ptr 4 0 0, .ty (.int .i64)], .one false [.hs 2 0], .row (.int .u8), .row HeadT, .one false [.hs 5 0], .row (.int .u8)]
noncomputable def cf_z13 : CallF := mkCF [(40, c_z12)] [(40, [(.slice HeadT)])]
noncomputable def ls_z13 (n : Nat) : Loops := fun i =>  none
theorem m_z13 (n : Nat) (a0 : Nat) (a1 : Int) (a2 : Nat) (a3 : (List Int)) (a4 : (List HeadS)) (a5 : Nat) (a6 : (List Int)) : runFT Try.prog cf_z13 p_z13 (ls_z13 n) Try.f14 (bodyOf Try.f14) (EK.encs e_z13 (((), ()), (((), (a0, ((), (a1, ())))), ((a2, ()), (a3, (a4, ((a5, ()), (a6, ()))))))).1) (HK.encs h_z13 (((), ()), (((), (a0, ((), (a1, ())))), ((a2, ()), (a3, (a4, ((a5, ()), (a6, ()))))))).2) = M_z13 n a0 a1 a2 a3 a4 a5 a6 := by kernel_rfl
theorem g_z13 (n : Nat) (a0 : Nat) (a1 : Int) (a2 : Nat) (a3 : (List Int)) (a4 : (List HeadS)) (a5 : Nat) (a6 : (List Int)) {r : Res} (h : M_z13 n a0 a1 a2 a3 a4 a5 a6 = some r) : runF Try.prog cf_z13 n p_z13 14 (EK.encs e_z13 (((), ()), (((), (a0, ((), (a1, ())))), ((a2, ()), (a3, (a4, ((a5, ()), (a6, ()))))))).1) (HK.encs h_z13 (((), ()), (((), (a0, ((), (a1, ())))), ((a2, ()), (a3, (a4, ((a5, ()), (a6, ()))))))).2) = some r := by
  have hb : LOk Try.prog cf_z13 Try.f14.ntmps 6 n p_z13 (ls_z13 n) (bodyOf Try.f14) := ⟨trivial, ⟨⟨trivial, ⟨⟨trivial, trivial⟩, trivial⟩⟩, ⟨trivial, trivial⟩⟩⟩
  exact runFT_some Try.prog (c := bodyOf Try.f14) Try.func14 (show Try.f14.body = some (bodyOf Try.f14) from rfl) (show (1 : Nat) ≤ 11 by decide) hb ((m_z13 n a0 a1 a2 a3 a4 a5 a6).trans h) rfl (by kernel_rfl)
noncomputable def c_z13 : Spec := specQ e_z13 h_z13 ro_z13 rh_z13 fun a b => Q_z13 b.1.2.1 b.1.2.2.2.1 b.2.1.1 b.2.2.1 b.2.2.2.1 b.2.2.2.2.1.1 b.2.2.2.2.2.1
theorem k_z13 (hm : Try.prog.follows .mixedOrders = true) : SpecOk Try.prog 14 c_z13 := specQ_ok (pol := p_z13) hm (cf := cf_z13) (tab_ok (specs_cons (k_z12 hm) specs_nil)) fun a b r h => ⟨FUEL, g_z13 FUEL b.1.2.1 b.1.2.2.2.1 b.2.1.1 b.2.2.1 b.2.2.2.1 b.2.2.2.2.1.1 b.2.2.2.2.2.1 (decRes_some h)⟩
def s_z14_r : Sig := ⟨[4], [.ty .bool], []⟩
def s_z14_h0 : Sig := ⟨[0, 1, 5], [.ty (.slice HeadT), .ty (.slice HeadT), .ty (.int .i64)], []⟩
def s_z14_t0 : Sig := ⟨[], [], []⟩
def p_z14 : Pol := ⟨fun i => if i = 0 then some [(0, .keep), (1, .keep), (5, .keep)] else none, fun i => if i = 0 then some [] else none, some [(4, .keep)], [.keep], []⟩
def e_z14 : List EK := [.ty (.slice HeadT), .ty (.slice HeadT)]
def h_z14 : List HK := []
noncomputable def cf_z14 : CallF := mkCF [] []
noncomputable def ls_z14 (n : Nat) : Loops := fun i => if i = 0 then some (loopT 0 (p_z14.head 0) s_z14_h0 fun K v => L_z14_0 n (fun z0 => K .rt (s_z14_r.enc ((z0, ()), ()))) (fun _ => K (.ex 0) (s_z14_t0.enc ((), ()))) v.1.1 v.1.2.1 n v.1.2.2.1)
  else  none
noncomputable def b_z14_0 : Code := partOf (bodyOf Try.f25) [1, 1, 0, 1, 0, 0]
noncomputable def V_z14_0 (n : Nat) (K : Cont) (rec : Sig.sem s_z14_h0 → Option Res) (v : Sig.sem s_z14_h0) : Option Res := F_z14_0 n (fun z0 => K .rt (s_z14_r.enc ((z0, ()), ()))) (fun _ => K (.ex 0) (s_z14_t0.enc ((), ()))) v.1.1 v.1.2.1 (fun z2 => rec ((v.1.1, (v.1.2.1, (z2, ()))), ())) v.1.2.2.1
theorem t_z14_0 (n : Nat) (K : Cont) (rec : Sig.sem s_z14_h0 → Option Res) (v : Sig.sem s_z14_h0) : runT Try.prog cf_z14 Try.f25.ntmps 0 p_z14 (ls_z14 n) b_z14_0 (s_z14_h0.enc v) (turnK 0 (p_z14.head 0) s_z14_h0 rec K) = V_z14_0 n K rec v := by kernel_rfl
noncomputable def W_z14_0 (n : Nat) (K : Cont) (m : Nat) (v : Sig.sem s_z14_h0) : Option Res := L_z14_0 n (fun z0 => K .rt (s_z14_r.enc ((z0, ()), ()))) (fun _ => K (.ex 0) (s_z14_t0.enc ((), ()))) v.1.1 v.1.2.1 m v.1.2.2.1
theorem i_z14_0 (n : Nat) (K : Cont) : ∀ m v, iter (V_z14_0 n K) m v = W_z14_0 n K m v := by
  intro m
  induction m with
  | zero => intro v; rfl
  | succ m ih =>
    intro v
    show V_z14_0 n K (iter (V_z14_0 n K) m) v = V_z14_0 n K (W_z14_0 n K m) v
    rw [show iter (V_z14_0 n K) m = W_z14_0 n K m from funext ih]
theorem o_z14_0 (n : Nat) : ∀ L, ls_z14 n 0 = some L → ∀ s K r, L s K = some r → ∃ x s', loopN (run Try.prog cf_z14 Try.f25.ntmps 0 n p_z14 none b_z14_0) (gc 0 (p_z14.head 0)) n s = some (x, s') ∧ K x s' = some r := by
  intro L hL s K r h
  have hL : some (loopT 0 (p_z14.head 0) s_z14_h0 fun K v => W_z14_0 n K n v) = some L := hL
  cases hL
  have hb : LOk Try.prog cf_z14 Try.f25.ntmps 0 n p_z14 (ls_z14 n) b_z14_0 := ⟨⟨trivial, ⟨trivial, trivial⟩⟩, ⟨⟨trivial, ⟨⟨trivial, trivial⟩, trivial⟩⟩, trivial⟩⟩
  refine loopT_ok hb (V_z14_0 n) (t_z14_0 n) n s K r ?_
  rw [← h]
  unfold loopT
  simp only [i_z14_0]
theorem m_z14 (n : Nat) (a0 : (List HeadS)) (a1 : (List HeadS)) : runFT Try.prog cf_z14 p_z14 (ls_z14 n) Try.f25 (bodyOf Try.f25) (EK.encs e_z14 ((a0, (a1, ())), ()).1) (HK.encs h_z14 ((a0, (a1, ())), ()).2) = M_z14 n a0 a1 := by kernel_rfl
theorem g_z14 (n : Nat) (a0 : (List HeadS)) (a1 : (List HeadS)) {r : Res} (h : M_z14 n a0 a1 = some r) : runF Try.prog cf_z14 n p_z14 25 (EK.encs e_z14 ((a0, (a1, ())), ()).1) (HK.encs h_z14 ((a0, (a1, ())), ()).2) = some r := by
  have hb : LOk Try.prog cf_z14 Try.f25.ntmps 0 n p_z14 (ls_z14 n) (bodyOf Try.f25) := ⟨trivial, ⟨⟨trivial, ⟨⟨trivial, trivial⟩, trivial⟩⟩, ⟨⟨trivial, (o_z14_0 n)⟩, ⟨trivial, trivial⟩⟩⟩⟩
  exact runFT_some Try.prog (c := bodyOf Try.f25) Try.func25 (show Try.f25.body = some (bodyOf Try.f25) from rfl) (show (2 : Nat) ≤ 26 by decide) hb ((m_z14 n a0 a1).trans h) rfl (by kernel_rfl)
noncomputable def c_z14 : Spec := specQ e_z14 h_z14 ro_z14 rh_z14 fun a b => Q_z14 a.1 a.2.1
theorem k_z14 (hm : Try.prog.follows .mixedOrders = true) : SpecOk Try.prog 25 c_z14 := specQ_ok (pol := p_z14) hm (cf := cf_z14) (tab_ok specs_nil) fun a b r h => ⟨FUEL, g_z14 FUEL a.1 a.2.1 (decRes_some h)⟩
def s_z15_r : Sig := ⟨[2], [.ty (.int .i64)], [.one false [.ptr 1 0 0, .hs 3 0, .ptr 4 0 0, .ty (.int .i64)], .one false [.hs 2 0], .row (.int .u8), .row HeadT, .one false [.hs 5 0], .row (.int .u8)]⟩
def p_z15 : Pol := ⟨fun i => none, fun i => none, some [(2, .keep)], [.keep], []⟩
def e_z15 : List EK := [.ptr 0 0 0]
def h_z15 : List HK := [.one false [.ptr 1 0 0, .hs 3 0, .ptr 4 0 0, .ty (.int .i64)], .one false [.hs 2 0], .row (.int .u8), .row HeadT, .one false [.hs 5 0], .row (.int .u8)]
noncomputable def cf_z15 : CallF := mkCF [] []
noncomputable def ls_z15 (n : Nat) : Loops := fun i =>  none
theorem m_z15 (n : Nat) (a0 : Nat) (a1 : Int) (a2 : Nat) (a3 : (List Int)) (a4 : (List HeadS)) (a5 : Nat) (a6 : (List Int)) : runFT Try.prog cf_z15 p_z15 (ls_z15 n) Try.f33 (bodyOf Try.f33) (EK.encs e_z15 (((), ()), (((), (a0, ((), (a1, ())))), ((a2, ()), (a3, (a4, ((a5, ()), (a6, ()))))))).1) (HK.encs h_z15 (((), ()), (((), (a0, ((), (a1, ())))), ((a2, ()), (a3, (a4, ((a5, ()), (a6, ()))))))).2) = M_z15 n a0 a1 a2 a3 a4 a5 a6 := by kernel_rfl
theorem g_z15 (n : Nat) (a0 : Nat) (a1 : Int) (a2 : Nat) (a3 : (List Int)) (a4 : (List HeadS)) (a5 : Nat) (a6 : (List Int)) {r : Res} (h : M_z15 n a0 a1 a2 a3 a4 a5 a6 = some r) : runF Try.prog cf_z15 n p_z15 33 (EK.encs e_z15 (((), ()), (((), (a0, ((), (a1, ())))), ((a2, ()), (a3, (a4, ((a5, ()), (a6, ()))))))).1) (HK.encs h_z15 (((), ()), (((), (a0, ((), (a1, ())))), ((a2, ()), (a3, (a4, ((a5, ()), (a6, ()))))))).2) = some r := by
  have hb : LOk Try.prog cf_z15 Try.f33.ntmps 6 n p_z15 (ls_z15 n) (bodyOf Try.f33) := ⟨trivial, ⟨⟨trivial, ⟨⟨trivial, trivial⟩, trivial⟩⟩, ⟨trivial, trivial⟩⟩⟩
  exact runFT_some Try.prog (c := bodyOf Try.f33) Try.func33 (show Try.f33.body = some (bodyOf Try.f33) from rfl) (show (1 : Nat) ≤ 9 by decide) hb ((m_z15 n a0 a1 a2 a3 a4 a5 a6).trans h) rfl (by kernel_rfl)
noncomputable def c_z15 : Spec := specQ e_z15 h_z15 ro_z15 rh_z15 fun a b => Q_z15 b.1.2.1 b.1.2.2.2.1 b.2.1.1 b.2.2.1 b.2.2.2.1 b.2.2.2.2.1.1 b.2.2.2.2.2.1
theorem k_z15 (hm : Try.prog.follows .mixedOrders = true) : SpecOk Try.prog 33 c_z15 := specQ_ok (pol := p_z15) hm (cf := cf_z15) (tab_ok specs_nil) fun a b r h => ⟨FUEL, g_z15 FUEL b.1.2.1 b.1.2.2.2.1 b.2.1.1 b.2.2.1 b.2.2.2.1 b.2.2.2.2.1.1 b.2.2.2.2.2.1 (decRes_some h)⟩
def s_z16_r : Sig := ⟨[6], [.ptr 0 0 0], [.cell FieldT]⟩
def p_z16 : Pol := ⟨fun i => none, fun i => none, some [(6, (.own FieldT))], [.keep], []⟩
def e_z16 : List EK := [.ty (.int .i64), .ty (.int .i64), .ty (.int .i64)]
def h_z16 : List HK := []
noncomputable def cf_z16 : CallF := mkCF [] []
noncomputable def ls_z16 (n : Nat) : Loops := fun i =>  none
theorem m_z16 (n : Nat) (a0 : Int) (a1 : Int) (a2 : Int) : runFT Try.prog cf_z16 p_z16 (ls_z16 n) Try.f22 (bodyOf Try.f22) (EK.encs e_z16 ((a0, (a1, (a2, ()))), ()).1) (HK.encs h_z16 ((a0, (a1, (a2, ()))), ()).2) = M_z16 n a0 a1 a2 := by kernel_rfl
theorem g_z16 (n : Nat) (a0 : Int) (a1 : Int) (a2 : Int) {r : Res} (h : M_z16 n a0 a1 a2 = some r) : runF Try.prog cf_z16 n p_z16 22 (EK.encs e_z16 ((a0, (a1, (a2, ()))), ()).1) (HK.encs h_z16 ((a0, (a1, (a2, ()))), ()).2) = some r := by
  have hb : LOk Try.prog cf_z16 Try.f22.ntmps 0 n p_z16 (ls_z16 n) (bodyOf Try.f22) := ⟨trivial, ⟨trivial, trivial⟩⟩
  exact runFT_some Try.prog (c := bodyOf Try.f22) Try.func22 (show Try.f22.body = some (bodyOf Try.f22) from rfl) (show (3 : Nat) ≤ 11 by decide) hb ((m_z16 n a0 a1 a2).trans h) rfl (by kernel_rfl)
noncomputable def c_z16 : Spec := specQ e_z16 h_z16 ro_z16 rh_z16 fun a b => Q_z16 a.1 a.2.1 a.2.2.1
theorem k_z16 (hm : Try.prog.follows .mixedOrders = true) : SpecOk Try.prog 22 c_z16 := specQ_ok (pol := p_z16) hm (cf := cf_z16) (tab_ok specs_nil) fun a b r h => ⟨FUEL, g_z16 FUEL a.1 a.2.1 a.2.2.1 (decRes_some h)⟩
def s_z17_r : Sig := ⟨[4, 5, 6], [.ptr 1 0 0, .ty (.int .i64), .ty (.int .i64)], [.one false [.ptr 1 0 0, .hs 3 0, .ptr 4 0 0, .ty (.int .i64)], .one false [.hs 2 0], .row (.int .u8), .row HeadT, .one false [.hs 5 0], .row (.int .u8)]⟩
def s_z17_r1 : Sig := ⟨[4, 5, 6], [.ptr 4 0 0, .ty (.int .i64), .ty (.int .i64)], [.one false [.ptr 1 0 0, .hs 3 0, .ptr 4 0 0, .ty (.int .i64)], .one false [.hs 2 0], .row (.int .u8), .row HeadT, .one false [.hs 5 0], .row (.int .u8)]⟩
def s_z17_h1 : Sig := ⟨[0, 3, 32, 33, 34], [.ptr 0 0 0, .ptr 6 0 0, .hs 3 0, .ty (.int .i64), .ty (.int .i64)], [.one false [.ptr 1 0 0, .hs 3 0, .ptr 4 0 0, .ty (.int .i64)], .one false [.hs 2 0], .row (.int .u8), .row HeadT, .one false [.hs 5 0], .row (.int .u8), .cell FieldT]⟩
def s_z17_t1 : Sig := ⟨[], [], [.one false [.ptr 1 0 0, .hs 3 0, .ptr 4 0 0, .ty (.int .i64)], .one false [.hs 2 0], .row (.int .u8), .row HeadT, .one false [.hs 5 0], .row (.int .u8)]⟩
def s_z17_r2 : Sig := ⟨[4, 5, 6], [.nul 0, .ty (.int .i64), .ty (.int .i64)], [.one false [.ptr 1 0 0, .hs 3 0, .ptr 4 0 0, .ty (.int .i64)], .one false [.hs 2 0], .row (.int .u8), .row HeadT, .one false [.hs 5 0], .row (.int .u8)]⟩
def p_z17 : Pol := ⟨fun i => if i = 1 then some [(0, .keep), (3, (.own FieldT)), (32, (.own HeadT)), (33, .keep), (34, .keep)] else none, fun i => if i = 1 then some [] else none, some [(4, .keep), (5, .keep), (6, .keep)], [.keep, .keep, .keep], []⟩
def e_z17 : List EK := [.ptr 0 0 0, .agg FieldT]
def h_z17 : List HK := [.one false [.ptr 1 0 0, .hs 3 0, .ptr 4 0 0, .ty (.int .i64)], .one false [.hs 2 0], .row (.int .u8), .row HeadT, .one false [.hs 5 0], .row (.int .u8)]
noncomputable def cf_z17 : CallF := mkCF [] []
noncomputable def ls_z17 (n : Nat) : Loops := fun i => if i = 1 then some (loopT 6 (p_z17.head 1) s_z17_h1 fun K v => L_z17_1 n (fun z0 z1 => K .rt (s_z17_r.enc (((), (z0, (z1, ()))), (((), (v.2.1.2.1, ((), (v.2.1.2.2.2.1, ())))), ((v.2.2.1.1, ()), (v.2.2.2.1, (v.2.2.2.2.1, ((v.2.2.2.2.2.1.1, ()), (v.2.2.2.2.2.2.1, ()))))))))) (fun _ => K (.ex 1) (s_z17_t1.enc ((), (((), (v.2.1.2.1, ((), (v.2.1.2.2.2.1, ())))), ((v.2.2.1.1, ()), (v.2.2.2.1, (v.2.2.2.2.1, ((v.2.2.2.2.2.1.1, ()), (v.2.2.2.2.2.2.1, ()))))))))) v.1.2.2.1 v.1.2.2.2.1 v.2.2.2.2.1 v.2.2.2.2.2.2.2.1 n v.1.2.2.2.2.1)
  else  none
noncomputable def b_z17_1 : Code := partOf (bodyOf Try.f36) [1, 1, 0, 1, 0, 1, 1, 1, 1, 1, 0, 1, 0, 0]
noncomputable def V_z17_1 (n : Nat) (K : Cont) (rec : Sig.sem s_z17_h1 → Option Res) (v : Sig.sem s_z17_h1) : Option Res := F_z17_1 n (fun z0 z1 => K .rt (s_z17_r.enc (((), (z0, (z1, ()))), (((), (v.2.1.2.1, ((), (v.2.1.2.2.2.1, ())))), ((v.2.2.1.1, ()), (v.2.2.2.1, (v.2.2.2.2.1, ((v.2.2.2.2.2.1.1, ()), (v.2.2.2.2.2.2.1, ()))))))))) (fun _ => K (.ex 1) (s_z17_t1.enc ((), (((), (v.2.1.2.1, ((), (v.2.1.2.2.2.1, ())))), ((v.2.2.1.1, ()), (v.2.2.2.1, (v.2.2.2.2.1, ((v.2.2.2.2.2.1.1, ()), (v.2.2.2.2.2.2.1, ()))))))))) v.1.2.2.1 v.1.2.2.2.1 v.2.2.2.2.1 v.2.2.2.2.2.2.2.1 (fun z2 => rec (((), ((), (v.1.2.2.1, (v.1.2.2.2.1, (z2, ()))))), (((), (v.2.1.2.1, ((), (v.2.1.2.2.2.1, ())))), ((v.2.2.1.1, ()), (v.2.2.2.1, (v.2.2.2.2.1, ((v.2.2.2.2.2.1.1, ()), (v.2.2.2.2.2.2.1, (v.2.2.2.2.2.2.2.1, ()))))))))) v.1.2.2.2.2.1
theorem t_z17_1 (n : Nat) (K : Cont) (rec : Sig.sem s_z17_h1 → Option Res) (v : Sig.sem s_z17_h1) : runT Try.prog cf_z17 Try.f36.ntmps 6 p_z17 (ls_z17 n) b_z17_1 (s_z17_h1.enc v) (turnK 6 (p_z17.head 1) s_z17_h1 rec K) = V_z17_1 n K rec v := by kernel_rfl
noncomputable def W_z17_1 (n : Nat) (K : Cont) (m : Nat) (v : Sig.sem s_z17_h1) : Option Res := L_z17_1 n (fun z0 z1 => K .rt (s_z17_r.enc (((), (z0, (z1, ()))), (((), (v.2.1.2.1, ((), (v.2.1.2.2.2.1, ())))), ((v.2.2.1.1, ()), (v.2.2.2.1, (v.2.2.2.2.1, ((v.2.2.2.2.2.1.1, ()), (v.2.2.2.2.2.2.1, ()))))))))) (fun _ => K (.ex 1) (s_z17_t1.enc ((), (((), (v.2.1.2.1, ((), (v.2.1.2.2.2.1, ())))), ((v.2.2.1.1, ()), (v.2.2.2.1, (v.2.2.2.2.1, ((v.2.2.2.2.2.1.1, ()), (v.2.2.2.2.2.2.1, ()))))))))) v.1.2.2.1 v.1.2.2.2.1 v.2.2.2.2.1 v.2.2.2.2.2.2.2.1 m v.1.2.2.2.2.1
theorem i_z17_1 (n : Nat) (K : Cont) : ∀ m v, iter (V_z17_1 n K) m v = W_z17_1 n K m v := by
  intro m
  induction m with
  | zero => intro v; rfl
  | succ m ih =>
    intro v
    show V_z17_1 n K (iter (V_z17_1 n K) m) v = V_z17_1 n K (W_z17_1 n K m) v
    rw [show iter (V_z17_1 n K) m = W_z17_1 n K m from funext ih]
theorem o_z17_1 (n : Nat) : ∀ L, ls_z17 n 1 = some L → ∀ s K r, L s K = some r → ∃ x s', loopN (run Try.prog cf_z17 Try.f36.ntmps 6 n p_z17 none b_z17_1) (gc 6 (p_z17.head 1)) n s = some (x, s') ∧ K x s' = some r := by
  intro L hL s K r h
  have hL : some (loopT 6 (p_z17.head 1) s_z17_h1 fun K v => W_z17_1 n K n v) = some L := hL
  cases hL
  have hb : LOk Try.prog cf_z17 Try.f36.ntmps 6 n p_z17 (ls_z17 n) b_z17_1 := ⟨trivial, ⟨⟨trivial, trivial⟩, ⟨⟨trivial, ⟨trivial, ⟨⟨trivial, trivial⟩, trivial⟩⟩⟩, trivial⟩⟩⟩
  refine loopT_ok hb (V_z17_1 n) (t_z17_1 n) n s K r ?_
  rw [← h]
  unfold loopT
  simp only [i_z17_1]
theorem m_z17 (n : Nat) (a0 : FieldS) (a1 : Nat) (a2 : Int) (a3 : Nat) (a4 : (List Int)) (a5 : (List HeadS)) (a6 : Nat) (a7 : (List Int)) : runFT Try.prog cf_z17 p_z17 (ls_z17 n) Try.f36 (bodyOf Try.f36) (EK.encs e_z17 (((), (a0, ())), (((), (a1, ((), (a2, ())))), ((a3, ()), (a4, (a5, ((a6, ()), (a7, ()))))))).1) (HK.encs h_z17 (((), (a0, ())), (((), (a1, ((), (a2, ())))), ((a3, ()), (a4, (a5, ((a6, ()), (a7, ()))))))).2) = M_z17 n a0 a1 a2 a3 a4 a5 a6 a7 := by kernel_rfl
theorem g_z17 (n : Nat) (a0 : FieldS) (a1 : Nat) (a2 : Int) (a3 : Nat) (a4 : (List Int)) (a5 : (List HeadS)) (a6 : Nat) (a7 : (List Int)) {r : Res} (h : M_z17 n a0 a1 a2 a3 a4 a5 a6 a7 = some r) : runF Try.prog cf_z17 n p_z17 36 (EK.encs e_z17 (((), (a0, ())), (((), (a1, ((), (a2, ())))), ((a3, ()), (a4, (a5, ((a6, ()), (a7, ()))))))).1) (HK.encs h_z17 (((), (a0, ())), (((), (a1, ((), (a2, ())))), ((a3, ()), (a4, (a5, ((a6, ()), (a7, ()))))))).2) = some r := by
  have hb : LOk Try.prog cf_z17 Try.f36.ntmps 6 n p_z17 (ls_z17 n) (bodyOf Try.f36) := ⟨trivial, ⟨⟨trivial, ⟨⟨trivial, trivial⟩, trivial⟩⟩, ⟨⟨trivial, ⟨trivial, ⟨⟨trivial, trivial⟩, ⟨trivial, ⟨⟨trivial, trivial⟩, ⟨trivial, ⟨⟨trivial, (o_z17_1 n)⟩, trivial⟩⟩⟩⟩⟩⟩⟩, ⟨trivial, trivial⟩⟩⟩⟩
  exact runFT_some Try.prog (c := bodyOf Try.f36) Try.func36 (show Try.f36.body = some (bodyOf Try.f36) from rfl) (show (2 : Nat) ≤ 51 by decide) hb ((m_z17 n a0 a1 a2 a3 a4 a5 a6 a7).trans h) rfl (by kernel_rfl)
noncomputable def c_z17 : Spec := specTr e_z17 h_z17 fun a b => (altTr ro_z17 rh_z17 (Q_z17 a.2.1 b.1.2.1 b.1.2.2.2.1 b.2.1.1 b.2.2.1 b.2.2.2.1 b.2.2.2.2.1.1 b.2.2.2.2.2.1) (altTr ro_z17_1 rh_z17_1 (Q_z17_1 a.2.1 b.1.2.1 b.1.2.2.2.1 b.2.1.1 b.2.2.1 b.2.2.2.1 b.2.2.2.2.1.1 b.2.2.2.2.2.1) (altTr ro_z17_2 rh_z17_2 (Q_z17_2 a.2.1 b.1.2.1 b.1.2.2.2.1 b.2.1.1 b.2.2.1 b.2.2.2.1 b.2.2.2.2.1.1 b.2.2.2.2.2.1) .no)))
theorem k_z17 (hm : Try.prog.follows .mixedOrders = true) : SpecOk Try.prog 36 c_z17 := specTr_ok (pol := p_z17) hm (cf := cf_z17) (tab_ok specs_nil) fun a b r => (fun h => (altTr_val h).elim (fun ⟨x, hx, e⟩ => ⟨FUEL, e ▸ g_z17 FUEL a.2.1 b.1.2.1 b.1.2.2.2.1 b.2.1.1 b.2.2.1 b.2.2.2.1 b.2.2.2.2.1.1 b.2.2.2.2.2.1 (decRes_some hx)⟩) (fun h => (altTr_val h).elim (fun ⟨x, hx, e⟩ => ⟨FUEL, e ▸ g_z17 FUEL a.2.1 b.1.2.1 b.1.2.2.2.1 b.2.1.1 b.2.2.1 b.2.2.2.1 b.2.2.2.2.1.1 b.2.2.2.2.2.1 (decRes_some hx)⟩) (fun h => (altTr_val h).elim (fun ⟨x, hx, e⟩ => ⟨FUEL, e ▸ g_z17 FUEL a.2.1 b.1.2.1 b.1.2.2.2.1 b.2.1.1 b.2.2.1 b.2.2.2.1 b.2.2.2.2.1.1 b.2.2.2.2.2.1 (decRes_some hx)⟩) (fun h => by cases h))))
def s_z18_r : Sig := ⟨[4], [.ty (.int .i64)], []⟩
def p_z18 : Pol := ⟨fun i => none, fun i => none, some [(4, .keep)], [.keep], []⟩
def e_z18 : List EK := [.ty (.int .i64), .ty (.int .i64)]
def h_z18 : List HK := []
noncomputable def cf_z18 : CallF := mkCF [] []
noncomputable def ls_z18 (n : Nat) : Loops := fun i =>  none
theorem m_z18 (n : Nat) (a0 : Int) (a1 : Int) : runFT Try.prog cf_z18 p_z18 (ls_z18 n) Try.f39 (bodyOf Try.f39) (EK.encs e_z18 ((a0, (a1, ())), ()).1) (HK.encs h_z18 ((a0, (a1, ())), ()).2) = M_z18 n a0 a1 := by kernel_rfl
theorem g_z18 (n : Nat) (a0 : Int) (a1 : Int) {r : Res} (h : M_z18 n a0 a1 = some r) : runF Try.prog cf_z18 n p_z18 39 (EK.encs e_z18 ((a0, (a1, ())), ()).1) (HK.encs h_z18 ((a0, (a1, ())), ()).2) = some r := by
  have hb : LOk Try.prog cf_z18 Try.f39.ntmps 0 n p_z18 (ls_z18 n) (bodyOf Try.f39) := ⟨trivial, ⟨⟨trivial, ⟨⟨trivial, trivial⟩, trivial⟩⟩, ⟨trivial, trivial⟩⟩⟩
  exact runFT_some Try.prog (c := bodyOf Try.f39) Try.func39 (show Try.f39.body = some (bodyOf Try.f39) from rfl) (show (2 : Nat) ≤ 12 by decide) hb ((m_z18 n a0 a1).trans h) rfl (by kernel_rfl)
noncomputable def c_z18 : Spec := specQ e_z18 h_z18 ro_z18 rh_z18 fun a b => Q_z18 a.1 a.2.1
theorem k_z18 (hm : Try.prog.follows .mixedOrders = true) : SpecOk Try.prog 39 c_z18 := specQ_ok (pol := p_z18) hm (cf := cf_z18) (tab_ok specs_nil) fun a b r h => ⟨FUEL, g_z18 FUEL a.1 a.2.1 (decRes_some h)⟩
def s_z19_r : Sig := ⟨[6, 7], [.ptr 0 0 0, .ty (.int .i64)], [.cell WordT]⟩
def p_z19 : Pol := ⟨fun i => none, fun i => none, some [(6, (.own WordT)), (7, .keep)], [.keep, .keep], []⟩
def e_z19 : List EK := [.nul 0, .ty (.int .i64), .ty (.int .i64)]
def h_z19 : List HK := []
noncomputable def cf_z19 : CallF := mkCF [] []
noncomputable def ls_z19 (n : Nat) : Loops := fun i =>  none
theorem m_z19 (n : Nat) (a0 : Int) (a1 : Int) : runFT Try.prog cf_z19 p_z19 (ls_z19 n) Try.f38 (bodyOf Try.f38) (EK.encs e_z19 (((), (a0, (a1, ()))), ()).1) (HK.encs h_z19 (((), (a0, (a1, ()))), ()).2) = M_z19 n a0 a1 := by kernel_rfl
theorem g_z19 (n : Nat) (a0 : Int) (a1 : Int) {r : Res} (h : M_z19 n a0 a1 = some r) : runF Try.prog cf_z19 n p_z19 38 (EK.encs e_z19 (((), (a0, (a1, ()))), ()).1) (HK.encs h_z19 (((), (a0, (a1, ()))), ()).2) = some r := by
  have hb : LOk Try.prog cf_z19 Try.f38.ntmps 0 n p_z19 (ls_z19 n) (bodyOf Try.f38) := ⟨trivial, ⟨⟨trivial, ⟨⟨trivial, trivial⟩, trivial⟩⟩, ⟨trivial, ⟨trivial, trivial⟩⟩⟩⟩
  exact runFT_some Try.prog (c := bodyOf Try.f38) Try.func38 (show Try.f38.body = some (bodyOf Try.f38) from rfl) (show (3 : Nat) ≤ 30 by decide) hb ((m_z19 n a0 a1).trans h) rfl (by kernel_rfl)
noncomputable def c_z19 : Spec := specQ e_z19 h_z19 ro_z19 rh_z19 fun a b => Q_z19 a.2.1 a.2.2.1
theorem k_z19 (hm : Try.prog.follows .mixedOrders = true) : SpecOk Try.prog 38 c_z19 := specQ_ok (pol := p_z19) hm (cf := cf_z19) (tab_ok specs_nil) fun a b r h => ⟨FUEL, g_z19 FUEL a.2.1 a.2.2.1 (decRes_some h)⟩
def s_z1a_r : Sig := ⟨[6, 7], [.hs 1 0, .ty (.int .i64)], [.one false [.hs 1 0], .row (.int .u8)]⟩
def s_z1a_r1 : Sig := ⟨[6, 7], [.hv 1, .ty (.int .i64)], [.one false [.hs 1 0], .row (.int .u8)]⟩
def p_z1a : Pol := ⟨fun i => none, fun i => none, some [(6, (.own (.int .u8))), (7, .keep)], [(.own (.int .u8)), .keep], []⟩
def e_z1a : List EK := [.ptr 0 0 0, .ty (.int .i64), .ty (.int .i64)]
def h_z1a : List HK := [.one false [.hs 1 0], .row (.int .u8)]
noncomputable def cf_z1a : CallF := mkCF [] []
noncomputable def ls_z1a (n : Nat) : Loops := fun i =>  none
theorem m_z1a (n : Nat) (a0 : Int) (a1 : Int) (a2 : Nat) (a3 : (List Int)) : runFT Try.prog cf_z1a p_z1a (ls_z1a n) Try.f59 (bodyOf Try.f59) (EK.encs e_z1a (((), (a0, (a1, ()))), ((a2, ()), (a3, ()))).1) (HK.encs h_z1a (((), (a0, (a1, ()))), ((a2, ()), (a3, ()))).2) = M_z1a n a0 a1 a2 a3 := by kernel_rfl
theorem g_z1a (n : Nat) (a0 : Int) (a1 : Int) (a2 : Nat) (a3 : (List Int)) {r : Res} (h : M_z1a n a0 a1 a2 a3 = some r) : runF Try.prog cf_z1a n p_z1a 59 (EK.encs e_z1a (((), (a0, (a1, ()))), ((a2, ()), (a3, ()))).1) (HK.encs h_z1a (((), (a0, (a1, ()))), ((a2, ()), (a3, ()))).2) = some r := by
  have hb : LOk Try.prog cf_z1a Try.f59.ntmps 2 n p_z1a (ls_z1a n) (bodyOf Try.f59) := ⟨trivial, ⟨⟨trivial, ⟨⟨trivial, trivial⟩, trivial⟩⟩, ⟨trivial, ⟨trivial, trivial⟩⟩⟩⟩
  exact runFT_some Try.prog (c := bodyOf Try.f59) Try.func59 (show Try.f59.body = some (bodyOf Try.f59) from rfl) (show (3 : Nat) ≤ 49 by decide) hb ((m_z1a n a0 a1 a2 a3).trans h) rfl (by kernel_rfl)
noncomputable def c_z1a : Spec := specTr e_z1a h_z1a fun a b => (altTr ro_z1a rh_z1a (Q_z1a a.2.1 a.2.2.1 b.1.1 b.2.1) (altTr ro_z1a_1 rh_z1a_1 (Q_z1a_1 a.2.1 a.2.2.1 b.1.1 b.2.1) .no))
theorem k_z1a (hm : Try.prog.follows .mixedOrders = true) : SpecOk Try.prog 59 c_z1a := specTr_ok (pol := p_z1a) hm (cf := cf_z1a) (tab_ok specs_nil) fun a b r => (fun h => (altTr_val h).elim (fun ⟨x, hx, e⟩ => ⟨FUEL, e ▸ g_z1a FUEL a.2.1 a.2.2.1 b.1.1 b.2.1 (decRes_some hx)⟩) (fun h => (altTr_val h).elim (fun ⟨x, hx, e⟩ => ⟨FUEL, e ▸ g_z1a FUEL a.2.1 a.2.2.1 b.1.1 b.2.1 (decRes_some hx)⟩) (fun h => by cases h)))
def s_z1b_r : Sig := ⟨[6, 7], [.ptr 2 0 0, .ty (.int .i64)], [.one false [.hs 1 0], .row (.int .u8), .cell WordT]⟩
def p_z1b : Pol := ⟨fun i => none, fun i => none, some [(6, (.own WordT)), (7, .keep)], [.keep, .keep], []⟩
def e_z1b : List EK := [.ptr 0 0 0, .ty (.int .i64), .ty (.int .i64)]
def h_z1b : List HK := [.one false [.hs 1 0], .row (.int .u8)]
noncomputable def cf_z1b : CallF := mkCF [(59, c_z1a), (60, c_z0r)] [(60, [.str, (.int .i64), (.int .i64)])]
noncomputable def ls_z1b (n : Nat) : Loops := fun i =>  none
theorem m_z1b (n : Nat) (a0 : Int) (a1 : Int) (a2 : Nat) (a3 : (List Int)) : runFT Try.prog cf_z1b p_z1b (ls_z1b n) Try.f38 (bodyOf Try.f38) (EK.encs e_z1b (((), (a0, (a1, ()))), ((a2, ()), (a3, ()))).1) (HK.encs h_z1b (((), (a0, (a1, ()))), ((a2, ()), (a3, ()))).2) = M_z1b n a0 a1 a2 a3 := by kernel_rfl
theorem g_z1b (n : Nat) (a0 : Int) (a1 : Int) (a2 : Nat) (a3 : (List Int)) {r : Res} (h : M_z1b n a0 a1 a2 a3 = some r) : runF Try.prog cf_z1b n p_z1b 38 (EK.encs e_z1b (((), (a0, (a1, ()))), ((a2, ()), (a3, ()))).1) (HK.encs h_z1b (((), (a0, (a1, ()))), ((a2, ()), (a3, ()))).2) = some r := by
  have hb : LOk Try.prog cf_z1b Try.f38.ntmps 2 n p_z1b (ls_z1b n) (bodyOf Try.f38) := ⟨trivial, ⟨⟨trivial, ⟨⟨trivial, trivial⟩, trivial⟩⟩, ⟨trivial, ⟨trivial, trivial⟩⟩⟩⟩
  exact runFT_some Try.prog (c := bodyOf Try.f38) Try.func38 (show Try.f38.body = some (bodyOf Try.f38) from rfl) (show (3 : Nat) ≤ 30 by decide) hb ((m_z1b n a0 a1 a2 a3).trans h) rfl (by kernel_rfl)
noncomputable def c_z1b : Spec := specQ e_z1b h_z1b ro_z1b rh_z1b fun a b => Q_z1b a.2.1 a.2.2.1 b.1.1 b.2.1
theorem k_z1b (hm : Try.prog.follows .mixedOrders = true) : SpecOk Try.prog 38 c_z1b := specQ_ok (pol := p_z1b) hm (cf := cf_z1b) (tab_ok (specs_cons (k_z1a hm) (specs_cons (k_z0r hm) specs_nil))) fun a b r h => ⟨FUEL, g_z1b FUEL a.2.1 a.2.2.1 b.1.1 b.2.1 (decRes_some h)⟩
def s_z1c_r : Sig := ⟨[4, 5], [.ptr 6 0 0, .ty (.int .i64)], [.one false [.ptr 1 0 0, .hs 3 0, .ptr 4 0 0, .ty (.int .i64)], .one false [.hs 2 0], .row (.int .u8), .row HeadT, .one false [.hs 5 0], .row (.int .u8), .cell WordT]⟩
def p_z1c : Pol := ⟨fun i => none, fun i => none, some [(4, (.own WordT)), (5, .keep)], [.keep, .keep], []⟩
def e_z1c : List EK := [.ptr 0 0 0, .agg FieldT]
def h_z1c : List HK := [.one false [.ptr 1 0 0, .hs 3 0, .ptr 4 0 0, .ty (.int .i64)], .one false [.hs 2 0], .row (.int .u8), .row HeadT, .one false [.hs 5 0], .row (.int .u8)]
noncomputable def cf_z1c : CallF := mkCF [(36, c_z17), (39, c_z18), (38, (orSpec c_z19 c_z1b))] [(39, [(.int .i64), (.int .i64)])]
noncomputable def ls_z1c (n : Nat) : Loops := fun i =>  none
theorem m_z1c (n : Nat) (a0 : FieldS) (a1 : Nat) (a2 : Int) (a3 : Nat) (a4 : (List Int)) (a5 : (List HeadS)) (a6 : Nat) (a7 : (List Int)) : runFT Try.prog cf_z1c p_z1c (ls_z1c n) Try.f13 (bodyOf Try.f13) (EK.encs e_z1c (((), (a0, ())), (((), (a1, ((), (a2, ())))), ((a3, ()), (a4, (a5, ((a6, ()), (a7, ()))))))).1) (HK.encs h_z1c (((), (a0, ())), (((), (a1, ((), (a2, ())))), ((a3, ()), (a4, (a5, ((a6, ()), (a7, ()))))))).2) = M_z1c n a0 a1 a2 a3 a4 a5 a6 a7 := by kernel_rfl
theorem g_z1c (n : Nat) (a0 : FieldS) (a1 : Nat) (a2 : Int) (a3 : Nat) (a4 : (List Int)) (a5 : (List HeadS)) (a6 : Nat) (a7 : (List Int)) {r : Res} (h : M_z1c n a0 a1 a2 a3 a4 a5 a6 a7 = some r) : runF Try.prog cf_z1c n p_z1c 13 (EK.encs e_z1c (((), (a0, ())), (((), (a1, ((), (a2, ())))), ((a3, ()), (a4, (a5, ((a6, ()), (a7, ()))))))).1) (HK.encs h_z1c (((), (a0, ())), (((), (a1, ((), (a2, ())))), ((a3, ()), (a4, (a5, ((a6, ()), (a7, ()))))))).2) = some r := by
  have hb : LOk Try.prog cf_z1c Try.f13.ntmps 6 n p_z1c (ls_z1c n) (bodyOf Try.f13) := ⟨trivial, ⟨trivial, ⟨⟨trivial, ⟨⟨trivial, trivial⟩, trivial⟩⟩, ⟨trivial, ⟨⟨trivial, ⟨⟨trivial, trivial⟩, trivial⟩⟩, ⟨trivial, trivial⟩⟩⟩⟩⟩⟩
  exact runFT_some Try.prog (c := bodyOf Try.f13) Try.func13 (show Try.f13.body = some (bodyOf Try.f13) from rfl) (show (2 : Nat) ≤ 37 by decide) hb ((m_z1c n a0 a1 a2 a3 a4 a5 a6 a7).trans h) rfl (by kernel_rfl)
noncomputable def c_z1c : Spec := specQ e_z1c h_z1c ro_z1c rh_z1c fun a b => Q_z1c a.2.1 b.1.2.1 b.1.2.2.2.1 b.2.1.1 b.2.2.1 b.2.2.2.1 b.2.2.2.2.1.1 b.2.2.2.2.2.1
theorem k_z1c (hm : Try.prog.follows .mixedOrders = true) : SpecOk Try.prog 13 c_z1c := specQ_ok (pol := p_z1c) hm (cf := cf_z1c) (tab_ok (specs_cons (k_z17 hm) (specs_cons (k_z18 hm) (specs_cons (orSpec_ok (k_z19 hm) (k_z1b hm)) specs_nil)))) fun a b r h => ⟨FUEL, g_z1c FUEL a.2.1 b.1.2.1 b.1.2.2.2.1 b.2.1.1 b.2.2.1 b.2.2.2.1 b.2.2.2.2.1.1 b.2.2.2.2.2.1 (decRes_some h)⟩
def s_z1d_r : Sig := ⟨[2], [.ty (.int .i64)], []⟩
def p_z1d : Pol := ⟨fun i => none, fun i => none, some [(2, .keep)], [.keep], []⟩
def e_z1d : List EK := [.nul 0]
def h_z1d : List HK := []
noncomputable def cf_z1d : CallF := mkCF [] []
noncomputable def ls_z1d (n : Nat) : Loops := fun i =>  none
theorem m_z1d (n : Nat) : runFT Try.prog cf_z1d p_z1d (ls_z1d n) Try.f44 (bodyOf Try.f44) (EK.encs e_z1d (((), ()), ()).1) (HK.encs h_z1d (((), ()), ()).2) = M_z1d n := by kernel_rfl
theorem g_z1d (n : Nat) {r : Res} (h : M_z1d n = some r) : runF Try.prog cf_z1d n p_z1d 44 (EK.encs e_z1d (((), ()), ()).1) (HK.encs h_z1d (((), ()), ()).2) = some r := by
  have hb : LOk Try.prog cf_z1d Try.f44.ntmps 0 n p_z1d (ls_z1d n) (bodyOf Try.f44) := ⟨trivial, ⟨⟨trivial, ⟨⟨trivial, trivial⟩, trivial⟩⟩, ⟨trivial, trivial⟩⟩⟩
  exact runFT_some Try.prog (c := bodyOf Try.f44) Try.func44 (show Try.f44.body = some (bodyOf Try.f44) from rfl) (show (1 : Nat) ≤ 10 by decide) hb ((m_z1d n).trans h) rfl (by kernel_rfl)
noncomputable def c_z1d : Spec := specQ e_z1d h_z1d ro_z1d rh_z1d fun a b => Q_z1d
theorem k_z1d (hm : Try.prog.follows .mixedOrders = true) : SpecOk Try.prog 44 c_z1d := specQ_ok (pol := p_z1d) hm (cf := cf_z1d) (tab_ok specs_nil) fun a b r h => ⟨FUEL, g_z1d FUEL (decRes_some h)⟩
def s_z1e_r : Sig := ⟨[6, 7], [.ty (.int .i64), .ty (.int .i64)], []⟩
def p_z1e : Pol := ⟨fun i => none, fun i => none, some [(6, .keep), (7, .keep)], [.keep, .keep], []⟩
def e_z1e : List EK := [.nul 0, .ty (.int .i64), .agg FieldT]
def h_z1e : List HK := []
noncomputable def cf_z1e : CallF := mkCF [(44, c_z1d)] []
noncomputable def ls_z1e (n : Nat) : Loops := fun i =>  none
theorem m_z1e (n : Nat) (a0 : Int) (a1 : FieldS) : runFT Try.prog cf_z1e p_z1e (ls_z1e n) Try.f37 (bodyOf Try.f37) (EK.encs e_z1e (((), (a0, (a1, ()))), ()).1) (HK.encs h_z1e (((), (a0, (a1, ()))), ()).2) = M_z1e n a0 a1 := by kernel_rfl
theorem g_z1e (n : Nat) (a0 : Int) (a1 : FieldS) {r : Res} (h : M_z1e n a0 a1 = some r) : runF Try.prog cf_z1e n p_z1e 37 (EK.encs e_z1e (((), (a0, (a1, ()))), ()).1) (HK.encs h_z1e (((), (a0, (a1, ()))), ()).2) = some r := by
  have hb : LOk Try.prog cf_z1e Try.f37.ntmps 0 n p_z1e (ls_z1e n) (bodyOf Try.f37) := ⟨trivial, ⟨⟨trivial, ⟨⟨trivial, trivial⟩, trivial⟩⟩, ⟨trivial, trivial⟩⟩⟩
  exact runFT_some Try.prog (c := bodyOf Try.f37) Try.func37 (show Try.f37.body = some (bodyOf Try.f37) from rfl) (show (3 : Nat) ≤ 26 by decide) hb ((m_z1e n a0 a1).trans h) rfl (by kernel_rfl)
noncomputable def c_z1e : Spec := specQ e_z1e h_z1e ro_z1e rh_z1e fun a b => Q_z1e a.2.1 a.2.2.1
theorem k_z1e (hm : Try.prog.follows .mixedOrders = true) : SpecOk Try.prog 37 c_z1e := specQ_ok (pol := p_z1e) hm (cf := cf_z1e) (tab_ok (specs_cons (k_z1d hm) specs_nil)) fun a b r h => ⟨FUEL, g_z1e FUEL a.2.1 a.2.2.1 (decRes_some h)⟩
def s_z1f_r : Sig := ⟨[2], [.ty (.int .i64)], [.one false [.hs 1 0], .row (.int .u8)]⟩
def p_z1f : Pol := ⟨fun i => none, fun i => none, some [(2, .keep)], [.keep], []⟩
def e_z1f : List EK := [.ptr 0 0 0]
def h_z1f : List HK := [.one false [.hs 1 0], .row (.int .u8)]
noncomputable def cf_z1f : CallF := mkCF [] []
noncomputable def ls_z1f (n : Nat) : Loops := fun i =>  none
theorem m_z1f (n : Nat) (a0 : Nat) (a1 : (List Int)) : runFT Try.prog cf_z1f p_z1f (ls_z1f n) Try.f44 (bodyOf Try.f44) (EK.encs e_z1f (((), ()), ((a0, ()), (a1, ()))).1) (HK.encs h_z1f (((), ()), ((a0, ()), (a1, ()))).2) = M_z1f n a0 a1 := by kernel_rfl
theorem g_z1f (n : Nat) (a0 : Nat) (a1 : (List Int)) {r : Res} (h : M_z1f n a0 a1 = some r) : runF Try.prog cf_z1f n p_z1f 44 (EK.encs e_z1f (((), ()), ((a0, ()), (a1, ()))).1) (HK.encs h_z1f (((), ()), ((a0, ()), (a1, ()))).2) = some r := by
  have hb : LOk Try.prog cf_z1f Try.f44.ntmps 2 n p_z1f (ls_z1f n) (bodyOf Try.f44) := ⟨trivial, ⟨⟨trivial, ⟨⟨trivial, trivial⟩, trivial⟩⟩, ⟨trivial, trivial⟩⟩⟩
  exact runFT_some Try.prog (c := bodyOf Try.f44) Try.func44 (show Try.f44.body = some (bodyOf Try.f44) from rfl) (show (1 : Nat) ≤ 10 by decide) hb ((m_z1f n a0 a1).trans h) rfl (by kernel_rfl)
noncomputable def c_z1f : Spec := specQ e_z1f h_z1f ro_z1f rh_z1f fun a b => Q_z1f b.1.1 b.2.1
theorem k_z1f (hm : Try.prog.follows .mixedOrders = true) : SpecOk Try.prog 44 c_z1f := specQ_ok (pol := p_z1f) hm (cf := cf_z1f) (tab_ok specs_nil) fun a b r h => ⟨FUEL, g_z1f FUEL b.1.1 b.2.1 (decRes_some h)⟩
def s_z1g_r : Sig := ⟨[6, 7], [.ty (.int .i64), .ty (.int .i64)], [.one false [.hs 1 0], .row (.int .u8)]⟩
def p_z1g : Pol := ⟨fun i => none, fun i => none, some [(6, .keep), (7, .keep)], [.keep, .keep], []⟩
def e_z1g : List EK := [.ptr 0 0 0, .ty (.int .i64), .agg FieldT]
def h_z1g : List HK := [.one false [.hs 1 0], .row (.int .u8)]
noncomputable def cf_z1g : CallF := mkCF [(44, c_z1f)] []
noncomputable def ls_z1g (n : Nat) : Loops := fun i =>  none
theorem m_z1g (n : Nat) (a0 : Int) (a1 : FieldS) (a2 : Nat) (a3 : (List Int)) : runFT Try.prog cf_z1g p_z1g (ls_z1g n) Try.f37 (bodyOf Try.f37) (EK.encs e_z1g (((), (a0, (a1, ()))), ((a2, ()), (a3, ()))).1) (HK.encs h_z1g (((), (a0, (a1, ()))), ((a2, ()), (a3, ()))).2) = M_z1g n a0 a1 a2 a3 := by kernel_rfl
theorem g_z1g (n : Nat) (a0 : Int) (a1 : FieldS) (a2 : Nat) (a3 : (List Int)) {r : Res} (h : M_z1g n a0 a1 a2 a3 = some r) : runF Try.prog cf_z1g n p_z1g 37 (EK.encs e_z1g (((), (a0, (a1, ()))), ((a2, ()), (a3, ()))).1) (HK.encs h_z1g (((), (a0, (a1, ()))), ((a2, ()), (a3, ()))).2) = some r := by
  have hb : LOk Try.prog cf_z1g Try.f37.ntmps 2 n p_z1g (ls_z1g n) (bodyOf Try.f37) := ⟨trivial, ⟨⟨trivial, ⟨⟨trivial, trivial⟩, trivial⟩⟩, ⟨trivial, trivial⟩⟩⟩
  exact runFT_some Try.prog (c := bodyOf Try.f37) Try.func37 (show Try.f37.body = some (bodyOf Try.f37) from rfl) (show (3 : Nat) ≤ 26 by decide) hb ((m_z1g n a0 a1 a2 a3).trans h) rfl (by kernel_rfl)
noncomputable def c_z1g : Spec := specQ e_z1g h_z1g ro_z1g rh_z1g fun a b => Q_z1g a.2.1 a.2.2.1 b.1.1 b.2.1
theorem k_z1g (hm : Try.prog.follows .mixedOrders = true) : SpecOk Try.prog 37 c_z1g := specQ_ok (pol := p_z1g) hm (cf := cf_z1g) (tab_ok (specs_cons (k_z1f hm) specs_nil)) fun a b r h => ⟨FUEL, g_z1g FUEL a.2.1 a.2.2.1 b.1.1 b.2.1 (decRes_some h)⟩
def s_z1h_r : Sig := ⟨[4, 5], [.ty (.int .i64), .ty (.int .i64)], [.one false [.ptr 1 0 0, .hs 3 0, .ptr 4 0 0, .ty (.int .i64)], .one false [.hs 2 0], .row (.int .u8), .row HeadT, .one false [.hs 5 0], .row (.int .u8)]⟩
def p_z1h : Pol := ⟨fun i => none, fun i => none, some [(4, .keep), (5, .keep)], [.keep, .keep], []⟩
def e_z1h : List EK := [.ptr 0 0 0, .agg FieldT]
def h_z1h : List HK := [.one false [.ptr 1 0 0, .hs 3 0, .ptr 4 0 0, .ty (.int .i64)], .one false [.hs 2 0], .row (.int .u8), .row HeadT, .one false [.hs 5 0], .row (.int .u8)]
noncomputable def cf_z1h : CallF := mkCF [(36, c_z17), (37, (orSpec c_z1e c_z1g))] []
noncomputable def ls_z1h (n : Nat) : Loops := fun i =>  none
theorem m_z1h (n : Nat) (a0 : FieldS) (a1 : Nat) (a2 : Int) (a3 : Nat) (a4 : (List Int)) (a5 : (List HeadS)) (a6 : Nat) (a7 : (List Int)) : runFT Try.prog cf_z1h p_z1h (ls_z1h n) Try.f12 (bodyOf Try.f12) (EK.encs e_z1h (((), (a0, ())), (((), (a1, ((), (a2, ())))), ((a3, ()), (a4, (a5, ((a6, ()), (a7, ()))))))).1) (HK.encs h_z1h (((), (a0, ())), (((), (a1, ((), (a2, ())))), ((a3, ()), (a4, (a5, ((a6, ()), (a7, ()))))))).2) = M_z1h n a0 a1 a2 a3 a4 a5 a6 a7 := by kernel_rfl
theorem g_z1h (n : Nat) (a0 : FieldS) (a1 : Nat) (a2 : Int) (a3 : Nat) (a4 : (List Int)) (a5 : (List HeadS)) (a6 : Nat) (a7 : (List Int)) {r : Res} (h : M_z1h n a0 a1 a2 a3 a4 a5 a6 a7 = some r) : runF Try.prog cf_z1h n p_z1h 12 (EK.encs e_z1h (((), (a0, ())), (((), (a1, ((), (a2, ())))), ((a3, ()), (a4, (a5, ((a6, ()), (a7, ()))))))).1) (HK.encs h_z1h (((), (a0, ())), (((), (a1, ((), (a2, ())))), ((a3, ()), (a4, (a5, ((a6, ()), (a7, ()))))))).2) = some r := by
  have hb : LOk Try.prog cf_z1h Try.f12.ntmps 6 n p_z1h (ls_z1h n) (bodyOf Try.f12) := ⟨trivial, ⟨trivial, ⟨⟨trivial, ⟨⟨trivial, trivial⟩, trivial⟩⟩, ⟨trivial, trivial⟩⟩⟩⟩
  exact runFT_some Try.prog (c := bodyOf Try.f12) Try.func12 (show Try.f12.body = some (bodyOf Try.f12) from rfl) (show (2 : Nat) ≤ 25 by decide) hb ((m_z1h n a0 a1 a2 a3 a4 a5 a6 a7).trans h) rfl (by kernel_rfl)
noncomputable def c_z1h : Spec := specQ e_z1h h_z1h ro_z1h rh_z1h fun a b => Q_z1h a.2.1 b.1.2.1 b.1.2.2.2.1 b.2.1.1 b.2.2.1 b.2.2.2.1 b.2.2.2.2.1.1 b.2.2.2.2.2.1
theorem k_z1h (hm : Try.prog.follows .mixedOrders = true) : SpecOk Try.prog 12 c_z1h := specQ_ok (pol := p_z1h) hm (cf := cf_z1h) (tab_ok (specs_cons (k_z17 hm) (specs_cons (orSpec_ok (k_z1e hm) (k_z1g hm)) specs_nil))) fun a b r h => ⟨FUEL, g_z1h FUEL a.2.1 b.1.2.1 b.1.2.2.2.1 b.2.1.1 b.2.2.1 b.2.2.2.1 b.2.2.2.2.1.1 b.2.2.2.2.2.1 (decRes_some h)⟩
def s_z1i_r : Sig := ⟨[4, 5], [.ty (.int .i64), .ty (.int .i64)], [.one false [.ptr 1 0 0, .hs 3 0, .ptr 4 0 0, .ty (.int .i64)], .one false [.hs 2 0], .row (.int .u8), .row HeadT, .one false [.hs 5 0], .row (.int .u8)]⟩
def p_z1i : Pol := ⟨fun i => none, fun i => none, some [(4, .keep), (5, .keep)], [.keep, .keep], []⟩
def e_z1i : List EK := [.ptr 0 0 0, .agg FieldT]
def h_z1i : List HK := [.one false [.ptr 1 0 0, .hs 3 0, .ptr 4 0 0, .ty (.int .i64)], .one false [.hs 2 0], .row (.int .u8), .row HeadT, .one false [.hs 5 0], .row (.int .u8)]
noncomputable def cf_z1i : CallF := mkCF [(12, c_z1h)] []
noncomputable def ls_z1i (n : Nat) : Loops := fun i =>  none
theorem m_z1i (n : Nat) (a0 : FieldS) (a1 : Nat) (a2 : Int) (a3 : Nat) (a4 : (List Int)) (a5 : (List HeadS)) (a6 : Nat) (a7 : (List Int)) : runFT Try.prog cf_z1i p_z1i (ls_z1i n) Try.f41 (bodyOf Try.f41) (EK.encs e_z1i (((), (a0, ())), (((), (a1, ((), (a2, ())))), ((a3, ()), (a4, (a5, ((a6, ()), (a7, ()))))))).1) (HK.encs h_z1i (((), (a0, ())), (((), (a1, ((), (a2, ())))), ((a3, ()), (a4, (a5, ((a6, ()), (a7, ()))))))).2) = M_z1i n a0 a1 a2 a3 a4 a5 a6 a7 := by kernel_rfl
theorem g_z1i (n : Nat) (a0 : FieldS) (a1 : Nat) (a2 : Int) (a3 : Nat) (a4 : (List Int)) (a5 : (List HeadS)) (a6 : Nat) (a7 : (List Int)) {r : Res} (h : M_z1i n a0 a1 a2 a3 a4 a5 a6 a7 = some r) : runF Try.prog cf_z1i n p_z1i 41 (EK.encs e_z1i (((), (a0, ())), (((), (a1, ((), (a2, ())))), ((a3, ()), (a4, (a5, ((a6, ()), (a7, ()))))))).1) (HK.encs h_z1i (((), (a0, ())), (((), (a1, ((), (a2, ())))), ((a3, ()), (a4, (a5, ((a6, ()), (a7, ()))))))).2) = some r := by
  have hb : LOk Try.prog cf_z1i Try.f41.ntmps 6 n p_z1i (ls_z1i n) (bodyOf Try.f41) := ⟨trivial, ⟨⟨trivial, ⟨⟨trivial, trivial⟩, trivial⟩⟩, ⟨trivial, trivial⟩⟩⟩
  exact runFT_some Try.prog (c := bodyOf Try.f41) Try.func41 (show Try.f41.body = some (bodyOf Try.f41) from rfl) (show (2 : Nat) ≤ 18 by decide) hb ((m_z1i n a0 a1 a2 a3 a4 a5 a6 a7).trans h) rfl (by kernel_rfl)
noncomputable def c_z1i : Spec := specQ e_z1i h_z1i ro_z1i rh_z1i fun a b => Q_z1i a.2.1 b.1.2.1 b.1.2.2.2.1 b.2.1.1 b.2.2.1 b.2.2.2.1 b.2.2.2.2.1.1 b.2.2.2.2.2.1
theorem k_z1i (hm : Try.prog.follows .mixedOrders = true) : SpecOk Try.prog 41 c_z1i := specQ_ok (pol := p_z1i) hm (cf := cf_z1i) (tab_ok (specs_cons (k_z1h hm) specs_nil)) fun a b r h => ⟨FUEL, g_z1i FUEL a.2.1 b.1.2.1 b.1.2.2.2.1 b.2.1.1 b.2.2.1 b.2.2.2.1 b.2.2.2.2.1.1 b.2.2.2.2.2.1 (decRes_some h)⟩
def s_z1j_r : Sig := ⟨[6], [.ty (.int .i64)], [.one false [.hs 1 0], .row (.int .u8)]⟩
def p_z1j : Pol := ⟨fun i => none, fun i => none, some [(6, .keep)], [.keep], []⟩
def e_z1j : List EK := [.ptr 0 0 0, .ty (.int .i64), .ty (.int .i64)]
def h_z1j : List HK := [.one false [.hs 1 0], .row (.int .u8)]
noncomputable def cf_z1j : CallF := mkCF [] []
noncomputable def ls_z1j (n : Nat) : Loops := fun i =>  none
theorem m_z1j (n : Nat) (a0 : Int) (a1 : Int) (a2 : Nat) (a3 : (List Int)) : runFT Try.prog cf_z1j p_z1j (ls_z1j n) Try.f61 (bodyOf Try.f61) (EK.encs e_z1j (((), (a0, (a1, ()))), ((a2, ()), (a3, ()))).1) (HK.encs h_z1j (((), (a0, (a1, ()))), ((a2, ()), (a3, ()))).2) = M_z1j n a0 a1 a2 a3 := by kernel_rfl
theorem g_z1j (n : Nat) (a0 : Int) (a1 : Int) (a2 : Nat) (a3 : (List Int)) {r : Res} (h : M_z1j n a0 a1 a2 a3 = some r) : runF Try.prog cf_z1j n p_z1j 61 (EK.encs e_z1j (((), (a0, (a1, ()))), ((a2, ()), (a3, ()))).1) (HK.encs h_z1j (((), (a0, (a1, ()))), ((a2, ()), (a3, ()))).2) = some r := by
  have hb : LOk Try.prog cf_z1j Try.f61.ntmps 2 n p_z1j (ls_z1j n) (bodyOf Try.f61) := ⟨trivial, ⟨⟨trivial, ⟨⟨trivial, trivial⟩, ⟨trivial, ⟨⟨trivial, trivial⟩, ⟨trivial, ⟨⟨trivial, trivial⟩, trivial⟩⟩⟩⟩⟩⟩, ⟨trivial, trivial⟩⟩⟩
  exact runFT_some Try.prog (c := bodyOf Try.f61) Try.func61 (show Try.f61.body = some (bodyOf Try.f61) from rfl) (show (3 : Nat) ≤ 36 by decide) hb ((m_z1j n a0 a1 a2 a3).trans h) rfl (by kernel_rfl)
noncomputable def c_z1j : Spec := specQ e_z1j h_z1j ro_z1j rh_z1j fun a b => Q_z1j a.2.1 a.2.2.1 b.1.1 b.2.1
theorem k_z1j (hm : Try.prog.follows .mixedOrders = true) : SpecOk Try.prog 61 c_z1j := specQ_ok (pol := p_z1j) hm (cf := cf_z1j) (tab_ok specs_nil) fun a b r h => ⟨FUEL, g_z1j FUEL a.2.1 a.2.2.1 b.1.1 b.2.1 (decRes_some h)⟩
def s_z1k_r : Sig := ⟨[6], [.ty (.int .i64)], [.one false [.hs 1 0], .row (.int .u8)]⟩
def s_z1k_r1 : Sig := ⟨[6], [.ty (.int .i64)], [.one false [.hs 2 0], .row (.int .u8), .row (.int .u8)]⟩
def p_z1k : Pol := ⟨fun i => none, fun i => none, some [(6, .keep)], [.keep], []⟩
def e_z1k : List EK := [.ptr 0 0 0, .ty (.int .i64), .ty (.int .i64)]
def h_z1k : List HK := [.one false [.hs 1 0], .row (.int .u8)]
noncomputable def cf_z1k : CallF := mkCF [(61, c_z1j)] []
noncomputable def ls_z1k (n : Nat) : Loops := fun i =>  none
theorem m_z1k (n : Nat) (a0 : Int) (a1 : Int) (a2 : Nat) (a3 : (List Int)) : runFT Try.prog cf_z1k p_z1k (ls_z1k n) Try.f42 (bodyOf Try.f42) (EK.encs e_z1k (((), (a0, (a1, ()))), ((a2, ()), (a3, ()))).1) (HK.encs h_z1k (((), (a0, (a1, ()))), ((a2, ()), (a3, ()))).2) = M_z1k n a0 a1 a2 a3 := by kernel_rfl
theorem g_z1k (n : Nat) (a0 : Int) (a1 : Int) (a2 : Nat) (a3 : (List Int)) {r : Res} (h : M_z1k n a0 a1 a2 a3 = some r) : runF Try.prog cf_z1k n p_z1k 42 (EK.encs e_z1k (((), (a0, (a1, ()))), ((a2, ()), (a3, ()))).1) (HK.encs h_z1k (((), (a0, (a1, ()))), ((a2, ()), (a3, ()))).2) = some r := by
  have hb : LOk Try.prog cf_z1k Try.f42.ntmps 2 n p_z1k (ls_z1k n) (bodyOf Try.f42) := ⟨trivial, ⟨⟨trivial, ⟨trivial, ⟨⟨trivial, trivial⟩, trivial⟩⟩⟩, ⟨⟨trivial, ⟨⟨trivial, trivial⟩, trivial⟩⟩, ⟨trivial, ⟨trivial, ⟨trivial, trivial⟩⟩⟩⟩⟩⟩
  exact runFT_some Try.prog (c := bodyOf Try.f42) Try.func42 (show Try.f42.body = some (bodyOf Try.f42) from rfl) (show (3 : Nat) ≤ 47 by decide) hb ((m_z1k n a0 a1 a2 a3).trans h) rfl (by kernel_rfl)
noncomputable def c_z1k : Spec := specTr e_z1k h_z1k fun a b => (altTr ro_z1k rh_z1k (Q_z1k a.2.1 a.2.2.1 b.1.1 b.2.1) (altTr ro_z1k_1 rh_z1k_1 (Q_z1k_1 a.2.1 a.2.2.1 b.1.1 b.2.1) .no))
theorem k_z1k (hm : Try.prog.follows .mixedOrders = true) : SpecOk Try.prog 42 c_z1k := specTr_ok (pol := p_z1k) hm (cf := cf_z1k) (tab_ok (specs_cons (k_z1j hm) specs_nil)) fun a b r => (fun h => (altTr_val h).elim (fun ⟨x, hx, e⟩ => ⟨FUEL, e ▸ g_z1k FUEL a.2.1 a.2.2.1 b.1.1 b.2.1 (decRes_some hx)⟩) (fun h => (altTr_val h).elim (fun ⟨x, hx, e⟩ => ⟨FUEL, e ▸ g_z1k FUEL a.2.1 a.2.2.1 b.1.1 b.2.1 (decRes_some hx)⟩) (fun h => by cases h)))
def s_z1l_h0 : Sig := ⟨[0, 1, 2, 11, 12, 13], [.ptr 0 0 0, .ty (.int .i64), .ty (.int .i64), .hs 3 0, .ty (.int .i64), .ty (.int .i64)], [.one false [.ptr 1 0 0, .hs 3 0, .ptr 4 0 0, .ty (.int .i64)], .one false [.hs 2 0], .row (.int .u8), .row HeadT, .one false [.hs 5 0], .row (.int .u8)]⟩
def s_z1l_t0 : Sig := ⟨[], [], [.one false [.ptr 1 0 0, .hs 3 0, .ptr 4 0 0, .ty (.int .i64)], .one false [.hs 2 0], .row (.int .u8), .row HeadT, .one false [.hs 5 0], .row (.int .u8)]⟩
def p_z1l : Pol := ⟨fun i => if i = 0 then some [(0, .keep), (1, .keep), (2, .keep), (11, (.own HeadT)), (12, .keep), (13, .keep)] else none, fun i => if i = 0 then some [] else none, none, [], []⟩
def e_z1l : List EK := [.ptr 0 0 0, .ty (.int .i64), .ty (.int .i64)]
def h_z1l : List HK := [.one false [.ptr 1 0 0, .hs 3 0, .ptr 4 0 0, .ty (.int .i64)], .one false [.hs 2 0], .row (.int .u8), .row HeadT, .one false [.hs 5 0], .row (.int .u8)]
noncomputable def cf_z1l : CallF := mkCF [] []
noncomputable def ls_z1l (n : Nat) : Loops := fun i => if i = 0 then some (loopT 6 (p_z1l.head 0) s_z1l_h0 fun K v => L_z1l_0 n (fun z4 => K (.ex 0) (s_z1l_t0.enc ((), (((), (v.2.1.2.1, ((), (v.2.1.2.2.2.1, ())))), ((v.2.2.1.1, ()), (v.2.2.2.1, (z4, ((v.2.2.2.2.2.1.1, ()), (v.2.2.2.2.2.2.1, ()))))))))) v.1.2.1 v.1.2.2.1 v.1.2.2.2.1 v.1.2.2.2.2.1 v.2.1.2.1 n v.1.2.2.2.2.2.1 v.2.2.2.2.1)
  else  none
noncomputable def b_z1l_0 : Code := partOf (bodyOf Try.f43) [1, 0, 0]
noncomputable def V_z1l_0 (n : Nat) (K : Cont) (rec : Sig.sem s_z1l_h0 → Option Res) (v : Sig.sem s_z1l_h0) : Option Res := F_z1l_0 n (fun z4 => K (.ex 0) (s_z1l_t0.enc ((), (((), (v.2.1.2.1, ((), (v.2.1.2.2.2.1, ())))), ((v.2.2.1.1, ()), (v.2.2.2.1, (z4, ((v.2.2.2.2.2.1.1, ()), (v.2.2.2.2.2.2.1, ()))))))))) v.1.2.1 v.1.2.2.1 v.1.2.2.2.1 v.1.2.2.2.2.1 v.2.1.2.1 (fun z4 z9 => rec (((), (v.1.2.1, (v.1.2.2.1, (v.1.2.2.2.1, (v.1.2.2.2.2.1, (z4, ())))))), (((), (v.2.1.2.1, ((), (v.2.1.2.2.2.1, ())))), ((v.2.2.1.1, ()), (v.2.2.2.1, (z9, ((v.2.2.2.2.2.1.1, ()), (v.2.2.2.2.2.2.1, ())))))))) v.1.2.2.2.2.2.1 v.2.2.2.2.1
theorem t_z1l_0 (n : Nat) (K : Cont) (rec : Sig.sem s_z1l_h0 → Option Res) (v : Sig.sem s_z1l_h0) : runT Try.prog cf_z1l Try.f43.ntmps 6 p_z1l (ls_z1l n) b_z1l_0 (s_z1l_h0.enc v) (turnK 6 (p_z1l.head 0) s_z1l_h0 rec K) = V_z1l_0 n K rec v := by kernel_rfl
noncomputable def W_z1l_0 (n : Nat) (K : Cont) (m : Nat) (v : Sig.sem s_z1l_h0) : Option Res := L_z1l_0 n (fun z4 => K (.ex 0) (s_z1l_t0.enc ((), (((), (v.2.1.2.1, ((), (v.2.1.2.2.2.1, ())))), ((v.2.2.1.1, ()), (v.2.2.2.1, (z4, ((v.2.2.2.2.2.1.1, ()), (v.2.2.2.2.2.2.1, ()))))))))) v.1.2.1 v.1.2.2.1 v.1.2.2.2.1 v.1.2.2.2.2.1 v.2.1.2.1 m v.1.2.2.2.2.2.1 v.2.2.2.2.1
theorem i_z1l_0 (n : Nat) (K : Cont) : ∀ m v, iter (V_z1l_0 n K) m v = W_z1l_0 n K m v := by
  intro m
  induction m with
  | zero => intro v; rfl
  | succ m ih =>
    intro v
    show V_z1l_0 n K (iter (V_z1l_0 n K) m) v = V_z1l_0 n K (W_z1l_0 n K m) v
    rw [show iter (V_z1l_0 n K) m = W_z1l_0 n K m from funext ih]
theorem o_z1l_0 (n : Nat) : ∀ L, ls_z1l n 0 = some L → ∀ s K r, L s K = some r → ∃ x s', loopN (run Try.prog cf_z1l Try.f43.ntmps 6 n p_z1l none b_z1l_0) (gc 6 (p_z1l.head 0)) n s = some (x, s') ∧ K x s' = some r := by
  intro L hL s K r h
  have hL : some (loopT 6 (p_z1l.head 0) s_z1l_h0 fun K v => W_z1l_0 n K n v) = some L := hL
  cases hL
  have hb : LOk Try.prog cf_z1l Try.f43.ntmps 6 n p_z1l (ls_z1l n) b_z1l_0 := ⟨trivial, ⟨⟨trivial, trivial⟩, ⟨⟨trivial, ⟨trivial, ⟨trivial, trivial⟩⟩⟩, trivial⟩⟩⟩
  refine loopT_ok hb (V_z1l_0 n) (t_z1l_0 n) n s K r ?_
  rw [← h]
  unfold loopT
  simp only [i_z1l_0]
theorem m_z1l (n : Nat) (a0 : Int) (a1 : Int) (a2 : Nat) (a3 : Int) (a4 : Nat) (a5 : (List Int)) (a6 : (List HeadS)) (a7 : Nat) (a8 : (List Int)) : runFT Try.prog cf_z1l p_z1l (ls_z1l n) Try.f43 (bodyOf Try.f43) (EK.encs e_z1l (((), (a0, (a1, ()))), (((), (a2, ((), (a3, ())))), ((a4, ()), (a5, (a6, ((a7, ()), (a8, ()))))))).1) (HK.encs h_z1l (((), (a0, (a1, ()))), (((), (a2, ((), (a3, ())))), ((a4, ()), (a5, (a6, ((a7, ()), (a8, ()))))))).2) = M_z1l n a0 a1 a2 a3 a4 a5 a6 a7 a8 := by kernel_rfl
theorem g_z1l (n : Nat) (a0 : Int) (a1 : Int) (a2 : Nat) (a3 : Int) (a4 : Nat) (a5 : (List Int)) (a6 : (List HeadS)) (a7 : Nat) (a8 : (List Int)) {r : Res} (h : M_z1l n a0 a1 a2 a3 a4 a5 a6 a7 a8 = some r) : runF Try.prog cf_z1l n p_z1l 43 (EK.encs e_z1l (((), (a0, (a1, ()))), (((), (a2, ((), (a3, ())))), ((a4, ()), (a5, (a6, ((a7, ()), (a8, ()))))))).1) (HK.encs h_z1l (((), (a0, (a1, ()))), (((), (a2, ((), (a3, ())))), ((a4, ()), (a5, (a6, ((a7, ()), (a8, ()))))))).2) = some r := by
  have hb : LOk Try.prog cf_z1l Try.f43.ntmps 6 n p_z1l (ls_z1l n) (bodyOf Try.f43) := ⟨trivial, (o_z1l_0 n)⟩
  exact runFT_some Try.prog (c := bodyOf Try.f43) Try.func43 (show Try.f43.body = some (bodyOf Try.f43) from rfl) (show (3 : Nat) ≤ 35 by decide) hb ((m_z1l n a0 a1 a2 a3 a4 a5 a6 a7 a8).trans h) rfl (by kernel_rfl)
noncomputable def c_z1l : Spec := specQ e_z1l h_z1l ro_z1l rh_z1l fun a b => Q_z1l a.2.1 a.2.2.1 b.1.2.1 b.1.2.2.2.1 b.2.1.1 b.2.2.1 b.2.2.2.1 b.2.2.2.2.1.1 b.2.2.2.2.2.1
theorem k_z1l (hm : Try.prog.follows .mixedOrders = true) : SpecOk Try.prog 43 c_z1l := specQ_ok (pol := p_z1l) hm (cf := cf_z1l) (tab_ok specs_nil) fun a b r h => ⟨FUEL, g_z1l FUEL a.2.1 a.2.2.1 b.1.2.1 b.1.2.2.2.1 b.2.1.1 b.2.2.1 b.2.2.2.1 b.2.2.2.2.1.1 b.2.2.2.2.2.1 (decRes_some h)⟩
def s_z1m_r : Sig := ⟨[6], [.ty (.int .i64)], [.one false [.ptr 1 0 0, .hs 3 0, .ptr 4 0 0, .ty (.int .i64)], .one false [.hs 2 0], .row (.int .u8), .row HeadT, .one false [.hs 5 0], .row (.int .u8)]⟩
def s_z1m_r1 : Sig := ⟨[6], [.ty (.int .i64)], [.one false [.ptr 1 0 0, .hs 3 0, .ptr 4 0 0, .ty (.int .i64)], .one false [.hs 6 0], .row (.int .u8), .row HeadT, .one false [.hs 5 0], .row (.int .u8), .row (.int .u8)]⟩
def p_z1m : Pol := ⟨fun i => none, fun i => none, some [(6, .keep)], [.keep], []⟩
def e_z1m : List EK := [.ptr 0 0 0, .agg FieldT, .ty (.int .i64)]
def h_z1m : List HK := [.one false [.ptr 1 0 0, .hs 3 0, .ptr 4 0 0, .ty (.int .i64)], .one false [.hs 2 0], .row (.int .u8), .row HeadT, .one false [.hs 5 0], .row (.int .u8)]
noncomputable def cf_z1m : CallF := mkCF [(41, c_z1i), (42, c_z1k), (43, c_z1l)] []
noncomputable def ls_z1m (n : Nat) : Loops := fun i =>  none
theorem m_z1m (n : Nat) (a0 : FieldS) (a1 : Int) (a2 : Nat) (a3 : Int) (a4 : Nat) (a5 : (List Int)) (a6 : (List HeadS)) (a7 : Nat) (a8 : (List Int)) : runFT Try.prog cf_z1m p_z1m (ls_z1m n) Try.f15 (bodyOf Try.f15) (EK.encs e_z1m (((), (a0, (a1, ()))), (((), (a2, ((), (a3, ())))), ((a4, ()), (a5, (a6, ((a7, ()), (a8, ()))))))).1) (HK.encs h_z1m (((), (a0, (a1, ()))), (((), (a2, ((), (a3, ())))), ((a4, ()), (a5, (a6, ((a7, ()), (a8, ()))))))).2) = M_z1m n a0 a1 a2 a3 a4 a5 a6 a7 a8 := by kernel_rfl
theorem g_z1m (n : Nat) (a0 : FieldS) (a1 : Int) (a2 : Nat) (a3 : Int) (a4 : Nat) (a5 : (List Int)) (a6 : (List HeadS)) (a7 : Nat) (a8 : (List Int)) {r : Res} (h : M_z1m n a0 a1 a2 a3 a4 a5 a6 a7 a8 = some r) : runF Try.prog cf_z1m n p_z1m 15 (EK.encs e_z1m (((), (a0, (a1, ()))), (((), (a2, ((), (a3, ())))), ((a4, ()), (a5, (a6, ((a7, ()), (a8, ()))))))).1) (HK.encs h_z1m (((), (a0, (a1, ()))), (((), (a2, ((), (a3, ())))), ((a4, ()), (a5, (a6, ((a7, ()), (a8, ()))))))).2) = some r := by
  have hb : LOk Try.prog cf_z1m Try.f15.ntmps 6 n p_z1m (ls_z1m n) (bodyOf Try.f15) := ⟨trivial, ⟨trivial, ⟨⟨trivial, ⟨⟨trivial, trivial⟩, ⟨trivial, ⟨⟨trivial, trivial⟩, ⟨trivial, ⟨⟨trivial, trivial⟩, trivial⟩⟩⟩⟩⟩⟩, ⟨trivial, ⟨trivial, trivial⟩⟩⟩⟩⟩
  exact runFT_some Try.prog (c := bodyOf Try.f15) Try.func15 (show Try.f15.body = some (bodyOf Try.f15) from rfl) (show (3 : Nat) ≤ 38 by decide) hb ((m_z1m n a0 a1 a2 a3 a4 a5 a6 a7 a8).trans h) rfl (by kernel_rfl)
noncomputable def c_z1m : Spec := specTr e_z1m h_z1m fun a b => (altTr ro_z1m rh_z1m (Q_z1m a.2.1 a.2.2.1 b.1.2.1 b.1.2.2.2.1 b.2.1.1 b.2.2.1 b.2.2.2.1 b.2.2.2.2.1.1 b.2.2.2.2.2.1) (altTr ro_z1m_1 rh_z1m_1 (Q_z1m_1 a.2.1 a.2.2.1 b.1.2.1 b.1.2.2.2.1 b.2.1.1 b.2.2.1 b.2.2.2.1 b.2.2.2.2.1.1 b.2.2.2.2.2.1) .no))
theorem k_z1m (hm : Try.prog.follows .mixedOrders = true) : SpecOk Try.prog 15 c_z1m := specTr_ok (pol := p_z1m) hm (cf := cf_z1m) (tab_ok (specs_cons (k_z1i hm) (specs_cons (k_z1k hm) (specs_cons (k_z1l hm) specs_nil)))) fun a b r => (fun h => (altTr_val h).elim (fun ⟨x, hx, e⟩ => ⟨FUEL, e ▸ g_z1m FUEL a.2.1 a.2.2.1 b.1.2.1 b.1.2.2.2.1 b.2.1.1 b.2.2.1 b.2.2.2.1 b.2.2.2.2.1.1 b.2.2.2.2.2.1 (decRes_some hx)⟩) (fun h => (altTr_val h).elim (fun ⟨x, hx, e⟩ => ⟨FUEL, e ▸ g_z1m FUEL a.2.1 a.2.2.1 b.1.2.1 b.1.2.2.2.1 b.2.1.1 b.2.2.1 b.2.2.2.1 b.2.2.2.2.1.1 b.2.2.2.2.2.1 (decRes_some hx)⟩) (fun h => by cases h)))
def s_z1n_r : Sig := ⟨[2], [.ty .str], [.one false [.ptr 1 0 0, .hs 3 0, .ptr 4 0 0, .ty (.int .i64)], .one false [.hs 2 0], .row (.int .u8), .row HeadT, .one false [.hs 5 0], .row (.int .u8)]⟩
def p_z1n : Pol := ⟨fun i => none, fun i => none, some [(2, .keep)], [.keep], []⟩
def e_z1n : List EK := [.ptr 0 0 0]
def h_z1n : List HK := [.one false [.ptr 1 0 0, .hs 3 0, .ptr 4 0 0, .ty (.int .i64)], .one false [.hs 2 0], .row (.int .u8), .row HeadT, .one false [.hs 5 0], .row (.int .u8)]
noncomputable def cf_z1n : CallF := mkCF [(45, c_z03)] []
noncomputable def ls_z1n (n : Nat) : Loops := fun i =>  none
theorem m_z1n (n : Nat) (a0 : Nat) (a1 : Int) (a2 : Nat) (a3 : (List Int)) (a4 : (List HeadS)) (a5 : Nat) (a6 : (List Int)) : runFT Try.prog cf_z1n p_z1n (ls_z1n n) Try.f17 (bodyOf Try.f17) (EK.encs e_z1n (((), ()), (((), (a0, ((), (a1, ())))), ((a2, ()), (a3, (a4, ((a5, ()), (a6, ()))))))).1) (HK.encs h_z1n (((), ()), (((), (a0, ((), (a1, ())))), ((a2, ()), (a3, (a4, ((a5, ()), (a6, ()))))))).2) = M_z1n n a0 a1 a2 a3 a4 a5 a6 := by kernel_rfl
theorem g_z1n (n : Nat) (a0 : Nat) (a1 : Int) (a2 : Nat) (a3 : (List Int)) (a4 : (List HeadS)) (a5 : Nat) (a6 : (List Int)) {r : Res} (h : M_z1n n a0 a1 a2 a3 a4 a5 a6 = some r) : runF Try.prog cf_z1n n p_z1n 17 (EK.encs e_z1n (((), ()), (((), (a0, ((), (a1, ())))), ((a2, ()), (a3, (a4, ((a5, ()), (a6, ()))))))).1) (HK.encs h_z1n (((), ()), (((), (a0, ((), (a1, ())))), ((a2, ()), (a3, (a4, ((a5, ()), (a6, ()))))))).2) = some r := by
  have hb : LOk Try.prog cf_z1n Try.f17.ntmps 6 n p_z1n (ls_z1n n) (bodyOf Try.f17) := ⟨trivial, ⟨⟨trivial, ⟨⟨trivial, trivial⟩, trivial⟩⟩, ⟨trivial, trivial⟩⟩⟩
  exact runFT_some Try.prog (c := bodyOf Try.f17) Try.func17 (show Try.f17.body = some (bodyOf Try.f17) from rfl) (show (1 : Nat) ≤ 11 by decide) hb ((m_z1n n a0 a1 a2 a3 a4 a5 a6).trans h) rfl (by kernel_rfl)
noncomputable def c_z1n : Spec := specQ e_z1n h_z1n ro_z1n rh_z1n fun a b => Q_z1n b.1.2.1 b.1.2.2.2.1 b.2.1.1 b.2.2.1 b.2.2.2.1 b.2.2.2.2.1.1 b.2.2.2.2.2.1
theorem k_z1n (hm : Try.prog.follows .mixedOrders = true) : SpecOk Try.prog 17 c_z1n := specQ_ok (pol := p_z1n) hm (cf := cf_z1n) (tab_ok (specs_cons (k_z03 hm) specs_nil)) fun a b r h => ⟨FUEL, g_z1n FUEL b.1.2.1 b.1.2.2.2.1 b.2.1.1 b.2.2.1 b.2.2.2.1 b.2.2.2.2.1.1 b.2.2.2.2.2.1 (decRes_some h)⟩
def s_z1o_r : Sig := ⟨[4], [.ptr 0 0 0], [.cell FieldT]⟩
def p_z1o : Pol := ⟨fun i => none, fun i => none, some [(4, (.own FieldT))], [.keep], []⟩
def e_z1o : List EK := [.ty (.int .i64), .ty (.int .i64)]
def h_z1o : List HK := []
noncomputable def cf_z1o : CallF := mkCF [] []
noncomputable def ls_z1o (n : Nat) : Loops := fun i =>  none
theorem m_z1o (n : Nat) (a0 : Int) (a1 : Int) : runFT Try.prog cf_z1o p_z1o (ls_z1o n) Try.f19 (bodyOf Try.f19) (EK.encs e_z1o ((a0, (a1, ())), ()).1) (HK.encs h_z1o ((a0, (a1, ())), ()).2) = M_z1o n a0 a1 := by kernel_rfl
theorem g_z1o (n : Nat) (a0 : Int) (a1 : Int) {r : Res} (h : M_z1o n a0 a1 = some r) : runF Try.prog cf_z1o n p_z1o 19 (EK.encs e_z1o ((a0, (a1, ())), ()).1) (HK.encs h_z1o ((a0, (a1, ())), ()).2) = some r := by
  have hb : LOk Try.prog cf_z1o Try.f19.ntmps 0 n p_z1o (ls_z1o n) (bodyOf Try.f19) := ⟨trivial, ⟨trivial, trivial⟩⟩
  exact runFT_some Try.prog (c := bodyOf Try.f19) Try.func19 (show Try.f19.body = some (bodyOf Try.f19) from rfl) (show (2 : Nat) ≤ 8 by decide) hb ((m_z1o n a0 a1).trans h) rfl (by kernel_rfl)
noncomputable def c_z1o : Spec := specQ e_z1o h_z1o ro_z1o rh_z1o fun a b => Q_z1o a.1 a.2.1
theorem k_z1o (hm : Try.prog.follows .mixedOrders = true) : SpecOk Try.prog 19 c_z1o := specQ_ok (pol := p_z1o) hm (cf := cf_z1o) (tab_ok specs_nil) fun a b r h => ⟨FUEL, g_z1o FUEL a.1 a.2.1 (decRes_some h)⟩
def s_z1p_r : Sig := ⟨[6], [.ty (.int .i64)], [.one false [.hs 1 0], .row (.int .u8)]⟩
def p_z1p : Pol := ⟨fun i => none, fun i => none, some [(6, .keep)], [.keep], []⟩
def e_z1p : List EK := [.ptr 0 0 0, .ty (.int .i64), .ty (.int .i64)]
def h_z1p : List HK := [.one false [.hs 1 0], .row (.int .u8)]
noncomputable def cf_z1p : CallF := mkCF [(61, c_z1j)] []
noncomputable def ls_z1p (n : Nat) : Loops := fun i =>  none
theorem m_z1p (n : Nat) (a0 : Int) (a1 : Int) (a2 : Nat) (a3 : (List Int)) : runFT Try.prog cf_z1p p_z1p (ls_z1p n) Try.f47 (bodyOf Try.f47) (EK.encs e_z1p (((), (a0, (a1, ()))), ((a2, ()), (a3, ()))).1) (HK.encs h_z1p (((), (a0, (a1, ()))), ((a2, ()), (a3, ()))).2) = M_z1p n a0 a1 a2 a3 := by kernel_rfl
theorem g_z1p (n : Nat) (a0 : Int) (a1 : Int) (a2 : Nat) (a3 : (List Int)) {r : Res} (h : M_z1p n a0 a1 a2 a3 = some r) : runF Try.prog cf_z1p n p_z1p 47 (EK.encs e_z1p (((), (a0, (a1, ()))), ((a2, ()), (a3, ()))).1) (HK.encs h_z1p (((), (a0, (a1, ()))), ((a2, ()), (a3, ()))).2) = some r := by
  have hb : LOk Try.prog cf_z1p Try.f47.ntmps 2 n p_z1p (ls_z1p n) (bodyOf Try.f47) := ⟨trivial, ⟨trivial, ⟨⟨trivial, ⟨trivial, trivial⟩⟩, ⟨trivial, trivial⟩⟩⟩⟩
  exact runFT_some Try.prog (c := bodyOf Try.f47) Try.func47 (show Try.f47.body = some (bodyOf Try.f47) from rfl) (show (3 : Nat) ≤ 40 by decide) hb ((m_z1p n a0 a1 a2 a3).trans h) rfl (by kernel_rfl)
noncomputable def c_z1p : Spec := specQ e_z1p h_z1p ro_z1p rh_z1p fun a b => Q_z1p a.2.1 a.2.2.1 b.1.1 b.2.1
theorem k_z1p (hm : Try.prog.follows .mixedOrders = true) : SpecOk Try.prog 47 c_z1p := specQ_ok (pol := p_z1p) hm (cf := cf_z1p) (tab_ok (specs_cons (k_z1j hm) specs_nil)) fun a b r h => ⟨FUEL, g_z1p FUEL a.2.1 a.2.2.1 b.1.1 b.2.1 (decRes_some h)⟩
def s_z1q_r : Sig := ⟨[4], [.ty .bool], [.one true [.ty (.int .i64)], .one true [.ty (.int .i64)]]⟩
def p_z1q : Pol := ⟨fun i => none, fun i => none, some [(4, .keep)], [.keep], []⟩
def e_z1q : List EK := [.agg HeadT, .ptr 0 0 0, .ptr 1 0 0]
def h_z1q : List HK := [.one true [.ty (.int .i64)], .one true [.ty (.int .i64)]]
noncomputable def cf_z1q : CallF := mkCF [] []
noncomputable def ls_z1q (n : Nat) : Loops := fun i =>  none
theorem m_z1q (n : Nat) (a0 : HeadS) (a1 : Int) (a2 : Int) : runFT Try.prog cf_z1q p_z1q (ls_z1q n) Try.f49 (bodyOf Try.f49) (EK.encs e_z1q ((a0, ((), ((), ()))), ((a1, ()), ((a2, ()), ()))).1) (HK.encs h_z1q ((a0, ((), ((), ()))), ((a1, ()), ((a2, ()), ()))).2) = M_z1q n a0 a1 a2 := by kernel_rfl
theorem g_z1q (n : Nat) (a0 : HeadS) (a1 : Int) (a2 : Int) {r : Res} (h : M_z1q n a0 a1 a2 = some r) : runF Try.prog cf_z1q n p_z1q 49 (EK.encs e_z1q ((a0, ((), ((), ()))), ((a1, ()), ((a2, ()), ()))).1) (HK.encs h_z1q ((a0, ((), ((), ()))), ((a1, ()), ((a2, ()), ()))).2) = some r := by
  have hb : LOk Try.prog cf_z1q Try.f49.ntmps 2 n p_z1q (ls_z1q n) (bodyOf Try.f49) := ⟨trivial, ⟨trivial, trivial⟩⟩
  exact runFT_some Try.prog (c := bodyOf Try.f49) Try.func49 (show Try.f49.body = some (bodyOf Try.f49) from rfl) (show (3 : Nat) ≤ 17 by decide) hb ((m_z1q n a0 a1 a2).trans h) rfl (by kernel_rfl)
noncomputable def c_z1q : Spec := specQ e_z1q h_z1q ro_z1q rh_z1q fun a b => Q_z1q a.1 b.1.1 b.2.1.1
theorem k_z1q (hm : Try.prog.follows .mixedOrders = true) : SpecOk Try.prog 49 c_z1q := specQ_ok (pol := p_z1q) hm (cf := cf_z1q) (tab_ok specs_nil) fun a b r h => ⟨FUEL, g_z1q FUEL a.1 b.1.1 b.2.1.1 (decRes_some h)⟩
def s_z1r_h0 : Sig := ⟨[0, 1, 7, 8], [.ty (.slice HeadT), .fn 49 [(0, 0, 0), (1, 0, 0)], .ty (.int .i64), .ty (.int .i64)], [.one true [.ty (.int .i64)], .one true [.ty (.int .i64)]]⟩
def s_z1r_r : Sig := ⟨[4], [.ty (.int .i64)], [.one true [.ty (.int .i64)], .one true [.ty (.int .i64)]]⟩
def s_z1r_t0 : Sig := ⟨[], [], [.one true [.ty (.int .i64)], .one true [.ty (.int .i64)]]⟩
def p_z1r : Pol := ⟨fun i => if i = 0 then some [(0, .keep), (1, .keep), (7, .keep), (8, .keep)] else none, fun i => if i = 0 then some [] else none, some [(4, .keep)], [.keep], []⟩
def e_z1r : List EK := [.ty (.slice HeadT), .fn 49 [(0, 0, 0), (1, 0, 0)]]
def h_z1r : List HK := [.one true [.ty (.int .i64)], .one true [.ty (.int .i64)]]
noncomputable def cf_z1r : CallF := mkCF [(49, c_z1q)] []
noncomputable def ls_z1r (n : Nat) : Loops := fun i => if i = 0 then some (loopT 2 (p_z1r.head 0) s_z1r_h0 fun K v => L_z1r_0 n (fun z0 z1 z2 => K .rt (s_z1r_r.enc ((z0, ()), ((z1, ()), ((z2, ()), ()))))) (fun z0 z1 => K (.ex 0) (s_z1r_t0.enc ((), ((z0, ()), ((z1, ()), ()))))) v.1.1 v.1.2.2.1 n v.1.2.2.2.1 v.2.1.1 v.2.2.1.1)
  else  none
noncomputable def b_z1r_0 : Code := partOf (bodyOf Try.f62) [1, 0, 1, 0, 0]
noncomputable def V_z1r_0 (n : Nat) (K : Cont) (rec : Sig.sem s_z1r_h0 → Option Res) (v : Sig.sem s_z1r_h0) : Option Res := F_z1r_0 n (fun z0 z1 z2 => K .rt (s_z1r_r.enc ((z0, ()), ((z1, ()), ((z2, ()), ()))))) (fun z0 z1 => K (.ex 0) (s_z1r_t0.enc ((), ((z0, ()), ((z1, ()), ()))))) v.1.1 v.1.2.2.1 (fun z2 z3 z4 => rec ((v.1.1, ((), (v.1.2.2.1, (z2, ())))), ((z3, ()), ((z4, ()), ())))) v.1.2.2.2.1 v.2.1.1 v.2.2.1.1
theorem t_z1r_0 (n : Nat) (K : Cont) (rec : Sig.sem s_z1r_h0 → Option Res) (v : Sig.sem s_z1r_h0) : runT Try.prog cf_z1r Try.f62.ntmps 2 p_z1r (ls_z1r n) b_z1r_0 (s_z1r_h0.enc v) (turnK 2 (p_z1r.head 0) s_z1r_h0 rec K) = V_z1r_0 n K rec v := by kernel_rfl
noncomputable def W_z1r_0 (n : Nat) (K : Cont) (m : Nat) (v : Sig.sem s_z1r_h0) : Option Res := L_z1r_0 n (fun z0 z1 z2 => K .rt (s_z1r_r.enc ((z0, ()), ((z1, ()), ((z2, ()), ()))))) (fun z0 z1 => K (.ex 0) (s_z1r_t0.enc ((), ((z0, ()), ((z1, ()), ()))))) v.1.1 v.1.2.2.1 m v.1.2.2.2.1 v.2.1.1 v.2.2.1.1
theorem i_z1r_0 (n : Nat) (K : Cont) : ∀ m v, iter (V_z1r_0 n K) m v = W_z1r_0 n K m v := by
  intro m
  induction m with
  | zero => intro v; rfl
  | succ m ih =>
    intro v
    show V_z1r_0 n K (iter (V_z1r_0 n K) m) v = V_z1r_0 n K (W_z1r_0 n K m) v
    rw [show iter (V_z1r_0 n K) m = W_z1r_0 n K m from funext ih]
theorem o_z1r_0 (n : Nat) : ∀ L, ls_z1r n 0 = some L → ∀ s K r, L s K = some r → ∃ x s', loopN (run Try.prog cf_z1r Try.f62.ntmps 2 n p_z1r none b_z1r_0) (gc 2 (p_z1r.head 0)) n s = some (x, s') ∧ K x s' = some r := by
  intro L hL s K r h
  have hL : some (loopT 2 (p_z1r.head 0) s_z1r_h0 fun K v => W_z1r_0 n K n v) = some L := hL
  cases hL
  have hb : LOk Try.prog cf_z1r Try.f62.ntmps 2 n p_z1r (ls_z1r n) b_z1r_0 := ⟨trivial, ⟨⟨trivial, trivial⟩, ⟨⟨trivial, ⟨trivial, ⟨⟨trivial, trivial⟩, trivial⟩⟩⟩, trivial⟩⟩⟩
  refine loopT_ok hb (V_z1r_0 n) (t_z1r_0 n) n s K r ?_
  rw [← h]
  unfold loopT
  simp only [i_z1r_0]
theorem m_z1r (n : Nat) (a0 : (List HeadS)) (a1 : Int) (a2 : Int) : runFT Try.prog cf_z1r p_z1r (ls_z1r n) Try.f62 (bodyOf Try.f62) (EK.encs e_z1r ((a0, ((), ())), ((a1, ()), ((a2, ()), ()))).1) (HK.encs h_z1r ((a0, ((), ())), ((a1, ()), ((a2, ()), ()))).2) = M_z1r n a0 a1 a2 := by kernel_rfl
theorem g_z1r (n : Nat) (a0 : (List HeadS)) (a1 : Int) (a2 : Int) {r : Res} (h : M_z1r n a0 a1 a2 = some r) : runF Try.prog cf_z1r n p_z1r 62 (EK.encs e_z1r ((a0, ((), ())), ((a1, ()), ((a2, ()), ()))).1) (HK.encs h_z1r ((a0, ((), ())), ((a1, ()), ((a2, ()), ()))).2) = some r := by
  have hb : LOk Try.prog cf_z1r Try.f62.ntmps 2 n p_z1r (ls_z1r n) (bodyOf Try.f62) := ⟨trivial, ⟨⟨trivial, (o_z1r_0 n)⟩, ⟨trivial, trivial⟩⟩⟩
  exact runFT_some Try.prog (c := bodyOf Try.f62) Try.func62 (show Try.f62.body = some (bodyOf Try.f62) from rfl) (show (2 : Nat) ≤ 19 by decide) hb ((m_z1r n a0 a1 a2).trans h) rfl (by kernel_rfl)
noncomputable def c_z1r : Spec := specQ e_z1r h_z1r ro_z1r rh_z1r fun a b => Q_z1r a.1 b.1.1 b.2.1.1
theorem k_z1r (hm : Try.prog.follows .mixedOrders = true) : SpecOk Try.prog 62 c_z1r := specQ_ok (pol := p_z1r) hm (cf := cf_z1r) (tab_ok (specs_cons (k_z1q hm) specs_nil)) fun a b r h => ⟨FUEL, g_z1r FUEL a.1 b.1.1 b.2.1.1 (decRes_some h)⟩
def s_z1s_r : Sig := ⟨[4], [.hs 0 0], [.row HeadT, .one true [.ty (.int .i64)], .one true [.ty (.int .i64)]]⟩
def s_z1s_h0 : Sig := ⟨[0, 1, 5, 6], [.hs 0 0, .fn 49 [(1, 0, 0), (2, 0, 0)], .ty (.int .i64), .ty (.int .i64)], [.row HeadT, .one true [.ty (.int .i64)], .one true [.ty (.int .i64)]]⟩
def s_z1s_t0 : Sig := ⟨[0, 5], [.hs 0 0, .ty (.int .i64)], [.row HeadT, .one true [.ty (.int .i64)], .one true [.ty (.int .i64)]]⟩
def p_z1s : Pol := ⟨fun i => if i = 0 then some [(0, (.own HeadT)), (1, .keep), (5, .keep), (6, .keep)] else none, fun i => if i = 0 then some [(0, (.own HeadT)), (5, .keep)] else none, some [(4, (.own HeadT))], [(.own HeadT)], []⟩
def e_z1s : List EK := [.hs 0 0, .fn 49 [(1, 0, 0), (2, 0, 0)]]
def h_z1s : List HK := [.row HeadT, .one true [.ty (.int .i64)], .one true [.ty (.int .i64)]]
noncomputable def cf_z1s : CallF := { (mkCF [(62, c_z1r), (49, c_z1q)] []) with mix := mixes [(62, [some ((.slice HeadT)), none])] }
noncomputable def ls_z1s (n : Nat) : Loops := fun i => if i = 0 then some (loopT 3 (p_z1s.head 0) s_z1s_h0 fun K v => L_z1s_0 n (fun z1 z2 z3 z4 => K (.ex 0) (s_z1s_t0.enc ((v.1.1, (z1, ())), (z2, ((z3, ()), ((z4, ()), ())))))) v.1.1 n v.1.2.2.1 v.1.2.2.2.1 v.2.1 v.2.2.1.1 v.2.2.2.1.1)
  else  none
noncomputable def b_z1s_0 : Code := partOf (bodyOf Try.f48) [1, 1, 1, 0, 1, 0, 0]
noncomputable def V_z1s_0 (n : Nat) (K : Cont) (rec : Sig.sem s_z1s_h0 → Option Res) (v : Sig.sem s_z1s_h0) : Option Res := F_z1s_0 n (fun z1 z2 z3 z4 => K (.ex 0) (s_z1s_t0.enc ((v.1.1, (z1, ())), (z2, ((z3, ()), ((z4, ()), ())))))) v.1.1 (fun z1 z2 z3 z4 z5 => rec ((v.1.1, ((), (z1, (z2, ())))), (z3, ((z4, ()), ((z5, ()), ()))))) v.1.2.2.1 v.1.2.2.2.1 v.2.1 v.2.2.1.1 v.2.2.2.1.1
theorem t_z1s_0 (n : Nat) (K : Cont) (rec : Sig.sem s_z1s_h0 → Option Res) (v : Sig.sem s_z1s_h0) : runT Try.prog cf_z1s Try.f48.ntmps 3 p_z1s (ls_z1s n) b_z1s_0 (s_z1s_h0.enc v) (turnK 3 (p_z1s.head 0) s_z1s_h0 rec K) = V_z1s_0 n K rec v := by kernel_rfl
noncomputable def W_z1s_0 (n : Nat) (K : Cont) (m : Nat) (v : Sig.sem s_z1s_h0) : Option Res := L_z1s_0 n (fun z1 z2 z3 z4 => K (.ex 0) (s_z1s_t0.enc ((v.1.1, (z1, ())), (z2, ((z3, ()), ((z4, ()), ())))))) v.1.1 m v.1.2.2.1 v.1.2.2.2.1 v.2.1 v.2.2.1.1 v.2.2.2.1.1
theorem i_z1s_0 (n : Nat) (K : Cont) : ∀ m v, iter (V_z1s_0 n K) m v = W_z1s_0 n K m v := by
  intro m
  induction m with
  | zero => intro v; rfl
  | succ m ih =>
    intro v
    show V_z1s_0 n K (iter (V_z1s_0 n K) m) v = V_z1s_0 n K (W_z1s_0 n K m) v
    rw [show iter (V_z1s_0 n K) m = W_z1s_0 n K m from funext ih]
theorem o_z1s_0 (n : Nat) : ∀ L, ls_z1s n 0 = some L → ∀ s K r, L s K = some r → ∃ x s', loopN (run Try.prog cf_z1s Try.f48.ntmps 3 n p_z1s none b_z1s_0) (gc 3 (p_z1s.head 0)) n s = some (x, s') ∧ K x s' = some r := by
  intro L hL s K r h
  have hL : some (loopT 3 (p_z1s.head 0) s_z1s_h0 fun K v => W_z1s_0 n K n v) = some L := hL
  cases hL
  have hb : LOk Try.prog cf_z1s Try.f48.ntmps 3 n p_z1s (ls_z1s n) b_z1s_0 := ⟨⟨trivial, ⟨trivial, trivial⟩⟩, ⟨⟨trivial, ⟨trivial, ⟨⟨trivial, trivial⟩, trivial⟩⟩⟩, trivial⟩⟩
  refine loopT_ok hb (V_z1s_0 n) (t_z1s_0 n) n s K r ?_
  rw [← h]
  unfold loopT
  simp only [i_z1s_0]
theorem m_z1s (n : Nat) (a0 : Nat) (a1 : (List HeadS)) (a2 : Int) (a3 : Int) : runFT Try.prog cf_z1s p_z1s (ls_z1s n) Try.f48 (bodyOf Try.f48) (EK.encs e_z1s ((a0, ((), ())), (a1, ((a2, ()), ((a3, ()), ())))).1) (HK.encs h_z1s ((a0, ((), ())), (a1, ((a2, ()), ((a3, ()), ())))).2) = M_z1s n a0 a1 a2 a3 := by kernel_rfl
theorem g_z1s (n : Nat) (a0 : Nat) (a1 : (List HeadS)) (a2 : Int) (a3 : Int) {r : Res} (h : M_z1s n a0 a1 a2 a3 = some r) : runF Try.prog cf_z1s n p_z1s 48 (EK.encs e_z1s ((a0, ((), ())), (a1, ((a2, ()), ((a3, ()), ())))).1) (HK.encs h_z1s ((a0, ((), ())), (a1, ((a2, ()), ((a3, ()), ())))).2) = some r := by
  have hb : LOk Try.prog cf_z1s Try.f48.ntmps 3 n p_z1s (ls_z1s n) (bodyOf Try.f48) := ⟨trivial, ⟨trivial, ⟨⟨trivial, ⟨⟨trivial, trivial⟩, trivial⟩⟩, ⟨⟨trivial, (o_z1s_0 n)⟩, ⟨trivial, ⟨trivial, trivial⟩⟩⟩⟩⟩⟩
  exact runFT_some Try.prog (c := bodyOf Try.f48) Try.func48 (show Try.f48.body = some (bodyOf Try.f48) from rfl) (show (2 : Nat) ≤ 42 by decide) hb ((m_z1s n a0 a1 a2 a3).trans h) rfl (by kernel_rfl)
noncomputable def c_z1s : Spec := specQ e_z1s h_z1s ro_z1s rh_z1s fun a b => Q_z1s a.1 b.1 b.2.1.1 b.2.2.1.1
theorem k_z1s (hm : Try.prog.follows .mixedOrders = true) : SpecOk Try.prog 48 c_z1s := specQ_ok (pol := p_z1s) hm (cf := cf_z1s) (CallSound.mix <| tab_ok (specs_cons (k_z1r hm) (specs_cons (k_z1q hm) specs_nil))) fun a b r h => ⟨FUEL, g_z1s FUEL a.1 b.1 b.2.1.1 b.2.2.1.1 (decRes_some h)⟩
def s_z1t_r : Sig := ⟨[6], [.ty (.int .i64)], [.one false [.ptr 1 0 0, .hs 3 0, .ptr 4 0 0, .ty (.int .i64)], .one false [.hs 2 0], .row (.int .u8), .row HeadT, .one false [.hs 5 0], .row (.int .u8)]⟩
def p_z1t : Pol := ⟨fun i => none, fun i => none, some [(6, .keep)], [.keep], []⟩
def e_z1t : List EK := [.ptr 0 0 0, .agg FieldT, .ty (.int .i64)]
def h_z1t : List HK := [.one false [.ptr 1 0 0, .hs 3 0, .ptr 4 0 0, .ty (.int .i64)], .one false [.hs 2 0], .row (.int .u8), .row HeadT, .one false [.hs 5 0], .row (.int .u8)]
noncomputable def cf_z1t : CallF := mkCF [(41, c_z1i), (47, c_z1p), (48, c_z1s), (43, c_z1l)] []
noncomputable def ls_z1t (n : Nat) : Loops := fun i =>  none
theorem m_z1t (n : Nat) (a0 : FieldS) (a1 : Int) (a2 : Nat) (a3 : Int) (a4 : Nat) (a5 : (List Int)) (a6 : (List HeadS)) (a7 : Nat) (a8 : (List Int)) : runFT Try.prog cf_z1t p_z1t (ls_z1t n) Try.f20 (bodyOf Try.f20) (EK.encs e_z1t (((), (a0, (a1, ()))), (((), (a2, ((), (a3, ())))), ((a4, ()), (a5, (a6, ((a7, ()), (a8, ()))))))).1) (HK.encs h_z1t (((), (a0, (a1, ()))), (((), (a2, ((), (a3, ())))), ((a4, ()), (a5, (a6, ((a7, ()), (a8, ()))))))).2) = M_z1t n a0 a1 a2 a3 a4 a5 a6 a7 a8 := by kernel_rfl
theorem g_z1t (n : Nat) (a0 : FieldS) (a1 : Int) (a2 : Nat) (a3 : Int) (a4 : Nat) (a5 : (List Int)) (a6 : (List HeadS)) (a7 : Nat) (a8 : (List Int)) {r : Res} (h : M_z1t n a0 a1 a2 a3 a4 a5 a6 a7 a8 = some r) : runF Try.prog cf_z1t n p_z1t 20 (EK.encs e_z1t (((), (a0, (a1, ()))), (((), (a2, ((), (a3, ())))), ((a4, ()), (a5, (a6, ((a7, ()), (a8, ()))))))).1) (HK.encs h_z1t (((), (a0, (a1, ()))), (((), (a2, ((), (a3, ())))), ((a4, ()), (a5, (a6, ((a7, ()), (a8, ()))))))).2) = some r := by
  have hb : LOk Try.prog cf_z1t Try.f20.ntmps 6 n p_z1t (ls_z1t n) (bodyOf Try.f20) := ⟨trivial, ⟨trivial, ⟨⟨trivial, ⟨⟨trivial, trivial⟩, ⟨trivial, ⟨⟨trivial, trivial⟩, trivial⟩⟩⟩⟩, ⟨trivial, ⟨trivial, ⟨trivial, trivial⟩⟩⟩⟩⟩⟩
  exact runFT_some Try.prog (c := bodyOf Try.f20) Try.func20 (show Try.f20.body = some (bodyOf Try.f20) from rfl) (show (3 : Nat) ≤ 47 by decide) hb ((m_z1t n a0 a1 a2 a3 a4 a5 a6 a7 a8).trans h) rfl (by kernel_rfl)
noncomputable def c_z1t : Spec := specQ e_z1t h_z1t ro_z1t rh_z1t fun a b => Q_z1t a.2.1 a.2.2.1 b.1.2.1 b.1.2.2.2.1 b.2.1.1 b.2.2.1 b.2.2.2.1 b.2.2.2.2.1.1 b.2.2.2.2.2.1
theorem k_z1t (hm : Try.prog.follows .mixedOrders = true) : SpecOk Try.prog 20 c_z1t := specQ_ok (pol := p_z1t) hm (cf := cf_z1t) (tab_ok (specs_cons (k_z1i hm) (specs_cons (k_z1p hm) (specs_cons (k_z1s hm) (specs_cons (k_z1l hm) specs_nil))))) fun a b r h => ⟨FUEL, g_z1t FUEL a.2.1 a.2.2.1 b.1.2.1 b.1.2.2.2.1 b.2.1.1 b.2.2.1 b.2.2.2.1 b.2.2.2.2.1.1 b.2.2.2.2.2.1 (decRes_some h)⟩
def s_z1u_r : Sig := ⟨[0], [.ty .bool], []⟩
def p_z1u : Pol := ⟨fun i => none, fun i => none, some [(0, .keep)], [.keep], []⟩
def e_z1u : List EK := []
def h_z1u : List HK := []
noncomputable def cf_z1u : CallF := mkCF [(29, c_z11), (14, c_z13), (25, c_z14), (33, c_z15), (22, c_z16), (13, c_z1c), (15, c_z1m), (17, c_z1n), (19, c_z1o), (20, c_z1t)] [(29, []), (25, [(.slice HeadT), (.slice HeadT)]), (22, [(.int .i64), (.int .i64), (.int .i64)]), (19, [(.int .i64), (.int .i64)])]
noncomputable def ls_z1u (n : Nat) : Loops := fun i =>  none
theorem m_z1u (n : Nat) : runFT Try.prog cf_z1u p_z1u (ls_z1u n) Try.f11 (bodyOf Try.f11) (EK.encs e_z1u ((), ()).1) (HK.encs h_z1u ((), ()).2) = M_z1u n := by kernel_rfl
theorem g_z1u (n : Nat) {r : Res} (h : M_z1u n = some r) : runF Try.prog cf_z1u n p_z1u 11 (EK.encs e_z1u ((), ()).1) (HK.encs h_z1u ((), ()).2) = some r := by
  have hb : LOk Try.prog cf_z1u Try.f11.ntmps 0 n p_z1u (ls_z1u n) (bodyOf Try.f11) := ⟨trivial, ⟨trivial, ⟨⟨trivial, ⟨⟨trivial, trivial⟩, trivial⟩⟩, ⟨trivial, ⟨⟨trivial, ⟨⟨trivial, trivial⟩, trivial⟩⟩, ⟨trivial, ⟨trivial, ⟨trivial, trivial⟩⟩⟩⟩⟩⟩⟩⟩
  exact runFT_some Try.prog (c := bodyOf Try.f11) Try.func11 (show Try.f11.body = some (bodyOf Try.f11) from rfl) (show (0 : Nat) ≤ 95 by decide) hb ((m_z1u n).trans h) rfl (by kernel_rfl)
noncomputable def c_z1u : Spec := specQ e_z1u h_z1u ro_z1u rh_z1u fun a b => Q_z1u
theorem k_z1u (hm : Try.prog.follows .mixedOrders = true) : SpecOk Try.prog 11 c_z1u := specQ_ok (pol := p_z1u) hm (cf := cf_z1u) (tab_ok (specs_cons (k_z11 hm) (specs_cons (k_z13 hm) (specs_cons (k_z14 hm) (specs_cons (k_z15 hm) (specs_cons (k_z16 hm) (specs_cons (k_z1c hm) (specs_cons (k_z1m hm) (specs_cons (k_z1n hm) (specs_cons (k_z1o hm) (specs_cons (k_z1t hm) specs_nil))))))))))) fun a b r h => ⟨FUEL, g_z1u FUEL (decRes_some h)⟩
def s_z1v_r : Sig := ⟨[2], [.ty (.int .i64)], [.one false [.ptr 1 0 0, .hs 3 0, .ptr 4 0 0, .ty (.int .i64)], .one false [.hs 2 0], .row (.int .u8), .row HeadT, .one false [.hs 5 0], .row (.int .u8)]⟩
def p_z1v : Pol := ⟨fun i => none, fun i => none, some [(2, .keep)], [.keep], []⟩
def e_z1v : List EK := [.ptr 0 0 0]
def h_z1v : List HK := [.one false [.ptr 1 0 0, .hs 3 0, .ptr 4 0 0, .ty (.int .i64)], .one false [.hs 2 0], .row (.int .u8), .row HeadT, .one false [.hs 5 0], .row (.int .u8)]
noncomputable def cf_z1v : CallF := mkCF [(44, c_z1f)] []
noncomputable def ls_z1v (n : Nat) : Loops := fun i =>  none
theorem m_z1v (n : Nat) (a0 : Nat) (a1 : Int) (a2 : Nat) (a3 : (List Int)) (a4 : (List HeadS)) (a5 : Nat) (a6 : (List Int)) : runFT Try.prog cf_z1v p_z1v (ls_z1v n) Try.f16 (bodyOf Try.f16) (EK.encs e_z1v (((), ()), (((), (a0, ((), (a1, ())))), ((a2, ()), (a3, (a4, ((a5, ()), (a6, ()))))))).1) (HK.encs h_z1v (((), ()), (((), (a0, ((), (a1, ())))), ((a2, ()), (a3, (a4, ((a5, ()), (a6, ()))))))).2) = M_z1v n a0 a1 a2 a3 a4 a5 a6 := by kernel_rfl
theorem g_z1v (n : Nat) (a0 : Nat) (a1 : Int) (a2 : Nat) (a3 : (List Int)) (a4 : (List HeadS)) (a5 : Nat) (a6 : (List Int)) {r : Res} (h : M_z1v n a0 a1 a2 a3 a4 a5 a6 = some r) : runF Try.prog cf_z1v n p_z1v 16 (EK.encs e_z1v (((), ()), (((), (a0, ((), (a1, ())))), ((a2, ()), (a3, (a4, ((a5, ()), (a6, ()))))))).1) (HK.encs h_z1v (((), ()), (((), (a0, ((), (a1, ())))), ((a2, ()), (a3, (a4, ((a5, ()), (a6, ()))))))).2) = some r := by
  have hb : LOk Try.prog cf_z1v Try.f16.ntmps 6 n p_z1v (ls_z1v n) (bodyOf Try.f16) := ⟨trivial, ⟨⟨trivial, ⟨⟨trivial, trivial⟩, trivial⟩⟩, ⟨trivial, trivial⟩⟩⟩
  exact runFT_some Try.prog (c := bodyOf Try.f16) Try.func16 (show Try.f16.body = some (bodyOf Try.f16) from rfl) (show (1 : Nat) ≤ 11 by decide) hb ((m_z1v n a0 a1 a2 a3 a4 a5 a6).trans h) rfl (by kernel_rfl)
noncomputable def c_z1v : Spec := specQ e_z1v h_z1v ro_z1v rh_z1v fun a b => Q_z1v b.1.2.1 b.1.2.2.2.1 b.2.1.1 b.2.2.1 b.2.2.2.1 b.2.2.2.2.1.1 b.2.2.2.2.2.1
theorem k_z1v (hm : Try.prog.follows .mixedOrders = true) : SpecOk Try.prog 16 c_z1v := specQ_ok (pol := p_z1v) hm (cf := cf_z1v) (tab_ok (specs_cons (k_z1f hm) specs_nil)) fun a b r h => ⟨FUEL, g_z1v FUEL b.1.2.1 b.1.2.2.2.1 b.2.1.1 b.2.2.1 b.2.2.2.1 b.2.2.2.2.1.1 b.2.2.2.2.2.1 (decRes_some h)⟩
def s_z1w_r : Sig := ⟨[2], [.ptr 2 0 0], [.one false [.hs 1 0], .row (.int .u8), .one false [.hs 3 0], .row (.int .u8)]⟩
def p_z1w : Pol := ⟨fun i => none, fun i => none, some [(2, .keep)], [.keep], []⟩
def e_z1w : List EK := [.ptr 0 0 0]
def h_z1w : List HK := [.one false [.hs 1 0], .row (.int .u8)]
noncomputable def cf_z1w : CallF := mkCF [] []
noncomputable def ls_z1w (n : Nat) : Loops := fun i =>  none
theorem m_z1w (n : Nat) (a0 : Nat) (a1 : (List Int)) : runFT Try.prog cf_z1w p_z1w (ls_z1w n) Try.f46 (bodyOf Try.f46) (EK.encs e_z1w (((), ()), ((a0, ()), (a1, ()))).1) (HK.encs h_z1w (((), ()), ((a0, ()), (a1, ()))).2) = M_z1w n a0 a1 := by kernel_rfl
theorem g_z1w (n : Nat) (a0 : Nat) (a1 : (List Int)) {r : Res} (h : M_z1w n a0 a1 = some r) : runF Try.prog cf_z1w n p_z1w 46 (EK.encs e_z1w (((), ()), ((a0, ()), (a1, ()))).1) (HK.encs h_z1w (((), ()), ((a0, ()), (a1, ()))).2) = some r := by
  have hb : LOk Try.prog cf_z1w Try.f46.ntmps 2 n p_z1w (ls_z1w n) (bodyOf Try.f46) := ⟨trivial, ⟨⟨trivial, ⟨⟨trivial, trivial⟩, trivial⟩⟩, ⟨trivial, trivial⟩⟩⟩
  exact runFT_some Try.prog (c := bodyOf Try.f46) Try.func46 (show Try.f46.body = some (bodyOf Try.f46) from rfl) (show (1 : Nat) ≤ 13 by decide) hb ((m_z1w n a0 a1).trans h) rfl (by kernel_rfl)
noncomputable def c_z1w : Spec := specQ e_z1w h_z1w ro_z1w rh_z1w fun a b => Q_z1w b.1.1 b.2.1
theorem k_z1w (hm : Try.prog.follows .mixedOrders = true) : SpecOk Try.prog 46 c_z1w := specQ_ok (pol := p_z1w) hm (cf := cf_z1w) (tab_ok specs_nil) fun a b r h => ⟨FUEL, g_z1w FUEL b.1.1 b.2.1 (decRes_some h)⟩
def s_z1x_r : Sig := ⟨[2], [.ptr 6 0 0], [.one false [.ptr 1 0 0, .hs 3 0, .ptr 4 0 0, .ty (.int .i64)], .one false [.hs 2 0], .row (.int .u8), .row HeadT, .one false [.hs 5 0], .row (.int .u8), .one false [.ptr 7 0 0, .hs 9 0, .ptr 10 0 0, .ty (.int .i64)], .one false [.hs 8 0], .row (.int .u8), .row HeadT, .one false [.hs 11 0], .row (.int .u8)]⟩
def p_z1x : Pol := ⟨fun i => none, fun i => none, some [(2, .keep)], [.keep], []⟩
def e_z1x : List EK := [.ptr 0 0 0]
def h_z1x : List HK := [.one false [.ptr 1 0 0, .hs 3 0, .ptr 4 0 0, .ty (.int .i64)], .one false [.hs 2 0], .row (.int .u8), .row HeadT, .one false [.hs 5 0], .row (.int .u8)]
noncomputable def cf_z1x : CallF := mkCF [(46, c_z1w), (40, c_z12)] [(40, [(.slice HeadT)])]
noncomputable def ls_z1x (n : Nat) : Loops := fun i =>  none
theorem m_z1x (n : Nat) (a0 : Nat) (a1 : Int) (a2 : Nat) (a3 : (List Int)) (a4 : (List HeadS)) (a5 : Nat) (a6 : (List Int)) : runFT Try.prog cf_z1x p_z1x (ls_z1x n) Try.f18 (bodyOf Try.f18) (EK.encs e_z1x (((), ()), (((), (a0, ((), (a1, ())))), ((a2, ()), (a3, (a4, ((a5, ()), (a6, ()))))))).1) (HK.encs h_z1x (((), ()), (((), (a0, ((), (a1, ())))), ((a2, ()), (a3, (a4, ((a5, ()), (a6, ()))))))).2) = M_z1x n a0 a1 a2 a3 a4 a5 a6 := by kernel_rfl
theorem g_z1x (n : Nat) (a0 : Nat) (a1 : Int) (a2 : Nat) (a3 : (List Int)) (a4 : (List HeadS)) (a5 : Nat) (a6 : (List Int)) {r : Res} (h : M_z1x n a0 a1 a2 a3 a4 a5 a6 = some r) : runF Try.prog cf_z1x n p_z1x 18 (EK.encs e_z1x (((), ()), (((), (a0, ((), (a1, ())))), ((a2, ()), (a3, (a4, ((a5, ()), (a6, ()))))))).1) (HK.encs h_z1x (((), ()), (((), (a0, ((), (a1, ())))), ((a2, ()), (a3, (a4, ((a5, ()), (a6, ()))))))).2) = some r := by
  have hb : LOk Try.prog cf_z1x Try.f18.ntmps 6 n p_z1x (ls_z1x n) (bodyOf Try.f18) := ⟨trivial, ⟨⟨trivial, ⟨⟨trivial, trivial⟩, trivial⟩⟩, ⟨trivial, trivial⟩⟩⟩
  exact runFT_some Try.prog (c := bodyOf Try.f18) Try.func18 (show Try.f18.body = some (bodyOf Try.f18) from rfl) (show (1 : Nat) ≤ 29 by decide) hb ((m_z1x n a0 a1 a2 a3 a4 a5 a6).trans h) rfl (by kernel_rfl)
noncomputable def c_z1x : Spec := specQ e_z1x h_z1x ro_z1x rh_z1x fun a b => Q_z1x b.1.2.1 b.1.2.2.2.1 b.2.1.1 b.2.2.1 b.2.2.2.1 b.2.2.2.2.1.1 b.2.2.2.2.2.1
theorem k_z1x (hm : Try.prog.follows .mixedOrders = true) : SpecOk Try.prog 18 c_z1x := specQ_ok (pol := p_z1x) hm (cf := cf_z1x) (tab_ok (specs_cons (k_z1w hm) (specs_cons (k_z12 hm) specs_nil))) fun a b r h => ⟨FUEL, g_z1x FUEL b.1.2.1 b.1.2.2.2.1 b.2.1.1 b.2.2.1 b.2.2.2.1 b.2.2.2.2.1.1 b.2.2.2.2.2.1 (decRes_some h)⟩
def s_z1y_r : Sig := ⟨[2], [.ty .str], [.one false [.ptr 1 0 0, .hs 3 0, .ptr 4 0 0, .ty (.int .i64)], .one false [.hs 2 0], .row (.int .u8), .row HeadT, .one false [.hs 5 0], .row (.int .u8)]⟩
def p_z1y : Pol := ⟨fun i => none, fun i => none, some [(2, .keep)], [.keep], []⟩
def e_z1y : List EK := [.ptr 0 0 0]
def h_z1y : List HK := [.one false [.ptr 1 0 0, .hs 3 0, .ptr 4 0 0, .ty (.int .i64)], .one false [.hs 2 0], .row (.int .u8), .row HeadT, .one false [.hs 5 0], .row (.int .u8)]
noncomputable def cf_z1y : CallF := mkCF [(45, c_z03)] []
noncomputable def ls_z1y (n : Nat) : Loops := fun i =>  none
theorem m_z1y (n : Nat) (a0 : Nat) (a1 : Int) (a2 : Nat) (a3 : (List Int)) (a4 : (List HeadS)) (a5 : Nat) (a6 : (List Int)) : runFT Try.prog cf_z1y p_z1y (ls_z1y n) Try.f26 (bodyOf Try.f26) (EK.encs e_z1y (((), ()), (((), (a0, ((), (a1, ())))), ((a2, ()), (a3, (a4, ((a5, ()), (a6, ()))))))).1) (HK.encs h_z1y (((), ()), (((), (a0, ((), (a1, ())))), ((a2, ()), (a3, (a4, ((a5, ()), (a6, ()))))))).2) = M_z1y n a0 a1 a2 a3 a4 a5 a6 := by kernel_rfl
theorem g_z1y (n : Nat) (a0 : Nat) (a1 : Int) (a2 : Nat) (a3 : (List Int)) (a4 : (List HeadS)) (a5 : Nat) (a6 : (List Int)) {r : Res} (h : M_z1y n a0 a1 a2 a3 a4 a5 a6 = some r) : runF Try.prog cf_z1y n p_z1y 26 (EK.encs e_z1y (((), ()), (((), (a0, ((), (a1, ())))), ((a2, ()), (a3, (a4, ((a5, ()), (a6, ()))))))).1) (HK.encs h_z1y (((), ()), (((), (a0, ((), (a1, ())))), ((a2, ()), (a3, (a4, ((a5, ()), (a6, ()))))))).2) = some r := by
  have hb : LOk Try.prog cf_z1y Try.f26.ntmps 6 n p_z1y (ls_z1y n) (bodyOf Try.f26) := ⟨trivial, ⟨⟨trivial, ⟨⟨trivial, trivial⟩, trivial⟩⟩, ⟨trivial, trivial⟩⟩⟩
  exact runFT_some Try.prog (c := bodyOf Try.f26) Try.func26 (show Try.f26.body = some (bodyOf Try.f26) from rfl) (show (1 : Nat) ≤ 10 by decide) hb ((m_z1y n a0 a1 a2 a3 a4 a5 a6).trans h) rfl (by kernel_rfl)
noncomputable def c_z1y : Spec := specQ e_z1y h_z1y ro_z1y rh_z1y fun a b => Q_z1y b.1.2.1 b.1.2.2.2.1 b.2.1.1 b.2.2.1 b.2.2.2.1 b.2.2.2.2.1.1 b.2.2.2.2.2.1
theorem k_z1y (hm : Try.prog.follows .mixedOrders = true) : SpecOk Try.prog 26 c_z1y := specQ_ok (pol := p_z1y) hm (cf := cf_z1y) (tab_ok (specs_cons (k_z03 hm) specs_nil)) fun a b r h => ⟨FUEL, g_z1y FUEL b.1.2.1 b.1.2.2.2.1 b.2.1.1 b.2.2.1 b.2.2.2.1 b.2.2.2.2.1.1 b.2.2.2.2.2.1 (decRes_some h)⟩
def s_z1z_r : Sig := ⟨[8], [.ty (.int .i64)], []⟩
def p_z1z : Pol := ⟨fun i => none, fun i => none, some [(8, .keep)], [.keep], []⟩
def e_z1z : List EK := [.nul 0, .ty (.int .i64), .ty (.int .i64), .agg WordT]
def h_z1z : List HK := []
noncomputable def cf_z1z : CallF := mkCF [] []
noncomputable def ls_z1z (n : Nat) : Loops := fun i =>  none
theorem m_z1z (n : Nat) (a0 : Int) (a1 : Int) (a2 : WordS) : runFT Try.prog cf_z1z p_z1z (ls_z1z n) Try.f50 (bodyOf Try.f50) (EK.encs e_z1z (((), (a0, (a1, (a2, ())))), ()).1) (HK.encs h_z1z (((), (a0, (a1, (a2, ())))), ()).2) = M_z1z n a0 a1 a2 := by kernel_rfl
theorem g_z1z (n : Nat) (a0 : Int) (a1 : Int) (a2 : WordS) {r : Res} (h : M_z1z n a0 a1 a2 = some r) : runF Try.prog cf_z1z n p_z1z 50 (EK.encs e_z1z (((), (a0, (a1, (a2, ())))), ()).1) (HK.encs h_z1z (((), (a0, (a1, (a2, ())))), ()).2) = some r := by
  have hb : LOk Try.prog cf_z1z Try.f50.ntmps 0 n p_z1z (ls_z1z n) (bodyOf Try.f50) := ⟨trivial, ⟨⟨trivial, ⟨⟨trivial, trivial⟩, trivial⟩⟩, ⟨trivial, ⟨trivial, ⟨⟨trivial, ⟨trivial, trivial⟩⟩, ⟨trivial, trivial⟩⟩⟩⟩⟩⟩
  exact runFT_some Try.prog (c := bodyOf Try.f50) Try.func50 (show Try.f50.body = some (bodyOf Try.f50) from rfl) (show (4 : Nat) ≤ 40 by decide) hb ((m_z1z n a0 a1 a2).trans h) rfl (by kernel_rfl)
noncomputable def c_z1z : Spec := specQ e_z1z h_z1z ro_z1z rh_z1z fun a b => Q_z1z a.2.1 a.2.2.1 a.2.2.2.1
theorem k_z1z (hm : Try.prog.follows .mixedOrders = true) : SpecOk Try.prog 50 c_z1z := specQ_ok (pol := p_z1z) hm (cf := cf_z1z) (tab_ok specs_nil) fun a b r h => ⟨FUEL, g_z1z FUEL a.2.1 a.2.2.1 a.2.2.2.1 (decRes_some h)⟩
def s_z20_r : Sig := ⟨[8, 9], [.ty .str, .ty (.int .i64)], []⟩
def s_z20_h0 : Sig := ⟨[1, 2, 7, 11, 24, 25], [.ty (.int .i64), .ty (.int .i64), .ptr 0 0 0, .hs 1 0, .ty (.int .i64), .ty (.int .i64)], [.cell WordT, .row (.int .u8)]⟩
def s_z20_t0 : Sig := ⟨[11], [.hs 0 0], [.row (.int .u8)]⟩
def p_z20 : Pol := ⟨fun i => if i = 0 then some [(1, .keep), (2, .keep), (7, (.own WordT)), (11, (.own (.int .u8))), (24, .keep), (25, .keep)] else none, fun i => if i = 0 then some [(11, (.own (.int .u8)))] else none, some [(8, .keep), (9, .keep)], [.keep, .keep], []⟩
def e_z20 : List EK := [.ty .str, .ty (.int .i64), .ty (.int .i64), .agg WordT]
def h_z20 : List HK := []
noncomputable def cf_z20 : CallF := mkCF [(69, c_z0i), (64, c_z0n), (54, c_z0k), (51, c_z0p)] [(69, [.str, (.int .i64), (.int .i64)]), (64, [WordT, (.int .i64)]), (54, [(.int .u64)]), (51, [WordT, WordT])]
noncomputable def ls_z20 (n : Nat) : Loops := fun i => if i = 0 then some (loopT 0 (p_z20.head 0) s_z20_h0 fun K v => L_z20_0 n (fun z1 => K (.ex 0) (s_z20_t0.enc ((v.1.2.2.2.1, ()), (z1, ())))) v.1.1 v.1.2.1 v.1.2.2.2.1 v.1.2.2.2.2.1 v.2.1 n v.1.2.2.2.2.2.1 v.2.2.1)
  else  none
noncomputable def b_z20_0 : Code := partOf (bodyOf Try.f63) [1, 1, 1, 0, 1, 0, 0]
noncomputable def V_z20_0 (n : Nat) (K : Cont) (rec : Sig.sem s_z20_h0 → Option Res) (v : Sig.sem s_z20_h0) : Option Res := F_z20_0 n (fun z1 => K (.ex 0) (s_z20_t0.enc ((v.1.2.2.2.1, ()), (z1, ())))) v.1.1 v.1.2.1 v.1.2.2.2.1 v.1.2.2.2.2.1 v.2.1 (fun z4 z6 => rec ((v.1.1, (v.1.2.1, ((), (v.1.2.2.2.1, (v.1.2.2.2.2.1, (z4, ())))))), (v.2.1, (z6, ())))) v.1.2.2.2.2.2.1 v.2.2.1
theorem t_z20_0 (n : Nat) (K : Cont) (rec : Sig.sem s_z20_h0 → Option Res) (v : Sig.sem s_z20_h0) : runT Try.prog cf_z20 Try.f63.ntmps 0 p_z20 (ls_z20 n) b_z20_0 (s_z20_h0.enc v) (turnK 0 (p_z20.head 0) s_z20_h0 rec K) = V_z20_0 n K rec v := by kernel_rfl
noncomputable def W_z20_0 (n : Nat) (K : Cont) (m : Nat) (v : Sig.sem s_z20_h0) : Option Res := L_z20_0 n (fun z1 => K (.ex 0) (s_z20_t0.enc ((v.1.2.2.2.1, ()), (z1, ())))) v.1.1 v.1.2.1 v.1.2.2.2.1 v.1.2.2.2.2.1 v.2.1 m v.1.2.2.2.2.2.1 v.2.2.1
theorem i_z20_0 (n : Nat) (K : Cont) : ∀ m v, iter (V_z20_0 n K) m v = W_z20_0 n K m v := by
  intro m
  induction m with
  | zero => intro v; rfl
  | succ m ih =>
    intro v
    show V_z20_0 n K (iter (V_z20_0 n K) m) v = V_z20_0 n K (W_z20_0 n K m) v
    rw [show iter (V_z20_0 n K) m = W_z20_0 n K m from funext ih]
theorem o_z20_0 (n : Nat) : ∀ L, ls_z20 n 0 = some L → ∀ s K r, L s K = some r → ∃ x s', loopN (run Try.prog cf_z20 Try.f63.ntmps 0 n p_z20 none b_z20_0) (gc 0 (p_z20.head 0)) n s = some (x, s') ∧ K x s' = some r := by
  intro L hL s K r h
  have hL : some (loopT 0 (p_z20.head 0) s_z20_h0 fun K v => W_z20_0 n K n v) = some L := hL
  cases hL
  have hb : LOk Try.prog cf_z20 Try.f63.ntmps 0 n p_z20 (ls_z20 n) b_z20_0 := ⟨trivial, ⟨⟨trivial, trivial⟩, ⟨⟨trivial, ⟨trivial, ⟨trivial, ⟨trivial, ⟨trivial, trivial⟩⟩⟩⟩⟩, trivial⟩⟩⟩
  refine loopT_ok hb (V_z20_0 n) (t_z20_0 n) n s K r ?_
  rw [← h]
  unfold loopT
  simp only [i_z20_0]
theorem m_z20 (n : Nat) (a0 : ByteArray) (a1 : Int) (a2 : Int) (a3 : WordS) : runFT Try.prog cf_z20 p_z20 (ls_z20 n) Try.f63 (bodyOf Try.f63) (EK.encs e_z20 ((a0, (a1, (a2, (a3, ())))), ()).1) (HK.encs h_z20 ((a0, (a1, (a2, (a3, ())))), ()).2) = M_z20 n a0 a1 a2 a3 := by kernel_rfl
theorem g_z20 (n : Nat) (a0 : ByteArray) (a1 : Int) (a2 : Int) (a3 : WordS) {r : Res} (h : M_z20 n a0 a1 a2 a3 = some r) : runF Try.prog cf_z20 n p_z20 63 (EK.encs e_z20 ((a0, (a1, (a2, (a3, ())))), ()).1) (HK.encs h_z20 ((a0, (a1, (a2, (a3, ())))), ()).2) = some r := by
  have hb : LOk Try.prog cf_z20 Try.f63.ntmps 0 n p_z20 (ls_z20 n) (bodyOf Try.f63) := ⟨trivial, ⟨⟨trivial, ⟨trivial, ⟨⟨trivial, trivial⟩, trivial⟩⟩⟩, ⟨trivial, ⟨⟨trivial, (o_z20_0 n)⟩, ⟨trivial, trivial⟩⟩⟩⟩⟩
  exact runFT_some Try.prog (c := bodyOf Try.f63) Try.func63 (show Try.f63.body = some (bodyOf Try.f63) from rfl) (show (4 : Nat) ≤ 64 by decide) hb ((m_z20 n a0 a1 a2 a3).trans h) rfl (by kernel_rfl)
noncomputable def c_z20 : Spec := specQ e_z20 h_z20 ro_z20 rh_z20 fun a b => Q_z20 a.1 a.2.1 a.2.2.1 a.2.2.2.1
theorem k_z20 (hm : Try.prog.follows .mixedOrders = true) : SpecOk Try.prog 63 c_z20 := specQ_ok (pol := p_z20) hm (cf := cf_z20) (tab_ok (specs_cons (k_z0i hm) (specs_cons (k_z0n hm) (specs_cons (k_z0k hm) (specs_cons (k_z0p hm) specs_nil))))) fun a b r h => ⟨FUEL, g_z20 FUEL a.1 a.2.1 a.2.2.1 a.2.2.2.1 (decRes_some h)⟩
def s_z21_r : Sig := ⟨[8], [.ty (.int .i64)], [.one false [.hs 1 0], .row (.int .u8)]⟩
def p_z21 : Pol := ⟨fun i => none, fun i => none, some [(8, .keep)], [.keep], []⟩
def e_z21 : List EK := [.ptr 0 0 0, .ty (.int .i64), .ty (.int .i64), .agg WordT]
def h_z21 : List HK := [.one false [.hs 1 0], .row (.int .u8)]
noncomputable def cf_z21 : CallF := mkCF [(59, c_z1a), (63, c_z20)] [(63, [.str, (.int .i64), (.int .i64), WordT])]
noncomputable def ls_z21 (n : Nat) : Loops := fun i =>  none
theorem m_z21 (n : Nat) (a0 : Int) (a1 : Int) (a2 : WordS) (a3 : Nat) (a4 : (List Int)) : runFT Try.prog cf_z21 p_z21 (ls_z21 n) Try.f50 (bodyOf Try.f50) (EK.encs e_z21 (((), (a0, (a1, (a2, ())))), ((a3, ()), (a4, ()))).1) (HK.encs h_z21 (((), (a0, (a1, (a2, ())))), ((a3, ()), (a4, ()))).2) = M_z21 n a0 a1 a2 a3 a4 := by kernel_rfl
theorem g_z21 (n : Nat) (a0 : Int) (a1 : Int) (a2 : WordS) (a3 : Nat) (a4 : (List Int)) {r : Res} (h : M_z21 n a0 a1 a2 a3 a4 = some r) : runF Try.prog cf_z21 n p_z21 50 (EK.encs e_z21 (((), (a0, (a1, (a2, ())))), ((a3, ()), (a4, ()))).1) (HK.encs h_z21 (((), (a0, (a1, (a2, ())))), ((a3, ()), (a4, ()))).2) = some r := by
  have hb : LOk Try.prog cf_z21 Try.f50.ntmps 2 n p_z21 (ls_z21 n) (bodyOf Try.f50) := ⟨trivial, ⟨⟨trivial, ⟨⟨trivial, trivial⟩, trivial⟩⟩, ⟨trivial, ⟨trivial, ⟨⟨trivial, ⟨trivial, trivial⟩⟩, ⟨trivial, trivial⟩⟩⟩⟩⟩⟩
  exact runFT_some Try.prog (c := bodyOf Try.f50) Try.func50 (show Try.f50.body = some (bodyOf Try.f50) from rfl) (show (4 : Nat) ≤ 40 by decide) hb ((m_z21 n a0 a1 a2 a3 a4).trans h) rfl (by kernel_rfl)
noncomputable def c_z21 : Spec := specQ e_z21 h_z21 ro_z21 rh_z21 fun a b => Q_z21 a.2.1 a.2.2.1 a.2.2.2.1 b.1.1 b.2.1
theorem k_z21 (hm : Try.prog.follows .mixedOrders = true) : SpecOk Try.prog 50 c_z21 := specQ_ok (pol := p_z21) hm (cf := cf_z21) (tab_ok (specs_cons (k_z1a hm) (specs_cons (k_z20 hm) specs_nil))) fun a b r h => ⟨FUEL, g_z21 FUEL a.2.1 a.2.2.1 a.2.2.2.1 b.1.1 b.2.1 (decRes_some h)⟩
def s_z22_r : Sig := ⟨[6], [.ty (.int .i64)], [.one false [.ptr 1 0 0, .hs 3 0, .ptr 4 0 0, .ty (.int .i64)], .one false [.hs 2 0], .row (.int .u8), .row HeadT, .one false [.hs 5 0], .row (.int .u8)]⟩
def p_z22 : Pol := ⟨fun i => none, fun i => none, some [(6, .keep)], [.keep], []⟩
def e_z22 : List EK := [.ptr 0 0 0, .agg FieldT, .agg WordT]
def h_z22 : List HK := [.one false [.ptr 1 0 0, .hs 3 0, .ptr 4 0 0, .ty (.int .i64)], .one false [.hs 2 0], .row (.int .u8), .row HeadT, .one false [.hs 5 0], .row (.int .u8)]
noncomputable def cf_z22 : CallF := mkCF [(36, c_z17), (39, c_z18), (50, (orSpec c_z1z c_z21))] [(39, [(.int .i64), (.int .i64)])]
noncomputable def ls_z22 (n : Nat) : Loops := fun i =>  none
theorem m_z22 (n : Nat) (a0 : FieldS) (a1 : WordS) (a2 : Nat) (a3 : Int) (a4 : Nat) (a5 : (List Int)) (a6 : (List HeadS)) (a7 : Nat) (a8 : (List Int)) : runFT Try.prog cf_z22 p_z22 (ls_z22 n) Try.f23 (bodyOf Try.f23) (EK.encs e_z22 (((), (a0, (a1, ()))), (((), (a2, ((), (a3, ())))), ((a4, ()), (a5, (a6, ((a7, ()), (a8, ()))))))).1) (HK.encs h_z22 (((), (a0, (a1, ()))), (((), (a2, ((), (a3, ())))), ((a4, ()), (a5, (a6, ((a7, ()), (a8, ()))))))).2) = M_z22 n a0 a1 a2 a3 a4 a5 a6 a7 a8 := by kernel_rfl
theorem g_z22 (n : Nat) (a0 : FieldS) (a1 : WordS) (a2 : Nat) (a3 : Int) (a4 : Nat) (a5 : (List Int)) (a6 : (List HeadS)) (a7 : Nat) (a8 : (List Int)) {r : Res} (h : M_z22 n a0 a1 a2 a3 a4 a5 a6 a7 a8 = some r) : runF Try.prog cf_z22 n p_z22 23 (EK.encs e_z22 (((), (a0, (a1, ()))), (((), (a2, ((), (a3, ())))), ((a4, ()), (a5, (a6, ((a7, ()), (a8, ()))))))).1) (HK.encs h_z22 (((), (a0, (a1, ()))), (((), (a2, ((), (a3, ())))), ((a4, ()), (a5, (a6, ((a7, ()), (a8, ()))))))).2) = some r := by
  have hb : LOk Try.prog cf_z22 Try.f23.ntmps 6 n p_z22 (ls_z22 n) (bodyOf Try.f23) := ⟨trivial, ⟨trivial, ⟨⟨trivial, ⟨⟨trivial, trivial⟩, trivial⟩⟩, ⟨trivial, trivial⟩⟩⟩⟩
  exact runFT_some Try.prog (c := bodyOf Try.f23) Try.func23 (show Try.f23.body = some (bodyOf Try.f23) from rfl) (show (3 : Nat) ≤ 32 by decide) hb ((m_z22 n a0 a1 a2 a3 a4 a5 a6 a7 a8).trans h) rfl (by kernel_rfl)
noncomputable def c_z22 : Spec := specQ e_z22 h_z22 ro_z22 rh_z22 fun a b => Q_z22 a.2.1 a.2.2.1 b.1.2.1 b.1.2.2.2.1 b.2.1.1 b.2.2.1 b.2.2.2.1 b.2.2.2.2.1.1 b.2.2.2.2.2.1
theorem k_z22 (hm : Try.prog.follows .mixedOrders = true) : SpecOk Try.prog 23 c_z22 := specQ_ok (pol := p_z22) hm (cf := cf_z22) (tab_ok (specs_cons (k_z17 hm) (specs_cons (k_z18 hm) (specs_cons (orSpec_ok (k_z1z hm) (k_z21 hm)) specs_nil)))) fun a b r h => ⟨FUEL, g_z22 FUEL a.2.1 a.2.2.1 b.1.2.1 b.1.2.2.2.1 b.2.1.1 b.2.2.1 b.2.2.2.1 b.2.2.2.2.1.1 b.2.2.2.2.2.1 (decRes_some h)⟩
def s_z23_h0 : Sig := ⟨[0], [.ty (.int .u64)], []⟩
def s_z23_t0 : Sig := ⟨[0], [.ty (.int .u64)], []⟩
def s_z23_r : Sig := ⟨[2], [.ty (.int .u16)], []⟩
def p_z23 : Pol := ⟨fun i => if i = 0 then some [(0, .keep)] else none, fun i => if i = 0 then some [(0, .keep)] else none, some [(2, .keep)], [.keep], []⟩
def e_z23 : List EK := [.ty (.int .u64)]
def h_z23 : List HK := []
noncomputable def cf_z23 : CallF := mkCF [] []
noncomputable def ls_z23 (n : Nat) : Loops := fun i => if i = 0 then some (loopT 0 (p_z23.head 0) s_z23_h0 fun K v => L_z23_0 n (fun z0 => K (.ex 0) (s_z23_t0.enc ((z0, ()), ()))) n v.1.1)
  else  none
noncomputable def b_z23_0 : Code := partOf (bodyOf Try.f66) [1, 0, 0, 0]
noncomputable def V_z23_0 (n : Nat) (K : Cont) (rec : Sig.sem s_z23_h0 → Option Res) (v : Sig.sem s_z23_h0) : Option Res := F_z23_0 n (fun z0 => K (.ex 0) (s_z23_t0.enc ((z0, ()), ()))) (fun z0 => rec ((z0, ()), ())) v.1.1
theorem t_z23_0 (n : Nat) (K : Cont) (rec : Sig.sem s_z23_h0 → Option Res) (v : Sig.sem s_z23_h0) : runT Try.prog cf_z23 Try.f66.ntmps 0 p_z23 (ls_z23 n) b_z23_0 (s_z23_h0.enc v) (turnK 0 (p_z23.head 0) s_z23_h0 rec K) = V_z23_0 n K rec v := by kernel_rfl
noncomputable def W_z23_0 (n : Nat) (K : Cont) (m : Nat) (v : Sig.sem s_z23_h0) : Option Res := L_z23_0 n (fun z0 => K (.ex 0) (s_z23_t0.enc ((z0, ()), ()))) m v.1.1
theorem i_z23_0 (n : Nat) (K : Cont) : ∀ m v, iter (V_z23_0 n K) m v = W_z23_0 n K m v := by
  intro m
  induction m with
  | zero => intro v; rfl
  | succ m ih =>
    intro v
    show V_z23_0 n K (iter (V_z23_0 n K) m) v = V_z23_0 n K (W_z23_0 n K m) v
    rw [show iter (V_z23_0 n K) m = W_z23_0 n K m from funext ih]
theorem o_z23_0 (n : Nat) : ∀ L, ls_z23 n 0 = some L → ∀ s K r, L s K = some r → ∃ x s', loopN (run Try.prog cf_z23 Try.f66.ntmps 0 n p_z23 none b_z23_0) (gc 0 (p_z23.head 0)) n s = some (x, s') ∧ K x s' = some r := by
  intro L hL s K r h
  have hL : some (loopT 0 (p_z23.head 0) s_z23_h0 fun K v => W_z23_0 n K n v) = some L := hL
  cases hL
  have hb : LOk Try.prog cf_z23 Try.f66.ntmps 0 n p_z23 (ls_z23 n) b_z23_0 := ⟨⟨trivial, ⟨trivial, trivial⟩⟩, trivial⟩
  refine loopT_ok hb (V_z23_0 n) (t_z23_0 n) n s K r ?_
  rw [← h]
  unfold loopT
  simp only [i_z23_0]
theorem m_z23 (n : Nat) (a0 : Int) : runFT Try.prog cf_z23 p_z23 (ls_z23 n) Try.f66 (bodyOf Try.f66) (EK.encs e_z23 ((a0, ()), ()).1) (HK.encs h_z23 ((a0, ()), ()).2) = M_z23 n a0 := by kernel_rfl
theorem g_z23 (n : Nat) (a0 : Int) {r : Res} (h : M_z23 n a0 = some r) : runF Try.prog cf_z23 n p_z23 66 (EK.encs e_z23 ((a0, ()), ()).1) (HK.encs h_z23 ((a0, ()), ()).2) = some r := by
  have hb : LOk Try.prog cf_z23 Try.f66.ntmps 0 n p_z23 (ls_z23 n) (bodyOf Try.f66) := ⟨trivial, ⟨(o_z23_0 n), ⟨trivial, trivial⟩⟩⟩
  exact runFT_some Try.prog (c := bodyOf Try.f66) Try.func66 (show Try.f66.body = some (bodyOf Try.f66) from rfl) (show (1 : Nat) ≤ 12 by decide) hb ((m_z23 n a0).trans h) rfl (by kernel_rfl)
noncomputable def c_z23 : Spec := specQ e_z23 h_z23 ro_z23 rh_z23 fun a b => Q_z23 a.1
theorem k_z23 (hm : Try.prog.follows .mixedOrders = true) : SpecOk Try.prog 66 c_z23 := specQ_ok (pol := p_z23) hm (cf := cf_z23) (tab_ok specs_nil) fun a b r h => ⟨FUEL, g_z23 FUEL a.1 (decRes_some h)⟩
def s_z24_h0 : Sig := ⟨[3, 4, 9, 10, 11], [.ty (.int .u64), .ty .bool, .ty (.slice .str), .ty (.int .i64), .ty (.int .i64)], []⟩
def s_z24_h2 : Sig := ⟨[3, 4, 6, 9, 10, 11, 16, 17], [.ty (.int .u64), .ty .bool, .ty .str, .ty (.slice .str), .ty (.int .i64), .ty (.int .i64), .ty (.int .i64), .ty (.int .i64)], []⟩
def s_z24_t2 : Sig := ⟨[3, 4, 9, 10, 11], [.ty (.int .u64), .ty .bool, .ty (.slice .str), .ty (.int .i64), .ty (.int .i64)], []⟩
def s_z24_t0 : Sig := ⟨[3], [.ty (.int .u64)], []⟩
def s_z24_r : Sig := ⟨[2], [.ty (.int .u16)], []⟩
def p_z24 : Pol := ⟨fun i => if i = 0 then some [(3, .keep), (4, .keep), (9, .keep), (10, .keep), (11, .keep)] else if i = 2 then some [(3, .keep), (4, .keep), (6, .keep), (9, .keep), (10, .keep), (11, .keep), (16, .keep), (17, .keep)] else none, fun i => if i = 2 then some [(3, .keep), (4, .keep), (9, .keep), (10, .keep), (11, .keep)] else if i = 0 then some [(3, .keep)] else none, some [(2, .keep)], [.keep], []⟩
def e_z24 : List EK := [.ty (.slice .str)]
def h_z24 : List HK := []
noncomputable def cf_z24 : CallF := mkCF [(66, c_z23)] [(66, [(.int .u64)])]
noncomputable def ls_z24 (n : Nat) : Loops := fun i => if i = 2 then some (loopT 0 (p_z24.head 2) s_z24_h2 fun K v => L_z24_2 n (fun z0 z1 => K (.ex 2) (s_z24_t2.enc ((z0, (z1, (v.1.2.2.2.1, (v.1.2.2.2.2.1, (v.1.2.2.2.2.2.1, ()))))), ()))) v.1.2.2.1 v.1.2.2.2.2.2.2.1 n v.1.1 v.1.2.1 v.1.2.2.2.2.2.2.2.1)
  else if i = 0 then some (loopT 0 (p_z24.head 0) s_z24_h0 fun K v => L_z24_0 n (fun z0 => K (.ex 0) (s_z24_t0.enc ((z0, ()), ()))) v.1.2.2.1 v.1.2.2.2.1 n v.1.1 v.1.2.1 v.1.2.2.2.2.1)
  else  none
noncomputable def b_z24_2 : Code := partOf (bodyOf Try.f55) [1, 1, 0, 1, 0, 0, 1, 1, 0, 0, 1, 0, 1, 0, 0]
noncomputable def V_z24_2 (n : Nat) (K : Cont) (rec : Sig.sem s_z24_h2 → Option Res) (v : Sig.sem s_z24_h2) : Option Res := F_z24_2 n (fun z0 z1 => K (.ex 2) (s_z24_t2.enc ((z0, (z1, (v.1.2.2.2.1, (v.1.2.2.2.2.1, (v.1.2.2.2.2.2.1, ()))))), ()))) v.1.2.2.1 v.1.2.2.2.2.2.2.1 (fun z0 z1 z7 => rec ((z0, (z1, (v.1.2.2.1, (v.1.2.2.2.1, (v.1.2.2.2.2.1, (v.1.2.2.2.2.2.1, (v.1.2.2.2.2.2.2.1, (z7, ())))))))), ())) v.1.1 v.1.2.1 v.1.2.2.2.2.2.2.2.1
theorem t_z24_2 (n : Nat) (K : Cont) (rec : Sig.sem s_z24_h2 → Option Res) (v : Sig.sem s_z24_h2) : runT Try.prog cf_z24 Try.f55.ntmps 0 p_z24 (ls_z24 n) b_z24_2 (s_z24_h2.enc v) (turnK 0 (p_z24.head 2) s_z24_h2 rec K) = V_z24_2 n K rec v := by kernel_rfl
noncomputable def W_z24_2 (n : Nat) (K : Cont) (m : Nat) (v : Sig.sem s_z24_h2) : Option Res := L_z24_2 n (fun z0 z1 => K (.ex 2) (s_z24_t2.enc ((z0, (z1, (v.1.2.2.2.1, (v.1.2.2.2.2.1, (v.1.2.2.2.2.2.1, ()))))), ()))) v.1.2.2.1 v.1.2.2.2.2.2.2.1 m v.1.1 v.1.2.1 v.1.2.2.2.2.2.2.2.1
theorem i_z24_2 (n : Nat) (K : Cont) : ∀ m v, iter (V_z24_2 n K) m v = W_z24_2 n K m v := by
  intro m
  induction m with
  | zero => intro v; rfl
  | succ m ih =>
    intro v
    show V_z24_2 n K (iter (V_z24_2 n K) m) v = V_z24_2 n K (W_z24_2 n K m) v
    rw [show iter (V_z24_2 n K) m = W_z24_2 n K m from funext ih]
theorem o_z24_2 (n : Nat) : ∀ L, ls_z24 n 2 = some L → ∀ s K r, L s K = some r → ∃ x s', loopN (run Try.prog cf_z24 Try.f55.ntmps 0 n p_z24 none b_z24_2) (gc 0 (p_z24.head 2)) n s = some (x, s') ∧ K x s' = some r := by
  intro L hL s K r h
  have hL : some (loopT 0 (p_z24.head 2) s_z24_h2 fun K v => W_z24_2 n K n v) = some L := hL
  cases hL
  have hb : LOk Try.prog cf_z24 Try.f55.ntmps 0 n p_z24 (ls_z24 n) b_z24_2 := ⟨trivial, ⟨⟨trivial, trivial⟩, ⟨⟨trivial, ⟨trivial, ⟨⟨trivial, ⟨trivial, trivial⟩⟩, ⟨trivial, trivial⟩⟩⟩⟩, trivial⟩⟩⟩
  refine loopT_ok hb (V_z24_2 n) (t_z24_2 n) n s K r ?_
  rw [← h]
  unfold loopT
  simp only [i_z24_2]
noncomputable def b_z24_0 : Code := partOf (bodyOf Try.f55) [1, 1, 0, 1, 0, 0]
noncomputable def V_z24_0 (n : Nat) (K : Cont) (rec : Sig.sem s_z24_h0 → Option Res) (v : Sig.sem s_z24_h0) : Option Res := F_z24_0 n (fun z0 => K (.ex 0) (s_z24_t0.enc ((z0, ()), ()))) v.1.2.2.1 v.1.2.2.2.1 (fun z0 z1 z4 => rec ((z0, (z1, (v.1.2.2.1, (v.1.2.2.2.1, (z4, ()))))), ())) v.1.1 v.1.2.1 v.1.2.2.2.2.1
theorem t_z24_0 (n : Nat) (K : Cont) (rec : Sig.sem s_z24_h0 → Option Res) (v : Sig.sem s_z24_h0) : runT Try.prog cf_z24 Try.f55.ntmps 0 p_z24 (ls_z24 n) b_z24_0 (s_z24_h0.enc v) (turnK 0 (p_z24.head 0) s_z24_h0 rec K) = V_z24_0 n K rec v := by kernel_rfl
noncomputable def W_z24_0 (n : Nat) (K : Cont) (m : Nat) (v : Sig.sem s_z24_h0) : Option Res := L_z24_0 n (fun z0 => K (.ex 0) (s_z24_t0.enc ((z0, ()), ()))) v.1.2.2.1 v.1.2.2.2.1 m v.1.1 v.1.2.1 v.1.2.2.2.2.1
theorem i_z24_0 (n : Nat) (K : Cont) : ∀ m v, iter (V_z24_0 n K) m v = W_z24_0 n K m v := by
  intro m
  induction m with
  | zero => intro v; rfl
  | succ m ih =>
    intro v
    show V_z24_0 n K (iter (V_z24_0 n K) m) v = V_z24_0 n K (W_z24_0 n K m) v
    rw [show iter (V_z24_0 n K) m = W_z24_0 n K m from funext ih]
theorem o_z24_0 (n : Nat) : ∀ L, ls_z24 n 0 = some L → ∀ s K r, L s K = some r → ∃ x s', loopN (run Try.prog cf_z24 Try.f55.ntmps 0 n p_z24 none b_z24_0) (gc 0 (p_z24.head 0)) n s = some (x, s') ∧ K x s' = some r := by
  intro L hL s K r h
  have hL : some (loopT 0 (p_z24.head 0) s_z24_h0 fun K v => W_z24_0 n K n v) = some L := hL
  cases hL
  have hb : LOk Try.prog cf_z24 Try.f55.ntmps 0 n p_z24 (ls_z24 n) b_z24_0 := ⟨trivial, ⟨⟨trivial, trivial⟩, ⟨⟨trivial, ⟨⟨trivial, (o_z24_2 n)⟩, trivial⟩⟩, trivial⟩⟩⟩
  refine loopT_ok hb (V_z24_0 n) (t_z24_0 n) n s K r ?_
  rw [← h]
  unfold loopT
  simp only [i_z24_0]
theorem m_z24 (n : Nat) (a0 : (List ByteArray)) : runFT Try.prog cf_z24 p_z24 (ls_z24 n) Try.f55 (bodyOf Try.f55) (EK.encs e_z24 ((a0, ()), ()).1) (HK.encs h_z24 ((a0, ()), ()).2) = M_z24 n a0 := by kernel_rfl
theorem g_z24 (n : Nat) (a0 : (List ByteArray)) {r : Res} (h : M_z24 n a0 = some r) : runF Try.prog cf_z24 n p_z24 55 (EK.encs e_z24 ((a0, ()), ()).1) (HK.encs h_z24 ((a0, ()), ()).2) = some r := by
  have hb : LOk Try.prog cf_z24 Try.f55.ntmps 0 n p_z24 (ls_z24 n) (bodyOf Try.f55) := ⟨trivial, ⟨trivial, ⟨⟨trivial, (o_z24_0 n)⟩, ⟨trivial, trivial⟩⟩⟩⟩
  exact runFT_some Try.prog (c := bodyOf Try.f55) Try.func55 (show Try.f55.body = some (bodyOf Try.f55) from rfl) (show (1 : Nat) ≤ 39 by decide) hb ((m_z24 n a0).trans h) rfl (by kernel_rfl)
noncomputable def c_z24 : Spec := specQ e_z24 h_z24 ro_z24 rh_z24 fun a b => Q_z24 a.1
theorem k_z24 (hm : Try.prog.follows .mixedOrders = true) : SpecOk Try.prog 55 c_z24 := specQ_ok (pol := p_z24) hm (cf := cf_z24) (tab_ok (specs_cons (k_z23 hm) specs_nil)) fun a b r h => ⟨FUEL, g_z24 FUEL a.1 (decRes_some h)⟩
def s_z25_r : Sig := ⟨[6, 7], [.ty (.int .u16), .ty (.int .i64)], [.one false [.hs 1 0], .row (.int .u8)]⟩
def p_z25 : Pol := ⟨fun i => none, fun i => none, some [(6, .keep), (7, .keep)], [.keep, .keep], []⟩
def e_z25 : List EK := [.ptr 0 0 0, .ty (.int .i64), .ty (.int .i64)]
def h_z25 : List HK := [.one false [.hs 1 0], .row (.int .u8)]
noncomputable def cf_z25 : CallF := mkCF [(61, c_z1j), (55, c_z24)] [(55, [(.slice .str)])]
noncomputable def ls_z25 (n : Nat) : Loops := fun i =>  none
theorem m_z25 (n : Nat) (a0 : Int) (a1 : Int) (a2 : Nat) (a3 : (List Int)) : runFT Try.prog cf_z25 p_z25 (ls_z25 n) Try.f53 (bodyOf Try.f53) (EK.encs e_z25 (((), (a0, (a1, ()))), ((a2, ()), (a3, ()))).1) (HK.encs h_z25 (((), (a0, (a1, ()))), ((a2, ()), (a3, ()))).2) = M_z25 n a0 a1 a2 a3 := by kernel_rfl
theorem g_z25 (n : Nat) (a0 : Int) (a1 : Int) (a2 : Nat) (a3 : (List Int)) {r : Res} (h : M_z25 n a0 a1 a2 a3 = some r) : runF Try.prog cf_z25 n p_z25 53 (EK.encs e_z25 (((), (a0, (a1, ()))), ((a2, ()), (a3, ()))).1) (HK.encs h_z25 (((), (a0, (a1, ()))), ((a2, ()), (a3, ()))).2) = some r := by
  have hb : LOk Try.prog cf_z25 Try.f53.ntmps 2 n p_z25 (ls_z25 n) (bodyOf Try.f53) := ⟨trivial, ⟨⟨trivial, ⟨trivial, ⟨⟨trivial, trivial⟩, trivial⟩⟩⟩, ⟨trivial, trivial⟩⟩⟩
  exact runFT_some Try.prog (c := bodyOf Try.f53) Try.func53 (show Try.f53.body = some (bodyOf Try.f53) from rfl) (show (3 : Nat) ≤ 28 by decide) hb ((m_z25 n a0 a1 a2 a3).trans h) rfl (by kernel_rfl)
noncomputable def c_z25 : Spec := specQ e_z25 h_z25 ro_z25 rh_z25 fun a b => Q_z25 a.2.1 a.2.2.1 b.1.1 b.2.1
theorem k_z25 (hm : Try.prog.follows .mixedOrders = true) : SpecOk Try.prog 53 c_z25 := specQ_ok (pol := p_z25) hm (cf := cf_z25) (tab_ok (specs_cons (k_z1j hm) (specs_cons (k_z24 hm) specs_nil))) fun a b r h => ⟨FUEL, g_z25 FUEL a.2.1 a.2.2.1 b.1.1 b.2.1 (decRes_some h)⟩
def s_z26_r : Sig := ⟨[8], [.ty (.int .i64)], [.one false [.ptr 1 0 0, .hs 3 0, .ptr 4 0 0, .ty (.int .i64)], .one false [.hs 2 0], .row (.int .u8), .row HeadT, .one false [.hs 5 0], .row (.int .u8)]⟩
def p_z26 : Pol := ⟨fun i => none, fun i => none, some [(8, .keep)], [.keep], []⟩
def e_z26 : List EK := [.ptr 0 0 0, .agg FieldT, .agg FieldT, .ty (.int .i64)]
def h_z26 : List HK := [.one false [.ptr 1 0 0, .hs 3 0, .ptr 4 0 0, .ty (.int .i64)], .one false [.hs 2 0], .row (.int .u8), .row HeadT, .one false [.hs 5 0], .row (.int .u8)]
noncomputable def cf_z26 : CallF := mkCF [(41, c_z1i), (16, c_z1v), (53, c_z25), (23, c_z22), (54, c_z0k)] [(54, [(.int .u64)])]
noncomputable def ls_z26 (n : Nat) : Loops := fun i =>  none
theorem m_z26 (n : Nat) (a0 : FieldS) (a1 : FieldS) (a2 : Int) (a3 : Nat) (a4 : Int) (a5 : Nat) (a6 : (List Int)) (a7 : (List HeadS)) (a8 : Nat) (a9 : (List Int)) : runFT Try.prog cf_z26 p_z26 (ls_z26 n) Try.f27 (bodyOf Try.f27) (EK.encs e_z26 (((), (a0, (a1, (a2, ())))), (((), (a3, ((), (a4, ())))), ((a5, ()), (a6, (a7, ((a8, ()), (a9, ()))))))).1) (HK.encs h_z26 (((), (a0, (a1, (a2, ())))), (((), (a3, ((), (a4, ())))), ((a5, ()), (a6, (a7, ((a8, ()), (a9, ()))))))).2) = M_z26 n a0 a1 a2 a3 a4 a5 a6 a7 a8 a9 := by kernel_rfl
theorem g_z26 (n : Nat) (a0 : FieldS) (a1 : FieldS) (a2 : Int) (a3 : Nat) (a4 : Int) (a5 : Nat) (a6 : (List Int)) (a7 : (List HeadS)) (a8 : Nat) (a9 : (List Int)) {r : Res} (h : M_z26 n a0 a1 a2 a3 a4 a5 a6 a7 a8 a9 = some r) : runF Try.prog cf_z26 n p_z26 27 (EK.encs e_z26 (((), (a0, (a1, (a2, ())))), (((), (a3, ((), (a4, ())))), ((a5, ()), (a6, (a7, ((a8, ()), (a9, ()))))))).1) (HK.encs h_z26 (((), (a0, (a1, (a2, ())))), (((), (a3, ((), (a4, ())))), ((a5, ()), (a6, (a7, ((a8, ()), (a9, ()))))))).2) = some r := by
  have hb : LOk Try.prog cf_z26 Try.f27.ntmps 6 n p_z26 (ls_z26 n) (bodyOf Try.f27) := ⟨trivial, ⟨trivial, ⟨⟨trivial, ⟨⟨trivial, trivial⟩, trivial⟩⟩, ⟨⟨trivial, ⟨trivial, trivial⟩⟩, ⟨⟨trivial, ⟨trivial, ⟨⟨trivial, trivial⟩, trivial⟩⟩⟩, ⟨⟨trivial, ⟨trivial, ⟨⟨trivial, trivial⟩, trivial⟩⟩⟩, ⟨trivial, ⟨trivial, trivial⟩⟩⟩⟩⟩⟩⟩⟩
  exact runFT_some Try.prog (c := bodyOf Try.f27) Try.func27 (show Try.f27.body = some (bodyOf Try.f27) from rfl) (show (4 : Nat) ≤ 69 by decide) hb ((m_z26 n a0 a1 a2 a3 a4 a5 a6 a7 a8 a9).trans h) rfl (by kernel_rfl)
noncomputable def c_z26 : Spec := specQ e_z26 h_z26 ro_z26 rh_z26 fun a b => Q_z26 a.2.1 a.2.2.1 a.2.2.2.1 b.1.2.1 b.1.2.2.2.1 b.2.1.1 b.2.2.1 b.2.2.2.1 b.2.2.2.2.1.1 b.2.2.2.2.2.1
theorem k_z26 (hm : Try.prog.follows .mixedOrders = true) : SpecOk Try.prog 27 c_z26 := specQ_ok (pol := p_z26) hm (cf := cf_z26) (tab_ok (specs_cons (k_z1i hm) (specs_cons (k_z1v hm) (specs_cons (k_z25 hm) (specs_cons (k_z22 hm) (specs_cons (k_z0k hm) specs_nil)))))) fun a b r h => ⟨FUEL, g_z26 FUEL a.2.1 a.2.2.1 a.2.2.2.1 b.1.2.1 b.1.2.2.2.1 b.2.1.1 b.2.2.1 b.2.2.2.1 b.2.2.2.2.1.1 b.2.2.2.2.2.1 (decRes_some h)⟩
def s_z27_r : Sig := ⟨[2], [.ty .bool], []⟩
def p_z27 : Pol := ⟨fun i => none, fun i => none, some [(2, .keep)], [.keep], []⟩
def e_z27 : List EK := [.ty .str]
def h_z27 : List HK := []
noncomputable def cf_z27 : CallF := mkCF [(55, c_z24)] [(55, [(.slice .str)])]
noncomputable def ls_z27 (n : Nat) : Loops := fun i =>  none
theorem m_z27 (n : Nat) (a0 : ByteArray) : runFT Try.prog cf_z27 p_z27 (ls_z27 n) Try.f28 (bodyOf Try.f28) (EK.encs e_z27 ((a0, ()), ()).1) (HK.encs h_z27 ((a0, ()), ()).2) = M_z27 n a0 := by kernel_rfl
theorem g_z27 (n : Nat) (a0 : ByteArray) {r : Res} (h : M_z27 n a0 = some r) : runF Try.prog cf_z27 n p_z27 28 (EK.encs e_z27 ((a0, ()), ()).1) (HK.encs h_z27 ((a0, ()), ()).2) = some r := by
  have hb : LOk Try.prog cf_z27 Try.f28.ntmps 0 n p_z27 (ls_z27 n) (bodyOf Try.f28) := ⟨trivial, ⟨trivial, trivial⟩⟩
  exact runFT_some Try.prog (c := bodyOf Try.f28) Try.func28 (show Try.f28.body = some (bodyOf Try.f28) from rfl) (show (1 : Nat) ≤ 7 by decide) hb ((m_z27 n a0).trans h) rfl (by kernel_rfl)
noncomputable def c_z27 : Spec := specQ e_z27 h_z27 ro_z27 rh_z27 fun a b => Q_z27 a.1
theorem k_z27 (hm : Try.prog.follows .mixedOrders = true) : SpecOk Try.prog 28 c_z27 := specQ_ok (pol := p_z27) hm (cf := cf_z27) (tab_ok (specs_cons (k_z24 hm) specs_nil)) fun a b r h => ⟨FUEL, g_z27 FUEL a.1 (decRes_some h)⟩
def s_z28_r : Sig := ⟨[4, 5, 6], [.ptr 1 0 0, .ty (.int .i64), .ty (.int .i64)], [.one false [.ptr 1 0 0, .nul 4, .ptr 3 0 0, .ty (.int .i64)], .one false [.hs 2 0], .row (.int .u8), .one false [.hs 4 0], .row (.int .u8)]⟩
def s_z28_r1 : Sig := ⟨[4, 5, 6], [.ptr 3 0 0, .ty (.int .i64), .ty (.int .i64)], [.one false [.ptr 1 0 0, .nul 4, .ptr 3 0 0, .ty (.int .i64)], .one false [.hs 2 0], .row (.int .u8), .one false [.hs 4 0], .row (.int .u8)]⟩
def s_z28_h1 : Sig := ⟨[0, 3, 32, 33, 34], [.ptr 0 0 0, .ptr 5 0 0, .hs 6 0, .ty (.int .i64), .ty (.int .i64)], [.one false [.ptr 1 0 0, .nul 4, .ptr 3 0 0, .ty (.int .i64)], .one false [.hs 2 0], .row (.int .u8), .one false [.hs 4 0], .row (.int .u8), .cell FieldT, .row HeadT]⟩
def s_z28_t1 : Sig := ⟨[], [], [.one false [.ptr 1 0 0, .nul 4, .ptr 3 0 0, .ty (.int .i64)], .one false [.hs 2 0], .row (.int .u8), .one false [.hs 4 0], .row (.int .u8)]⟩
def s_z28_r2 : Sig := ⟨[4, 5, 6], [.nul 0, .ty (.int .i64), .ty (.int .i64)], [.one false [.ptr 1 0 0, .nul 4, .ptr 3 0 0, .ty (.int .i64)], .one false [.hs 2 0], .row (.int .u8), .one false [.hs 4 0], .row (.int .u8)]⟩
def p_z28 : Pol := ⟨fun i => if i = 1 then some [(0, .keep), (3, (.own FieldT)), (32, (.own HeadT)), (33, .keep), (34, .keep)] else none, fun i => if i = 1 then some [] else none, some [(4, .keep), (5, .keep), (6, .keep)], [.keep, .keep, .keep], []⟩
def e_z28 : List EK := [.ptr 0 0 0, .agg FieldT]
def h_z28 : List HK := [.one false [.ptr 1 0 0, .nul 4, .ptr 3 0 0, .ty (.int .i64)], .one false [.hs 2 0], .row (.int .u8), .one false [.hs 4 0], .row (.int .u8)]
noncomputable def cf_z28 : CallF := mkCF [] []
noncomputable def ls_z28 (n : Nat) : Loops := fun i => if i = 1 then some (loopT 5 (p_z28.head 1) s_z28_h1 fun K v => L_z28_1 n (fun z0 z1 => K .rt (s_z28_r.enc (((), (z0, (z1, ()))), (((), ((), ((), (v.2.1.2.2.2.1, ())))), ((v.2.2.1.1, ()), (v.2.2.2.1, ((v.2.2.2.2.1.1, ()), (v.2.2.2.2.2.1, ())))))))) (fun _ => K (.ex 1) (s_z28_t1.enc ((), (((), ((), ((), (v.2.1.2.2.2.1, ())))), ((v.2.2.1.1, ()), (v.2.2.2.1, ((v.2.2.2.2.1.1, ()), (v.2.2.2.2.2.1, ())))))))) v.1.2.2.1 v.1.2.2.2.1 v.2.2.2.2.2.2.1 v.2.2.2.2.2.2.2.1 n v.1.2.2.2.2.1)
  else  none
noncomputable def b_z28_1 : Code := partOf (bodyOf Try.f36) [1, 1, 0, 1, 0, 1, 1, 1, 1, 1, 0, 1, 0, 0]
noncomputable def V_z28_1 (n : Nat) (K : Cont) (rec : Sig.sem s_z28_h1 → Option Res) (v : Sig.sem s_z28_h1) : Option Res := F_z28_1 n (fun z0 z1 => K .rt (s_z28_r.enc (((), (z0, (z1, ()))), (((), ((), ((), (v.2.1.2.2.2.1, ())))), ((v.2.2.1.1, ()), (v.2.2.2.1, ((v.2.2.2.2.1.1, ()), (v.2.2.2.2.2.1, ())))))))) (fun _ => K (.ex 1) (s_z28_t1.enc ((), (((), ((), ((), (v.2.1.2.2.2.1, ())))), ((v.2.2.1.1, ()), (v.2.2.2.1, ((v.2.2.2.2.1.1, ()), (v.2.2.2.2.2.1, ())))))))) v.1.2.2.1 v.1.2.2.2.1 v.2.2.2.2.2.2.1 v.2.2.2.2.2.2.2.1 (fun z2 => rec (((), ((), (v.1.2.2.1, (v.1.2.2.2.1, (z2, ()))))), (((), ((), ((), (v.2.1.2.2.2.1, ())))), ((v.2.2.1.1, ()), (v.2.2.2.1, ((v.2.2.2.2.1.1, ()), (v.2.2.2.2.2.1, (v.2.2.2.2.2.2.1, (v.2.2.2.2.2.2.2.1, ()))))))))) v.1.2.2.2.2.1
theorem t_z28_1 (n : Nat) (K : Cont) (rec : Sig.sem s_z28_h1 → Option Res) (v : Sig.sem s_z28_h1) : runT Try.prog cf_z28 Try.f36.ntmps 5 p_z28 (ls_z28 n) b_z28_1 (s_z28_h1.enc v) (turnK 5 (p_z28.head 1) s_z28_h1 rec K) = V_z28_1 n K rec v := by kernel_rfl
noncomputable def W_z28_1 (n : Nat) (K : Cont) (m : Nat) (v : Sig.sem s_z28_h1) : Option Res := L_z28_1 n (fun z0 z1 => K .rt (s_z28_r.enc (((), (z0, (z1, ()))), (((), ((), ((), (v.2.1.2.2.2.1, ())))), ((v.2.2.1.1, ()), (v.2.2.2.1, ((v.2.2.2.2.1.1, ()), (v.2.2.2.2.2.1, ())))))))) (fun _ => K (.ex 1) (s_z28_t1.enc ((), (((), ((), ((), (v.2.1.2.2.2.1, ())))), ((v.2.2.1.1, ()), (v.2.2.2.1, ((v.2.2.2.2.1.1, ()), (v.2.2.2.2.2.1, ())))))))) v.1.2.2.1 v.1.2.2.2.1 v.2.2.2.2.2.2.1 v.2.2.2.2.2.2.2.1 m v.1.2.2.2.2.1
theorem i_z28_1 (n : Nat) (K : Cont) : ∀ m v, iter (V_z28_1 n K) m v = W_z28_1 n K m v := by
  intro m
  induction m with
  | zero => intro v; rfl
  | succ m ih =>
    intro v
    show V_z28_1 n K (iter (V_z28_1 n K) m) v = V_z28_1 n K (W_z28_1 n K m) v
    rw [show iter (V_z28_1 n K) m = W_z28_1 n K m from funext ih]
theorem o_z28_1 (n : Nat) : ∀ L, ls_z28 n 1 = some L → ∀ s K r, L s K = some r → ∃ x s', loopN (run Try.prog cf_z28 Try.f36.ntmps 5 n p_z28 none b_z28_1) (gc 5 (p_z28.head 1)) n s = some (x, s') ∧ K x s' = some r := by
  intro L hL s K r h
  have hL : some (loopT 5 (p_z28.head 1) s_z28_h1 fun K v => W_z28_1 n K n v) = some L := hL
  cases hL
  have hb : LOk Try.prog cf_z28 Try.f36.ntmps 5 n p_z28 (ls_z28 n) b_z28_1 := ⟨trivial, ⟨⟨trivial, trivial⟩, ⟨⟨trivial, ⟨trivial, ⟨⟨trivial, trivial⟩, trivial⟩⟩⟩, trivial⟩⟩⟩
  refine loopT_ok hb (V_z28_1 n) (t_z28_1 n) n s K r ?_
  rw [← h]
  unfold loopT
  simp only [i_z28_1]
theorem m_z28 (n : Nat) (a0 : FieldS) (a1 : Int) (a2 : Nat) (a3 : (List Int)) (a4 : Nat) (a5 : (List Int)) : runFT Try.prog cf_z28 p_z28 (ls_z28 n) Try.f36 (bodyOf Try.f36) (EK.encs e_z28 (((), (a0, ())), (((), ((), ((), (a1, ())))), ((a2, ()), (a3, ((a4, ()), (a5, ())))))).1) (HK.encs h_z28 (((), (a0, ())), (((), ((), ((), (a1, ())))), ((a2, ()), (a3, ((a4, ()), (a5, ())))))).2) = M_z28 n a0 a1 a2 a3 a4 a5 := by kernel_rfl
theorem g_z28 (n : Nat) (a0 : FieldS) (a1 : Int) (a2 : Nat) (a3 : (List Int)) (a4 : Nat) (a5 : (List Int)) {r : Res} (h : M_z28 n a0 a1 a2 a3 a4 a5 = some r) : runF Try.prog cf_z28 n p_z28 36 (EK.encs e_z28 (((), (a0, ())), (((), ((), ((), (a1, ())))), ((a2, ()), (a3, ((a4, ()), (a5, ())))))).1) (HK.encs h_z28 (((), (a0, ())), (((), ((), ((), (a1, ())))), ((a2, ()), (a3, ((a4, ()), (a5, ())))))).2) = some r := by
  have hb : LOk Try.prog cf_z28 Try.f36.ntmps 5 n p_z28 (ls_z28 n) (bodyOf Try.f36) := ⟨trivial, ⟨⟨trivial, ⟨⟨trivial, trivial⟩, trivial⟩⟩, ⟨⟨trivial, ⟨trivial, ⟨⟨trivial, trivial⟩, ⟨trivial, ⟨⟨trivial, trivial⟩, ⟨trivial, ⟨⟨trivial, (o_z28_1 n)⟩, trivial⟩⟩⟩⟩⟩⟩⟩, ⟨trivial, trivial⟩⟩⟩⟩
  exact runFT_some Try.prog (c := bodyOf Try.f36) Try.func36 (show Try.f36.body = some (bodyOf Try.f36) from rfl) (show (2 : Nat) ≤ 51 by decide) hb ((m_z28 n a0 a1 a2 a3 a4 a5).trans h) rfl (by kernel_rfl)
noncomputable def c_z28 : Spec := specTr e_z28 h_z28 fun a b => (altTr ro_z28 rh_z28 (Q_z28 a.2.1 b.1.2.2.2.1 b.2.1.1 b.2.2.1 b.2.2.2.1.1 b.2.2.2.2.1) (altTr ro_z28_1 rh_z28_1 (Q_z28_1 a.2.1 b.1.2.2.2.1 b.2.1.1 b.2.2.1 b.2.2.2.1.1 b.2.2.2.2.1) (altTr ro_z28_2 rh_z28_2 (Q_z28_2 a.2.1 b.1.2.2.2.1 b.2.1.1 b.2.2.1 b.2.2.2.1.1 b.2.2.2.2.1) .no)))
theorem k_z28 (hm : Try.prog.follows .mixedOrders = true) : SpecOk Try.prog 36 c_z28 := specTr_ok (pol := p_z28) hm (cf := cf_z28) (tab_ok specs_nil) fun a b r => (fun h => (altTr_val h).elim (fun ⟨x, hx, e⟩ => ⟨FUEL, e ▸ g_z28 FUEL a.2.1 b.1.2.2.2.1 b.2.1.1 b.2.2.1 b.2.2.2.1.1 b.2.2.2.2.1 (decRes_some hx)⟩) (fun h => (altTr_val h).elim (fun ⟨x, hx, e⟩ => ⟨FUEL, e ▸ g_z28 FUEL a.2.1 b.1.2.2.2.1 b.2.1.1 b.2.2.1 b.2.2.2.1.1 b.2.2.2.2.1 (decRes_some hx)⟩) (fun h => (altTr_val h).elim (fun ⟨x, hx, e⟩ => ⟨FUEL, e ▸ g_z28 FUEL a.2.1 b.1.2.2.2.1 b.2.1.1 b.2.2.1 b.2.2.2.1.1 b.2.2.2.2.1 (decRes_some hx)⟩) (fun h => by cases h))))
def s_z29_r : Sig := ⟨[4, 5], [.ty (.int .i64), .ty (.int .i64)], [.one false [.ptr 1 0 0, .nul 4, .ptr 3 0 0, .ty (.int .i64)], .one false [.hs 2 0], .row (.int .u8), .one false [.hs 4 0], .row (.int .u8)]⟩
def p_z29 : Pol := ⟨fun i => none, fun i => none, some [(4, .keep), (5, .keep)], [.keep, .keep], []⟩
def e_z29 : List EK := [.ptr 0 0 0, .agg FieldT]
def h_z29 : List HK := [.one false [.ptr 1 0 0, .nul 4, .ptr 3 0 0, .ty (.int .i64)], .one false [.hs 2 0], .row (.int .u8), .one false [.hs 4 0], .row (.int .u8)]
noncomputable def cf_z29 : CallF := mkCF [(36, c_z28), (37, (orSpec c_z1e c_z1g))] []
noncomputable def ls_z29 (n : Nat) : Loops := fun i =>  none
theorem m_z29 (n : Nat) (a0 : FieldS) (a1 : Int) (a2 : Nat) (a3 : (List Int)) (a4 : Nat) (a5 : (List Int)) : runFT Try.prog cf_z29 p_z29 (ls_z29 n) Try.f12 (bodyOf Try.f12) (EK.encs e_z29 (((), (a0, ())), (((), ((), ((), (a1, ())))), ((a2, ()), (a3, ((a4, ()), (a5, ())))))).1) (HK.encs h_z29 (((), (a0, ())), (((), ((), ((), (a1, ())))), ((a2, ()), (a3, ((a4, ()), (a5, ())))))).2) = M_z29 n a0 a1 a2 a3 a4 a5 := by kernel_rfl
theorem g_z29 (n : Nat) (a0 : FieldS) (a1 : Int) (a2 : Nat) (a3 : (List Int)) (a4 : Nat) (a5 : (List Int)) {r : Res} (h : M_z29 n a0 a1 a2 a3 a4 a5 = some r) : runF Try.prog cf_z29 n p_z29 12 (EK.encs e_z29 (((), (a0, ())), (((), ((), ((), (a1, ())))), ((a2, ()), (a3, ((a4, ()), (a5, ())))))).1) (HK.encs h_z29 (((), (a0, ())), (((), ((), ((), (a1, ())))), ((a2, ()), (a3, ((a4, ()), (a5, ())))))).2) = some r := by
  have hb : LOk Try.prog cf_z29 Try.f12.ntmps 5 n p_z29 (ls_z29 n) (bodyOf Try.f12) := ⟨trivial, ⟨trivial, ⟨⟨trivial, ⟨⟨trivial, trivial⟩, trivial⟩⟩, ⟨trivial, trivial⟩⟩⟩⟩
  exact runFT_some Try.prog (c := bodyOf Try.f12) Try.func12 (show Try.f12.body = some (bodyOf Try.f12) from rfl) (show (2 : Nat) ≤ 25 by decide) hb ((m_z29 n a0 a1 a2 a3 a4 a5).trans h) rfl (by kernel_rfl)
noncomputable def c_z29 : Spec := specQ e_z29 h_z29 ro_z29 rh_z29 fun a b => Q_z29 a.2.1 b.1.2.2.2.1 b.2.1.1 b.2.2.1 b.2.2.2.1.1 b.2.2.2.2.1
theorem k_z29 (hm : Try.prog.follows .mixedOrders = true) : SpecOk Try.prog 12 c_z29 := specQ_ok (pol := p_z29) hm (cf := cf_z29) (tab_ok (specs_cons (k_z28 hm) (specs_cons (orSpec_ok (k_z1e hm) (k_z1g hm)) specs_nil))) fun a b r h => ⟨FUEL, g_z29 FUEL a.2.1 b.1.2.2.2.1 b.2.1.1 b.2.2.1 b.2.2.2.1.1 b.2.2.2.2.1 (decRes_some h)⟩
end Go.AMach
