/- A part of the walk. -/
import Derived.Test.YtphmidhlgkclgaaDx
import Derived.Test.YtphmidhlgkclgaaProg
import Derived.Test.YtphmidhlgkclgaaHb
import Derived.Test.YtphmidhlgkclgaaAm23
namespace Go.AMach
set_option linter.unusedVariables false
set_option linter.unusedSimpArgs false
set_option linter.unnecessarySimpa false
open Go Go.Proofs
set_option linter.unusedVariables false
noncomputable instance : Sites := ⟨fun k => if k = 0 then rfOf (partOf (bodyOf Try.f62) [1, 1, 1, 1, 0, 1, 0]) else none⟩
def s_z00_r : Sig := ⟨[2, 3], [.nul 0, .ty (.int .i64)], []⟩
def s_z00_r1 : Sig := ⟨[2, 3], [.ptr 0 0 0, .ty (.int .i64)], [.one false [.hs 1 0], .row (.int .u8)]⟩
def p_z00 : Pol := ⟨fun i => none, fun i => none, some [(2, .keep), (3, .keep)], [.keep, .keep], []⟩
def e_z00 : List EK := [.ty .str]
def h_z00 : List HK := []
noncomputable def cf_z00 : CallF := mkCF [] []
noncomputable def ls_z00 (n : Nat) : Loops := fun i =>  none
theorem m_z00 (n : Nat) (a0 : ByteArray) : runFT Try.prog cf_z00 p_z00 (ls_z00 n) Try.f39 (bodyOf Try.f39) (EK.encs e_z00 ((a0, ()), ()).1) (HK.encs h_z00 ((a0, ()), ()).2) = M_z00 n a0 := by kernel_rfl
theorem g_z00 (n : Nat) (a0 : ByteArray) {r : Res} (h : M_z00 n a0 = some r) : runF Try.prog cf_z00 n p_z00 39 (EK.encs e_z00 ((a0, ()), ()).1) (HK.encs h_z00 ((a0, ()), ()).2) = some r := by
  have hb : LOk Try.prog cf_z00 Try.f39.ntmps 0 n p_z00 (ls_z00 n) (bodyOf Try.f39) := ⟨trivial, ⟨⟨trivial, ⟨⟨trivial, trivial⟩, trivial⟩⟩, ⟨trivial, trivial⟩⟩⟩
  exact runFT_some Try.prog (c := bodyOf Try.f39) Try.func39 (show Try.f39.body = some (bodyOf Try.f39) from rfl) (show (1 : Nat) ≤ 11 by decide) hb ((m_z00 n a0).trans h) rfl (by kernel_rfl)
noncomputable def c_z00 : Spec := specTr e_z00 h_z00 fun a b => (altTr ro_z00 rh_z00 (Q_z00 a.1) (altTr ro_z00_1 rh_z00_1 (Q_z00_1 a.1) .no))
theorem k_z00 (hm : Try.prog.follows .mixedOrders = true) : SpecOk Try.prog 39 c_z00 := specTr_ok (pol := p_z00) hm (cf := cf_z00) (tab_ok specs_nil) fun a b r => (fun h => (altTr_val h).elim (fun ⟨x, hx, e⟩ => ⟨FUEL, e ▸ g_z00 FUEL a.1 (decRes_some hx)⟩) (fun h => (altTr_val h).elim (fun ⟨x, hx, e⟩ => ⟨FUEL, e ▸ g_z00 FUEL a.1 (decRes_some hx)⟩) (fun h => by cases h)))
def s_z01_r : Sig := ⟨[4, 5], [.ptr 0 0 0, .ty (.int .i64)], [.one false [.ptr 1 0 0, .nul 4, .ptr 3 0 0, .ty (.int .i64)], .one false [.hs 2 0], .row (.int .u8), .one false [.hs 4 0], .row (.int .u8)]⟩
def s_z01_r1 : Sig := ⟨[4, 5], [.ptr 0 0 0, .ty (.int .i64)], [.one false [.ptr 1 0 0, .nul 4, .nul 0, .ty (.int .i64)], .one false [.hs 2 0], .row (.int .u8)]⟩
def s_z01_r2 : Sig := ⟨[4, 5], [.nul 0, .ty (.int .i64)], []⟩
def p_z01 : Pol := ⟨fun i => none, fun i => none, some [(4, .keep), (5, .keep)], [.keep, .keep], []⟩
def e_z01 : List EK := [.ty (.int .i64), .ty .str]
def h_z01 : List HK := []
noncomputable def cf_z01 : CallF := mkCF [(39, c_z00)] [(39, [.str])]
noncomputable def ls_z01 (n : Nat) : Loops := fun i =>  none
theorem m_z01 (n : Nat) (a0 : Int) (a1 : ByteArray) : runFT Try.prog cf_z01 p_z01 (ls_z01 n) Try.f19 (bodyOf Try.f19) (EK.encs e_z01 ((a0, (a1, ())), ()).1) (HK.encs h_z01 ((a0, (a1, ())), ()).2) = M_z01 n a0 a1 := by kernel_rfl
theorem g_z01 (n : Nat) (a0 : Int) (a1 : ByteArray) {r : Res} (h : M_z01 n a0 a1 = some r) : runF Try.prog cf_z01 n p_z01 19 (EK.encs e_z01 ((a0, (a1, ())), ()).1) (HK.encs h_z01 ((a0, (a1, ())), ()).2) = some r := by
  have hb : LOk Try.prog cf_z01 Try.f19.ntmps 0 n p_z01 (ls_z01 n) (bodyOf Try.f19) := ⟨trivial, ⟨trivial, ⟨⟨trivial, ⟨⟨trivial, trivial⟩, trivial⟩⟩, ⟨trivial, ⟨trivial, trivial⟩⟩⟩⟩⟩
  exact runFT_some Try.prog (c := bodyOf Try.f19) Try.func19 (show Try.f19.body = some (bodyOf Try.f19) from rfl) (show (2 : Nat) ≤ 29 by decide) hb ((m_z01 n a0 a1).trans h) rfl (by kernel_rfl)
noncomputable def c_z01 : Spec := specTr e_z01 h_z01 fun a b => (altTr ro_z01 rh_z01 (Q_z01 a.1 a.2.1) (altTr ro_z01_2 rh_z01_2 (Q_z01_2 a.1 a.2.1) .no))
theorem k_z01 (hm : Try.prog.follows .mixedOrders = true) : SpecOk Try.prog 19 c_z01 := specTr_ok (pol := p_z01) hm (cf := cf_z01) (tab_ok (specs_cons (k_z00 hm) specs_nil)) fun a b r => (fun h => (altTr_val h).elim (fun ⟨x, hx, e⟩ => ⟨FUEL, e ▸ g_z01 FUEL a.1 a.2.1 (decRes_some hx)⟩) (fun h => (altTr_val h).elim (fun ⟨x, hx, e⟩ => ⟨FUEL, e ▸ g_z01 FUEL a.1 a.2.1 (decRes_some hx)⟩) (fun h => by cases h)))
def s_z02_r : Sig := ⟨[4], [.ptr 0 0 0], [.cell FieldT]⟩
def p_z02 : Pol := ⟨fun i => none, fun i => none, some [(4, (.own FieldT))], [.keep], []⟩
def e_z02 : List EK := [.ty (.int .i64), .ty (.int .i64)]
def h_z02 : List HK := []
noncomputable def cf_z02 : CallF := mkCF [] []
noncomputable def ls_z02 (n : Nat) : Loops := fun i =>  none
theorem m_z02 (n : Nat) (a0 : Int) (a1 : Int) : runFT Try.prog cf_z02 p_z02 (ls_z02 n) Try.f21 (bodyOf Try.f21) (EK.encs e_z02 ((a0, (a1, ())), ()).1) (HK.encs h_z02 ((a0, (a1, ())), ()).2) = M_z02 n a0 a1 := by kernel_rfl
theorem g_z02 (n : Nat) (a0 : Int) (a1 : Int) {r : Res} (h : M_z02 n a0 a1 = some r) : runF Try.prog cf_z02 n p_z02 21 (EK.encs e_z02 ((a0, (a1, ())), ()).1) (HK.encs h_z02 ((a0, (a1, ())), ()).2) = some r := by
  have hb : LOk Try.prog cf_z02 Try.f21.ntmps 0 n p_z02 (ls_z02 n) (bodyOf Try.f21) := ⟨trivial, ⟨trivial, trivial⟩⟩
  exact runFT_some Try.prog (c := bodyOf Try.f21) Try.func21 (show Try.f21.body = some (bodyOf Try.f21) from rfl) (show (2 : Nat) ≤ 8 by decide) hb ((m_z02 n a0 a1).trans h) rfl (by kernel_rfl)
noncomputable def c_z02 : Spec := specQ e_z02 h_z02 ro_z02 rh_z02 fun a b => Q_z02 a.1 a.2.1
theorem k_z02 (hm : Try.prog.follows .mixedOrders = true) : SpecOk Try.prog 21 c_z02 := specQ_ok (pol := p_z02) hm (cf := cf_z02) (tab_ok specs_nil) fun a b r h => ⟨FUEL, g_z02 FUEL a.1 a.2.1 (decRes_some h)⟩
def s_z03_r : Sig := ⟨[4, 5, 6], [.ptr 1 0 0, .ty (.int .i64), .ty (.int .i64)], [.one false [.ptr 1 0 0, .nul 4, .ptr 3 0 0, .ty (.int .i64)], .one false [.hs 2 0], .row (.int .u8), .one false [.hs 4 0], .row (.int .u8)]⟩
def s_z03_r1 : Sig := ⟨[4, 5, 6], [.ptr 3 0 0, .ty (.int .i64), .ty (.int .i64)], [.one false [.ptr 1 0 0, .nul 4, .ptr 3 0 0, .ty (.int .i64)], .one false [.hs 2 0], .row (.int .u8), .one false [.hs 4 0], .row (.int .u8)]⟩
def s_z03_h1 : Sig := ⟨[0, 3, 32, 33, 34], [.ptr 0 0 0, .ptr 5 0 0, .hs 6 0, .ty (.int .i64), .ty (.int .i64)], [.one false [.ptr 1 0 0, .nul 4, .ptr 3 0 0, .ty (.int .i64)], .one false [.hs 2 0], .row (.int .u8), .one false [.hs 4 0], .row (.int .u8), .cell FieldT, .row HeadT]⟩
def s_z03_t1 : Sig := ⟨[], [], [.one false [.ptr 1 0 0, .nul 4, .ptr 3 0 0, .ty (.int .i64)], .one false [.hs 2 0], .row (.int .u8), .one false [.hs 4 0], .row (.int .u8)]⟩
def s_z03_r2 : Sig := ⟨[4, 5, 6], [.nul 0, .ty (.int .i64), .ty (.int .i64)], [.one false [.ptr 1 0 0, .nul 4, .ptr 3 0 0, .ty (.int .i64)], .one false [.hs 2 0], .row (.int .u8), .one false [.hs 4 0], .row (.int .u8)]⟩
def p_z03 : Pol := ⟨fun i => if i = 1 then some [(0, .keep), (3, (.own FieldT)), (32, (.own HeadT)), (33, .keep), (34, .keep)] else none, fun i => if i = 1 then some [] else none, some [(4, .keep), (5, .keep), (6, .keep)], [.keep, .keep, .keep], []⟩
def e_z03 : List EK := [.ptr 0 0 0, .agg FieldT]
def h_z03 : List HK := [.one false [.ptr 1 0 0, .nul 4, .ptr 3 0 0, .ty (.int .i64)], .one false [.hs 2 0], .row (.int .u8), .one false [.hs 4 0], .row (.int .u8)]
noncomputable def cf_z03 : CallF := mkCF [] []
noncomputable def ls_z03 (n : Nat) : Loops := fun i => if i = 1 then some (loopT 5 (p_z03.head 1) s_z03_h1 fun K v => L_z03_1 n (fun z0 z1 => K .rt (s_z03_r.enc (((), (z0, (z1, ()))), (((), ((), ((), (v.2.1.2.2.2.1, ())))), ((v.2.2.1.1, ()), (v.2.2.2.1, ((v.2.2.2.2.1.1, ()), (v.2.2.2.2.2.1, ())))))))) (fun _ => K (.ex 1) (s_z03_t1.enc ((), (((), ((), ((), (v.2.1.2.2.2.1, ())))), ((v.2.2.1.1, ()), (v.2.2.2.1, ((v.2.2.2.2.1.1, ()), (v.2.2.2.2.2.1, ())))))))) v.1.2.2.1 v.1.2.2.2.1 v.2.2.2.2.2.2.1 v.2.2.2.2.2.2.2.1 n v.1.2.2.2.2.1)
  else  none
noncomputable def b_z03_1 : Code := partOf (bodyOf Try.f53) [1, 1, 0, 1, 0, 1, 1, 1, 1, 1, 0, 1, 0, 0]
noncomputable def V_z03_1 (n : Nat) (K : Cont) (rec : Sig.sem s_z03_h1 → Option Res) (v : Sig.sem s_z03_h1) : Option Res := F_z03_1 n (fun z0 z1 => K .rt (s_z03_r.enc (((), (z0, (z1, ()))), (((), ((), ((), (v.2.1.2.2.2.1, ())))), ((v.2.2.1.1, ()), (v.2.2.2.1, ((v.2.2.2.2.1.1, ()), (v.2.2.2.2.2.1, ())))))))) (fun _ => K (.ex 1) (s_z03_t1.enc ((), (((), ((), ((), (v.2.1.2.2.2.1, ())))), ((v.2.2.1.1, ()), (v.2.2.2.1, ((v.2.2.2.2.1.1, ()), (v.2.2.2.2.2.1, ())))))))) v.1.2.2.1 v.1.2.2.2.1 v.2.2.2.2.2.2.1 v.2.2.2.2.2.2.2.1 (fun z2 => rec (((), ((), (v.1.2.2.1, (v.1.2.2.2.1, (z2, ()))))), (((), ((), ((), (v.2.1.2.2.2.1, ())))), ((v.2.2.1.1, ()), (v.2.2.2.1, ((v.2.2.2.2.1.1, ()), (v.2.2.2.2.2.1, (v.2.2.2.2.2.2.1, (v.2.2.2.2.2.2.2.1, ()))))))))) v.1.2.2.2.2.1
theorem t_z03_1 (n : Nat) (K : Cont) (rec : Sig.sem s_z03_h1 → Option Res) (v : Sig.sem s_z03_h1) : runT Try.prog cf_z03 Try.f53.ntmps 5 p_z03 (ls_z03 n) b_z03_1 (s_z03_h1.enc v) (turnK 5 (p_z03.head 1) s_z03_h1 rec K) = V_z03_1 n K rec v := by kernel_rfl
noncomputable def W_z03_1 (n : Nat) (K : Cont) (m : Nat) (v : Sig.sem s_z03_h1) : Option Res := L_z03_1 n (fun z0 z1 => K .rt (s_z03_r.enc (((), (z0, (z1, ()))), (((), ((), ((), (v.2.1.2.2.2.1, ())))), ((v.2.2.1.1, ()), (v.2.2.2.1, ((v.2.2.2.2.1.1, ()), (v.2.2.2.2.2.1, ())))))))) (fun _ => K (.ex 1) (s_z03_t1.enc ((), (((), ((), ((), (v.2.1.2.2.2.1, ())))), ((v.2.2.1.1, ()), (v.2.2.2.1, ((v.2.2.2.2.1.1, ()), (v.2.2.2.2.2.1, ())))))))) v.1.2.2.1 v.1.2.2.2.1 v.2.2.2.2.2.2.1 v.2.2.2.2.2.2.2.1 m v.1.2.2.2.2.1
theorem i_z03_1 (n : Nat) (K : Cont) : ∀ m v, iter (V_z03_1 n K) m v = W_z03_1 n K m v := by
  intro m
  induction m with
  | zero => intro v; rfl
  | succ m ih =>
    intro v
    show V_z03_1 n K (iter (V_z03_1 n K) m) v = V_z03_1 n K (W_z03_1 n K m) v
    rw [show iter (V_z03_1 n K) m = W_z03_1 n K m from funext ih]
theorem o_z03_1 (n : Nat) : ∀ L, ls_z03 n 1 = some L → ∀ s K r, L s K = some r → ∃ x s', loopN (run Try.prog cf_z03 Try.f53.ntmps 5 n p_z03 none b_z03_1) (gc 5 (p_z03.head 1)) n s = some (x, s') ∧ K x s' = some r := by
  intro L hL s K r h
  have hL : some (loopT 5 (p_z03.head 1) s_z03_h1 fun K v => W_z03_1 n K n v) = some L := hL
  cases hL
  have hb : LOk Try.prog cf_z03 Try.f53.ntmps 5 n p_z03 (ls_z03 n) b_z03_1 := ⟨trivial, ⟨⟨trivial, trivial⟩, ⟨⟨trivial, ⟨trivial, ⟨⟨trivial, trivial⟩, trivial⟩⟩⟩, trivial⟩⟩⟩
  refine loopT_ok hb (V_z03_1 n) (t_z03_1 n) n s K r ?_
  rw [← h]
  unfold loopT
  simp only [i_z03_1]
theorem m_z03 (n : Nat) (a0 : FieldS) (a1 : Int) (a2 : Nat) (a3 : (List Int)) (a4 : Nat) (a5 : (List Int)) : runFT Try.prog cf_z03 p_z03 (ls_z03 n) Try.f53 (bodyOf Try.f53) (EK.encs e_z03 (((), (a0, ())), (((), ((), ((), (a1, ())))), ((a2, ()), (a3, ((a4, ()), (a5, ())))))).1) (HK.encs h_z03 (((), (a0, ())), (((), ((), ((), (a1, ())))), ((a2, ()), (a3, ((a4, ()), (a5, ())))))).2) = M_z03 n a0 a1 a2 a3 a4 a5 := by kernel_rfl
theorem g_z03 (n : Nat) (a0 : FieldS) (a1 : Int) (a2 : Nat) (a3 : (List Int)) (a4 : Nat) (a5 : (List Int)) {r : Res} (h : M_z03 n a0 a1 a2 a3 a4 a5 = some r) : runF Try.prog cf_z03 n p_z03 53 (EK.encs e_z03 (((), (a0, ())), (((), ((), ((), (a1, ())))), ((a2, ()), (a3, ((a4, ()), (a5, ())))))).1) (HK.encs h_z03 (((), (a0, ())), (((), ((), ((), (a1, ())))), ((a2, ()), (a3, ((a4, ()), (a5, ())))))).2) = some r := by
  have hb : LOk Try.prog cf_z03 Try.f53.ntmps 5 n p_z03 (ls_z03 n) (bodyOf Try.f53) := ⟨trivial, ⟨⟨trivial, ⟨⟨trivial, trivial⟩, trivial⟩⟩, ⟨⟨trivial, ⟨trivial, ⟨⟨trivial, trivial⟩, ⟨trivial, ⟨⟨trivial, trivial⟩, ⟨trivial, ⟨⟨trivial, (o_z03_1 n)⟩, trivial⟩⟩⟩⟩⟩⟩⟩, ⟨trivial, trivial⟩⟩⟩⟩
  exact runFT_some Try.prog (c := bodyOf Try.f53) Try.func53 (show Try.f53.body = some (bodyOf Try.f53) from rfl) (show (2 : Nat) ≤ 51 by decide) hb ((m_z03 n a0 a1 a2 a3 a4 a5).trans h) rfl (by kernel_rfl)
noncomputable def c_z03 : Spec := specTr e_z03 h_z03 fun a b => (altTr ro_z03 rh_z03 (Q_z03 a.2.1 b.1.2.2.2.1 b.2.1.1 b.2.2.1 b.2.2.2.1.1 b.2.2.2.2.1) (altTr ro_z03_1 rh_z03_1 (Q_z03_1 a.2.1 b.1.2.2.2.1 b.2.1.1 b.2.2.1 b.2.2.2.1.1 b.2.2.2.2.1) (altTr ro_z03_2 rh_z03_2 (Q_z03_2 a.2.1 b.1.2.2.2.1 b.2.1.1 b.2.2.1 b.2.2.2.1.1 b.2.2.2.2.1) .no)))
theorem k_z03 (hm : Try.prog.follows .mixedOrders = true) : SpecOk Try.prog 53 c_z03 := specTr_ok (pol := p_z03) hm (cf := cf_z03) (tab_ok specs_nil) fun a b r => (fun h => (altTr_val h).elim (fun ⟨x, hx, e⟩ => ⟨FUEL, e ▸ g_z03 FUEL a.2.1 b.1.2.2.2.1 b.2.1.1 b.2.2.1 b.2.2.2.1.1 b.2.2.2.2.1 (decRes_some hx)⟩) (fun h => (altTr_val h).elim (fun ⟨x, hx, e⟩ => ⟨FUEL, e ▸ g_z03 FUEL a.2.1 b.1.2.2.2.1 b.2.1.1 b.2.2.1 b.2.2.2.1.1 b.2.2.2.2.1 (decRes_some hx)⟩) (fun h => (altTr_val h).elim (fun ⟨x, hx, e⟩ => ⟨FUEL, e ▸ g_z03 FUEL a.2.1 b.1.2.2.2.1 b.2.1.1 b.2.2.1 b.2.2.2.1.1 b.2.2.2.2.1 (decRes_some hx)⟩) (fun h => by cases h))))
def s_z04_r : Sig := ⟨[4], [.ty (.int .i64)], []⟩
def p_z04 : Pol := ⟨fun i => none, fun i => none, some [(4, .keep)], [.keep], []⟩
def e_z04 : List EK := [.ty (.int .i64), .ty (.int .i64)]
def h_z04 : List HK := []
noncomputable def cf_z04 : CallF := mkCF [] []
noncomputable def ls_z04 (n : Nat) : Loops := fun i =>  none
theorem m_z04 (n : Nat) (a0 : Int) (a1 : Int) : runFT Try.prog cf_z04 p_z04 (ls_z04 n) Try.f55 (bodyOf Try.f55) (EK.encs e_z04 ((a0, (a1, ())), ()).1) (HK.encs h_z04 ((a0, (a1, ())), ()).2) = M_z04 n a0 a1 := by kernel_rfl
theorem g_z04 (n : Nat) (a0 : Int) (a1 : Int) {r : Res} (h : M_z04 n a0 a1 = some r) : runF Try.prog cf_z04 n p_z04 55 (EK.encs e_z04 ((a0, (a1, ())), ()).1) (HK.encs h_z04 ((a0, (a1, ())), ()).2) = some r := by
  have hb : LOk Try.prog cf_z04 Try.f55.ntmps 0 n p_z04 (ls_z04 n) (bodyOf Try.f55) := ⟨trivial, ⟨⟨trivial, ⟨⟨trivial, trivial⟩, trivial⟩⟩, ⟨trivial, trivial⟩⟩⟩
  exact runFT_some Try.prog (c := bodyOf Try.f55) Try.func55 (show Try.f55.body = some (bodyOf Try.f55) from rfl) (show (2 : Nat) ≤ 12 by decide) hb ((m_z04 n a0 a1).trans h) rfl (by kernel_rfl)
noncomputable def c_z04 : Spec := specQ e_z04 h_z04 ro_z04 rh_z04 fun a b => Q_z04 a.1 a.2.1
theorem k_z04 (hm : Try.prog.follows .mixedOrders = true) : SpecOk Try.prog 55 c_z04 := specQ_ok (pol := p_z04) hm (cf := cf_z04) (tab_ok specs_nil) fun a b r h => ⟨FUEL, g_z04 FUEL a.1 a.2.1 (decRes_some h)⟩
def s_z05_r : Sig := ⟨[6, 7], [.ptr 0 0 0, .ty (.int .i64)], [.cell WordT]⟩
def p_z05 : Pol := ⟨fun i => none, fun i => none, some [(6, (.own WordT)), (7, .keep)], [.keep, .keep], []⟩
def e_z05 : List EK := [.nul 0, .ty (.int .i64), .ty (.int .i64)]
def h_z05 : List HK := []
noncomputable def cf_z05 : CallF := mkCF [] []
noncomputable def ls_z05 (n : Nat) : Loops := fun i =>  none
theorem m_z05 (n : Nat) (a0 : Int) (a1 : Int) : runFT Try.prog cf_z05 p_z05 (ls_z05 n) Try.f54 (bodyOf Try.f54) (EK.encs e_z05 (((), (a0, (a1, ()))), ()).1) (HK.encs h_z05 (((), (a0, (a1, ()))), ()).2) = M_z05 n a0 a1 := by kernel_rfl
theorem g_z05 (n : Nat) (a0 : Int) (a1 : Int) {r : Res} (h : M_z05 n a0 a1 = some r) : runF Try.prog cf_z05 n p_z05 54 (EK.encs e_z05 (((), (a0, (a1, ()))), ()).1) (HK.encs h_z05 (((), (a0, (a1, ()))), ()).2) = some r := by
  have hb : LOk Try.prog cf_z05 Try.f54.ntmps 0 n p_z05 (ls_z05 n) (bodyOf Try.f54) := ⟨trivial, ⟨⟨trivial, ⟨⟨trivial, trivial⟩, trivial⟩⟩, ⟨trivial, ⟨trivial, trivial⟩⟩⟩⟩
  exact runFT_some Try.prog (c := bodyOf Try.f54) Try.func54 (show Try.f54.body = some (bodyOf Try.f54) from rfl) (show (3 : Nat) ≤ 30 by decide) hb ((m_z05 n a0 a1).trans h) rfl (by kernel_rfl)
noncomputable def c_z05 : Spec := specQ e_z05 h_z05 ro_z05 rh_z05 fun a b => Q_z05 a.2.1 a.2.2.1
theorem k_z05 (hm : Try.prog.follows .mixedOrders = true) : SpecOk Try.prog 54 c_z05 := specQ_ok (pol := p_z05) hm (cf := cf_z05) (tab_ok specs_nil) fun a b r h => ⟨FUEL, g_z05 FUEL a.2.1 a.2.2.1 (decRes_some h)⟩
def s_z06_r : Sig := ⟨[6, 7], [.hs 1 0, .ty (.int .i64)], [.one false [.hs 1 0], .row (.int .u8)]⟩
def s_z06_r1 : Sig := ⟨[6, 7], [.hv 1, .ty (.int .i64)], [.one false [.hs 1 0], .row (.int .u8)]⟩
def p_z06 : Pol := ⟨fun i => none, fun i => none, some [(6, (.own (.int .u8))), (7, .keep)], [(.own (.int .u8)), .keep], []⟩
def e_z06 : List EK := [.ptr 0 0 0, .ty (.int .i64), .ty (.int .i64)]
def h_z06 : List HK := [.one false [.hs 1 0], .row (.int .u8)]
noncomputable def cf_z06 : CallF := mkCF [] []
noncomputable def ls_z06 (n : Nat) : Loops := fun i =>  none
theorem m_z06 (n : Nat) (a0 : Int) (a1 : Int) (a2 : Nat) (a3 : (List Int)) : runFT Try.prog cf_z06 p_z06 (ls_z06 n) Try.f70 (bodyOf Try.f70) (EK.encs e_z06 (((), (a0, (a1, ()))), ((a2, ()), (a3, ()))).1) (HK.encs h_z06 (((), (a0, (a1, ()))), ((a2, ()), (a3, ()))).2) = M_z06 n a0 a1 a2 a3 := by kernel_rfl
theorem g_z06 (n : Nat) (a0 : Int) (a1 : Int) (a2 : Nat) (a3 : (List Int)) {r : Res} (h : M_z06 n a0 a1 a2 a3 = some r) : runF Try.prog cf_z06 n p_z06 70 (EK.encs e_z06 (((), (a0, (a1, ()))), ((a2, ()), (a3, ()))).1) (HK.encs h_z06 (((), (a0, (a1, ()))), ((a2, ()), (a3, ()))).2) = some r := by
  have hb : LOk Try.prog cf_z06 Try.f70.ntmps 2 n p_z06 (ls_z06 n) (bodyOf Try.f70) := ⟨trivial, ⟨⟨trivial, ⟨⟨trivial, trivial⟩, trivial⟩⟩, ⟨trivial, ⟨trivial, trivial⟩⟩⟩⟩
  exact runFT_some Try.prog (c := bodyOf Try.f70) Try.func70 (show Try.f70.body = some (bodyOf Try.f70) from rfl) (show (3 : Nat) ≤ 49 by decide) hb ((m_z06 n a0 a1 a2 a3).trans h) rfl (by kernel_rfl)
noncomputable def c_z06 : Spec := specTr e_z06 h_z06 fun a b => (altTr ro_z06 rh_z06 (Q_z06 a.2.1 a.2.2.1 b.1.1 b.2.1) (altTr ro_z06_1 rh_z06_1 (Q_z06_1 a.2.1 a.2.2.1 b.1.1 b.2.1) .no))
theorem k_z06 (hm : Try.prog.follows .mixedOrders = true) : SpecOk Try.prog 70 c_z06 := specTr_ok (pol := p_z06) hm (cf := cf_z06) (tab_ok specs_nil) fun a b r => (fun h => (altTr_val h).elim (fun ⟨x, hx, e⟩ => ⟨FUEL, e ▸ g_z06 FUEL a.2.1 a.2.2.1 b.1.1 b.2.1 (decRes_some hx)⟩) (fun h => (altTr_val h).elim (fun ⟨x, hx, e⟩ => ⟨FUEL, e ▸ g_z06 FUEL a.2.1 a.2.2.1 b.1.1 b.2.1 (decRes_some hx)⟩) (fun h => by cases h)))
def s_z07_r : Sig := ⟨[6], [.ty (.int .i64)], []⟩
def p_z07 : Pol := ⟨fun i => none, fun i => none, some [(6, .keep)], [.keep], []⟩
def e_z07 : List EK := [.ty .str, .ty (.int .i64), .ty (.int .i64)]
def h_z07 : List HK := []
noncomputable def cf_z07 : CallF := mkCF [] []
noncomputable def ls_z07 (n : Nat) : Loops := fun i =>  none
theorem m_z07 (n : Nat) (a0 : ByteArray) (a1 : Int) (a2 : Int) : runFT Try.prog cf_z07 p_z07 (ls_z07 n) Try.f86 (bodyOf Try.f86) (EK.encs e_z07 ((a0, (a1, (a2, ()))), ()).1) (HK.encs h_z07 ((a0, (a1, (a2, ()))), ()).2) = M_z07 n a0 a1 a2 := by kernel_rfl
theorem g_z07 (n : Nat) (a0 : ByteArray) (a1 : Int) (a2 : Int) {r : Res} (h : M_z07 n a0 a1 a2 = some r) : runF Try.prog cf_z07 n p_z07 86 (EK.encs e_z07 ((a0, (a1, (a2, ()))), ()).1) (HK.encs h_z07 ((a0, (a1, (a2, ()))), ()).2) = some r := by
  have hb : LOk Try.prog cf_z07 Try.f86.ntmps 0 n p_z07 (ls_z07 n) (bodyOf Try.f86) := ⟨trivial, ⟨⟨trivial, ⟨⟨trivial, trivial⟩, ⟨trivial, ⟨⟨trivial, trivial⟩, trivial⟩⟩⟩⟩, ⟨trivial, trivial⟩⟩⟩
  exact runFT_some Try.prog (c := bodyOf Try.f86) Try.func86 (show Try.f86.body = some (bodyOf Try.f86) from rfl) (show (3 : Nat) ≤ 26 by decide) hb ((m_z07 n a0 a1 a2).trans h) rfl (by kernel_rfl)
noncomputable def c_z07 : Spec := specQ e_z07 h_z07 ro_z07 rh_z07 fun a b => Q_z07 a.1 a.2.1 a.2.2.1
theorem k_z07 (hm : Try.prog.follows .mixedOrders = true) : SpecOk Try.prog 86 c_z07 := specQ_ok (pol := p_z07) hm (cf := cf_z07) (tab_ok specs_nil) fun a b r h => ⟨FUEL, g_z07 FUEL a.1 a.2.1 a.2.2.1 (decRes_some h)⟩
def s_z08_r : Sig := ⟨[4], [.ptr 0 0 0], [.cell WordT]⟩
def p_z08 : Pol := ⟨fun i => none, fun i => none, some [(4, (.own WordT))], [.keep], []⟩
def e_z08 : List EK := [.agg WordT, .ty (.int .i64)]
def h_z08 : List HK := []
noncomputable def cf_z08 : CallF := mkCF [] []
noncomputable def ls_z08 (n : Nat) : Loops := fun i =>  none
theorem m_z08 (n : Nat) (a0 : WordS) (a1 : Int) : runFT Try.prog cf_z08 p_z08 (ls_z08 n) Try.f88 (bodyOf Try.f88) (EK.encs e_z08 ((a0, (a1, ())), ()).1) (HK.encs h_z08 ((a0, (a1, ())), ()).2) = M_z08 n a0 a1 := by kernel_rfl
theorem g_z08 (n : Nat) (a0 : WordS) (a1 : Int) {r : Res} (h : M_z08 n a0 a1 = some r) : runF Try.prog cf_z08 n p_z08 88 (EK.encs e_z08 ((a0, (a1, ())), ()).1) (HK.encs h_z08 ((a0, (a1, ())), ()).2) = some r := by
  have hb : LOk Try.prog cf_z08 Try.f88.ntmps 0 n p_z08 (ls_z08 n) (bodyOf Try.f88) := ⟨trivial, ⟨⟨trivial, ⟨⟨trivial, trivial⟩, ⟨trivial, ⟨⟨trivial, trivial⟩, trivial⟩⟩⟩⟩, ⟨trivial, trivial⟩⟩⟩
  exact runFT_some Try.prog (c := bodyOf Try.f88) Try.func88 (show Try.f88.body = some (bodyOf Try.f88) from rfl) (show (2 : Nat) ≤ 33 by decide) hb ((m_z08 n a0 a1).trans h) rfl (by kernel_rfl)
noncomputable def c_z08 : Spec := specQ e_z08 h_z08 ro_z08 rh_z08 fun a b => Q_z08 a.1 a.2.1
theorem k_z08 (hm : Try.prog.follows .mixedOrders = true) : SpecOk Try.prog 88 c_z08 := specQ_ok (pol := p_z08) hm (cf := cf_z08) (tab_ok specs_nil) fun a b r h => ⟨FUEL, g_z08 FUEL a.1 a.2.1 (decRes_some h)⟩
def s_z09_r : Sig := ⟨[2], [.ptr 0 0 0], [.cell WordT]⟩
def p_z09 : Pol := ⟨fun i => none, fun i => none, some [(2, (.own WordT))], [.keep], []⟩
def e_z09 : List EK := [.ty (.int .u64)]
def h_z09 : List HK := []
noncomputable def cf_z09 : CallF := mkCF [] []
noncomputable def ls_z09 (n : Nat) : Loops := fun i =>  none
theorem m_z09 (n : Nat) (a0 : Int) : runFT Try.prog cf_z09 p_z09 (ls_z09 n) Try.f89 (bodyOf Try.f89) (EK.encs e_z09 ((a0, ()), ()).1) (HK.encs h_z09 ((a0, ()), ()).2) = M_z09 n a0 := by kernel_rfl
theorem g_z09 (n : Nat) (a0 : Int) {r : Res} (h : M_z09 n a0 = some r) : runF Try.prog cf_z09 n p_z09 89 (EK.encs e_z09 ((a0, ()), ()).1) (HK.encs h_z09 ((a0, ()), ()).2) = some r := by
  have hb : LOk Try.prog cf_z09 Try.f89.ntmps 0 n p_z09 (ls_z09 n) (bodyOf Try.f89) := ⟨trivial, ⟨trivial, trivial⟩⟩
  exact runFT_some Try.prog (c := bodyOf Try.f89) Try.func89 (show Try.f89.body = some (bodyOf Try.f89) from rfl) (show (1 : Nat) ≤ 5 by decide) hb ((m_z09 n a0).trans h) rfl (by kernel_rfl)
noncomputable def c_z09 : Spec := specQ e_z09 h_z09 ro_z09 rh_z09 fun a b => Q_z09 a.1
theorem k_z09 (hm : Try.prog.follows .mixedOrders = true) : SpecOk Try.prog 89 c_z09 := specQ_ok (pol := p_z09) hm (cf := cf_z09) (tab_ok specs_nil) fun a b r h => ⟨FUEL, g_z09 FUEL a.1 (decRes_some h)⟩
def s_z0a_r : Sig := ⟨[4], [.ptr 0 0 0], [.cell WordT]⟩
def p_z0a : Pol := ⟨fun i => none, fun i => none, some [(4, (.own WordT))], [.keep], []⟩
def e_z0a : List EK := [.agg WordT, .agg WordT]
def h_z0a : List HK := []
noncomputable def cf_z0a : CallF := mkCF [] []
noncomputable def ls_z0a (n : Nat) : Loops := fun i =>  none
theorem m_z0a (n : Nat) (a0 : WordS) (a1 : WordS) : runFT Try.prog cf_z0a p_z0a (ls_z0a n) Try.f87 (bodyOf Try.f87) (EK.encs e_z0a ((a0, (a1, ())), ()).1) (HK.encs h_z0a ((a0, (a1, ())), ()).2) = M_z0a n a0 a1 := by kernel_rfl
theorem g_z0a (n : Nat) (a0 : WordS) (a1 : WordS) {r : Res} (h : M_z0a n a0 a1 = some r) : runF Try.prog cf_z0a n p_z0a 87 (EK.encs e_z0a ((a0, (a1, ())), ()).1) (HK.encs h_z0a ((a0, (a1, ())), ()).2) = some r := by
  have hb : LOk Try.prog cf_z0a Try.f87.ntmps 0 n p_z0a (ls_z0a n) (bodyOf Try.f87) := ⟨trivial, ⟨trivial, trivial⟩⟩
  exact runFT_some Try.prog (c := bodyOf Try.f87) Try.func87 (show Try.f87.body = some (bodyOf Try.f87) from rfl) (show (2 : Nat) ≤ 16 by decide) hb ((m_z0a n a0 a1).trans h) rfl (by kernel_rfl)
noncomputable def c_z0a : Spec := specQ e_z0a h_z0a ro_z0a rh_z0a fun a b => Q_z0a a.1 a.2.1
theorem k_z0a (hm : Try.prog.follows .mixedOrders = true) : SpecOk Try.prog 87 c_z0a := specQ_ok (pol := p_z0a) hm (cf := cf_z0a) (tab_ok specs_nil) fun a b r h => ⟨FUEL, g_z0a FUEL a.1 a.2.1 (decRes_some h)⟩
def s_z0b_r : Sig := ⟨[2], [.ptr 0 0 0], [.cell WordT]⟩
def p_z0b : Pol := ⟨fun i => none, fun i => none, some [(2, (.own WordT))], [.keep], []⟩
def e_z0b : List EK := [.agg WordT]
def h_z0b : List HK := []
noncomputable def cf_z0b : CallF := mkCF [] []
noncomputable def ls_z0b (n : Nat) : Loops := fun i =>  none
theorem m_z0b (n : Nat) (a0 : WordS) : runFT Try.prog cf_z0b p_z0b (ls_z0b n) Try.f90 (bodyOf Try.f90) (EK.encs e_z0b ((a0, ()), ()).1) (HK.encs h_z0b ((a0, ()), ()).2) = M_z0b n a0 := by kernel_rfl
theorem g_z0b (n : Nat) (a0 : WordS) {r : Res} (h : M_z0b n a0 = some r) : runF Try.prog cf_z0b n p_z0b 90 (EK.encs e_z0b ((a0, ()), ()).1) (HK.encs h_z0b ((a0, ()), ()).2) = some r := by
  have hb : LOk Try.prog cf_z0b Try.f90.ntmps 0 n p_z0b (ls_z0b n) (bodyOf Try.f90) := ⟨trivial, ⟨trivial, trivial⟩⟩
  exact runFT_some Try.prog (c := bodyOf Try.f90) Try.func90 (show Try.f90.body = some (bodyOf Try.f90) from rfl) (show (1 : Nat) ≤ 10 by decide) hb ((m_z0b n a0).trans h) rfl (by kernel_rfl)
noncomputable def c_z0b : Spec := specQ e_z0b h_z0b ro_z0b rh_z0b fun a b => Q_z0b a.1
theorem k_z0b (hm : Try.prog.follows .mixedOrders = true) : SpecOk Try.prog 90 c_z0b := specQ_ok (pol := p_z0b) hm (cf := cf_z0b) (tab_ok specs_nil) fun a b r h => ⟨FUEL, g_z0b FUEL a.1 (decRes_some h)⟩
def s_z0c_r : Sig := ⟨[4], [.ptr 0 0 0], [.cell WordT]⟩
def p_z0c : Pol := ⟨fun i => none, fun i => none, some [(4, (.own WordT))], [.keep], []⟩
def e_z0c : List EK := [.agg WordT, .ty (.int .i64)]
def h_z0c : List HK := []
noncomputable def cf_z0c : CallF := mkCF [] []
noncomputable def ls_z0c (n : Nat) : Loops := fun i =>  none
theorem m_z0c (n : Nat) (a0 : WordS) (a1 : Int) : runFT Try.prog cf_z0c p_z0c (ls_z0c n) Try.f72 (bodyOf Try.f72) (EK.encs e_z0c ((a0, (a1, ())), ()).1) (HK.encs h_z0c ((a0, (a1, ())), ()).2) = M_z0c n a0 a1 := by kernel_rfl
theorem g_z0c (n : Nat) (a0 : WordS) (a1 : Int) {r : Res} (h : M_z0c n a0 a1 = some r) : runF Try.prog cf_z0c n p_z0c 72 (EK.encs e_z0c ((a0, (a1, ())), ()).1) (HK.encs h_z0c ((a0, (a1, ())), ()).2) = some r := by
  have hb : LOk Try.prog cf_z0c Try.f72.ntmps 0 n p_z0c (ls_z0c n) (bodyOf Try.f72) := ⟨trivial, ⟨⟨trivial, ⟨⟨trivial, trivial⟩, ⟨trivial, ⟨⟨trivial, trivial⟩, trivial⟩⟩⟩⟩, ⟨trivial, trivial⟩⟩⟩
  exact runFT_some Try.prog (c := bodyOf Try.f72) Try.func72 (show Try.f72.body = some (bodyOf Try.f72) from rfl) (show (2 : Nat) ≤ 33 by decide) hb ((m_z0c n a0 a1).trans h) rfl (by kernel_rfl)
noncomputable def c_z0c : Spec := specQ e_z0c h_z0c ro_z0c rh_z0c fun a b => Q_z0c a.1 a.2.1
theorem k_z0c (hm : Try.prog.follows .mixedOrders = true) : SpecOk Try.prog 72 c_z0c := specQ_ok (pol := p_z0c) hm (cf := cf_z0c) (tab_ok specs_nil) fun a b r h => ⟨FUEL, g_z0c FUEL a.1 a.2.1 (decRes_some h)⟩
def s_z0d_r : Sig := ⟨[2], [.ptr 0 0 0], [.cell WordT]⟩
def p_z0d : Pol := ⟨fun i => none, fun i => none, some [(2, (.own WordT))], [.keep], []⟩
def e_z0d : List EK := [.ty (.int .i64)]
def h_z0d : List HK := []
noncomputable def cf_z0d : CallF := mkCF [(90, c_z0b), (72, c_z0c)] [(90, [WordT]), (72, [WordT, (.int .i64)])]
noncomputable def ls_z0d (n : Nat) : Loops := fun i =>  none
theorem m_z0d (n : Nat) (a0 : Int) : runFT Try.prog cf_z0d p_z0d (ls_z0d n) Try.f74 (bodyOf Try.f74) (EK.encs e_z0d ((a0, ()), ()).1) (HK.encs h_z0d ((a0, ()), ()).2) = M_z0d n a0 := by kernel_rfl
theorem g_z0d (n : Nat) (a0 : Int) {r : Res} (h : M_z0d n a0 = some r) : runF Try.prog cf_z0d n p_z0d 74 (EK.encs e_z0d ((a0, ()), ()).1) (HK.encs h_z0d ((a0, ()), ()).2) = some r := by
  have hb : LOk Try.prog cf_z0d Try.f74.ntmps 0 n p_z0d (ls_z0d n) (bodyOf Try.f74) := ⟨trivial, ⟨trivial, trivial⟩⟩
  exact runFT_some Try.prog (c := bodyOf Try.f74) Try.func74 (show Try.f74.body = some (bodyOf Try.f74) from rfl) (show (1 : Nat) ≤ 10 by decide) hb ((m_z0d n a0).trans h) rfl (by kernel_rfl)
noncomputable def c_z0d : Spec := specQ e_z0d h_z0d ro_z0d rh_z0d fun a b => Q_z0d a.1
theorem k_z0d (hm : Try.prog.follows .mixedOrders = true) : SpecOk Try.prog 74 c_z0d := specQ_ok (pol := p_z0d) hm (cf := cf_z0d) (tab_ok (specs_cons (k_z0b hm) (specs_cons (k_z0c hm) specs_nil))) fun a b r h => ⟨FUEL, g_z0d FUEL a.1 (decRes_some h)⟩
def s_z0e_r : Sig := ⟨[4], [.ptr 0 0 0], [.cell WordT]⟩
def p_z0e : Pol := ⟨fun i => none, fun i => none, some [(4, (.own WordT))], [.keep], []⟩
def e_z0e : List EK := [.agg WordT, .agg WordT]
def h_z0e : List HK := []
noncomputable def cf_z0e : CallF := mkCF [] []
noncomputable def ls_z0e (n : Nat) : Loops := fun i =>  none
theorem m_z0e (n : Nat) (a0 : WordS) (a1 : WordS) : runFT Try.prog cf_z0e p_z0e (ls_z0e n) Try.f73 (bodyOf Try.f73) (EK.encs e_z0e ((a0, (a1, ())), ()).1) (HK.encs h_z0e ((a0, (a1, ())), ()).2) = M_z0e n a0 a1 := by kernel_rfl
theorem g_z0e (n : Nat) (a0 : WordS) (a1 : WordS) {r : Res} (h : M_z0e n a0 a1 = some r) : runF Try.prog cf_z0e n p_z0e 73 (EK.encs e_z0e ((a0, (a1, ())), ()).1) (HK.encs h_z0e ((a0, (a1, ())), ()).2) = some r := by
  have hb : LOk Try.prog cf_z0e Try.f73.ntmps 0 n p_z0e (ls_z0e n) (bodyOf Try.f73) := ⟨trivial, ⟨trivial, trivial⟩⟩
  exact runFT_some Try.prog (c := bodyOf Try.f73) Try.func73 (show Try.f73.body = some (bodyOf Try.f73) from rfl) (show (2 : Nat) ≤ 16 by decide) hb ((m_z0e n a0 a1).trans h) rfl (by kernel_rfl)
noncomputable def c_z0e : Spec := specQ e_z0e h_z0e ro_z0e rh_z0e fun a b => Q_z0e a.1 a.2.1
theorem k_z0e (hm : Try.prog.follows .mixedOrders = true) : SpecOk Try.prog 73 c_z0e := specQ_ok (pol := p_z0e) hm (cf := cf_z0e) (tab_ok specs_nil) fun a b r h => ⟨FUEL, g_z0e FUEL a.1 a.2.1 (decRes_some h)⟩
def s_z0f_r : Sig := ⟨[4], [.ptr 0 0 0], [.cell WordT]⟩
def p_z0f : Pol := ⟨fun i => none, fun i => none, some [(4, (.own WordT))], [.keep], []⟩
def e_z0f : List EK := [.agg WordT, .ty (.int .i64)]
def h_z0f : List HK := []
noncomputable def cf_z0f : CallF := mkCF [(74, c_z0d), (73, c_z0e)] [(74, [(.int .i64)]), (73, [WordT, WordT])]
noncomputable def ls_z0f (n : Nat) : Loops := fun i =>  none
theorem m_z0f (n : Nat) (a0 : WordS) (a1 : Int) : runFT Try.prog cf_z0f p_z0f (ls_z0f n) Try.f57 (bodyOf Try.f57) (EK.encs e_z0f ((a0, (a1, ())), ()).1) (HK.encs h_z0f ((a0, (a1, ())), ()).2) = M_z0f n a0 a1 := by kernel_rfl
theorem g_z0f (n : Nat) (a0 : WordS) (a1 : Int) {r : Res} (h : M_z0f n a0 a1 = some r) : runF Try.prog cf_z0f n p_z0f 57 (EK.encs e_z0f ((a0, (a1, ())), ()).1) (HK.encs h_z0f ((a0, (a1, ())), ()).2) = some r := by
  have hb : LOk Try.prog cf_z0f Try.f57.ntmps 0 n p_z0f (ls_z0f n) (bodyOf Try.f57) := ⟨trivial, ⟨trivial, trivial⟩⟩
  exact runFT_some Try.prog (c := bodyOf Try.f57) Try.func57 (show Try.f57.body = some (bodyOf Try.f57) from rfl) (show (2 : Nat) ≤ 9 by decide) hb ((m_z0f n a0 a1).trans h) rfl (by kernel_rfl)
noncomputable def c_z0f : Spec := specQ e_z0f h_z0f ro_z0f rh_z0f fun a b => Q_z0f a.1 a.2.1
theorem k_z0f (hm : Try.prog.follows .mixedOrders = true) : SpecOk Try.prog 57 c_z0f := specQ_ok (pol := p_z0f) hm (cf := cf_z0f) (tab_ok (specs_cons (k_z0d hm) (specs_cons (k_z0e hm) specs_nil))) fun a b r h => ⟨FUEL, g_z0f FUEL a.1 a.2.1 (decRes_some h)⟩
def s_z0g_r : Sig := ⟨[6, 7], [.ptr 0 0 0, .ty (.int .i64)], [.cell WordT]⟩
def s_z0g_h0 : Sig := ⟨[0, 1, 2, 6, 9, 10, 11, 33, 34], [.ty .str, .ty (.int .i64), .ty (.int .i64), .ptr 0 0 0, .ty (.int .i64), .ty (.int .i64), .ptr 1 0 0, .ty (.int .i64), .ty (.int .i64)], [.cell WordT, .cell WordT]⟩
def s_z0g_t0 : Sig := ⟨[0, 1, 2, 6, 10, 11], [.ty .str, .ty (.int .i64), .ty (.int .i64), .ptr 0 0 0, .ty (.int .i64), .ptr 1 0 0], [.cell WordT, .cell WordT]⟩
def p_z0g : Pol := ⟨fun i => if i = 0 then some [(0, .keep), (1, .keep), (2, .keep), (6, (.own WordT)), (9, .keep), (10, .keep), (11, (.own WordT)), (33, .keep), (34, .keep)] else none, fun i => if i = 0 then some [(0, .keep), (1, .keep), (2, .keep), (6, (.own WordT)), (10, .keep), (11, (.own WordT))] else none, some [(6, (.own WordT)), (7, .keep)], [.keep, .keep], []⟩
def e_z0g : List EK := [.ty .str, .ty (.int .i64), .ty (.int .i64)]
def h_z0g : List HK := []
noncomputable def cf_z0g : CallF := mkCF [(86, c_z07), (88, c_z08), (89, c_z09), (87, c_z0a), (57, c_z0f)] [(86, [.str, (.int .i64), (.int .i64)]), (88, [WordT, (.int .i64)]), (89, [(.int .u64)]), (87, [WordT, WordT]), (57, [WordT, (.int .i64)])]
noncomputable def ls_z0g (n : Nat) : Loops := fun i => if i = 0 then some (loopT 0 (p_z0g.head 0) s_z0g_h0 fun K v => L_z0g_0 n (fun z5 => K (.ex 0) (s_z0g_t0.enc ((v.1.1, (v.1.2.1, (v.1.2.2.1, ((), (v.1.2.2.2.2.2.1, ((), ())))))), (v.2.1, (z5, ()))))) v.1.1 v.1.2.1 v.1.2.2.1 v.1.2.2.2.2.1 v.1.2.2.2.2.2.1 v.1.2.2.2.2.2.2.2.1 v.2.1 n v.1.2.2.2.2.2.2.2.2.1 v.2.2.1)
  else  none
noncomputable def b_z0g_0 : Code := partOf (bodyOf Try.f71) [1, 1, 1, 1, 0, 1, 0, 0]
noncomputable def V_z0g_0 (n : Nat) (K : Cont) (rec : Sig.sem s_z0g_h0 → Option Res) (v : Sig.sem s_z0g_h0) : Option Res := F_z0g_0 n (fun z5 => K (.ex 0) (s_z0g_t0.enc ((v.1.1, (v.1.2.1, (v.1.2.2.1, ((), (v.1.2.2.2.2.2.1, ((), ())))))), (v.2.1, (z5, ()))))) v.1.1 v.1.2.1 v.1.2.2.1 v.1.2.2.2.2.1 v.1.2.2.2.2.2.1 v.1.2.2.2.2.2.2.2.1 v.2.1 (fun z6 z8 => rec ((v.1.1, (v.1.2.1, (v.1.2.2.1, ((), (v.1.2.2.2.2.1, (v.1.2.2.2.2.2.1, ((), (v.1.2.2.2.2.2.2.2.1, (z6, ()))))))))), (v.2.1, (z8, ())))) v.1.2.2.2.2.2.2.2.2.1 v.2.2.1
theorem t_z0g_0 (n : Nat) (K : Cont) (rec : Sig.sem s_z0g_h0 → Option Res) (v : Sig.sem s_z0g_h0) : runT Try.prog cf_z0g Try.f71.ntmps 0 p_z0g (ls_z0g n) b_z0g_0 (s_z0g_h0.enc v) (turnK 0 (p_z0g.head 0) s_z0g_h0 rec K) = V_z0g_0 n K rec v := by kernel_rfl
noncomputable def W_z0g_0 (n : Nat) (K : Cont) (m : Nat) (v : Sig.sem s_z0g_h0) : Option Res := L_z0g_0 n (fun z5 => K (.ex 0) (s_z0g_t0.enc ((v.1.1, (v.1.2.1, (v.1.2.2.1, ((), (v.1.2.2.2.2.2.1, ((), ())))))), (v.2.1, (z5, ()))))) v.1.1 v.1.2.1 v.1.2.2.1 v.1.2.2.2.2.1 v.1.2.2.2.2.2.1 v.1.2.2.2.2.2.2.2.1 v.2.1 m v.1.2.2.2.2.2.2.2.2.1 v.2.2.1
theorem i_z0g_0 (n : Nat) (K : Cont) : ∀ m v, iter (V_z0g_0 n K) m v = W_z0g_0 n K m v := by
  intro m
  induction m with
  | zero => intro v; rfl
  | succ m ih =>
    intro v
    show V_z0g_0 n K (iter (V_z0g_0 n K) m) v = V_z0g_0 n K (W_z0g_0 n K m) v
    rw [show iter (V_z0g_0 n K) m = W_z0g_0 n K m from funext ih]
theorem o_z0g_0 (n : Nat) : ∀ L, ls_z0g n 0 = some L → ∀ s K r, L s K = some r → ∃ x s', loopN (run Try.prog cf_z0g Try.f71.ntmps 0 n p_z0g none b_z0g_0) (gc 0 (p_z0g.head 0)) n s = some (x, s') ∧ K x s' = some r := by
  intro L hL s K r h
  have hL : some (loopT 0 (p_z0g.head 0) s_z0g_h0 fun K v => W_z0g_0 n K n v) = some L := hL
  cases hL
  have hb : LOk Try.prog cf_z0g Try.f71.ntmps 0 n p_z0g (ls_z0g n) b_z0g_0 := ⟨trivial, ⟨⟨trivial, trivial⟩, ⟨⟨trivial, trivial⟩, trivial⟩⟩⟩
  refine loopT_ok hb (V_z0g_0 n) (t_z0g_0 n) n s K r ?_
  rw [← h]
  unfold loopT
  simp only [i_z0g_0]
theorem m_z0g (n : Nat) (a0 : ByteArray) (a1 : Int) (a2 : Int) : runFT Try.prog cf_z0g p_z0g (ls_z0g n) Try.f71 (bodyOf Try.f71) (EK.encs e_z0g ((a0, (a1, (a2, ()))), ()).1) (HK.encs h_z0g ((a0, (a1, (a2, ()))), ()).2) = M_z0g n a0 a1 a2 := by kernel_rfl
theorem g_z0g (n : Nat) (a0 : ByteArray) (a1 : Int) (a2 : Int) {r : Res} (h : M_z0g n a0 a1 a2 = some r) : runF Try.prog cf_z0g n p_z0g 71 (EK.encs e_z0g ((a0, (a1, (a2, ()))), ()).1) (HK.encs h_z0g ((a0, (a1, (a2, ()))), ()).2) = some r := by
  have hb : LOk Try.prog cf_z0g Try.f71.ntmps 0 n p_z0g (ls_z0g n) (bodyOf Try.f71) := ⟨trivial, ⟨⟨trivial, ⟨trivial, ⟨⟨trivial, trivial⟩, trivial⟩⟩⟩, ⟨trivial, ⟨trivial, ⟨⟨trivial, (o_z0g_0 n)⟩, ⟨trivial, ⟨trivial, ⟨trivial, trivial⟩⟩⟩⟩⟩⟩⟩⟩
  exact runFT_some Try.prog (c := bodyOf Try.f71) Try.func71 (show Try.f71.body = some (bodyOf Try.f71) from rfl) (show (3 : Nat) ≤ 70 by decide) hb ((m_z0g n a0 a1 a2).trans h) rfl (by kernel_rfl)
noncomputable def c_z0g : Spec := specQ e_z0g h_z0g ro_z0g rh_z0g fun a b => Q_z0g a.1 a.2.1 a.2.2.1
theorem k_z0g (hm : Try.prog.follows .mixedOrders = true) : SpecOk Try.prog 71 c_z0g := specQ_ok (pol := p_z0g) hm (cf := cf_z0g) (tab_ok (specs_cons (k_z07 hm) (specs_cons (k_z08 hm) (specs_cons (k_z09 hm) (specs_cons (k_z0a hm) (specs_cons (k_z0f hm) specs_nil)))))) fun a b r h => ⟨FUEL, g_z0g FUEL a.1 a.2.1 a.2.2.1 (decRes_some h)⟩
def s_z0h_r : Sig := ⟨[6, 7], [.ptr 2 0 0, .ty (.int .i64)], [.one false [.hs 1 0], .row (.int .u8), .cell WordT]⟩
def p_z0h : Pol := ⟨fun i => none, fun i => none, some [(6, (.own WordT)), (7, .keep)], [.keep, .keep], []⟩
def e_z0h : List EK := [.ptr 0 0 0, .ty (.int .i64), .ty (.int .i64)]
def h_z0h : List HK := [.one false [.hs 1 0], .row (.int .u8)]
noncomputable def cf_z0h : CallF := mkCF [(70, c_z06), (71, c_z0g)] [(71, [.str, (.int .i64), (.int .i64)])]
noncomputable def ls_z0h (n : Nat) : Loops := fun i =>  none
theorem m_z0h (n : Nat) (a0 : Int) (a1 : Int) (a2 : Nat) (a3 : (List Int)) : runFT Try.prog cf_z0h p_z0h (ls_z0h n) Try.f54 (bodyOf Try.f54) (EK.encs e_z0h (((), (a0, (a1, ()))), ((a2, ()), (a3, ()))).1) (HK.encs h_z0h (((), (a0, (a1, ()))), ((a2, ()), (a3, ()))).2) = M_z0h n a0 a1 a2 a3 := by kernel_rfl
theorem g_z0h (n : Nat) (a0 : Int) (a1 : Int) (a2 : Nat) (a3 : (List Int)) {r : Res} (h : M_z0h n a0 a1 a2 a3 = some r) : runF Try.prog cf_z0h n p_z0h 54 (EK.encs e_z0h (((), (a0, (a1, ()))), ((a2, ()), (a3, ()))).1) (HK.encs h_z0h (((), (a0, (a1, ()))), ((a2, ()), (a3, ()))).2) = some r := by
  have hb : LOk Try.prog cf_z0h Try.f54.ntmps 2 n p_z0h (ls_z0h n) (bodyOf Try.f54) := ⟨trivial, ⟨⟨trivial, ⟨⟨trivial, trivial⟩, trivial⟩⟩, ⟨trivial, ⟨trivial, trivial⟩⟩⟩⟩
  exact runFT_some Try.prog (c := bodyOf Try.f54) Try.func54 (show Try.f54.body = some (bodyOf Try.f54) from rfl) (show (3 : Nat) ≤ 30 by decide) hb ((m_z0h n a0 a1 a2 a3).trans h) rfl (by kernel_rfl)
noncomputable def c_z0h : Spec := specQ e_z0h h_z0h ro_z0h rh_z0h fun a b => Q_z0h a.2.1 a.2.2.1 b.1.1 b.2.1
theorem k_z0h (hm : Try.prog.follows .mixedOrders = true) : SpecOk Try.prog 54 c_z0h := specQ_ok (pol := p_z0h) hm (cf := cf_z0h) (tab_ok (specs_cons (k_z06 hm) (specs_cons (k_z0g hm) specs_nil))) fun a b r h => ⟨FUEL, g_z0h FUEL a.2.1 a.2.2.1 b.1.1 b.2.1 (decRes_some h)⟩
def s_z0i_r : Sig := ⟨[4, 5], [.ptr 5 0 0, .ty (.int .i64)], [.one false [.ptr 1 0 0, .nul 4, .ptr 3 0 0, .ty (.int .i64)], .one false [.hs 2 0], .row (.int .u8), .one false [.hs 4 0], .row (.int .u8), .cell WordT]⟩
def p_z0i : Pol := ⟨fun i => none, fun i => none, some [(4, (.own WordT)), (5, .keep)], [.keep, .keep], []⟩
def e_z0i : List EK := [.ptr 0 0 0, .agg FieldT]
def h_z0i : List HK := [.one false [.ptr 1 0 0, .nul 4, .ptr 3 0 0, .ty (.int .i64)], .one false [.hs 2 0], .row (.int .u8), .one false [.hs 4 0], .row (.int .u8)]
noncomputable def cf_z0i : CallF := mkCF [(53, c_z03), (55, c_z04), (54, (orSpec c_z05 c_z0h))] [(55, [(.int .i64), (.int .i64)])]
noncomputable def ls_z0i (n : Nat) : Loops := fun i =>  none
theorem m_z0i (n : Nat) (a0 : FieldS) (a1 : Int) (a2 : Nat) (a3 : (List Int)) (a4 : Nat) (a5 : (List Int)) : runFT Try.prog cf_z0i p_z0i (ls_z0i n) Try.f31 (bodyOf Try.f31) (EK.encs e_z0i (((), (a0, ())), (((), ((), ((), (a1, ())))), ((a2, ()), (a3, ((a4, ()), (a5, ())))))).1) (HK.encs h_z0i (((), (a0, ())), (((), ((), ((), (a1, ())))), ((a2, ()), (a3, ((a4, ()), (a5, ())))))).2) = M_z0i n a0 a1 a2 a3 a4 a5 := by kernel_rfl
theorem g_z0i (n : Nat) (a0 : FieldS) (a1 : Int) (a2 : Nat) (a3 : (List Int)) (a4 : Nat) (a5 : (List Int)) {r : Res} (h : M_z0i n a0 a1 a2 a3 a4 a5 = some r) : runF Try.prog cf_z0i n p_z0i 31 (EK.encs e_z0i (((), (a0, ())), (((), ((), ((), (a1, ())))), ((a2, ()), (a3, ((a4, ()), (a5, ())))))).1) (HK.encs h_z0i (((), (a0, ())), (((), ((), ((), (a1, ())))), ((a2, ()), (a3, ((a4, ()), (a5, ())))))).2) = some r := by
  have hb : LOk Try.prog cf_z0i Try.f31.ntmps 5 n p_z0i (ls_z0i n) (bodyOf Try.f31) := ⟨trivial, ⟨trivial, ⟨⟨trivial, ⟨⟨trivial, trivial⟩, trivial⟩⟩, ⟨trivial, ⟨⟨trivial, ⟨⟨trivial, trivial⟩, trivial⟩⟩, ⟨trivial, trivial⟩⟩⟩⟩⟩⟩
  exact runFT_some Try.prog (c := bodyOf Try.f31) Try.func31 (show Try.f31.body = some (bodyOf Try.f31) from rfl) (show (2 : Nat) ≤ 37 by decide) hb ((m_z0i n a0 a1 a2 a3 a4 a5).trans h) rfl (by kernel_rfl)
noncomputable def c_z0i : Spec := specQ e_z0i h_z0i ro_z0i rh_z0i fun a b => Q_z0i a.2.1 b.1.2.2.2.1 b.2.1.1 b.2.2.1 b.2.2.2.1.1 b.2.2.2.2.1
theorem k_z0i (hm : Try.prog.follows .mixedOrders = true) : SpecOk Try.prog 31 c_z0i := specQ_ok (pol := p_z0i) hm (cf := cf_z0i) (tab_ok (specs_cons (k_z03 hm) (specs_cons (k_z04 hm) (specs_cons (orSpec_ok (k_z05 hm) (k_z0h hm)) specs_nil)))) fun a b r h => ⟨FUEL, g_z0i FUEL a.2.1 b.1.2.2.2.1 b.2.1.1 b.2.2.1 b.2.2.2.1.1 b.2.2.2.2.1 (decRes_some h)⟩
def s_z0j_r : Sig := ⟨[2], [.ty (.int .i64)], []⟩
def p_z0j : Pol := ⟨fun i => none, fun i => none, some [(2, .keep)], [.keep], []⟩
def e_z0j : List EK := [.ty (.int .i64)]
def h_z0j : List HK := []
noncomputable def cf_z0j : CallF := mkCF [] []
noncomputable def ls_z0j (n : Nat) : Loops := fun i =>  none
theorem m_z0j (n : Nat) (a0 : Int) : runFT Try.prog cf_z0j p_z0j (ls_z0j n) Try.f43 (bodyOf Try.f43) (EK.encs e_z0j ((a0, ()), ()).1) (HK.encs h_z0j ((a0, ()), ()).2) = M_z0j n a0 := by kernel_rfl
theorem g_z0j (n : Nat) (a0 : Int) {r : Res} (h : M_z0j n a0 = some r) : runF Try.prog cf_z0j n p_z0j 43 (EK.encs e_z0j ((a0, ()), ()).1) (HK.encs h_z0j ((a0, ()), ()).2) = some r := by
  have hb : LOk Try.prog cf_z0j Try.f43.ntmps 0 n p_z0j (ls_z0j n) (bodyOf Try.f43) := ⟨trivial, ⟨⟨trivial, ⟨⟨trivial, trivial⟩, trivial⟩⟩, ⟨trivial, trivial⟩⟩⟩
  exact runFT_some Try.prog (c := bodyOf Try.f43) Try.func43 (show Try.f43.body = some (bodyOf Try.f43) from rfl) (show (1 : Nat) ≤ 13 by decide) hb ((m_z0j n a0).trans h) rfl (by kernel_rfl)
noncomputable def c_z0j : Spec := specQ e_z0j h_z0j ro_z0j rh_z0j fun a b => Q_z0j a.1
theorem k_z0j (hm : Try.prog.follows .mixedOrders = true) : SpecOk Try.prog 43 c_z0j := specQ_ok (pol := p_z0j) hm (cf := cf_z0j) (tab_ok specs_nil) fun a b r h => ⟨FUEL, g_z0j FUEL a.1 (decRes_some h)⟩
def s_z0k_h0 : Sig := ⟨[1, 3, 5], [.ptr 0 0 0, .ptr 1 0 0, .ty (.int .i64)], [.cell WordT, .row (.int .u8)]⟩
def s_z0k_t0 : Sig := ⟨[3], [.ptr 0 0 0], [.row (.int .u8)]⟩
def s_z0k_r : Sig := ⟨[2], [.ty .str], []⟩
def p_z0k : Pol := ⟨fun i => if i = 0 then some [(1, (.own WordT)), (3, (.own (.int .u8))), (5, .keep)] else none, fun i => if i = 0 then some [(3, (.own (.int .u8)))] else none, some [(2, .keep)], [.keep], []⟩
def e_z0k : List EK := [.agg WordT]
def h_z0k : List HK := []
noncomputable def cf_z0k : CallF := { (mkCF [(72, c_z0c)] [(72, [WordT, (.int .i64)])]) with arr := [138] }
noncomputable def ls_z0k (n : Nat) : Loops := fun i => if i = 0 then some (loopT 0 (p_z0k.head 0) s_z0k_h0 fun K v => L_z0k_0 n (fun z0 => K (.ex 0) (s_z0k_t0.enc (((), ()), (z0, ())))) v.2.1 n v.1.2.2.1 v.2.2.1)
  else  none
noncomputable def b_z0k_0 : Code := partOf (bodyOf Try.f56) [1, 1, 0, 1, 0, 0]
noncomputable def V_z0k_0 (n : Nat) (K : Cont) (rec : Sig.sem s_z0k_h0 → Option Res) (v : Sig.sem s_z0k_h0) : Option Res := F_z0k_0 n (fun z0 => K (.ex 0) (s_z0k_t0.enc (((), ()), (z0, ())))) v.2.1 (fun z0 z2 => rec (((), ((), (z0, ()))), (v.2.1, (z2, ())))) v.1.2.2.1 v.2.2.1
theorem t_z0k_0 (n : Nat) (K : Cont) (rec : Sig.sem s_z0k_h0 → Option Res) (v : Sig.sem s_z0k_h0) : runT Try.prog cf_z0k Try.f56.ntmps 0 p_z0k (ls_z0k n) b_z0k_0 (s_z0k_h0.enc v) (turnK 0 (p_z0k.head 0) s_z0k_h0 rec K) = V_z0k_0 n K rec v := by kernel_rfl
noncomputable def W_z0k_0 (n : Nat) (K : Cont) (m : Nat) (v : Sig.sem s_z0k_h0) : Option Res := L_z0k_0 n (fun z0 => K (.ex 0) (s_z0k_t0.enc (((), ()), (z0, ())))) v.2.1 m v.1.2.2.1 v.2.2.1
theorem i_z0k_0 (n : Nat) (K : Cont) : ∀ m v, iter (V_z0k_0 n K) m v = W_z0k_0 n K m v := by
  intro m
  induction m with
  | zero => intro v; rfl
  | succ m ih =>
    intro v
    show V_z0k_0 n K (iter (V_z0k_0 n K) m) v = V_z0k_0 n K (W_z0k_0 n K m) v
    rw [show iter (V_z0k_0 n K) m = W_z0k_0 n K m from funext ih]
theorem o_z0k_0 (n : Nat) : ∀ L, ls_z0k n 0 = some L → ∀ s K r, L s K = some r → ∃ x s', loopN (run Try.prog cf_z0k Try.f56.ntmps 0 n p_z0k none b_z0k_0) (gc 0 (p_z0k.head 0)) n s = some (x, s') ∧ K x s' = some r := by
  intro L hL s K r h
  have hL : some (loopT 0 (p_z0k.head 0) s_z0k_h0 fun K v => W_z0k_0 n K n v) = some L := hL
  cases hL
  have hb : LOk Try.prog cf_z0k Try.f56.ntmps 0 n p_z0k (ls_z0k n) b_z0k_0 := ⟨trivial, ⟨⟨trivial, trivial⟩, ⟨⟨trivial, trivial⟩, trivial⟩⟩⟩
  refine loopT_ok hb (V_z0k_0 n) (t_z0k_0 n) n s K r ?_
  rw [← h]
  unfold loopT
  simp only [i_z0k_0]
theorem m_z0k (n : Nat) (a0 : WordS) : runFT Try.prog cf_z0k p_z0k (ls_z0k n) Try.f56 (bodyOf Try.f56) (EK.encs e_z0k ((a0, ()), ()).1) (HK.encs h_z0k ((a0, ()), ()).2) = M_z0k n a0 := by kernel_rfl
theorem g_z0k (n : Nat) (a0 : WordS) {r : Res} (h : M_z0k n a0 = some r) : runF Try.prog cf_z0k n p_z0k 56 (EK.encs e_z0k ((a0, ()), ()).1) (HK.encs h_z0k ((a0, ()), ()).2) = some r := by
  have hb : LOk Try.prog cf_z0k Try.f56.ntmps 0 n p_z0k (ls_z0k n) (bodyOf Try.f56) := ⟨trivial, ⟨trivial, ⟨⟨trivial, (o_z0k_0 n)⟩, ⟨trivial, trivial⟩⟩⟩⟩
  exact runFT_some Try.prog (c := bodyOf Try.f56) Try.func56 (show Try.f56.body = some (bodyOf Try.f56) from rfl) (show (1 : Nat) ≤ 21 by decide) hb ((m_z0k n a0).trans h) rfl (by kernel_rfl)
noncomputable def c_z0k : Spec := specQ e_z0k h_z0k ro_z0k rh_z0k fun a b => Q_z0k a.1
theorem k_z0k (hm : Try.prog.follows .mixedOrders = true) : SpecOk Try.prog 56 c_z0k := specQ_ok (pol := p_z0k) hm (cf := cf_z0k) (CallSound.arr <| tab_ok (specs_cons (k_z0c hm) specs_nil)) fun a b r h => ⟨FUEL, g_z0k FUEL a.1 (decRes_some h)⟩
def s_z0l_r : Sig := ⟨[4, 5], [.ty .str, .ty (.int .i64)], []⟩
def p_z0l : Pol := ⟨fun i => none, fun i => none, some [(4, .keep), (5, .keep)], [.keep, .keep], []⟩
def e_z0l : List EK := [.agg WordT, .ty (.int .i64)]
def h_z0l : List HK := []
noncomputable def cf_z0l : CallF := mkCF [(43, c_z0j), (57, c_z0f), (56, c_z0k)] [(43, [(.int .i64)]), (57, [WordT, (.int .i64)]), (56, [WordT])]
noncomputable def ls_z0l (n : Nat) : Loops := fun i =>  none
theorem m_z0l (n : Nat) (a0 : WordS) (a1 : Int) : runFT Try.prog cf_z0l p_z0l (ls_z0l n) Try.f32 (bodyOf Try.f32) (EK.encs e_z0l ((a0, (a1, ())), ()).1) (HK.encs h_z0l ((a0, (a1, ())), ()).2) = M_z0l n a0 a1 := by kernel_rfl
theorem g_z0l (n : Nat) (a0 : WordS) (a1 : Int) {r : Res} (h : M_z0l n a0 a1 = some r) : runF Try.prog cf_z0l n p_z0l 32 (EK.encs e_z0l ((a0, (a1, ())), ()).1) (HK.encs h_z0l ((a0, (a1, ())), ()).2) = some r := by
  have hb : LOk Try.prog cf_z0l Try.f32.ntmps 0 n p_z0l (ls_z0l n) (bodyOf Try.f32) := ⟨trivial, ⟨trivial, ⟨⟨trivial, ⟨⟨trivial, trivial⟩, trivial⟩⟩, ⟨trivial, ⟨trivial, trivial⟩⟩⟩⟩⟩
  exact runFT_some Try.prog (c := bodyOf Try.f32) Try.func32 (show Try.f32.body = some (bodyOf Try.f32) from rfl) (show (2 : Nat) ≤ 22 by decide) hb ((m_z0l n a0 a1).trans h) rfl (by kernel_rfl)
noncomputable def c_z0l : Spec := specQ e_z0l h_z0l ro_z0l rh_z0l fun a b => Q_z0l a.1 a.2.1
theorem k_z0l (hm : Try.prog.follows .mixedOrders = true) : SpecOk Try.prog 32 c_z0l := specQ_ok (pol := p_z0l) hm (cf := cf_z0l) (tab_ok (specs_cons (k_z0j hm) (specs_cons (k_z0f hm) (specs_cons (k_z0k hm) specs_nil)))) fun a b r h => ⟨FUEL, g_z0l FUEL a.1 a.2.1 (decRes_some h)⟩
def s_z0m_r : Sig := ⟨[4, 5], [.ty .str, .ty (.int .i64)], [.one false [.ptr 1 0 0, .nul 4, .ptr 3 0 0, .ty (.int .i64)], .one false [.hs 2 0], .row (.int .u8), .one false [.hs 4 0], .row (.int .u8)]⟩
def p_z0m : Pol := ⟨fun i => none, fun i => none, some [(4, .keep), (5, .keep)], [.keep, .keep], []⟩
def e_z0m : List EK := [.mv 31 [(0, 0, 0)], .agg FieldT]
def h_z0m : List HK := [.one false [.ptr 1 0 0, .nul 4, .ptr 3 0 0, .ty (.int .i64)], .one false [.hs 2 0], .row (.int .u8), .one false [.hs 4 0], .row (.int .u8)]
noncomputable def cf_z0m : CallF := mkCF [(31, c_z0i), (32, c_z0l)] [(32, [WordT, (.int .i64)])]
noncomputable def ls_z0m (n : Nat) : Loops := fun i =>  none
theorem m_z0m (n : Nat) (a0 : FieldS) (a1 : Int) (a2 : Nat) (a3 : (List Int)) (a4 : Nat) (a5 : (List Int)) : runFT Try.prog cf_z0m p_z0m (ls_z0m n) Try.f40 (bodyOf Try.f40) (EK.encs e_z0m (((), (a0, ())), (((), ((), ((), (a1, ())))), ((a2, ()), (a3, ((a4, ()), (a5, ())))))).1) (HK.encs h_z0m (((), (a0, ())), (((), ((), ((), (a1, ())))), ((a2, ()), (a3, ((a4, ()), (a5, ())))))).2) = M_z0m n a0 a1 a2 a3 a4 a5 := by kernel_rfl
theorem g_z0m (n : Nat) (a0 : FieldS) (a1 : Int) (a2 : Nat) (a3 : (List Int)) (a4 : Nat) (a5 : (List Int)) {r : Res} (h : M_z0m n a0 a1 a2 a3 a4 a5 = some r) : runF Try.prog cf_z0m n p_z0m 40 (EK.encs e_z0m (((), (a0, ())), (((), ((), ((), (a1, ())))), ((a2, ()), (a3, ((a4, ()), (a5, ())))))).1) (HK.encs h_z0m (((), (a0, ())), (((), ((), ((), (a1, ())))), ((a2, ()), (a3, ((a4, ()), (a5, ())))))).2) = some r := by
  have hb : LOk Try.prog cf_z0m Try.f40.ntmps 5 n p_z0m (ls_z0m n) (bodyOf Try.f40) := ⟨trivial, ⟨trivial, ⟨⟨trivial, ⟨⟨trivial, trivial⟩, trivial⟩⟩, ⟨trivial, ⟨trivial, trivial⟩⟩⟩⟩⟩
  exact runFT_some Try.prog (c := bodyOf Try.f40) Try.func40 (show Try.f40.body = some (bodyOf Try.f40) from rfl) (show (2 : Nat) ≤ 27 by decide) hb ((m_z0m n a0 a1 a2 a3 a4 a5).trans h) rfl (by kernel_rfl)
noncomputable def c_z0m : Spec := specQ e_z0m h_z0m ro_z0m rh_z0m fun a b => Q_z0m a.2.1 b.1.2.2.2.1 b.2.1.1 b.2.2.1 b.2.2.2.1.1 b.2.2.2.2.1
theorem k_z0m (hm : Try.prog.follows .mixedOrders = true) : SpecOk Try.prog 40 c_z0m := specQ_ok (pol := p_z0m) hm (cf := cf_z0m) (tab_ok (specs_cons (k_z0i hm) (specs_cons (k_z0l hm) specs_nil))) fun a b r h => ⟨FUEL, g_z0m FUEL a.2.1 b.1.2.2.2.1 b.2.1.1 b.2.2.1 b.2.2.2.1.1 b.2.2.2.2.1 (decRes_some h)⟩
def e_z0n : List EK := [.ptr 0 0 0, .ty (.slice FieldT)]
def h_z0n : List HK := [.one false [.ptr 1 0 0, .nul 4, .ptr 3 0 0, .ty (.int .i64)], .one false [.hs 2 0], .row (.int .u8), .one false [.hs 4 0], .row (.int .u8)]
noncomputable def c_z0n : Spec := specQ e_z0n h_z0n ro_z0n rh_z0n fun a b => Q_z0n a.2.1 b.1.2.2.2.1 b.2.1.1 b.2.2.1 b.2.2.2.1.1 b.2.2.2.2.1
theorem k_z0n (hm : Try.prog.follows .mixedOrders = true) : SpecOk Try.prog 20 c_z0n := H18.of_ok (e0 := (.ptr 0 0 0)) (cap := (0, 0, 0)) (fun s => rfl) (hs := h_z0n) (fun b => rfl) (by rfl) (by rfl) (fun f b => Q_z0m f b.1.2.2.2.1 b.2.1.1 b.2.2.1 b.2.2.2.1.1 b.2.2.2.2.1) (k_z0m hm)
def s_z0o_h0 : Sig := ⟨[3, 6, 7, 8], [.hs 0 0, .ty (.slice FieldT), .ty (.int .i64), .ty (.int .i64)], [.row (.int .i64)]⟩
def s_z0o_t0 : Sig := ⟨[3], [.hs 0 0], [.row (.int .i64)]⟩
def s_z0o_r : Sig := ⟨[2], [.hs 0 0], [.row (.int .i64)]⟩
def p_z0o : Pol := ⟨fun i => if i = 0 then some [(3, (.own (.int .i64))), (6, .keep), (7, .keep), (8, .keep)] else none, fun i => if i = 0 then some [(3, (.own (.int .i64)))] else none, some [(2, (.own (.int .i64)))], [(.own (.int .i64))], []⟩
def e_z0o : List EK := [.ty (.slice FieldT)]
def h_z0o : List HK := []
noncomputable def cf_z0o : CallF := mkCF [(43, c_z0j)] [(43, [(.int .i64)])]
noncomputable def ls_z0o (n : Nat) : Loops := fun i => if i = 0 then some (loopT 0 (p_z0o.head 0) s_z0o_h0 fun K v => L_z0o_0 n (fun z0 z1 => K (.ex 0) (s_z0o_t0.enc ((z0, ()), (z1, ())))) v.1.2.1 v.1.2.2.1 n v.1.1 v.1.2.2.2.1 v.2.1)
  else  none
noncomputable def b_z0o_0 : Code := partOf (bodyOf Try.f23) [1, 1, 0, 1, 0, 0]
noncomputable def V_z0o_0 (n : Nat) (K : Cont) (rec : Sig.sem s_z0o_h0 → Option Res) (v : Sig.sem s_z0o_h0) : Option Res := F_z0o_0 n (fun z0 z1 => K (.ex 0) (s_z0o_t0.enc ((z0, ()), (z1, ())))) v.1.2.1 v.1.2.2.1 (fun z0 z3 z4 => rec ((z0, (v.1.2.1, (v.1.2.2.1, (z3, ())))), (z4, ()))) v.1.1 v.1.2.2.2.1 v.2.1
theorem t_z0o_0 (n : Nat) (K : Cont) (rec : Sig.sem s_z0o_h0 → Option Res) (v : Sig.sem s_z0o_h0) : runT Try.prog cf_z0o Try.f23.ntmps 0 p_z0o (ls_z0o n) b_z0o_0 (s_z0o_h0.enc v) (turnK 0 (p_z0o.head 0) s_z0o_h0 rec K) = V_z0o_0 n K rec v := by kernel_rfl
noncomputable def W_z0o_0 (n : Nat) (K : Cont) (m : Nat) (v : Sig.sem s_z0o_h0) : Option Res := L_z0o_0 n (fun z0 z1 => K (.ex 0) (s_z0o_t0.enc ((z0, ()), (z1, ())))) v.1.2.1 v.1.2.2.1 m v.1.1 v.1.2.2.2.1 v.2.1
theorem i_z0o_0 (n : Nat) (K : Cont) : ∀ m v, iter (V_z0o_0 n K) m v = W_z0o_0 n K m v := by
  intro m
  induction m with
  | zero => intro v; rfl
  | succ m ih =>
    intro v
    show V_z0o_0 n K (iter (V_z0o_0 n K) m) v = V_z0o_0 n K (W_z0o_0 n K m) v
    rw [show iter (V_z0o_0 n K) m = W_z0o_0 n K m from funext ih]
theorem o_z0o_0 (n : Nat) : ∀ L, ls_z0o n 0 = some L → ∀ s K r, L s K = some r → ∃ x s', loopN (run Try.prog cf_z0o Try.f23.ntmps 0 n p_z0o none b_z0o_0) (gc 0 (p_z0o.head 0)) n s = some (x, s') ∧ K x s' = some r := by
  intro L hL s K r h
  have hL : some (loopT 0 (p_z0o.head 0) s_z0o_h0 fun K v => W_z0o_0 n K n v) = some L := hL
  cases hL
  have hb : LOk Try.prog cf_z0o Try.f23.ntmps 0 n p_z0o (ls_z0o n) b_z0o_0 := ⟨trivial, ⟨⟨trivial, trivial⟩, ⟨⟨trivial, trivial⟩, trivial⟩⟩⟩
  refine loopT_ok hb (V_z0o_0 n) (t_z0o_0 n) n s K r ?_
  rw [← h]
  unfold loopT
  simp only [i_z0o_0]
theorem m_z0o (n : Nat) (a0 : (List FieldS)) : runFT Try.prog cf_z0o p_z0o (ls_z0o n) Try.f23 (bodyOf Try.f23) (EK.encs e_z0o ((a0, ()), ()).1) (HK.encs h_z0o ((a0, ()), ()).2) = M_z0o n a0 := by kernel_rfl
theorem g_z0o (n : Nat) (a0 : (List FieldS)) {r : Res} (h : M_z0o n a0 = some r) : runF Try.prog cf_z0o n p_z0o 23 (EK.encs e_z0o ((a0, ()), ()).1) (HK.encs h_z0o ((a0, ()), ()).2) = some r := by
  have hb : LOk Try.prog cf_z0o Try.f23.ntmps 0 n p_z0o (ls_z0o n) (bodyOf Try.f23) := ⟨trivial, ⟨trivial, ⟨⟨trivial, (o_z0o_0 n)⟩, ⟨trivial, trivial⟩⟩⟩⟩
  exact runFT_some Try.prog (c := bodyOf Try.f23) Try.func23 (show Try.f23.body = some (bodyOf Try.f23) from rfl) (show (1 : Nat) ≤ 20 by decide) hb ((m_z0o n a0).trans h) rfl (by kernel_rfl)
noncomputable def c_z0o : Spec := specQ e_z0o h_z0o ro_z0o rh_z0o fun a b => Q_z0o a.1
theorem k_z0o (hm : Try.prog.follows .mixedOrders = true) : SpecOk Try.prog 23 c_z0o := specQ_ok (pol := p_z0o) hm (cf := cf_z0o) (tab_ok (specs_cons (k_z0j hm) specs_nil)) fun a b r h => ⟨FUEL, g_z0o FUEL a.1 (decRes_some h)⟩
def s_z0p_h0 : Sig := ⟨[0, 1, 6, 12, 13, 14], [.ty .str, .ty (.slice (.int .i64)), .ty (.int .i64), .ty (.slice (.int .i64)), .ty (.int .i64), .ty (.int .i64)], []⟩
def s_z0p_r : Sig := ⟨[4, 5], [.hs 0 0, .ty (.int .i64)], [.row .str]⟩
def s_z0p_t0 : Sig := ⟨[0, 1, 6], [.ty .str, .ty (.slice (.int .i64)), .ty (.int .i64)], []⟩
def s_z0p_h3 : Sig := ⟨[0, 9, 38, 39, 40], [.ty .str, .hs 0 0, .ty (.slice (.int .i64)), .ty (.int .i64), .ty (.int .i64)], [.row .str]⟩
def s_z0p_t3 : Sig := ⟨[9], [.hs 0 0], [.row .str]⟩
def p_z0p : Pol := ⟨fun i => if i = 0 then some [(0, .keep), (1, .keep), (6, .keep), (12, .keep), (13, .keep), (14, .keep)] else if i = 3 then some [(0, .keep), (9, (.own .str)), (38, .keep), (39, .keep), (40, .keep)] else none, fun i => if i = 0 then some [(0, .keep), (1, .keep), (6, .keep)] else if i = 3 then some [(9, (.own .str))] else none, some [(4, (.own .str)), (5, .keep)], [(.own .str), .keep], []⟩
def e_z0p : List EK := [.ty .str, .ty (.slice (.int .i64))]
def h_z0p : List HK := []
noncomputable def cf_z0p : CallF := mkCF [] []
noncomputable def ls_z0p (n : Nat) : Loops := fun i => if i = 0 then some (loopT 0 (p_z0p.head 0) s_z0p_h0 fun K v => L_z0p_0 n (fun z0 z1 z2 => K .rt (s_z0p_r.enc ((z0, (z1, ())), (z2, ())))) (fun z2 => K (.ex 0) (s_z0p_t0.enc ((v.1.1, (v.1.2.1, (z2, ()))), ()))) v.1.2.2.2.1 v.1.2.2.2.2.1 n v.1.2.2.1 v.1.2.2.2.2.2.1)
  else if i = 3 then some (loopT 0 (p_z0p.head 3) s_z0p_h3 fun K v => L_z0p_3 n (fun z0 z1 => K (.ex 3) (s_z0p_t3.enc ((z0, ()), (z1, ())))) v.1.2.2.1 v.1.2.2.2.1 n v.1.1 v.1.2.1 v.1.2.2.2.2.1 v.2.1)
  else  none
noncomputable def b_z0p_0 : Code := partOf (bodyOf Try.f12) [1, 1, 0, 1, 0, 0]
noncomputable def V_z0p_0 (n : Nat) (K : Cont) (rec : Sig.sem s_z0p_h0 → Option Res) (v : Sig.sem s_z0p_h0) : Option Res := F_z0p_0 n (fun z0 z1 z2 => K .rt (s_z0p_r.enc ((z0, (z1, ())), (z2, ())))) (fun z2 => K (.ex 0) (s_z0p_t0.enc ((v.1.1, (v.1.2.1, (z2, ()))), ()))) v.1.2.2.2.1 v.1.2.2.2.2.1 (fun z2 z5 => rec ((v.1.1, (v.1.2.1, (z2, (v.1.2.2.2.1, (v.1.2.2.2.2.1, (z5, ())))))), ())) v.1.2.2.1 v.1.2.2.2.2.2.1
theorem t_z0p_0 (n : Nat) (K : Cont) (rec : Sig.sem s_z0p_h0 → Option Res) (v : Sig.sem s_z0p_h0) : runT Try.prog cf_z0p Try.f12.ntmps 0 p_z0p (ls_z0p n) b_z0p_0 (s_z0p_h0.enc v) (turnK 0 (p_z0p.head 0) s_z0p_h0 rec K) = V_z0p_0 n K rec v := by kernel_rfl
noncomputable def W_z0p_0 (n : Nat) (K : Cont) (m : Nat) (v : Sig.sem s_z0p_h0) : Option Res := L_z0p_0 n (fun z0 z1 z2 => K .rt (s_z0p_r.enc ((z0, (z1, ())), (z2, ())))) (fun z2 => K (.ex 0) (s_z0p_t0.enc ((v.1.1, (v.1.2.1, (z2, ()))), ()))) v.1.2.2.2.1 v.1.2.2.2.2.1 m v.1.2.2.1 v.1.2.2.2.2.2.1
theorem i_z0p_0 (n : Nat) (K : Cont) : ∀ m v, iter (V_z0p_0 n K) m v = W_z0p_0 n K m v := by
  intro m
  induction m with
  | zero => intro v; rfl
  | succ m ih =>
    intro v
    show V_z0p_0 n K (iter (V_z0p_0 n K) m) v = V_z0p_0 n K (W_z0p_0 n K m) v
    rw [show iter (V_z0p_0 n K) m = W_z0p_0 n K m from funext ih]
theorem o_z0p_0 (n : Nat) : ∀ L, ls_z0p n 0 = some L → ∀ s K r, L s K = some r → ∃ x s', loopN (run Try.prog cf_z0p Try.f12.ntmps 0 n p_z0p none b_z0p_0) (gc 0 (p_z0p.head 0)) n s = some (x, s') ∧ K x s' = some r := by
  intro L hL s K r h
  have hL : some (loopT 0 (p_z0p.head 0) s_z0p_h0 fun K v => W_z0p_0 n K n v) = some L := hL
  cases hL
  have hb : LOk Try.prog cf_z0p Try.f12.ntmps 0 n p_z0p (ls_z0p n) b_z0p_0 := ⟨trivial, ⟨⟨trivial, trivial⟩, ⟨⟨trivial, ⟨⟨trivial, ⟨⟨trivial, trivial⟩, trivial⟩⟩, trivial⟩⟩, trivial⟩⟩⟩
  refine loopT_ok hb (V_z0p_0 n) (t_z0p_0 n) n s K r ?_
  rw [← h]
  unfold loopT
  simp only [i_z0p_0]
noncomputable def b_z0p_3 : Code := partOf (bodyOf Try.f12) [1, 1, 1, 1, 1, 0, 1, 0, 0]
noncomputable def V_z0p_3 (n : Nat) (K : Cont) (rec : Sig.sem s_z0p_h3 → Option Res) (v : Sig.sem s_z0p_h3) : Option Res := F_z0p_3 n (fun z0 z1 => K (.ex 3) (s_z0p_t3.enc ((z0, ()), (z1, ())))) v.1.2.2.1 v.1.2.2.2.1 (fun z0 z1 z4 z5 => rec ((z0, (z1, (v.1.2.2.1, (v.1.2.2.2.1, (z4, ()))))), (z5, ()))) v.1.1 v.1.2.1 v.1.2.2.2.2.1 v.2.1
theorem t_z0p_3 (n : Nat) (K : Cont) (rec : Sig.sem s_z0p_h3 → Option Res) (v : Sig.sem s_z0p_h3) : runT Try.prog cf_z0p Try.f12.ntmps 0 p_z0p (ls_z0p n) b_z0p_3 (s_z0p_h3.enc v) (turnK 0 (p_z0p.head 3) s_z0p_h3 rec K) = V_z0p_3 n K rec v := by kernel_rfl
noncomputable def W_z0p_3 (n : Nat) (K : Cont) (m : Nat) (v : Sig.sem s_z0p_h3) : Option Res := L_z0p_3 n (fun z0 z1 => K (.ex 3) (s_z0p_t3.enc ((z0, ()), (z1, ())))) v.1.2.2.1 v.1.2.2.2.1 m v.1.1 v.1.2.1 v.1.2.2.2.2.1 v.2.1
theorem i_z0p_3 (n : Nat) (K : Cont) : ∀ m v, iter (V_z0p_3 n K) m v = W_z0p_3 n K m v := by
  intro m
  induction m with
  | zero => intro v; rfl
  | succ m ih =>
    intro v
    show V_z0p_3 n K (iter (V_z0p_3 n K) m) v = V_z0p_3 n K (W_z0p_3 n K m) v
    rw [show iter (V_z0p_3 n K) m = W_z0p_3 n K m from funext ih]
theorem o_z0p_3 (n : Nat) : ∀ L, ls_z0p n 3 = some L → ∀ s K r, L s K = some r → ∃ x s', loopN (run Try.prog cf_z0p Try.f12.ntmps 0 n p_z0p none b_z0p_3) (gc 0 (p_z0p.head 3)) n s = some (x, s') ∧ K x s' = some r := by
  intro L hL s K r h
  have hL : some (loopT 0 (p_z0p.head 3) s_z0p_h3 fun K v => W_z0p_3 n K n v) = some L := hL
  cases hL
  have hb : LOk Try.prog cf_z0p Try.f12.ntmps 0 n p_z0p (ls_z0p n) b_z0p_3 := ⟨trivial, ⟨⟨trivial, trivial⟩, ⟨⟨trivial, ⟨trivial, trivial⟩⟩, trivial⟩⟩⟩
  refine loopT_ok hb (V_z0p_3 n) (t_z0p_3 n) n s K r ?_
  rw [← h]
  unfold loopT
  simp only [i_z0p_3]
theorem m_z0p (n : Nat) (a0 : ByteArray) (a1 : (List Int)) : runFT Try.prog cf_z0p p_z0p (ls_z0p n) Try.f12 (bodyOf Try.f12) (EK.encs e_z0p ((a0, (a1, ())), ()).1) (HK.encs h_z0p ((a0, (a1, ())), ()).2) = M_z0p n a0 a1 := by kernel_rfl
theorem g_z0p (n : Nat) (a0 : ByteArray) (a1 : (List Int)) {r : Res} (h : M_z0p n a0 a1 = some r) : runF Try.prog cf_z0p n p_z0p 12 (EK.encs e_z0p ((a0, (a1, ())), ()).1) (HK.encs h_z0p ((a0, (a1, ())), ()).2) = some r := by
  have hb : LOk Try.prog cf_z0p Try.f12.ntmps 0 n p_z0p (ls_z0p n) (bodyOf Try.f12) := ⟨trivial, ⟨trivial, ⟨⟨trivial, (o_z0p_0 n)⟩, ⟨⟨trivial, ⟨⟨trivial, trivial⟩, ⟨trivial, ⟨⟨trivial, trivial⟩, trivial⟩⟩⟩⟩, ⟨trivial, ⟨⟨trivial, (o_z0p_3 n)⟩, ⟨trivial, trivial⟩⟩⟩⟩⟩⟩⟩
  exact runFT_some Try.prog (c := bodyOf Try.f12) Try.func12 (show Try.f12.body = some (bodyOf Try.f12) from rfl) (show (2 : Nat) ≤ 55 by decide) hb ((m_z0p n a0 a1).trans h) rfl (by kernel_rfl)
noncomputable def c_z0p : Spec := specQ e_z0p h_z0p ro_z0p rh_z0p fun a b => Q_z0p a.1 a.2.1
theorem k_z0p (hm : Try.prog.follows .mixedOrders = true) : SpecOk Try.prog 12 c_z0p := specQ_ok (pol := p_z0p) hm (cf := cf_z0p) (tab_ok specs_nil) fun a b r h => ⟨FUEL, g_z0p FUEL a.1 a.2.1 (decRes_some h)⟩
def s_z0q_h0 : Sig := ⟨[0, 1, 7, 8], [.ty (.int .u32), .ty .str, .ty (.int .i64), .ty (.int .i64)], []⟩
def s_z0q_t0 : Sig := ⟨[0], [.ty (.int .u32)], []⟩
def s_z0q_r : Sig := ⟨[4], [.ty (.int .u32)], []⟩
def p_z0q : Pol := ⟨fun i => if i = 0 then some [(0, .keep), (1, .keep), (7, .keep), (8, .keep)] else none, fun i => if i = 0 then some [(0, .keep)] else none, some [(4, .keep)], [.keep], []⟩
def e_z0q : List EK := [.ty (.int .u32), .ty .str]
def h_z0q : List HK := []
noncomputable def cf_z0q : CallF := mkCF [] []
noncomputable def ls_z0q (n : Nat) : Loops := fun i => if i = 0 then some (loopT 0 (p_z0q.head 0) s_z0q_h0 fun K v => L_z0q_0 n (fun z0 => K (.ex 0) (s_z0q_t0.enc ((z0, ()), ()))) v.1.2.1 v.1.2.2.1 n v.1.1 v.1.2.2.2.1)
  else  none
noncomputable def b_z0q_0 : Code := partOf (bodyOf Try.f59) [1, 0, 1, 0, 0]
noncomputable def V_z0q_0 (n : Nat) (K : Cont) (rec : Sig.sem s_z0q_h0 → Option Res) (v : Sig.sem s_z0q_h0) : Option Res := F_z0q_0 n (fun z0 => K (.ex 0) (s_z0q_t0.enc ((z0, ()), ()))) v.1.2.1 v.1.2.2.1 (fun z0 z3 => rec ((z0, (v.1.2.1, (v.1.2.2.1, (z3, ())))), ())) v.1.1 v.1.2.2.2.1
theorem t_z0q_0 (n : Nat) (K : Cont) (rec : Sig.sem s_z0q_h0 → Option Res) (v : Sig.sem s_z0q_h0) : runT Try.prog cf_z0q Try.f59.ntmps 0 p_z0q (ls_z0q n) b_z0q_0 (s_z0q_h0.enc v) (turnK 0 (p_z0q.head 0) s_z0q_h0 rec K) = V_z0q_0 n K rec v := by kernel_rfl
noncomputable def W_z0q_0 (n : Nat) (K : Cont) (m : Nat) (v : Sig.sem s_z0q_h0) : Option Res := L_z0q_0 n (fun z0 => K (.ex 0) (s_z0q_t0.enc ((z0, ()), ()))) v.1.2.1 v.1.2.2.1 m v.1.1 v.1.2.2.2.1
theorem i_z0q_0 (n : Nat) (K : Cont) : ∀ m v, iter (V_z0q_0 n K) m v = W_z0q_0 n K m v := by
  intro m
  induction m with
  | zero => intro v; rfl
  | succ m ih =>
    intro v
    show V_z0q_0 n K (iter (V_z0q_0 n K) m) v = V_z0q_0 n K (W_z0q_0 n K m) v
    rw [show iter (V_z0q_0 n K) m = W_z0q_0 n K m from funext ih]
theorem o_z0q_0 (n : Nat) : ∀ L, ls_z0q n 0 = some L → ∀ s K r, L s K = some r → ∃ x s', loopN (run Try.prog cf_z0q Try.f59.ntmps 0 n p_z0q none b_z0q_0) (gc 0 (p_z0q.head 0)) n s = some (x, s') ∧ K x s' = some r := by
  intro L hL s K r h
  have hL : some (loopT 0 (p_z0q.head 0) s_z0q_h0 fun K v => W_z0q_0 n K n v) = some L := hL
  cases hL
  have hb : LOk Try.prog cf_z0q Try.f59.ntmps 0 n p_z0q (ls_z0q n) b_z0q_0 := ⟨trivial, ⟨⟨trivial, trivial⟩, ⟨⟨trivial, ⟨trivial, trivial⟩⟩, trivial⟩⟩⟩
  refine loopT_ok hb (V_z0q_0 n) (t_z0q_0 n) n s K r ?_
  rw [← h]
  unfold loopT
  simp only [i_z0q_0]
theorem m_z0q (n : Nat) (a0 : Int) (a1 : ByteArray) : runFT Try.prog cf_z0q p_z0q (ls_z0q n) Try.f59 (bodyOf Try.f59) (EK.encs e_z0q ((a0, (a1, ())), ()).1) (HK.encs h_z0q ((a0, (a1, ())), ()).2) = M_z0q n a0 a1 := by kernel_rfl
theorem g_z0q (n : Nat) (a0 : Int) (a1 : ByteArray) {r : Res} (h : M_z0q n a0 a1 = some r) : runF Try.prog cf_z0q n p_z0q 59 (EK.encs e_z0q ((a0, (a1, ())), ()).1) (HK.encs h_z0q ((a0, (a1, ())), ()).2) = some r := by
  have hb : LOk Try.prog cf_z0q Try.f59.ntmps 0 n p_z0q (ls_z0q n) (bodyOf Try.f59) := ⟨trivial, ⟨⟨trivial, (o_z0q_0 n)⟩, ⟨trivial, trivial⟩⟩⟩
  exact runFT_some Try.prog (c := bodyOf Try.f59) Try.func59 (show Try.f59.body = some (bodyOf Try.f59) from rfl) (show (2 : Nat) ≤ 21 by decide) hb ((m_z0q n a0 a1).trans h) rfl (by kernel_rfl)
noncomputable def c_z0q : Spec := specQ e_z0q h_z0q ro_z0q rh_z0q fun a b => Q_z0q a.1 a.2.1
theorem k_z0q (hm : Try.prog.follows .mixedOrders = true) : SpecOk Try.prog 59 c_z0q := specQ_ok (pol := p_z0q) hm (cf := cf_z0q) (tab_ok specs_nil) fun a b r h => ⟨FUEL, g_z0q FUEL a.1 a.2.1 (decRes_some h)⟩
def s_z0r_h0 : Sig := ⟨[3, 6, 7, 8], [.ty (.int .u32), .ty (.slice .str), .ty (.int .i64), .ty (.int .i64)], []⟩
def s_z0r_t0 : Sig := ⟨[3], [.ty (.int .u32)], []⟩
def s_z0r_r : Sig := ⟨[2], [.ty (.int .u32)], []⟩
def p_z0r : Pol := ⟨fun i => if i = 0 then some [(3, .keep), (6, .keep), (7, .keep), (8, .keep)] else none, fun i => if i = 0 then some [(3, .keep)] else none, some [(2, .keep)], [.keep], []⟩
def e_z0r : List EK := [.ty (.slice .str)]
def h_z0r : List HK := []
noncomputable def cf_z0r : CallF := mkCF [(59, c_z0q)] [(59, [(.int .u32), .str])]
noncomputable def ls_z0r (n : Nat) : Loops := fun i => if i = 0 then some (loopT 0 (p_z0r.head 0) s_z0r_h0 fun K v => L_z0r_0 n (fun z0 => K (.ex 0) (s_z0r_t0.enc ((z0, ()), ()))) v.1.2.1 v.1.2.2.1 n v.1.1 v.1.2.2.2.1)
  else  none
noncomputable def b_z0r_0 : Code := partOf (bodyOf Try.f35) [1, 1, 0, 1, 0, 0]
noncomputable def V_z0r_0 (n : Nat) (K : Cont) (rec : Sig.sem s_z0r_h0 → Option Res) (v : Sig.sem s_z0r_h0) : Option Res := F_z0r_0 n (fun z0 => K (.ex 0) (s_z0r_t0.enc ((z0, ()), ()))) v.1.2.1 v.1.2.2.1 (fun z0 z3 => rec ((z0, (v.1.2.1, (v.1.2.2.1, (z3, ())))), ())) v.1.1 v.1.2.2.2.1
theorem t_z0r_0 (n : Nat) (K : Cont) (rec : Sig.sem s_z0r_h0 → Option Res) (v : Sig.sem s_z0r_h0) : runT Try.prog cf_z0r Try.f35.ntmps 0 p_z0r (ls_z0r n) b_z0r_0 (s_z0r_h0.enc v) (turnK 0 (p_z0r.head 0) s_z0r_h0 rec K) = V_z0r_0 n K rec v := by kernel_rfl
noncomputable def W_z0r_0 (n : Nat) (K : Cont) (m : Nat) (v : Sig.sem s_z0r_h0) : Option Res := L_z0r_0 n (fun z0 => K (.ex 0) (s_z0r_t0.enc ((z0, ()), ()))) v.1.2.1 v.1.2.2.1 m v.1.1 v.1.2.2.2.1
theorem i_z0r_0 (n : Nat) (K : Cont) : ∀ m v, iter (V_z0r_0 n K) m v = W_z0r_0 n K m v := by
  intro m
  induction m with
  | zero => intro v; rfl
  | succ m ih =>
    intro v
    show V_z0r_0 n K (iter (V_z0r_0 n K) m) v = V_z0r_0 n K (W_z0r_0 n K m) v
    rw [show iter (V_z0r_0 n K) m = W_z0r_0 n K m from funext ih]
theorem o_z0r_0 (n : Nat) : ∀ L, ls_z0r n 0 = some L → ∀ s K r, L s K = some r → ∃ x s', loopN (run Try.prog cf_z0r Try.f35.ntmps 0 n p_z0r none b_z0r_0) (gc 0 (p_z0r.head 0)) n s = some (x, s') ∧ K x s' = some r := by
  intro L hL s K r h
  have hL : some (loopT 0 (p_z0r.head 0) s_z0r_h0 fun K v => W_z0r_0 n K n v) = some L := hL
  cases hL
  have hb : LOk Try.prog cf_z0r Try.f35.ntmps 0 n p_z0r (ls_z0r n) b_z0r_0 := ⟨trivial, ⟨⟨trivial, trivial⟩, ⟨⟨trivial, trivial⟩, trivial⟩⟩⟩
  refine loopT_ok hb (V_z0r_0 n) (t_z0r_0 n) n s K r ?_
  rw [← h]
  unfold loopT
  simp only [i_z0r_0]
theorem m_z0r (n : Nat) (a0 : (List ByteArray)) : runFT Try.prog cf_z0r p_z0r (ls_z0r n) Try.f35 (bodyOf Try.f35) (EK.encs e_z0r ((a0, ()), ()).1) (HK.encs h_z0r ((a0, ()), ()).2) = M_z0r n a0 := by kernel_rfl
theorem g_z0r (n : Nat) (a0 : (List ByteArray)) {r : Res} (h : M_z0r n a0 = some r) : runF Try.prog cf_z0r n p_z0r 35 (EK.encs e_z0r ((a0, ()), ()).1) (HK.encs h_z0r ((a0, ()), ()).2) = some r := by
  have hb : LOk Try.prog cf_z0r Try.f35.ntmps 0 n p_z0r (ls_z0r n) (bodyOf Try.f35) := ⟨trivial, ⟨trivial, ⟨⟨trivial, (o_z0r_0 n)⟩, ⟨trivial, trivial⟩⟩⟩⟩
  exact runFT_some Try.prog (c := bodyOf Try.f35) Try.func35 (show Try.f35.body = some (bodyOf Try.f35) from rfl) (show (1 : Nat) ≤ 17 by decide) hb ((m_z0r n a0).trans h) rfl (by kernel_rfl)
noncomputable def c_z0r : Spec := specQ e_z0r h_z0r ro_z0r rh_z0r fun a b => Q_z0r a.1
theorem k_z0r (hm : Try.prog.follows .mixedOrders = true) : SpecOk Try.prog 35 c_z0r := specQ_ok (pol := p_z0r) hm (cf := cf_z0r) (tab_ok (specs_cons (k_z0q hm) specs_nil)) fun a b r h => ⟨FUEL, g_z0r FUEL a.1 (decRes_some h)⟩
def s_z0s_r : Sig := ⟨[2], [.ty (.int .u32)], []⟩
def p_z0s : Pol := ⟨fun i => none, fun i => none, some [(2, .keep)], [.keep], []⟩
def e_z0s : List EK := [.ty (.int .u32)]
def h_z0s : List HK := []
noncomputable def cf_z0s : CallF := mkCF [] []
noncomputable def ls_z0s (n : Nat) : Loops := fun i =>  none
theorem m_z0s (n : Nat) (a0 : Int) : runFT Try.prog cf_z0s p_z0s (ls_z0s n) Try.f34 (bodyOf Try.f34) (EK.encs e_z0s ((a0, ()), ()).1) (HK.encs h_z0s ((a0, ()), ()).2) = M_z0s n a0 := by kernel_rfl
theorem g_z0s (n : Nat) (a0 : Int) {r : Res} (h : M_z0s n a0 = some r) : runF Try.prog cf_z0s n p_z0s 34 (EK.encs e_z0s ((a0, ()), ()).1) (HK.encs h_z0s ((a0, ()), ()).2) = some r := by
  have hb : LOk Try.prog cf_z0s Try.f34.ntmps 0 n p_z0s (ls_z0s n) (bodyOf Try.f34) := ⟨trivial, ⟨trivial, ⟨trivial, ⟨trivial, ⟨trivial, ⟨trivial, trivial⟩⟩⟩⟩⟩⟩
  exact runFT_some Try.prog (c := bodyOf Try.f34) Try.func34 (show Try.f34.body = some (bodyOf Try.f34) from rfl) (show (1 : Nat) ≤ 19 by decide) hb ((m_z0s n a0).trans h) rfl (by kernel_rfl)
noncomputable def c_z0s : Spec := specQ e_z0s h_z0s ro_z0s rh_z0s fun a b => Q_z0s a.1
theorem k_z0s (hm : Try.prog.follows .mixedOrders = true) : SpecOk Try.prog 34 c_z0s := specQ_ok (pol := p_z0s) hm (cf := cf_z0s) (tab_ok specs_nil) fun a b r h => ⟨FUEL, g_z0s FUEL a.1 (decRes_some h)⟩
def s_z0t_r : Sig := ⟨[4, 5], [.ty (.int .u32), .ty (.int .i64)], [.one false [.ptr 1 0 0, .nul 4, .ptr 3 0 0, .ty (.int .i64)], .one false [.hs 2 0], .row (.int .u8), .one false [.hs 4 0], .row (.int .u8)]⟩
def p_z0t : Pol := ⟨fun i => none, fun i => none, some [(4, .keep), (5, .keep)], [.keep, .keep], []⟩
def e_z0t : List EK := [.ptr 0 0 0, .agg FieldT]
def h_z0t : List HK := [.one false [.ptr 1 0 0, .nul 4, .ptr 3 0 0, .ty (.int .i64)], .one false [.hs 2 0], .row (.int .u8), .one false [.hs 4 0], .row (.int .u8)]
noncomputable def cf_z0t : CallF := mkCF [(40, c_z0m), (35, c_z0r), (34, c_z0s)] [(35, [(.slice .str)]), (34, [(.int .u32)])]
noncomputable def ls_z0t (n : Nat) : Loops := fun i =>  none
theorem m_z0t (n : Nat) (a0 : FieldS) (a1 : Int) (a2 : Nat) (a3 : (List Int)) (a4 : Nat) (a5 : (List Int)) : runFT Try.prog cf_z0t p_z0t (ls_z0t n) Try.f22 (bodyOf Try.f22) (EK.encs e_z0t (((), (a0, ())), (((), ((), ((), (a1, ())))), ((a2, ()), (a3, ((a4, ()), (a5, ())))))).1) (HK.encs h_z0t (((), (a0, ())), (((), ((), ((), (a1, ())))), ((a2, ()), (a3, ((a4, ()), (a5, ())))))).2) = M_z0t n a0 a1 a2 a3 a4 a5 := by kernel_rfl
theorem g_z0t (n : Nat) (a0 : FieldS) (a1 : Int) (a2 : Nat) (a3 : (List Int)) (a4 : Nat) (a5 : (List Int)) {r : Res} (h : M_z0t n a0 a1 a2 a3 a4 a5 = some r) : runF Try.prog cf_z0t n p_z0t 22 (EK.encs e_z0t (((), (a0, ())), (((), ((), ((), (a1, ())))), ((a2, ()), (a3, ((a4, ()), (a5, ())))))).1) (HK.encs h_z0t (((), (a0, ())), (((), ((), ((), (a1, ())))), ((a2, ()), (a3, ((a4, ()), (a5, ())))))).2) = some r := by
  have hb : LOk Try.prog cf_z0t Try.f22.ntmps 5 n p_z0t (ls_z0t n) (bodyOf Try.f22) := ⟨trivial, ⟨trivial, ⟨⟨trivial, ⟨⟨trivial, trivial⟩, trivial⟩⟩, ⟨trivial, trivial⟩⟩⟩⟩
  exact runFT_some Try.prog (c := bodyOf Try.f22) Try.func22 (show Try.f22.body = some (bodyOf Try.f22) from rfl) (show (2 : Nat) ≤ 22 by decide) hb ((m_z0t n a0 a1 a2 a3 a4 a5).trans h) rfl (by kernel_rfl)
noncomputable def c_z0t : Spec := specQ e_z0t h_z0t ro_z0t rh_z0t fun a b => Q_z0t a.2.1 b.1.2.2.2.1 b.2.1.1 b.2.2.1 b.2.2.2.1.1 b.2.2.2.2.1
theorem k_z0t (hm : Try.prog.follows .mixedOrders = true) : SpecOk Try.prog 22 c_z0t := specQ_ok (pol := p_z0t) hm (cf := cf_z0t) (tab_ok (specs_cons (k_z0m hm) (specs_cons (k_z0r hm) (specs_cons (k_z0s hm) specs_nil)))) fun a b r h => ⟨FUEL, g_z0t FUEL a.2.1 b.1.2.2.2.1 b.2.1.1 b.2.2.1 b.2.2.2.1.1 b.2.2.2.2.1 (decRes_some h)⟩
def s_z0u_r : Sig := ⟨[4], [.ty .bool], []⟩
def s_z0u_h0 : Sig := ⟨[0, 1, 5], [.ty (.slice .str), .ty (.slice .str), .ty (.int .i64)], []⟩
def s_z0u_t0 : Sig := ⟨[], [], []⟩
def p_z0u : Pol := ⟨fun i => if i = 0 then some [(0, .keep), (1, .keep), (5, .keep)] else none, fun i => if i = 0 then some [] else none, some [(4, .keep)], [.keep], []⟩
def e_z0u : List EK := [.ty (.slice .str), .ty (.slice .str)]
def h_z0u : List HK := []
noncomputable def cf_z0u : CallF := mkCF [] []
noncomputable def ls_z0u (n : Nat) : Loops := fun i => if i = 0 then some (loopT 0 (p_z0u.head 0) s_z0u_h0 fun K v => L_z0u_0 n (fun z0 => K .rt (s_z0u_r.enc ((z0, ()), ()))) (fun _ => K (.ex 0) (s_z0u_t0.enc ((), ()))) v.1.1 v.1.2.1 n v.1.2.2.1)
  else  none
noncomputable def b_z0u_0 : Code := partOf (bodyOf Try.f14) [1, 1, 0, 1, 0, 0]
noncomputable def V_z0u_0 (n : Nat) (K : Cont) (rec : Sig.sem s_z0u_h0 → Option Res) (v : Sig.sem s_z0u_h0) : Option Res := F_z0u_0 n (fun z0 => K .rt (s_z0u_r.enc ((z0, ()), ()))) (fun _ => K (.ex 0) (s_z0u_t0.enc ((), ()))) v.1.1 v.1.2.1 (fun z2 => rec ((v.1.1, (v.1.2.1, (z2, ()))), ())) v.1.2.2.1
theorem t_z0u_0 (n : Nat) (K : Cont) (rec : Sig.sem s_z0u_h0 → Option Res) (v : Sig.sem s_z0u_h0) : runT Try.prog cf_z0u Try.f14.ntmps 0 p_z0u (ls_z0u n) b_z0u_0 (s_z0u_h0.enc v) (turnK 0 (p_z0u.head 0) s_z0u_h0 rec K) = V_z0u_0 n K rec v := by kernel_rfl
noncomputable def W_z0u_0 (n : Nat) (K : Cont) (m : Nat) (v : Sig.sem s_z0u_h0) : Option Res := L_z0u_0 n (fun z0 => K .rt (s_z0u_r.enc ((z0, ()), ()))) (fun _ => K (.ex 0) (s_z0u_t0.enc ((), ()))) v.1.1 v.1.2.1 m v.1.2.2.1
theorem i_z0u_0 (n : Nat) (K : Cont) : ∀ m v, iter (V_z0u_0 n K) m v = W_z0u_0 n K m v := by
  intro m
  induction m with
  | zero => intro v; rfl
  | succ m ih =>
    intro v
    show V_z0u_0 n K (iter (V_z0u_0 n K) m) v = V_z0u_0 n K (W_z0u_0 n K m) v
    rw [show iter (V_z0u_0 n K) m = W_z0u_0 n K m from funext ih]
theorem o_z0u_0 (n : Nat) : ∀ L, ls_z0u n 0 = some L → ∀ s K r, L s K = some r → ∃ x s', loopN (run Try.prog cf_z0u Try.f14.ntmps 0 n p_z0u none b_z0u_0) (gc 0 (p_z0u.head 0)) n s = some (x, s') ∧ K x s' = some r := by
  intro L hL s K r h
  have hL : some (loopT 0 (p_z0u.head 0) s_z0u_h0 fun K v => W_z0u_0 n K n v) = some L := hL
  cases hL
  have hb : LOk Try.prog cf_z0u Try.f14.ntmps 0 n p_z0u (ls_z0u n) b_z0u_0 := ⟨⟨trivial, ⟨trivial, trivial⟩⟩, ⟨⟨trivial, ⟨⟨trivial, trivial⟩, trivial⟩⟩, trivial⟩⟩
  refine loopT_ok hb (V_z0u_0 n) (t_z0u_0 n) n s K r ?_
  rw [← h]
  unfold loopT
  simp only [i_z0u_0]
theorem m_z0u (n : Nat) (a0 : (List ByteArray)) (a1 : (List ByteArray)) : runFT Try.prog cf_z0u p_z0u (ls_z0u n) Try.f14 (bodyOf Try.f14) (EK.encs e_z0u ((a0, (a1, ())), ()).1) (HK.encs h_z0u ((a0, (a1, ())), ()).2) = M_z0u n a0 a1 := by kernel_rfl
theorem g_z0u (n : Nat) (a0 : (List ByteArray)) (a1 : (List ByteArray)) {r : Res} (h : M_z0u n a0 a1 = some r) : runF Try.prog cf_z0u n p_z0u 14 (EK.encs e_z0u ((a0, (a1, ())), ()).1) (HK.encs h_z0u ((a0, (a1, ())), ()).2) = some r := by
  have hb : LOk Try.prog cf_z0u Try.f14.ntmps 0 n p_z0u (ls_z0u n) (bodyOf Try.f14) := ⟨trivial, ⟨⟨trivial, ⟨⟨trivial, trivial⟩, trivial⟩⟩, ⟨⟨trivial, (o_z0u_0 n)⟩, ⟨trivial, trivial⟩⟩⟩⟩
  exact runFT_some Try.prog (c := bodyOf Try.f14) Try.func14 (show Try.f14.body = some (bodyOf Try.f14) from rfl) (show (2 : Nat) ≤ 26 by decide) hb ((m_z0u n a0 a1).trans h) rfl (by kernel_rfl)
noncomputable def c_z0u : Spec := specQ e_z0u h_z0u ro_z0u rh_z0u fun a b => Q_z0u a.1 a.2.1
theorem k_z0u (hm : Try.prog.follows .mixedOrders = true) : SpecOk Try.prog 14 c_z0u := specQ_ok (pol := p_z0u) hm (cf := cf_z0u) (tab_ok specs_nil) fun a b r h => ⟨FUEL, g_z0u FUEL a.1 a.2.1 (decRes_some h)⟩
def s_z0v_r : Sig := ⟨[0], [.ty .bool], []⟩
def p_z0v : Pol := ⟨fun i => none, fun i => none, some [(0, .keep)], [.keep], []⟩
def e_z0v : List EK := []
def h_z0v : List HK := []
noncomputable def cf_z0v : CallF := { (mkCF [(19, c_z01), (21, c_z02), (20, c_z0n), (23, c_z0o), (12, c_z0p), (22, c_z0t), (14, c_z0u), (35, c_z0r), (34, c_z0s)] [(19, [(.int .i64), .str]), (21, [(.int .i64), (.int .i64)]), (23, [(.slice FieldT)]), (12, [.str, (.slice (.int .i64))]), (14, [(.slice .str), (.slice .str)]), (35, [(.slice .str)]), (34, [(.int .u32)])]) with mix := mixes [(20, [none, some ((.slice FieldT))])] }
noncomputable def ls_z0v (n : Nat) : Loops := fun i =>  none
theorem m_z0v (n : Nat) : runFT Try.prog cf_z0v p_z0v (ls_z0v n) Try.f11 (bodyOf Try.f11) (EK.encs e_z0v ((), ()).1) (HK.encs h_z0v ((), ()).2) = M_z0v n := by kernel_rfl
theorem g_z0v (n : Nat) {r : Res} (h : M_z0v n = some r) : runF Try.prog cf_z0v n p_z0v 11 (EK.encs e_z0v ((), ()).1) (HK.encs h_z0v ((), ()).2) = some r := by
  have hb : LOk Try.prog cf_z0v Try.f11.ntmps 0 n p_z0v (ls_z0v n) (bodyOf Try.f11) := ⟨trivial, ⟨trivial, ⟨trivial, ⟨⟨trivial, ⟨⟨trivial, trivial⟩, trivial⟩⟩, ⟨trivial, ⟨trivial, ⟨trivial, ⟨trivial, ⟨trivial, ⟨trivial, ⟨trivial, trivial⟩⟩⟩⟩⟩⟩⟩⟩⟩⟩⟩
  exact runFT_some Try.prog (c := bodyOf Try.f11) Try.func11 (show Try.f11.body = some (bodyOf Try.f11) from rfl) (show (0 : Nat) ≤ 119 by decide) hb ((m_z0v n).trans h) rfl (by kernel_rfl)
noncomputable def c_z0v : Spec := specQ e_z0v h_z0v ro_z0v rh_z0v fun a b => Q_z0v
theorem k_z0v (hm : Try.prog.follows .mixedOrders = true) : SpecOk Try.prog 11 c_z0v := specQ_ok (pol := p_z0v) hm (cf := cf_z0v) (CallSound.mix <| tab_ok (specs_cons (k_z01 hm) (specs_cons (k_z02 hm) (specs_cons (k_z0n hm) (specs_cons (k_z0o hm) (specs_cons (k_z0p hm) (specs_cons (k_z0t hm) (specs_cons (k_z0u hm) (specs_cons (k_z0r hm) (specs_cons (k_z0s hm) specs_nil)))))))))) fun a b r h => ⟨FUEL, g_z0v FUEL (decRes_some h)⟩
noncomputable def c_z0w : Spec := specQ [.ty (.slice .str), .ty .str] [] ro_z0w rh_z0w fun a b => Q_z0w a.1 a.2.1
theorem k_z0w (hm : Try.prog.follows .mixedOrders = true) : SpecOk Try.prog 36 c_z0w := H18.join_ok
def s_z0x_r : Sig := ⟨[2], [.ty .str], []⟩
def p_z0x : Pol := ⟨fun i => none, fun i => none, some [(2, .keep)], [.keep], []⟩
def e_z0x : List EK := [.ty (.slice .str)]
def h_z0x : List HK := []
noncomputable def cf_z0x : CallF := mkCF [(36, c_z0w)] [(36, [(.slice .str), .str])]
noncomputable def ls_z0x (n : Nat) : Loops := fun i =>  none
theorem m_z0x (n : Nat) (a0 : (List ByteArray)) : runFT Try.prog cf_z0x p_z0x (ls_z0x n) Try.f13 (bodyOf Try.f13) (EK.encs e_z0x ((a0, ()), ()).1) (HK.encs h_z0x ((a0, ()), ()).2) = M_z0x n a0 := by kernel_rfl
theorem g_z0x (n : Nat) (a0 : (List ByteArray)) {r : Res} (h : M_z0x n a0 = some r) : runF Try.prog cf_z0x n p_z0x 13 (EK.encs e_z0x ((a0, ()), ()).1) (HK.encs h_z0x ((a0, ()), ()).2) = some r := by
  have hb : LOk Try.prog cf_z0x Try.f13.ntmps 0 n p_z0x (ls_z0x n) (bodyOf Try.f13) := ⟨trivial, ⟨trivial, trivial⟩⟩
  exact runFT_some Try.prog (c := bodyOf Try.f13) Try.func13 (show Try.f13.body = some (bodyOf Try.f13) from rfl) (show (1 : Nat) ≤ 5 by decide) hb ((m_z0x n a0).trans h) rfl (by kernel_rfl)
noncomputable def c_z0x : Spec := specQ e_z0x h_z0x ro_z0x rh_z0x fun a b => Q_z0x a.1
theorem k_z0x (hm : Try.prog.follows .mixedOrders = true) : SpecOk Try.prog 13 c_z0x := specQ_ok (pol := p_z0x) hm (cf := cf_z0x) (tab_ok (specs_cons (k_z0w hm) specs_nil)) fun a b r h => ⟨FUEL, g_z0x FUEL a.1 (decRes_some h)⟩
def s_z0y_r : Sig := ⟨[6], [.ty .bool], []⟩
def s_z0y_h0 : Sig := ⟨[0, 1, 2, 7, 8], [.ty (.slice .str), .ty .str, .ty (.slice (.int .i64)), .hs 0 0, .ty (.int .i64)], [.row (.int .i64)]⟩
def s_z0y_t0 : Sig := ⟨[0, 1, 2, 7], [.ty (.slice .str), .ty .str, .ty (.slice (.int .i64)), .hs 0 0], [.row (.int .i64)]⟩
def p_z0y : Pol := ⟨fun i => if i = 0 then some [(0, .keep), (1, .keep), (2, .keep), (7, (.own (.int .i64))), (8, .keep)] else none, fun i => if i = 0 then some [(0, .keep), (1, .keep), (2, .keep), (7, (.own (.int .i64)))] else none, some [(6, .keep)], [.keep], []⟩
def e_z0y : List EK := [.ty (.slice .str), .ty .str, .ty (.slice (.int .i64))]
def h_z0y : List HK := []
noncomputable def cf_z0y : CallF := mkCF [(11, c_z0v), (13, c_z0x), (12, c_z0p), (14, c_z0u)] [(11, []), (13, [(.slice .str)]), (12, [.str, (.slice (.int .i64))]), (14, [(.slice .str), (.slice .str)])]
noncomputable def ls_z0y (n : Nat) : Loops := fun i => if i = 0 then some (loopT 0 (p_z0y.head 0) s_z0y_h0 fun K v => L_z0y_0 n (fun z0 => K .rt (s_z0y_r.enc ((z0, ()), ()))) (fun z3 z4 => K (.ex 0) (s_z0y_t0.enc ((v.1.1, (v.1.2.1, (v.1.2.2.1, (z3, ())))), (z4, ())))) v.1.1 n v.1.2.2.2.1 v.1.2.2.2.2.1 v.2.1)
  else  none
noncomputable def b_z0y_0 : Code := partOf (bodyOf Try.f3) [1, 1, 1, 0, 1, 0, 0]
noncomputable def V_z0y_0 (n : Nat) (K : Cont) (rec : Sig.sem s_z0y_h0 → Option Res) (v : Sig.sem s_z0y_h0) : Option Res := F_z0y_0 n (fun z0 => K .rt (s_z0y_r.enc ((z0, ()), ()))) (fun z3 z4 => K (.ex 0) (s_z0y_t0.enc ((v.1.1, (v.1.2.1, (v.1.2.2.1, (z3, ())))), (z4, ())))) v.1.1 (fun z3 z4 z5 => rec ((v.1.1, (v.1.2.1, (v.1.2.2.1, (z3, (z4, ()))))), (z5, ()))) v.1.2.2.2.1 v.1.2.2.2.2.1 v.2.1
theorem t_z0y_0 (n : Nat) (K : Cont) (rec : Sig.sem s_z0y_h0 → Option Res) (v : Sig.sem s_z0y_h0) : runT Try.prog cf_z0y Try.f3.ntmps 0 p_z0y (ls_z0y n) b_z0y_0 (s_z0y_h0.enc v) (turnK 0 (p_z0y.head 0) s_z0y_h0 rec K) = V_z0y_0 n K rec v := by kernel_rfl
noncomputable def W_z0y_0 (n : Nat) (K : Cont) (m : Nat) (v : Sig.sem s_z0y_h0) : Option Res := L_z0y_0 n (fun z0 => K .rt (s_z0y_r.enc ((z0, ()), ()))) (fun z3 z4 => K (.ex 0) (s_z0y_t0.enc ((v.1.1, (v.1.2.1, (v.1.2.2.1, (z3, ())))), (z4, ())))) v.1.1 m v.1.2.2.2.1 v.1.2.2.2.2.1 v.2.1
theorem i_z0y_0 (n : Nat) (K : Cont) : ∀ m v, iter (V_z0y_0 n K) m v = W_z0y_0 n K m v := by
  intro m
  induction m with
  | zero => intro v; rfl
  | succ m ih =>
    intro v
    show V_z0y_0 n K (iter (V_z0y_0 n K) m) v = V_z0y_0 n K (W_z0y_0 n K m) v
    rw [show iter (V_z0y_0 n K) m = W_z0y_0 n K m from funext ih]
theorem o_z0y_0 (n : Nat) : ∀ L, ls_z0y n 0 = some L → ∀ s K r, L s K = some r → ∃ x s', loopN (run Try.prog cf_z0y Try.f3.ntmps 0 n p_z0y none b_z0y_0) (gc 0 (p_z0y.head 0)) n s = some (x, s') ∧ K x s' = some r := by
  intro L hL s K r h
  have hL : some (loopT 0 (p_z0y.head 0) s_z0y_h0 fun K v => W_z0y_0 n K n v) = some L := hL
  cases hL
  have hb : LOk Try.prog cf_z0y Try.f3.ntmps 0 n p_z0y (ls_z0y n) b_z0y_0 := ⟨⟨trivial, ⟨trivial, trivial⟩⟩, ⟨⟨⟨trivial, ⟨⟨trivial, trivial⟩, trivial⟩⟩, trivial⟩, trivial⟩⟩
  refine loopT_ok hb (V_z0y_0 n) (t_z0y_0 n) n s K r ?_
  rw [← h]
  unfold loopT
  simp only [i_z0y_0]
theorem m_z0y (n : Nat) (a0 : (List ByteArray)) (a1 : ByteArray) (a2 : (List Int)) : runFT Try.prog cf_z0y p_z0y (ls_z0y n) Try.f3 (bodyOf Try.f3) (EK.encs e_z0y ((a0, (a1, (a2, ()))), ()).1) (HK.encs h_z0y ((a0, (a1, (a2, ()))), ()).2) = M_z0y n a0 a1 a2 := by kernel_rfl
theorem g_z0y (n : Nat) (a0 : (List ByteArray)) (a1 : ByteArray) (a2 : (List Int)) {r : Res} (h : M_z0y n a0 a1 a2 = some r) : runF Try.prog cf_z0y n p_z0y 3 (EK.encs e_z0y ((a0, (a1, (a2, ()))), ()).1) (HK.encs h_z0y ((a0, (a1, (a2, ()))), ()).2) = some r := by
  have hb : LOk Try.prog cf_z0y Try.f3.ntmps 0 n p_z0y (ls_z0y n) (bodyOf Try.f3) := ⟨trivial, ⟨⟨trivial, ⟨⟨trivial, trivial⟩, trivial⟩⟩, ⟨trivial, ⟨⟨trivial, (o_z0y_0 n)⟩, ⟨trivial, ⟨⟨trivial, ⟨⟨trivial, trivial⟩, trivial⟩⟩, ⟨trivial, ⟨trivial, trivial⟩⟩⟩⟩⟩⟩⟩⟩
  exact runFT_some Try.prog (c := bodyOf Try.f3) Try.func3 (show Try.f3.body = some (bodyOf Try.f3) from rfl) (show (3 : Nat) ≤ 94 by decide) hb ((m_z0y n a0 a1 a2).trans h) rfl (by kernel_rfl)
noncomputable def c_z0y : Spec := specQ e_z0y h_z0y ro_z0y rh_z0y fun a b => Q_z0y a.1 a.2.1 a.2.2.1
theorem k_z0y (hm : Try.prog.follows .mixedOrders = true) : SpecOk Try.prog 3 c_z0y := specQ_ok (pol := p_z0y) hm (cf := cf_z0y) (tab_ok (specs_cons (k_z0v hm) (specs_cons (k_z0x hm) (specs_cons (k_z0p hm) (specs_cons (k_z0u hm) specs_nil))))) fun a b r h => ⟨FUEL, g_z0y FUEL a.1 a.2.1 a.2.2.1 (decRes_some h)⟩
def s_z0z_h0 : Sig := ⟨[0, 3, 4], [.ty (.slice NodeT), .ty (.int .i64), .ty (.int .i64)], []⟩
def s_z0z_t0 : Sig := ⟨[3], [.ty (.int .i64)], []⟩
def s_z0z_r : Sig := ⟨[2], [.ty .bool], []⟩
def p_z0z : Pol := ⟨fun i => if i = 0 then some [(0, .keep), (3, .keep), (4, .keep)] else none, fun i => if i = 0 then some [(3, .keep)] else none, some [(2, .keep)], [.keep], []⟩
def e_z0z : List EK := [.ty (.slice NodeT)]
def h_z0z : List HK := []
noncomputable def cf_z0z : CallF := mkCF [] []
noncomputable def ls_z0z (n : Nat) : Loops := fun i => if i = 0 then some (loopT 0 (p_z0z.head 0) s_z0z_h0 fun K v => L_z0z_0 n (fun z0 => K (.ex 0) (s_z0z_t0.enc ((z0, ()), ()))) v.1.1 n v.1.2.1 v.1.2.2.1)
  else  none
noncomputable def b_z0z_0 : Code := partOf (bodyOf Try.f24) [1, 1, 0, 1, 0, 0]
noncomputable def V_z0z_0 (n : Nat) (K : Cont) (rec : Sig.sem s_z0z_h0 → Option Res) (v : Sig.sem s_z0z_h0) : Option Res := F_z0z_0 n (fun z0 => K (.ex 0) (s_z0z_t0.enc ((z0, ()), ()))) v.1.1 (fun z1 z2 => rec ((v.1.1, (z1, (z2, ()))), ())) v.1.2.1 v.1.2.2.1
theorem t_z0z_0 (n : Nat) (K : Cont) (rec : Sig.sem s_z0z_h0 → Option Res) (v : Sig.sem s_z0z_h0) : runT Try.prog cf_z0z Try.f24.ntmps 0 p_z0z (ls_z0z n) b_z0z_0 (s_z0z_h0.enc v) (turnK 0 (p_z0z.head 0) s_z0z_h0 rec K) = V_z0z_0 n K rec v := by kernel_rfl
noncomputable def W_z0z_0 (n : Nat) (K : Cont) (m : Nat) (v : Sig.sem s_z0z_h0) : Option Res := L_z0z_0 n (fun z0 => K (.ex 0) (s_z0z_t0.enc ((z0, ()), ()))) v.1.1 m v.1.2.1 v.1.2.2.1
theorem i_z0z_0 (n : Nat) (K : Cont) : ∀ m v, iter (V_z0z_0 n K) m v = W_z0z_0 n K m v := by
  intro m
  induction m with
  | zero => intro v; rfl
  | succ m ih =>
    intro v
    show V_z0z_0 n K (iter (V_z0z_0 n K) m) v = V_z0z_0 n K (W_z0z_0 n K m) v
    rw [show iter (V_z0z_0 n K) m = W_z0z_0 n K m from funext ih]
theorem o_z0z_0 (n : Nat) : ∀ L, ls_z0z n 0 = some L → ∀ s K r, L s K = some r → ∃ x s', loopN (run Try.prog cf_z0z Try.f24.ntmps 0 n p_z0z none b_z0z_0) (gc 0 (p_z0z.head 0)) n s = some (x, s') ∧ K x s' = some r := by
  intro L hL s K r h
  have hL : some (loopT 0 (p_z0z.head 0) s_z0z_h0 fun K v => W_z0z_0 n K n v) = some L := hL
  cases hL
  have hb : LOk Try.prog cf_z0z Try.f24.ntmps 0 n p_z0z (ls_z0z n) b_z0z_0 := ⟨⟨trivial, ⟨trivial, trivial⟩⟩, ⟨trivial, trivial⟩⟩
  refine loopT_ok hb (V_z0z_0 n) (t_z0z_0 n) n s K r ?_
  rw [← h]
  unfold loopT
  simp only [i_z0z_0]
theorem m_z0z (n : Nat) (a0 : (List NodeS)) : runFT Try.prog cf_z0z p_z0z (ls_z0z n) Try.f24 (bodyOf Try.f24) (EK.encs e_z0z ((a0, ()), ()).1) (HK.encs h_z0z ((a0, ()), ()).2) = M_z0z n a0 := by kernel_rfl
theorem g_z0z (n : Nat) (a0 : (List NodeS)) {r : Res} (h : M_z0z n a0 = some r) : runF Try.prog cf_z0z n p_z0z 24 (EK.encs e_z0z ((a0, ()), ()).1) (HK.encs h_z0z ((a0, ()), ()).2) = some r := by
  have hb : LOk Try.prog cf_z0z Try.f24.ntmps 0 n p_z0z (ls_z0z n) (bodyOf Try.f24) := ⟨trivial, ⟨trivial, ⟨⟨trivial, (o_z0z_0 n)⟩, ⟨trivial, trivial⟩⟩⟩⟩
  exact runFT_some Try.prog (c := bodyOf Try.f24) Try.func24 (show Try.f24.body = some (bodyOf Try.f24) from rfl) (show (1 : Nat) ≤ 27 by decide) hb ((m_z0z n a0).trans h) rfl (by kernel_rfl)
noncomputable def c_z0z : Spec := specQ e_z0z h_z0z ro_z0z rh_z0z fun a b => Q_z0z a.1
theorem k_z0z (hm : Try.prog.follows .mixedOrders = true) : SpecOk Try.prog 24 c_z0z := specQ_ok (pol := p_z0z) hm (cf := cf_z0z) (tab_ok specs_nil) fun a b r h => ⟨FUEL, g_z0z FUEL a.1 (decRes_some h)⟩
def s_z10_r : Sig := ⟨[2], [.ty .str], [.one false [.hs 1 0], .row (.int .u8)]⟩
def p_z10 : Pol := ⟨fun i => none, fun i => none, some [(2, .keep)], [.keep], []⟩
def e_z10 : List EK := [.ptr 0 0 0]
def h_z10 : List HK := [.one false [.hs 1 0], .row (.int .u8)]
noncomputable def cf_z10 : CallF := mkCF [] []
noncomputable def ls_z10 (n : Nat) : Loops := fun i =>  none
theorem m_z10 (n : Nat) (a0 : Nat) (a1 : (List Int)) : runFT Try.prog cf_z10 p_z10 (ls_z10 n) Try.f52 (bodyOf Try.f52) (EK.encs e_z10 (((), ()), ((a0, ()), (a1, ()))).1) (HK.encs h_z10 (((), ()), ((a0, ()), (a1, ()))).2) = M_z10 n a0 a1 := by kernel_rfl
theorem g_z10 (n : Nat) (a0 : Nat) (a1 : (List Int)) {r : Res} (h : M_z10 n a0 a1 = some r) : runF Try.prog cf_z10 n p_z10 52 (EK.encs e_z10 (((), ()), ((a0, ()), (a1, ()))).1) (HK.encs h_z10 (((), ()), ((a0, ()), (a1, ()))).2) = some r := by
  have hb : LOk Try.prog cf_z10 Try.f52.ntmps 2 n p_z10 (ls_z10 n) (bodyOf Try.f52) := ⟨trivial, ⟨⟨trivial, ⟨⟨trivial, trivial⟩, trivial⟩⟩, ⟨trivial, trivial⟩⟩⟩
  exact runFT_some Try.prog (c := bodyOf Try.f52) Try.func52 (show Try.f52.body = some (bodyOf Try.f52) from rfl) (show (1 : Nat) ≤ 10 by decide) hb ((m_z10 n a0 a1).trans h) rfl (by kernel_rfl)
noncomputable def c_z10 : Spec := specQ e_z10 h_z10 ro_z10 rh_z10 fun a b => Q_z10 b.1.1 b.2.1
theorem k_z10 (hm : Try.prog.follows .mixedOrders = true) : SpecOk Try.prog 52 c_z10 := specQ_ok (pol := p_z10) hm (cf := cf_z10) (tab_ok specs_nil) fun a b r h => ⟨FUEL, g_z10 FUEL b.1.1 b.2.1 (decRes_some h)⟩
def s_z11_r : Sig := ⟨[2], [.ty .str], [.one false [.ptr 1 0 0, .nul 4, .ptr 3 0 0, .ty (.int .i64)], .one false [.hs 2 0], .row (.int .u8), .one false [.hs 4 0], .row (.int .u8)]⟩
def p_z11 : Pol := ⟨fun i => none, fun i => none, some [(2, .keep)], [.keep], []⟩
def e_z11 : List EK := [.ptr 0 0 0]
def h_z11 : List HK := [.one false [.ptr 1 0 0, .nul 4, .ptr 3 0 0, .ty (.int .i64)], .one false [.hs 2 0], .row (.int .u8), .one false [.hs 4 0], .row (.int .u8)]
noncomputable def cf_z11 : CallF := mkCF [(52, c_z10)] []
noncomputable def ls_z11 (n : Nat) : Loops := fun i =>  none
theorem m_z11 (n : Nat) (a0 : Int) (a1 : Nat) (a2 : (List Int)) (a3 : Nat) (a4 : (List Int)) : runFT Try.prog cf_z11 p_z11 (ls_z11 n) Try.f29 (bodyOf Try.f29) (EK.encs e_z11 (((), ()), (((), ((), ((), (a0, ())))), ((a1, ()), (a2, ((a3, ()), (a4, ())))))).1) (HK.encs h_z11 (((), ()), (((), ((), ((), (a0, ())))), ((a1, ()), (a2, ((a3, ()), (a4, ())))))).2) = M_z11 n a0 a1 a2 a3 a4 := by kernel_rfl
theorem g_z11 (n : Nat) (a0 : Int) (a1 : Nat) (a2 : (List Int)) (a3 : Nat) (a4 : (List Int)) {r : Res} (h : M_z11 n a0 a1 a2 a3 a4 = some r) : runF Try.prog cf_z11 n p_z11 29 (EK.encs e_z11 (((), ()), (((), ((), ((), (a0, ())))), ((a1, ()), (a2, ((a3, ()), (a4, ())))))).1) (HK.encs h_z11 (((), ()), (((), ((), ((), (a0, ())))), ((a1, ()), (a2, ((a3, ()), (a4, ())))))).2) = some r := by
  have hb : LOk Try.prog cf_z11 Try.f29.ntmps 5 n p_z11 (ls_z11 n) (bodyOf Try.f29) := ⟨trivial, ⟨⟨trivial, ⟨⟨trivial, trivial⟩, trivial⟩⟩, ⟨trivial, trivial⟩⟩⟩
  exact runFT_some Try.prog (c := bodyOf Try.f29) Try.func29 (show Try.f29.body = some (bodyOf Try.f29) from rfl) (show (1 : Nat) ≤ 11 by decide) hb ((m_z11 n a0 a1 a2 a3 a4).trans h) rfl (by kernel_rfl)
noncomputable def c_z11 : Spec := specQ e_z11 h_z11 ro_z11 rh_z11 fun a b => Q_z11 b.1.2.2.2.1 b.2.1.1 b.2.2.1 b.2.2.2.1.1 b.2.2.2.2.1
theorem k_z11 (hm : Try.prog.follows .mixedOrders = true) : SpecOk Try.prog 29 c_z11 := specQ_ok (pol := p_z11) hm (cf := cf_z11) (tab_ok (specs_cons (k_z10 hm) specs_nil)) fun a b r h => ⟨FUEL, g_z11 FUEL b.1.2.2.2.1 b.2.1.1 b.2.2.1 b.2.2.2.1.1 b.2.2.2.2.1 (decRes_some h)⟩
def s_z12_r : Sig := ⟨[2], [.ty .bool], []⟩
def p_z12 : Pol := ⟨fun i => none, fun i => none, some [(2, .keep)], [.keep], []⟩
def e_z12 : List EK := [.ty (.int .i64)]
def h_z12 : List HK := []
noncomputable def cf_z12 : CallF := mkCF [] []
noncomputable def ls_z12 (n : Nat) : Loops := fun i =>  none
theorem m_z12 (n : Nat) (a0 : Int) : runFT Try.prog cf_z12 p_z12 (ls_z12 n) Try.f110 (bodyOf Try.f110) (EK.encs e_z12 ((a0, ()), ()).1) (HK.encs h_z12 ((a0, ()), ()).2) = M_z12 n a0 := by kernel_rfl
theorem g_z12 (n : Nat) (a0 : Int) {r : Res} (h : M_z12 n a0 = some r) : runF Try.prog cf_z12 n p_z12 110 (EK.encs e_z12 ((a0, ()), ()).1) (HK.encs h_z12 ((a0, ()), ()).2) = some r := by
  have hb : LOk Try.prog cf_z12 Try.f110.ntmps 0 n p_z12 (ls_z12 n) (bodyOf Try.f110) := ⟨trivial, ⟨trivial, trivial⟩⟩
  exact runFT_some Try.prog (c := bodyOf Try.f110) Try.func110 (show Try.f110.body = some (bodyOf Try.f110) from rfl) (show (1 : Nat) ≤ 9 by decide) hb ((m_z12 n a0).trans h) rfl (by kernel_rfl)
noncomputable def c_z12 : Spec := specQ e_z12 h_z12 ro_z12 rh_z12 fun a b => Q_z12 a.1
theorem k_z12 (hm : Try.prog.follows .mixedOrders = true) : SpecOk Try.prog 110 c_z12 := specQ_ok (pol := p_z12) hm (cf := cf_z12) (tab_ok specs_nil) fun a b r h => ⟨FUEL, g_z12 FUEL a.1 (decRes_some h)⟩
def s_z13_r : Sig := ⟨[2], [.ty .bool], []⟩
def p_z13 : Pol := ⟨fun i => none, fun i => none, some [(2, .keep)], [.keep], []⟩
def e_z13 : List EK := [.agg SpanT]
def h_z13 : List HK := []
noncomputable def cf_z13 : CallF := mkCF [] []
noncomputable def ls_z13 (n : Nat) : Loops := fun i =>  none
theorem m_z13 (n : Nat) (a0 : SpanS) : runFT Try.prog cf_z13 p_z13 (ls_z13 n) Try.f111 (bodyOf Try.f111) (EK.encs e_z13 ((a0, ()), ()).1) (HK.encs h_z13 ((a0, ()), ()).2) = M_z13 n a0 := by kernel_rfl
theorem g_z13 (n : Nat) (a0 : SpanS) {r : Res} (h : M_z13 n a0 = some r) : runF Try.prog cf_z13 n p_z13 111 (EK.encs e_z13 ((a0, ()), ()).1) (HK.encs h_z13 ((a0, ()), ()).2) = some r := by
  have hb : LOk Try.prog cf_z13 Try.f111.ntmps 0 n p_z13 (ls_z13 n) (bodyOf Try.f111) := ⟨trivial, ⟨⟨trivial, ⟨⟨trivial, trivial⟩, trivial⟩⟩, ⟨trivial, trivial⟩⟩⟩
  exact runFT_some Try.prog (c := bodyOf Try.f111) Try.func111 (show Try.f111.body = some (bodyOf Try.f111) from rfl) (show (1 : Nat) ≤ 29 by decide) hb ((m_z13 n a0).trans h) rfl (by kernel_rfl)
noncomputable def c_z13 : Spec := specQ e_z13 h_z13 ro_z13 rh_z13 fun a b => Q_z13 a.1
theorem k_z13 (hm : Try.prog.follows .mixedOrders = true) : SpecOk Try.prog 111 c_z13 := specQ_ok (pol := p_z13) hm (cf := cf_z13) (tab_ok specs_nil) fun a b r h => ⟨FUEL, g_z13 FUEL a.1 (decRes_some h)⟩
def s_z14_r : Sig := ⟨[2], [.ty .bool], []⟩
def p_z14 : Pol := ⟨fun i => none, fun i => none, some [(2, .keep)], [.keep], []⟩
def e_z14 : List EK := [.agg NodeT]
def h_z14 : List HK := []
noncomputable def cf_z14 : CallF := mkCF [] []
noncomputable def ls_z14 (n : Nat) : Loops := fun i =>  none
theorem m_z14 (n : Nat) (a0 : NodeS) : runFT Try.prog cf_z14 p_z14 (ls_z14 n) Try.f112 (bodyOf Try.f112) (EK.encs e_z14 ((a0, ()), ()).1) (HK.encs h_z14 ((a0, ()), ()).2) = M_z14 n a0 := by kernel_rfl
theorem g_z14 (n : Nat) (a0 : NodeS) {r : Res} (h : M_z14 n a0 = some r) : runF Try.prog cf_z14 n p_z14 112 (EK.encs e_z14 ((a0, ()), ()).1) (HK.encs h_z14 ((a0, ()), ()).2) = some r := by
  have hb : LOk Try.prog cf_z14 Try.f112.ntmps 0 n p_z14 (ls_z14 n) (bodyOf Try.f112) := ⟨trivial, ⟨⟨trivial, ⟨⟨trivial, trivial⟩, trivial⟩⟩, ⟨trivial, trivial⟩⟩⟩
  exact runFT_some Try.prog (c := bodyOf Try.f112) Try.func112 (show Try.f112.body = some (bodyOf Try.f112) from rfl) (show (1 : Nat) ≤ 17 by decide) hb ((m_z14 n a0).trans h) rfl (by kernel_rfl)
noncomputable def c_z14 : Spec := specQ e_z14 h_z14 ro_z14 rh_z14 fun a b => Q_z14 a.1
theorem k_z14 (hm : Try.prog.follows .mixedOrders = true) : SpecOk Try.prog 112 c_z14 := specQ_ok (pol := p_z14) hm (cf := cf_z14) (tab_ok specs_nil) fun a b r h => ⟨FUEL, g_z14 FUEL a.1 (decRes_some h)⟩
def s_z15_r : Sig := ⟨[2], [.ty .bool], []⟩
def s_z15_h0 : Sig := ⟨[1, 57, 58, 59], [.ptr 0 0 0, .ty (.slice ArmT), .ty (.int .i64), .ty (.int .i64)], [.cell NodeT]⟩
def s_z15_t0 : Sig := ⟨[], [], []⟩
def p_z15 : Pol := ⟨fun i => if i = 0 then some [(1, (.own NodeT)), (57, .keep), (58, .keep), (59, .keep)] else none, fun i => if i = 0 then some [] else none, some [(2, .keep)], [.keep], []⟩
def e_z15 : List EK := [.agg NodeT]
def h_z15 : List HK := []
noncomputable def cf_z15 : CallF := mkCF [(110, c_z12), (111, c_z13), (112, c_z14)] [(110, [(.int .i64)]), (111, [SpanT]), (112, [NodeT])]
noncomputable def ls_z15 (n : Nat) : Loops := fun i => if i = 0 then some (loopT 0 (p_z15.head 0) s_z15_h0 fun K v => L_z15_0 n (fun z0 => K .rt (s_z15_r.enc ((z0, ()), ()))) (fun _ => K (.ex 0) (s_z15_t0.enc ((), ()))) v.1.2.1 v.1.2.2.1 v.2.1 n v.1.2.2.2.1)
  else  none
noncomputable def b_z15_0 : Code := partOf (bodyOf Try.f104) [1, 1, 1, 0, 1, 0, 0]
noncomputable def V_z15_0 (n : Nat) (K : Cont) (rec : Sig.sem s_z15_h0 → Option Res) (v : Sig.sem s_z15_h0) : Option Res := F_z15_0 n (fun z0 => K .rt (s_z15_r.enc ((z0, ()), ()))) (fun _ => K (.ex 0) (s_z15_t0.enc ((), ()))) v.1.2.1 v.1.2.2.1 v.2.1 (fun z2 => rec (((), (v.1.2.1, (v.1.2.2.1, (z2, ())))), (v.2.1, ()))) v.1.2.2.2.1
theorem t_z15_0 (n : Nat) (K : Cont) (rec : Sig.sem s_z15_h0 → Option Res) (v : Sig.sem s_z15_h0) : runT Try.prog cf_z15 Try.f104.ntmps 0 p_z15 (ls_z15 n) b_z15_0 (s_z15_h0.enc v) (turnK 0 (p_z15.head 0) s_z15_h0 rec K) = V_z15_0 n K rec v := by kernel_rfl
noncomputable def W_z15_0 (n : Nat) (K : Cont) (m : Nat) (v : Sig.sem s_z15_h0) : Option Res := L_z15_0 n (fun z0 => K .rt (s_z15_r.enc ((z0, ()), ()))) (fun _ => K (.ex 0) (s_z15_t0.enc ((), ()))) v.1.2.1 v.1.2.2.1 v.2.1 m v.1.2.2.2.1
theorem i_z15_0 (n : Nat) (K : Cont) : ∀ m v, iter (V_z15_0 n K) m v = W_z15_0 n K m v := by
  intro m
  induction m with
  | zero => intro v; rfl
  | succ m ih =>
    intro v
    show V_z15_0 n K (iter (V_z15_0 n K) m) v = V_z15_0 n K (W_z15_0 n K m) v
    rw [show iter (V_z15_0 n K) m = W_z15_0 n K m from funext ih]
theorem o_z15_0 (n : Nat) : ∀ L, ls_z15 n 0 = some L → ∀ s K r, L s K = some r → ∃ x s', loopN (run Try.prog cf_z15 Try.f104.ntmps 0 n p_z15 none b_z15_0) (gc 0 (p_z15.head 0)) n s = some (x, s') ∧ K x s' = some r := by
  intro L hL s K r h
  have hL : some (loopT 0 (p_z15.head 0) s_z15_h0 fun K v => W_z15_0 n K n v) = some L := hL
  cases hL
  have hb : LOk Try.prog cf_z15 Try.f104.ntmps 0 n p_z15 (ls_z15 n) b_z15_0 := ⟨trivial, ⟨⟨trivial, trivial⟩, ⟨⟨trivial, ⟨trivial, ⟨⟨trivial, trivial⟩, trivial⟩⟩⟩, trivial⟩⟩⟩
  refine loopT_ok hb (V_z15_0 n) (t_z15_0 n) n s K r ?_
  rw [← h]
  unfold loopT
  simp only [i_z15_0]
theorem m_z15 (n : Nat) (a0 : NodeS) : runFT Try.prog cf_z15 p_z15 (ls_z15 n) Try.f104 (bodyOf Try.f104) (EK.encs e_z15 ((a0, ()), ()).1) (HK.encs h_z15 ((a0, ()), ()).2) = M_z15 n a0 := by kernel_rfl
theorem g_z15 (n : Nat) (a0 : NodeS) {r : Res} (h : M_z15 n a0 = some r) : runF Try.prog cf_z15 n p_z15 104 (EK.encs e_z15 ((a0, ()), ()).1) (HK.encs h_z15 ((a0, ()), ()).2) = some r := by
  have hb : LOk Try.prog cf_z15 Try.f104.ntmps 0 n p_z15 (ls_z15 n) (bodyOf Try.f104) := ⟨trivial, ⟨⟨trivial, ⟨⟨trivial, trivial⟩, trivial⟩⟩, ⟨⟨trivial, ⟨⟨trivial, trivial⟩, trivial⟩⟩, ⟨⟨trivial, (o_z15_0 n)⟩, ⟨trivial, trivial⟩⟩⟩⟩⟩
  exact runFT_some Try.prog (c := bodyOf Try.f104) Try.func104 (show Try.f104.body = some (bodyOf Try.f104) from rfl) (show (1 : Nat) ≤ 99 by decide) hb ((m_z15 n a0).trans h) rfl (by kernel_rfl)
noncomputable def c_z15 : Spec := specQ e_z15 h_z15 ro_z15 rh_z15 fun a b => Q_z15 a.1
theorem k_z15 (hm : Try.prog.follows .mixedOrders = true) : SpecOk Try.prog 104 c_z15 := specQ_ok (pol := p_z15) hm (cf := cf_z15) (tab_ok (specs_cons (k_z12 hm) (specs_cons (k_z13 hm) (specs_cons (k_z14 hm) specs_nil)))) fun a b r h => ⟨FUEL, g_z15 FUEL a.1 (decRes_some h)⟩
def s_z16_h0 : Sig := ⟨[0, 5, 6, 7], [.ty (.slice NodeT), .ty (.slice NodeT), .ty (.int .i64), .ty (.int .i64)], []⟩
def s_z16_r : Sig := ⟨[2], [.ty .bool], []⟩
def s_z16_t0 : Sig := ⟨[], [], []⟩
def p_z16 : Pol := ⟨fun i => if i = 0 then some [(0, .keep), (5, .keep), (6, .keep), (7, .keep)] else none, fun i => if i = 0 then some [] else none, some [(2, .keep)], [.keep], []⟩
def e_z16 : List EK := [.ty (.slice NodeT)]
def h_z16 : List HK := []
noncomputable def cf_z16 : CallF := mkCF [(104, c_z15)] [(104, [NodeT])]
noncomputable def ls_z16 (n : Nat) : Loops := fun i => if i = 0 then some (loopT 0 (p_z16.head 0) s_z16_h0 fun K v => L_z16_0 n (fun z0 => K .rt (s_z16_r.enc ((z0, ()), ()))) (fun _ => K (.ex 0) (s_z16_t0.enc ((), ()))) v.1.1 v.1.2.1 v.1.2.2.1 n v.1.2.2.2.1)
  else  none
noncomputable def b_z16_0 : Code := partOf (bodyOf Try.f92) [1, 0, 1, 0, 0]
noncomputable def V_z16_0 (n : Nat) (K : Cont) (rec : Sig.sem s_z16_h0 → Option Res) (v : Sig.sem s_z16_h0) : Option Res := F_z16_0 n (fun z0 => K .rt (s_z16_r.enc ((z0, ()), ()))) (fun _ => K (.ex 0) (s_z16_t0.enc ((), ()))) v.1.1 v.1.2.1 v.1.2.2.1 (fun z3 => rec ((v.1.1, (v.1.2.1, (v.1.2.2.1, (z3, ())))), ())) v.1.2.2.2.1
theorem t_z16_0 (n : Nat) (K : Cont) (rec : Sig.sem s_z16_h0 → Option Res) (v : Sig.sem s_z16_h0) : runT Try.prog cf_z16 Try.f92.ntmps 0 p_z16 (ls_z16 n) b_z16_0 (s_z16_h0.enc v) (turnK 0 (p_z16.head 0) s_z16_h0 rec K) = V_z16_0 n K rec v := by kernel_rfl
noncomputable def W_z16_0 (n : Nat) (K : Cont) (m : Nat) (v : Sig.sem s_z16_h0) : Option Res := L_z16_0 n (fun z0 => K .rt (s_z16_r.enc ((z0, ()), ()))) (fun _ => K (.ex 0) (s_z16_t0.enc ((), ()))) v.1.1 v.1.2.1 v.1.2.2.1 m v.1.2.2.2.1
theorem i_z16_0 (n : Nat) (K : Cont) : ∀ m v, iter (V_z16_0 n K) m v = W_z16_0 n K m v := by
  intro m
  induction m with
  | zero => intro v; rfl
  | succ m ih =>
    intro v
    show V_z16_0 n K (iter (V_z16_0 n K) m) v = V_z16_0 n K (W_z16_0 n K m) v
    rw [show iter (V_z16_0 n K) m = W_z16_0 n K m from funext ih]
theorem o_z16_0 (n : Nat) : ∀ L, ls_z16 n 0 = some L → ∀ s K r, L s K = some r → ∃ x s', loopN (run Try.prog cf_z16 Try.f92.ntmps 0 n p_z16 none b_z16_0) (gc 0 (p_z16.head 0)) n s = some (x, s') ∧ K x s' = some r := by
  intro L hL s K r h
  have hL : some (loopT 0 (p_z16.head 0) s_z16_h0 fun K v => W_z16_0 n K n v) = some L := hL
  cases hL
  have hb : LOk Try.prog cf_z16 Try.f92.ntmps 0 n p_z16 (ls_z16 n) b_z16_0 := ⟨trivial, ⟨⟨trivial, trivial⟩, ⟨⟨trivial, ⟨trivial, ⟨⟨trivial, trivial⟩, trivial⟩⟩⟩, trivial⟩⟩⟩
  refine loopT_ok hb (V_z16_0 n) (t_z16_0 n) n s K r ?_
  rw [← h]
  unfold loopT
  simp only [i_z16_0]
theorem m_z16 (n : Nat) (a0 : (List NodeS)) : runFT Try.prog cf_z16 p_z16 (ls_z16 n) Try.f92 (bodyOf Try.f92) (EK.encs e_z16 ((a0, ()), ()).1) (HK.encs h_z16 ((a0, ()), ()).2) = M_z16 n a0 := by kernel_rfl
theorem g_z16 (n : Nat) (a0 : (List NodeS)) {r : Res} (h : M_z16 n a0 = some r) : runF Try.prog cf_z16 n p_z16 92 (EK.encs e_z16 ((a0, ()), ()).1) (HK.encs h_z16 ((a0, ()), ()).2) = some r := by
  have hb : LOk Try.prog cf_z16 Try.f92.ntmps 0 n p_z16 (ls_z16 n) (bodyOf Try.f92) := ⟨trivial, ⟨⟨trivial, (o_z16_0 n)⟩, ⟨trivial, trivial⟩⟩⟩
  exact runFT_some Try.prog (c := bodyOf Try.f92) Try.func92 (show Try.f92.body = some (bodyOf Try.f92) from rfl) (show (1 : Nat) ≤ 31 by decide) hb ((m_z16 n a0).trans h) rfl (by kernel_rfl)
noncomputable def c_z16 : Spec := specQ e_z16 h_z16 ro_z16 rh_z16 fun a b => Q_z16 a.1
theorem k_z16 (hm : Try.prog.follows .mixedOrders = true) : SpecOk Try.prog 92 c_z16 := specQ_ok (pol := p_z16) hm (cf := cf_z16) (tab_ok (specs_cons (k_z15 hm) specs_nil)) fun a b r h => ⟨FUEL, g_z16 FUEL a.1 (decRes_some h)⟩
def s_z17_h0 : Sig := ⟨[3, 10, 11, 12], [.hs 0 0, .ty (.slice ArmT), .ty (.int .i64), .ty (.int .i64)], [.row (.int .i64)]⟩
def s_z17_t0 : Sig := ⟨[3], [.hs 0 0], [.row (.int .i64)]⟩
def s_z17_r : Sig := ⟨[2], [.hs 0 0], [.row (.int .i64)]⟩
def p_z17 : Pol := ⟨fun i => if i = 0 then some [(3, (.own (.int .i64))), (10, .keep), (11, .keep), (12, .keep)] else none, fun i => if i = 0 then some [(3, (.own (.int .i64)))] else none, some [(2, (.own (.int .i64)))], [(.own (.int .i64))], []⟩
def e_z17 : List EK := [.agg NodeT]
def h_z17 : List HK := []
noncomputable def cf_z17 : CallF := mkCF [] []
noncomputable def ls_z17 (n : Nat) : Loops := fun i => if i = 0 then some (loopT 0 (p_z17.head 0) s_z17_h0 fun K v => L_z17_0 n (fun z0 z1 => K (.ex 0) (s_z17_t0.enc ((z0, ()), (z1, ())))) v.1.2.1 v.1.2.2.1 n v.1.1 v.1.2.2.2.1 v.2.1)
  else  none
noncomputable def b_z17_0 : Code := partOf (bodyOf Try.f105) [1, 1, 0, 1, 0, 0]
noncomputable def V_z17_0 (n : Nat) (K : Cont) (rec : Sig.sem s_z17_h0 → Option Res) (v : Sig.sem s_z17_h0) : Option Res := F_z17_0 n (fun z0 z1 => K (.ex 0) (s_z17_t0.enc ((z0, ()), (z1, ())))) v.1.2.1 v.1.2.2.1 (fun z0 z3 z4 => rec ((z0, (v.1.2.1, (v.1.2.2.1, (z3, ())))), (z4, ()))) v.1.1 v.1.2.2.2.1 v.2.1
theorem t_z17_0 (n : Nat) (K : Cont) (rec : Sig.sem s_z17_h0 → Option Res) (v : Sig.sem s_z17_h0) : runT Try.prog cf_z17 Try.f105.ntmps 0 p_z17 (ls_z17 n) b_z17_0 (s_z17_h0.enc v) (turnK 0 (p_z17.head 0) s_z17_h0 rec K) = V_z17_0 n K rec v := by kernel_rfl
noncomputable def W_z17_0 (n : Nat) (K : Cont) (m : Nat) (v : Sig.sem s_z17_h0) : Option Res := L_z17_0 n (fun z0 z1 => K (.ex 0) (s_z17_t0.enc ((z0, ()), (z1, ())))) v.1.2.1 v.1.2.2.1 m v.1.1 v.1.2.2.2.1 v.2.1
theorem i_z17_0 (n : Nat) (K : Cont) : ∀ m v, iter (V_z17_0 n K) m v = W_z17_0 n K m v := by
  intro m
  induction m with
  | zero => intro v; rfl
  | succ m ih =>
    intro v
    show V_z17_0 n K (iter (V_z17_0 n K) m) v = V_z17_0 n K (W_z17_0 n K m) v
    rw [show iter (V_z17_0 n K) m = W_z17_0 n K m from funext ih]
theorem o_z17_0 (n : Nat) : ∀ L, ls_z17 n 0 = some L → ∀ s K r, L s K = some r → ∃ x s', loopN (run Try.prog cf_z17 Try.f105.ntmps 0 n p_z17 none b_z17_0) (gc 0 (p_z17.head 0)) n s = some (x, s') ∧ K x s' = some r := by
  intro L hL s K r h
  have hL : some (loopT 0 (p_z17.head 0) s_z17_h0 fun K v => W_z17_0 n K n v) = some L := hL
  cases hL
  have hb : LOk Try.prog cf_z17 Try.f105.ntmps 0 n p_z17 (ls_z17 n) b_z17_0 := ⟨trivial, ⟨⟨trivial, trivial⟩, ⟨⟨trivial, trivial⟩, trivial⟩⟩⟩
  refine loopT_ok hb (V_z17_0 n) (t_z17_0 n) n s K r ?_
  rw [← h]
  unfold loopT
  simp only [i_z17_0]
theorem m_z17 (n : Nat) (a0 : NodeS) : runFT Try.prog cf_z17 p_z17 (ls_z17 n) Try.f105 (bodyOf Try.f105) (EK.encs e_z17 ((a0, ()), ()).1) (HK.encs h_z17 ((a0, ()), ()).2) = M_z17 n a0 := by kernel_rfl
theorem g_z17 (n : Nat) (a0 : NodeS) {r : Res} (h : M_z17 n a0 = some r) : runF Try.prog cf_z17 n p_z17 105 (EK.encs e_z17 ((a0, ()), ()).1) (HK.encs h_z17 ((a0, ()), ()).2) = some r := by
  have hb : LOk Try.prog cf_z17 Try.f105.ntmps 0 n p_z17 (ls_z17 n) (bodyOf Try.f105) := ⟨trivial, ⟨trivial, ⟨⟨trivial, (o_z17_0 n)⟩, ⟨trivial, trivial⟩⟩⟩⟩
  exact runFT_some Try.prog (c := bodyOf Try.f105) Try.func105 (show Try.f105.body = some (bodyOf Try.f105) from rfl) (show (1 : Nat) ≤ 23 by decide) hb ((m_z17 n a0).trans h) rfl (by kernel_rfl)
noncomputable def c_z17 : Spec := specQ e_z17 h_z17 ro_z17 rh_z17 fun a b => Q_z17 a.1
theorem k_z17 (hm : Try.prog.follows .mixedOrders = true) : SpecOk Try.prog 105 c_z17 := specQ_ok (pol := p_z17) hm (cf := cf_z17) (tab_ok specs_nil) fun a b r h => ⟨FUEL, g_z17 FUEL a.1 (decRes_some h)⟩
def s_z18_h0 : Sig := ⟨[1, 4, 8, 9, 10], [.ty (.int .i64), .ptr 0 0 0, .ty (.slice NodeT), .ty (.int .i64), .ty (.int .i64)], [.cell NodeT]⟩
def s_z18_r : Sig := ⟨[4, 5], [.ptr 0 0 0, .ty .bool], [.cell NodeT]⟩
def s_z18_t0 : Sig := ⟨[4], [.ptr 0 0 0], [.cell NodeT]⟩
def p_z18 : Pol := ⟨fun i => if i = 0 then some [(1, .keep), (4, (.own NodeT)), (8, .keep), (9, .keep), (10, .keep)] else none, fun i => if i = 0 then some [(4, (.own NodeT))] else none, some [(4, (.own NodeT)), (5, .keep)], [.keep, .keep], []⟩
def e_z18 : List EK := [.ty (.slice NodeT), .ty (.int .i64)]
def h_z18 : List HK := []
noncomputable def cf_z18 : CallF := mkCF [] []
noncomputable def ls_z18 (n : Nat) : Loops := fun i => if i = 0 then some (loopT 0 (p_z18.head 0) s_z18_h0 fun K v => L_z18_0 n (fun z0 z1 => K .rt (s_z18_r.enc (((), (z0, ())), (z1, ())))) (fun _ => K (.ex 0) (s_z18_t0.enc (((), ()), (v.2.1, ())))) v.1.1 v.1.2.2.1 v.1.2.2.2.1 v.2.1 n v.1.2.2.2.2.1)
  else  none
noncomputable def b_z18_0 : Code := partOf (bodyOf Try.f96) [1, 0, 1, 0, 0]
noncomputable def V_z18_0 (n : Nat) (K : Cont) (rec : Sig.sem s_z18_h0 → Option Res) (v : Sig.sem s_z18_h0) : Option Res := F_z18_0 n (fun z0 z1 => K .rt (s_z18_r.enc (((), (z0, ())), (z1, ())))) (fun _ => K (.ex 0) (s_z18_t0.enc (((), ()), (v.2.1, ())))) v.1.1 v.1.2.2.1 v.1.2.2.2.1 v.2.1 (fun z3 => rec ((v.1.1, ((), (v.1.2.2.1, (v.1.2.2.2.1, (z3, ()))))), (v.2.1, ()))) v.1.2.2.2.2.1
theorem t_z18_0 (n : Nat) (K : Cont) (rec : Sig.sem s_z18_h0 → Option Res) (v : Sig.sem s_z18_h0) : runT Try.prog cf_z18 Try.f96.ntmps 0 p_z18 (ls_z18 n) b_z18_0 (s_z18_h0.enc v) (turnK 0 (p_z18.head 0) s_z18_h0 rec K) = V_z18_0 n K rec v := by kernel_rfl
noncomputable def W_z18_0 (n : Nat) (K : Cont) (m : Nat) (v : Sig.sem s_z18_h0) : Option Res := L_z18_0 n (fun z0 z1 => K .rt (s_z18_r.enc (((), (z0, ())), (z1, ())))) (fun _ => K (.ex 0) (s_z18_t0.enc (((), ()), (v.2.1, ())))) v.1.1 v.1.2.2.1 v.1.2.2.2.1 v.2.1 m v.1.2.2.2.2.1
theorem i_z18_0 (n : Nat) (K : Cont) : ∀ m v, iter (V_z18_0 n K) m v = W_z18_0 n K m v := by
  intro m
  induction m with
  | zero => intro v; rfl
  | succ m ih =>
    intro v
    show V_z18_0 n K (iter (V_z18_0 n K) m) v = V_z18_0 n K (W_z18_0 n K m) v
    rw [show iter (V_z18_0 n K) m = W_z18_0 n K m from funext ih]
theorem o_z18_0 (n : Nat) : ∀ L, ls_z18 n 0 = some L → ∀ s K r, L s K = some r → ∃ x s', loopN (run Try.prog cf_z18 Try.f96.ntmps 0 n p_z18 none b_z18_0) (gc 0 (p_z18.head 0)) n s = some (x, s') ∧ K x s' = some r := by
  intro L hL s K r h
  have hL : some (loopT 0 (p_z18.head 0) s_z18_h0 fun K v => W_z18_0 n K n v) = some L := hL
  cases hL
  have hb : LOk Try.prog cf_z18 Try.f96.ntmps 0 n p_z18 (ls_z18 n) b_z18_0 := ⟨trivial, ⟨⟨trivial, trivial⟩, ⟨⟨trivial, ⟨trivial, ⟨⟨trivial, trivial⟩, trivial⟩⟩⟩, trivial⟩⟩⟩
  refine loopT_ok hb (V_z18_0 n) (t_z18_0 n) n s K r ?_
  rw [← h]
  unfold loopT
  simp only [i_z18_0]
theorem m_z18 (n : Nat) (a0 : (List NodeS)) (a1 : Int) : runFT Try.prog cf_z18 p_z18 (ls_z18 n) Try.f96 (bodyOf Try.f96) (EK.encs e_z18 ((a0, (a1, ())), ()).1) (HK.encs h_z18 ((a0, (a1, ())), ()).2) = M_z18 n a0 a1 := by kernel_rfl
theorem g_z18 (n : Nat) (a0 : (List NodeS)) (a1 : Int) {r : Res} (h : M_z18 n a0 a1 = some r) : runF Try.prog cf_z18 n p_z18 96 (EK.encs e_z18 ((a0, (a1, ())), ()).1) (HK.encs h_z18 ((a0, (a1, ())), ()).2) = some r := by
  have hb : LOk Try.prog cf_z18 Try.f96.ntmps 0 n p_z18 (ls_z18 n) (bodyOf Try.f96) := ⟨trivial, ⟨⟨trivial, (o_z18_0 n)⟩, ⟨trivial, trivial⟩⟩⟩
  exact runFT_some Try.prog (c := bodyOf Try.f96) Try.func96 (show Try.f96.body = some (bodyOf Try.f96) from rfl) (show (2 : Nat) ≤ 21 by decide) hb ((m_z18 n a0 a1).trans h) rfl (by kernel_rfl)
noncomputable def c_z18 : Spec := specQ e_z18 h_z18 ro_z18 rh_z18 fun a b => Q_z18 a.1 a.2.1
theorem k_z18 (hm : Try.prog.follows .mixedOrders = true) : SpecOk Try.prog 96 c_z18 := specQ_ok (pol := p_z18) hm (cf := cf_z18) (tab_ok specs_nil) fun a b r h => ⟨FUEL, g_z18 FUEL a.1 a.2.1 (decRes_some h)⟩
def s_z19_h0 : Sig := ⟨[0, 9, 10, 11], [.ty (.slice NodeT), .ty (.slice NodeT), .ty (.int .i64), .ty (.int .i64)], []⟩
def s_z19_h2 : Sig := ⟨[0, 9, 10, 11, 16, 17, 18], [.ty (.slice NodeT), .ty (.slice NodeT), .ty (.int .i64), .ty (.int .i64), .hs 0 0, .ty (.int .i64), .ty (.int .i64)], [.row (.int .i64)]⟩
def s_z19_r : Sig := ⟨[2], [.ty .bool], []⟩
def s_z19_t2 : Sig := ⟨[0, 9, 10, 11], [.ty (.slice NodeT), .ty (.slice NodeT), .ty (.int .i64), .ty (.int .i64)], []⟩
def s_z19_t0 : Sig := ⟨[], [], []⟩
def p_z19 : Pol := ⟨fun i => if i = 0 then some [(0, .keep), (9, .keep), (10, .keep), (11, .keep)] else if i = 2 then some [(0, .keep), (9, .keep), (10, .keep), (11, .keep), (16, (.own (.int .i64))), (17, .keep), (18, .keep)] else none, fun i => if i = 2 then some [(0, .keep), (9, .keep), (10, .keep), (11, .keep)] else if i = 0 then some [] else none, some [(2, .keep)], [.keep], []⟩
def e_z19 : List EK := [.ty (.slice NodeT)]
def h_z19 : List HK := []
noncomputable def cf_z19 : CallF := mkCF [(105, c_z17), (96, c_z18)] [(105, [NodeT]), (96, [(.slice NodeT), (.int .i64)])]
noncomputable def ls_z19 (n : Nat) : Loops := fun i => if i = 2 then some (loopT 0 (p_z19.head 2) s_z19_h2 fun K v => L_z19_2 n (fun z0 => K .rt (s_z19_r.enc ((z0, ()), ()))) (fun _ => K (.ex 2) (s_z19_t2.enc ((v.1.1, (v.1.2.1, (v.1.2.2.1, (v.1.2.2.2.1, ())))), ()))) v.1.1 v.1.2.1 v.1.2.2.1 v.1.2.2.2.1 v.1.2.2.2.2.1 v.1.2.2.2.2.2.1 v.2.1 n v.1.2.2.2.2.2.2.1)
  else if i = 0 then some (loopT 0 (p_z19.head 0) s_z19_h0 fun K v => L_z19_0 n (fun z0 => K .rt (s_z19_r.enc ((z0, ()), ()))) (fun _ => K (.ex 0) (s_z19_t0.enc ((), ()))) v.1.1 v.1.2.1 v.1.2.2.1 n v.1.2.2.2.1)
  else  none
noncomputable def b_z19_2 : Code := partOf (bodyOf Try.f93) [1, 0, 1, 0, 0, 1, 1, 0, 0, 1, 1, 0, 0]
noncomputable def V_z19_2 (n : Nat) (K : Cont) (rec : Sig.sem s_z19_h2 → Option Res) (v : Sig.sem s_z19_h2) : Option Res := F_z19_2 n (fun z0 => K .rt (s_z19_r.enc ((z0, ()), ()))) (fun _ => K (.ex 2) (s_z19_t2.enc ((v.1.1, (v.1.2.1, (v.1.2.2.1, (v.1.2.2.2.1, ())))), ()))) v.1.1 v.1.2.1 v.1.2.2.1 v.1.2.2.2.1 v.1.2.2.2.2.1 v.1.2.2.2.2.2.1 v.2.1 (fun z6 => rec ((v.1.1, (v.1.2.1, (v.1.2.2.1, (v.1.2.2.2.1, (v.1.2.2.2.2.1, (v.1.2.2.2.2.2.1, (z6, ()))))))), (v.2.1, ()))) v.1.2.2.2.2.2.2.1
theorem t_z19_2 (n : Nat) (K : Cont) (rec : Sig.sem s_z19_h2 → Option Res) (v : Sig.sem s_z19_h2) : runT Try.prog cf_z19 Try.f93.ntmps 0 p_z19 (ls_z19 n) b_z19_2 (s_z19_h2.enc v) (turnK 0 (p_z19.head 2) s_z19_h2 rec K) = V_z19_2 n K rec v := by kernel_rfl
noncomputable def W_z19_2 (n : Nat) (K : Cont) (m : Nat) (v : Sig.sem s_z19_h2) : Option Res := L_z19_2 n (fun z0 => K .rt (s_z19_r.enc ((z0, ()), ()))) (fun _ => K (.ex 2) (s_z19_t2.enc ((v.1.1, (v.1.2.1, (v.1.2.2.1, (v.1.2.2.2.1, ())))), ()))) v.1.1 v.1.2.1 v.1.2.2.1 v.1.2.2.2.1 v.1.2.2.2.2.1 v.1.2.2.2.2.2.1 v.2.1 m v.1.2.2.2.2.2.2.1
theorem i_z19_2 (n : Nat) (K : Cont) : ∀ m v, iter (V_z19_2 n K) m v = W_z19_2 n K m v := by
  intro m
  induction m with
  | zero => intro v; rfl
  | succ m ih =>
    intro v
    show V_z19_2 n K (iter (V_z19_2 n K) m) v = V_z19_2 n K (W_z19_2 n K m) v
    rw [show iter (V_z19_2 n K) m = W_z19_2 n K m from funext ih]
theorem o_z19_2 (n : Nat) : ∀ L, ls_z19 n 2 = some L → ∀ s K r, L s K = some r → ∃ x s', loopN (run Try.prog cf_z19 Try.f93.ntmps 0 n p_z19 none b_z19_2) (gc 0 (p_z19.head 2)) n s = some (x, s') ∧ K x s' = some r := by
  intro L hL s K r h
  have hL : some (loopT 0 (p_z19.head 2) s_z19_h2 fun K v => W_z19_2 n K n v) = some L := hL
  cases hL
  have hb : LOk Try.prog cf_z19 Try.f93.ntmps 0 n p_z19 (ls_z19 n) b_z19_2 := ⟨trivial, ⟨⟨trivial, trivial⟩, ⟨⟨trivial, ⟨trivial, ⟨trivial, ⟨⟨trivial, trivial⟩, trivial⟩⟩⟩⟩, trivial⟩⟩⟩
  refine loopT_ok hb (V_z19_2 n) (t_z19_2 n) n s K r ?_
  rw [← h]
  unfold loopT
  simp only [i_z19_2]
noncomputable def b_z19_0 : Code := partOf (bodyOf Try.f93) [1, 0, 1, 0, 0]
noncomputable def V_z19_0 (n : Nat) (K : Cont) (rec : Sig.sem s_z19_h0 → Option Res) (v : Sig.sem s_z19_h0) : Option Res := F_z19_0 n (fun z0 => K .rt (s_z19_r.enc ((z0, ()), ()))) (fun _ => K (.ex 0) (s_z19_t0.enc ((), ()))) v.1.1 v.1.2.1 v.1.2.2.1 (fun z3 => rec ((v.1.1, (v.1.2.1, (v.1.2.2.1, (z3, ())))), ())) v.1.2.2.2.1
theorem t_z19_0 (n : Nat) (K : Cont) (rec : Sig.sem s_z19_h0 → Option Res) (v : Sig.sem s_z19_h0) : runT Try.prog cf_z19 Try.f93.ntmps 0 p_z19 (ls_z19 n) b_z19_0 (s_z19_h0.enc v) (turnK 0 (p_z19.head 0) s_z19_h0 rec K) = V_z19_0 n K rec v := by kernel_rfl
noncomputable def W_z19_0 (n : Nat) (K : Cont) (m : Nat) (v : Sig.sem s_z19_h0) : Option Res := L_z19_0 n (fun z0 => K .rt (s_z19_r.enc ((z0, ()), ()))) (fun _ => K (.ex 0) (s_z19_t0.enc ((), ()))) v.1.1 v.1.2.1 v.1.2.2.1 m v.1.2.2.2.1
theorem i_z19_0 (n : Nat) (K : Cont) : ∀ m v, iter (V_z19_0 n K) m v = W_z19_0 n K m v := by
  intro m
  induction m with
  | zero => intro v; rfl
  | succ m ih =>
    intro v
    show V_z19_0 n K (iter (V_z19_0 n K) m) v = V_z19_0 n K (W_z19_0 n K m) v
    rw [show iter (V_z19_0 n K) m = W_z19_0 n K m from funext ih]
theorem o_z19_0 (n : Nat) : ∀ L, ls_z19 n 0 = some L → ∀ s K r, L s K = some r → ∃ x s', loopN (run Try.prog cf_z19 Try.f93.ntmps 0 n p_z19 none b_z19_0) (gc 0 (p_z19.head 0)) n s = some (x, s') ∧ K x s' = some r := by
  intro L hL s K r h
  have hL : some (loopT 0 (p_z19.head 0) s_z19_h0 fun K v => W_z19_0 n K n v) = some L := hL
  cases hL
  have hb : LOk Try.prog cf_z19 Try.f93.ntmps 0 n p_z19 (ls_z19 n) b_z19_0 := ⟨trivial, ⟨⟨trivial, trivial⟩, ⟨⟨trivial, ⟨trivial, (o_z19_2 n)⟩⟩, trivial⟩⟩⟩
  refine loopT_ok hb (V_z19_0 n) (t_z19_0 n) n s K r ?_
  rw [← h]
  unfold loopT
  simp only [i_z19_0]
theorem m_z19 (n : Nat) (a0 : (List NodeS)) : runFT Try.prog cf_z19 p_z19 (ls_z19 n) Try.f93 (bodyOf Try.f93) (EK.encs e_z19 ((a0, ()), ()).1) (HK.encs h_z19 ((a0, ()), ()).2) = M_z19 n a0 := by kernel_rfl
theorem g_z19 (n : Nat) (a0 : (List NodeS)) {r : Res} (h : M_z19 n a0 = some r) : runF Try.prog cf_z19 n p_z19 93 (EK.encs e_z19 ((a0, ()), ()).1) (HK.encs h_z19 ((a0, ()), ()).2) = some r := by
  have hb : LOk Try.prog cf_z19 Try.f93.ntmps 0 n p_z19 (ls_z19 n) (bodyOf Try.f93) := ⟨trivial, ⟨⟨trivial, (o_z19_0 n)⟩, ⟨trivial, trivial⟩⟩⟩
  exact runFT_some Try.prog (c := bodyOf Try.f93) Try.func93 (show Try.f93.body = some (bodyOf Try.f93) from rfl) (show (1 : Nat) ≤ 40 by decide) hb ((m_z19 n a0).trans h) rfl (by kernel_rfl)
noncomputable def c_z19 : Spec := specQ e_z19 h_z19 ro_z19 rh_z19 fun a b => Q_z19 a.1
theorem k_z19 (hm : Try.prog.follows .mixedOrders = true) : SpecOk Try.prog 93 c_z19 := specQ_ok (pol := p_z19) hm (cf := cf_z19) (tab_ok (specs_cons (k_z17 hm) (specs_cons (k_z18 hm) specs_nil))) fun a b r h => ⟨FUEL, g_z19 FUEL a.1 (decRes_some h)⟩
def s_z1a_r : Sig := ⟨[7], [.ty (.int .i64)], [.one true [.ty (.slice NodeT)], .one false [.mp 2], .mf (.int .i64) (.int .i64), .one true [.ty .bool], .one false [.mp 5], .mf (.int .i64) (.int .i64), .one false [.fn 106 [(0, 0, 0), (1, 0, 0), (3, 0, 0), (4, 0, 0), (6, 0, 0)]]]⟩
def s_z1a_h1 : Sig := ⟨[0, 2, 4, 5, 10, 40, 41, 42], [.ty (.int .i64), .ptr 1 0 0, .ptr 4 0 0, .ptr 6 0 0, .ty (.int .i64), .hs 7 0, .ty (.int .i64), .ty (.int .i64)], [.one true [.ty (.slice NodeT)], .one false [.mp 2], .mf (.int .i64) (.int .i64), .one true [.ty .bool], .one false [.mp 5], .mf (.int .i64) (.int .i64), .one false [.fn 106 [(0, 0, 0), (1, 0, 0), (3, 0, 0), (4, 0, 0), (6, 0, 0)]], .row (.int .i64)]⟩
def s_z1a_t1 : Sig := ⟨[0, 2, 4, 10], [.ty (.int .i64), .ptr 1 0 0, .ptr 4 0 0, .ty (.int .i64)], [.one true [.ty (.slice NodeT)], .one false [.mp 2], .mf (.int .i64) (.int .i64), .one true [.ty .bool], .one false [.mp 5], .mf (.int .i64) (.int .i64), .one false [.fn 106 [(0, 0, 0), (1, 0, 0), (3, 0, 0), (4, 0, 0), (6, 0, 0)]]]⟩
def p_z1a : Pol := ⟨fun i => if i = 1 then some [(0, .keep), (2, .keep), (4, .keep), (5, .keep), (10, .keep), (40, (.own (.int .i64))), (41, .keep), (42, .keep)] else none, fun i => if i = 1 then some [(0, .keep), (2, .keep), (4, .keep), (10, .keep)] else none, some [(7, .keep)], [.keep], []⟩
def e_z1a : List EK := [.ty (.int .i64), .ptr 0 0 0, .ptr 1 0 0, .ptr 3 0 0, .ptr 4 0 0, .ptr 6 0 0]
def h_z1a : List HK := [.one true [.ty (.slice NodeT)], .one false [.mp 2], .mf (.int .i64) (.int .i64), .one true [.ty .bool], .one false [.mp 5], .mf (.int .i64) (.int .i64), .one false [.fn 106 [(0, 0, 0), (1, 0, 0), (3, 0, 0), (4, 0, 0), (6, 0, 0)]]]
noncomputable def cf_z1a (qr_z1a : Int → (List NodeS) → (Int → Option (Int)) → Bool → (Int → Option (Int)) → Option (RS ro_z1a rh_z1a)) : CallF := mkCF [(96, c_z18), (105, c_z17), (106, (specQ e_z1a h_z1a ro_z1a rh_z1a fun a b => qr_z1a a.1 b.1.1 b.2.2.1 b.2.2.2.1.1 b.2.2.2.2.2.1))] [(96, [(.slice NodeT), (.int .i64)]), (105, [NodeT])]
noncomputable def ls_z1a (n : Nat) (qr_z1a : Int → (List NodeS) → (Int → Option (Int)) → Bool → (Int → Option (Int)) → Option (RS ro_z1a rh_z1a)) : Loops := fun i => if i = 1 then some (loopT 7 (p_z1a.head 1) s_z1a_h1 fun K v => L_z1a_1 n qr_z1a (fun z1 z2 z3 z4 z5 => K (.ex 1) (s_z1a_t1.enc ((v.1.1, ((), ((), (z1, ())))), ((z2, ()), (((), ()), (z3, ((z4, ()), (((), ()), (z5, (((), ()), ())))))))))) v.1.1 v.1.2.2.2.2.2.1 v.1.2.2.2.2.2.2.1 v.2.2.2.2.2.2.2.2.1 n v.1.2.2.2.2.1 v.1.2.2.2.2.2.2.2.1 v.2.1.1 v.2.2.2.1 v.2.2.2.2.1.1 v.2.2.2.2.2.2.1)
  else  none
noncomputable def b_z1a_1 : Code := partOf (bodyOf Try.f106) [1, 1, 1, 1, 1, 0, 1, 0, 0]
noncomputable def V_z1a_1 (qr_z1a : Int → (List NodeS) → (Int → Option (Int)) → Bool → (Int → Option (Int)) → Option (RS ro_z1a rh_z1a)) (n : Nat) (K : Cont) (rec : Sig.sem s_z1a_h1 → Option Res) (v : Sig.sem s_z1a_h1) : Option Res := F_z1a_1 n qr_z1a (fun z1 z2 z3 z4 z5 => K (.ex 1) (s_z1a_t1.enc ((v.1.1, ((), ((), (z1, ())))), ((z2, ()), (((), ()), (z3, ((z4, ()), (((), ()), (z5, (((), ()), ())))))))))) v.1.1 v.1.2.2.2.2.2.1 v.1.2.2.2.2.2.2.1 v.2.2.2.2.2.2.2.2.1 (fun z1 z4 z5 z6 z7 z8 => rec ((v.1.1, ((), ((), ((), (z1, (v.1.2.2.2.2.2.1, (v.1.2.2.2.2.2.2.1, (z4, ())))))))), ((z5, ()), (((), ()), (z6, ((z7, ()), (((), ()), (z8, (((), ()), (v.2.2.2.2.2.2.2.2.1, ())))))))))) v.1.2.2.2.2.1 v.1.2.2.2.2.2.2.2.1 v.2.1.1 v.2.2.2.1 v.2.2.2.2.1.1 v.2.2.2.2.2.2.1
theorem t_z1a_1 (qr_z1a : Int → (List NodeS) → (Int → Option (Int)) → Bool → (Int → Option (Int)) → Option (RS ro_z1a rh_z1a)) (n : Nat) (K : Cont) (rec : Sig.sem s_z1a_h1 → Option Res) (v : Sig.sem s_z1a_h1) : runT Try.prog (cf_z1a qr_z1a) Try.f106.ntmps 7 p_z1a (ls_z1a n qr_z1a) b_z1a_1 (s_z1a_h1.enc v) (turnK 7 (p_z1a.head 1) s_z1a_h1 rec K) = V_z1a_1 qr_z1a n K rec v := by kernel_rfl
noncomputable def W_z1a_1 (qr_z1a : Int → (List NodeS) → (Int → Option (Int)) → Bool → (Int → Option (Int)) → Option (RS ro_z1a rh_z1a)) (n : Nat) (K : Cont) (m : Nat) (v : Sig.sem s_z1a_h1) : Option Res := L_z1a_1 n qr_z1a (fun z1 z2 z3 z4 z5 => K (.ex 1) (s_z1a_t1.enc ((v.1.1, ((), ((), (z1, ())))), ((z2, ()), (((), ()), (z3, ((z4, ()), (((), ()), (z5, (((), ()), ())))))))))) v.1.1 v.1.2.2.2.2.2.1 v.1.2.2.2.2.2.2.1 v.2.2.2.2.2.2.2.2.1 m v.1.2.2.2.2.1 v.1.2.2.2.2.2.2.2.1 v.2.1.1 v.2.2.2.1 v.2.2.2.2.1.1 v.2.2.2.2.2.2.1
theorem i_z1a_1 (qr_z1a : Int → (List NodeS) → (Int → Option (Int)) → Bool → (Int → Option (Int)) → Option (RS ro_z1a rh_z1a)) (n : Nat) (K : Cont) : ∀ m v, iter (V_z1a_1 qr_z1a n K) m v = W_z1a_1 qr_z1a n K m v := by
  intro m
  induction m with
  | zero => intro v; rfl
  | succ m ih =>
    intro v
    show V_z1a_1 qr_z1a n K (iter (V_z1a_1 qr_z1a n K) m) v = V_z1a_1 qr_z1a n K (W_z1a_1 qr_z1a n K m) v
    rw [show iter (V_z1a_1 qr_z1a n K) m = W_z1a_1 qr_z1a n K m from funext ih]
theorem o_z1a_1 (qr_z1a : Int → (List NodeS) → (Int → Option (Int)) → Bool → (Int → Option (Int)) → Option (RS ro_z1a rh_z1a)) (n : Nat) : ∀ L, ls_z1a n qr_z1a 1 = some L → ∀ s K r, L s K = some r → ∃ x s', loopN (run Try.prog (cf_z1a qr_z1a) Try.f106.ntmps 7 n p_z1a none b_z1a_1) (gc 7 (p_z1a.head 1)) n s = some (x, s') ∧ K x s' = some r := by
  intro L hL s K r h
  have hL : some (loopT 7 (p_z1a.head 1) s_z1a_h1 fun K v => W_z1a_1 qr_z1a n K n v) = some L := hL
  cases hL
  have hb : LOk Try.prog (cf_z1a qr_z1a) Try.f106.ntmps 7 n p_z1a (ls_z1a n qr_z1a) b_z1a_1 := ⟨trivial, ⟨⟨trivial, trivial⟩, ⟨⟨trivial, trivial⟩, trivial⟩⟩⟩
  refine loopT_ok hb (V_z1a_1 qr_z1a n) (t_z1a_1 qr_z1a n) n s K r ?_
  rw [← h]
  unfold loopT
  simp only [i_z1a_1]
theorem m_z1a (n : Nat) (qr_z1a : Int → (List NodeS) → (Int → Option (Int)) → Bool → (Int → Option (Int)) → Option (RS ro_z1a rh_z1a)) (a0 : Int) (a1 : (List NodeS)) (a2 : (Int → Option (Int))) (a3 : Bool) (a4 : (Int → Option (Int))) : runFT Try.prog (cf_z1a qr_z1a) p_z1a (ls_z1a n qr_z1a) Try.f106 (bodyOf Try.f106) (EK.encs e_z1a ((a0, ((), ((), ((), ((), ((), ())))))), ((a1, ()), (((), ()), (a2, ((a3, ()), (((), ()), (a4, (((), ()), ())))))))).1) (HK.encs h_z1a ((a0, ((), ((), ((), ((), ((), ())))))), ((a1, ()), (((), ()), (a2, ((a3, ()), (((), ()), (a4, (((), ()), ())))))))).2) = M_z1a n qr_z1a a0 a1 a2 a3 a4 := by kernel_rfl
theorem g_z1a (n : Nat) (qr_z1a : Int → (List NodeS) → (Int → Option (Int)) → Bool → (Int → Option (Int)) → Option (RS ro_z1a rh_z1a)) (a0 : Int) (a1 : (List NodeS)) (a2 : (Int → Option (Int))) (a3 : Bool) (a4 : (Int → Option (Int))) {r : Res} (h : M_z1a n qr_z1a a0 a1 a2 a3 a4 = some r) : runF Try.prog (cf_z1a qr_z1a) n p_z1a 106 (EK.encs e_z1a ((a0, ((), ((), ((), ((), ((), ())))))), ((a1, ()), (((), ()), (a2, ((a3, ()), (((), ()), (a4, (((), ()), ())))))))).1) (HK.encs h_z1a ((a0, ((), ((), ((), ((), ((), ())))))), ((a1, ()), (((), ()), (a2, ((a3, ()), (((), ()), (a4, (((), ()), ())))))))).2) = some r := by
  have hb : LOk Try.prog (cf_z1a qr_z1a) Try.f106.ntmps 7 n p_z1a (ls_z1a n qr_z1a) (bodyOf Try.f106) := ⟨trivial, ⟨trivial, ⟨⟨trivial, ⟨⟨trivial, trivial⟩, ⟨trivial, ⟨⟨trivial, ⟨trivial, trivial⟩⟩, ⟨trivial, ⟨⟨trivial, trivial⟩, trivial⟩⟩⟩⟩⟩⟩, ⟨trivial, ⟨trivial, ⟨⟨trivial, (o_z1a_1 qr_z1a n)⟩, ⟨trivial, ⟨trivial, ⟨trivial, trivial⟩⟩⟩⟩⟩⟩⟩⟩⟩
  exact runFT_some Try.prog (c := bodyOf Try.f106) Try.func106 (show Try.f106.body = some (bodyOf Try.f106) from rfl) (show (6 : Nat) ≤ 62 by decide) hb ((m_z1a n qr_z1a a0 a1 a2 a3 a4).trans h) rfl (by kernel_rfl)
noncomputable def c_z1a : Spec := specQ e_z1a h_z1a ro_z1a rh_z1a fun a b => Q_z1a a.1 b.1.1 b.2.2.1 b.2.2.2.1.1 b.2.2.2.2.2.1
theorem kr_z1a (hm : Try.prog.follows .mixedOrders = true) (qr_z1a : Int → (List NodeS) → (Int → Option (Int)) → Bool → (Int → Option (Int)) → Option (RS ro_z1a rh_z1a)) (hr : SpecOk Try.prog 106 (specQ e_z1a h_z1a ro_z1a rh_z1a fun a b => qr_z1a a.1 b.1.1 b.2.2.1 b.2.2.2.1.1 b.2.2.2.2.2.1)) : CallSound Try.prog (cf_z1a qr_z1a) := tab_ok (specs_cons (k_z18 hm) (specs_cons (k_z17 hm) (specs_cons (hr) specs_nil)))
theorem kd_z1a (hm : Try.prog.follows .mixedOrders = true) : ∀ dp, SpecOk Try.prog 106 (specQ e_z1a h_z1a ro_z1a rh_z1a fun a b => Qd_z1a dp a.1 b.1.1 b.2.2.1 b.2.2.2.1.1 b.2.2.2.2.2.1)
  | 0 => specQ_ok (pol := p_z1a) hm (cf := mkCF [] []) (tab_ok specs_nil) fun a b r h => by cases h
  | dp + 1 => specQ_ok (pol := p_z1a) hm (kr_z1a hm (Qd_z1a dp) (kd_z1a hm dp)) fun a b r h => ⟨FUEL, g_z1a FUEL (Qd_z1a dp) a.1 b.1.1 b.2.2.1 b.2.2.2.1.1 b.2.2.2.2.2.1 (decRes_some h)⟩
theorem k_z1a (hm : Try.prog.follows .mixedOrders = true) : SpecOk Try.prog 106 c_z1a := kd_z1a hm FUEL
def s_z1b_h0 : Sig := ⟨[6, 7, 13, 14, 15], [.ptr 0 0 0, .ptr 1 0 0, .ty (.slice NodeT), .ty (.int .i64), .ty (.int .i64)], [.one true [.ty .bool], .one false [.fn 106 [(2, 0, 0), (3, 0, 0), (0, 0, 0), (5, 0, 0), (1, 0, 0)]], .one true [.ty (.slice NodeT)], .one false [.mp 4], .mf (.int .i64) (.int .i64), .one false [.mp 6], .mf (.int .i64) (.int .i64)]⟩
def s_z1b_t0 : Sig := ⟨[6, 7], [.ptr 0 0 0, .ptr 1 0 0], [.one true [.ty .bool], .one false [.fn 106 [(2, 0, 0), (3, 0, 0), (0, 0, 0), (5, 0, 0), (1, 0, 0)]], .one true [.ty (.slice NodeT)], .one false [.mp 4], .mf (.int .i64) (.int .i64), .one false [.mp 6], .mf (.int .i64) (.int .i64)]⟩
def s_z1b_r : Sig := ⟨[2, 3], [.fn 106 [(0, 0, 0), (1, 0, 0), (3, 0, 0), (4, 0, 0), (6, 0, 0)], .ty .bool], [.one true [.ty (.slice NodeT)], .one false [.mp 2], .mf (.int .i64) (.int .i64), .one true [.ty .bool], .one false [.mp 5], .mf (.int .i64) (.int .i64), .one false [.fn 106 [(0, 0, 0), (1, 0, 0), (3, 0, 0), (4, 0, 0), (6, 0, 0)]]]⟩
def p_z1b : Pol := ⟨fun i => if i = 0 then some [(6, .keep), (7, .keep), (13, .keep), (14, .keep), (15, .keep)] else none, fun i => if i = 0 then some [(6, .keep), (7, .keep)] else none, some [(2, .keep), (3, .keep)], [.keep, .keep], []⟩
def e_z1b : List EK := [.ty (.slice NodeT)]
def h_z1b : List HK := []
noncomputable def cf_z1b : CallF := mkCF [(106, c_z1a)] []
noncomputable def ls_z1b (n : Nat) : Loops := fun i => if i = 0 then some (loopT 0 (p_z1b.head 0) s_z1b_h0 fun K v => L_z1b_0 n (fun z0 z1 z2 z3 => K (.ex 0) (s_z1b_t0.enc (((), ((), ())), ((z0, ()), (((), ()), ((z1, ()), (((), ()), (z2, (((), ()), (z3, ())))))))))) v.1.2.2.1 v.1.2.2.2.1 n v.1.2.2.2.2.1 v.2.1.1 v.2.2.2.1.1 v.2.2.2.2.2.1 v.2.2.2.2.2.2.2.1)
  else  none
noncomputable def b_z1b_0 : Code := partOf (bodyOf Try.f94) [1, 1, 1, 1, 1, 0, 1, 0, 0]
noncomputable def V_z1b_0 (n : Nat) (K : Cont) (rec : Sig.sem s_z1b_h0 → Option Res) (v : Sig.sem s_z1b_h0) : Option Res := F_z1b_0 n (fun z0 z1 z2 z3 => K (.ex 0) (s_z1b_t0.enc (((), ((), ())), ((z0, ()), (((), ()), ((z1, ()), (((), ()), (z2, (((), ()), (z3, ())))))))))) v.1.2.2.1 v.1.2.2.2.1 (fun z2 z3 z4 z5 z6 => rec (((), ((), (v.1.2.2.1, (v.1.2.2.2.1, (z2, ()))))), ((z3, ()), (((), ()), ((z4, ()), (((), ()), (z5, (((), ()), (z6, ()))))))))) v.1.2.2.2.2.1 v.2.1.1 v.2.2.2.1.1 v.2.2.2.2.2.1 v.2.2.2.2.2.2.2.1
theorem t_z1b_0 (n : Nat) (K : Cont) (rec : Sig.sem s_z1b_h0 → Option Res) (v : Sig.sem s_z1b_h0) : runT Try.prog cf_z1b Try.f94.ntmps 0 p_z1b (ls_z1b n) b_z1b_0 (s_z1b_h0.enc v) (turnK 0 (p_z1b.head 0) s_z1b_h0 rec K) = V_z1b_0 n K rec v := by kernel_rfl
noncomputable def W_z1b_0 (n : Nat) (K : Cont) (m : Nat) (v : Sig.sem s_z1b_h0) : Option Res := L_z1b_0 n (fun z0 z1 z2 z3 => K (.ex 0) (s_z1b_t0.enc (((), ((), ())), ((z0, ()), (((), ()), ((z1, ()), (((), ()), (z2, (((), ()), (z3, ())))))))))) v.1.2.2.1 v.1.2.2.2.1 m v.1.2.2.2.2.1 v.2.1.1 v.2.2.2.1.1 v.2.2.2.2.2.1 v.2.2.2.2.2.2.2.1
theorem i_z1b_0 (n : Nat) (K : Cont) : ∀ m v, iter (V_z1b_0 n K) m v = W_z1b_0 n K m v := by
  intro m
  induction m with
  | zero => intro v; rfl
  | succ m ih =>
    intro v
    show V_z1b_0 n K (iter (V_z1b_0 n K) m) v = V_z1b_0 n K (W_z1b_0 n K m) v
    rw [show iter (V_z1b_0 n K) m = W_z1b_0 n K m from funext ih]
theorem o_z1b_0 (n : Nat) : ∀ L, ls_z1b n 0 = some L → ∀ s K r, L s K = some r → ∃ x s', loopN (run Try.prog cf_z1b Try.f94.ntmps 0 n p_z1b none b_z1b_0) (gc 0 (p_z1b.head 0)) n s = some (x, s') ∧ K x s' = some r := by
  intro L hL s K r h
  have hL : some (loopT 0 (p_z1b.head 0) s_z1b_h0 fun K v => W_z1b_0 n K n v) = some L := hL
  cases hL
  have hb : LOk Try.prog cf_z1b Try.f94.ntmps 0 n p_z1b (ls_z1b n) b_z1b_0 := ⟨trivial, ⟨⟨trivial, trivial⟩, ⟨⟨trivial, trivial⟩, trivial⟩⟩⟩
  refine loopT_ok hb (V_z1b_0 n) (t_z1b_0 n) n s K r ?_
  rw [← h]
  unfold loopT
  simp only [i_z1b_0]
theorem m_z1b (n : Nat) (a0 : (List NodeS)) : runFT Try.prog cf_z1b p_z1b (ls_z1b n) Try.f94 (bodyOf Try.f94) (EK.encs e_z1b ((a0, ()), ()).1) (HK.encs h_z1b ((a0, ()), ()).2) = M_z1b n a0 := by kernel_rfl
theorem g_z1b (n : Nat) (a0 : (List NodeS)) {r : Res} (h : M_z1b n a0 = some r) : runF Try.prog cf_z1b n p_z1b 94 (EK.encs e_z1b ((a0, ()), ()).1) (HK.encs h_z1b ((a0, ()), ()).2) = some r := by
  have hb : LOk Try.prog cf_z1b Try.f94.ntmps 0 n p_z1b (ls_z1b n) (bodyOf Try.f94) := ⟨trivial, ⟨trivial, ⟨trivial, ⟨trivial, ⟨trivial, ⟨⟨trivial, (o_z1b_0 n)⟩, ⟨trivial, trivial⟩⟩⟩⟩⟩⟩⟩
  exact runFT_some Try.prog (c := bodyOf Try.f94) Try.func94 (show Try.f94.body = some (bodyOf Try.f94) from rfl) (show (1 : Nat) ≤ 26 by decide) hb ((m_z1b n a0).trans h) rfl (by kernel_rfl)
noncomputable def c_z1b : Spec := specQ e_z1b h_z1b ro_z1b rh_z1b fun a b => Q_z1b a.1
theorem k_z1b (hm : Try.prog.follows .mixedOrders = true) : SpecOk Try.prog 94 c_z1b := specQ_ok (pol := p_z1b) hm (cf := cf_z1b) (tab_ok (specs_cons (k_z1a hm) specs_nil)) fun a b r h => ⟨FUEL, g_z1b FUEL a.1 (decRes_some h)⟩
def s_z1c_r : Sig := ⟨[2], [.ty (.int .i64)], []⟩
def p_z1c : Pol := ⟨fun i => none, fun i => none, some [(2, .keep)], [.keep], []⟩
def e_z1c : List EK := [.ty (.slice NodeT)]
def h_z1c : List HK := []
noncomputable def cf_z1c : CallF := mkCF [(92, c_z16), (93, c_z19), (94, c_z1b)] [(92, [(.slice NodeT)]), (93, [(.slice NodeT)]), (94, [(.slice NodeT)])]
noncomputable def ls_z1c (n : Nat) : Loops := fun i =>  none
theorem m_z1c (n : Nat) (a0 : (List NodeS)) : runFT Try.prog cf_z1c p_z1c (ls_z1c n) Try.f78 (bodyOf Try.f78) (EK.encs e_z1c ((a0, ()), ()).1) (HK.encs h_z1c ((a0, ()), ()).2) = M_z1c n a0 := by kernel_rfl
theorem g_z1c (n : Nat) (a0 : (List NodeS)) {r : Res} (h : M_z1c n a0 = some r) : runF Try.prog cf_z1c n p_z1c 78 (EK.encs e_z1c ((a0, ()), ()).1) (HK.encs h_z1c ((a0, ()), ()).2) = some r := by
  have hb : LOk Try.prog cf_z1c Try.f78.ntmps 0 n p_z1c (ls_z1c n) (bodyOf Try.f78) := ⟨trivial, ⟨⟨trivial, ⟨⟨trivial, trivial⟩, ⟨trivial, ⟨⟨trivial, trivial⟩, ⟨trivial, ⟨⟨trivial, trivial⟩, trivial⟩⟩⟩⟩⟩⟩, ⟨⟨trivial, ⟨trivial, ⟨⟨trivial, trivial⟩, trivial⟩⟩⟩, ⟨trivial, trivial⟩⟩⟩⟩
  exact runFT_some Try.prog (c := bodyOf Try.f78) Try.func78 (show Try.f78.body = some (bodyOf Try.f78) from rfl) (show (1 : Nat) ≤ 24 by decide) hb ((m_z1c n a0).trans h) rfl (by kernel_rfl)
noncomputable def c_z1c : Spec := specQ e_z1c h_z1c ro_z1c rh_z1c fun a b => Q_z1c a.1
theorem k_z1c (hm : Try.prog.follows .mixedOrders = true) : SpecOk Try.prog 78 c_z1c := specQ_ok (pol := p_z1c) hm (cf := cf_z1c) (tab_ok (specs_cons (k_z16 hm) (specs_cons (k_z19 hm) (specs_cons (k_z1b hm) specs_nil)))) fun a b r h => ⟨FUEL, g_z1c FUEL a.1 (decRes_some h)⟩
def s_z1d_r : Sig := ⟨[4], [.fn 95 [(0, 0, 0), (1, 0, 0)]], [.one true [.ty (.slice NodeT)], .one true [.ty .str]]⟩
def p_z1d : Pol := ⟨fun i => none, fun i => none, some [(4, .keep)], [.keep], []⟩
def e_z1d : List EK := [.ty (.slice NodeT), .ty .str]
def h_z1d : List HK := []
noncomputable def cf_z1d : CallF := mkCF [] []
noncomputable def ls_z1d (n : Nat) : Loops := fun i =>  none
theorem m_z1d (n : Nat) (a0 : (List NodeS)) (a1 : ByteArray) : runFT Try.prog cf_z1d p_z1d (ls_z1d n) Try.f79 (bodyOf Try.f79) (EK.encs e_z1d ((a0, (a1, ())), ()).1) (HK.encs h_z1d ((a0, (a1, ())), ()).2) = M_z1d n a0 a1 := by kernel_rfl
theorem g_z1d (n : Nat) (a0 : (List NodeS)) (a1 : ByteArray) {r : Res} (h : M_z1d n a0 a1 = some r) : runF Try.prog cf_z1d n p_z1d 79 (EK.encs e_z1d ((a0, (a1, ())), ()).1) (HK.encs h_z1d ((a0, (a1, ())), ()).2) = some r := by
  have hb : LOk Try.prog cf_z1d Try.f79.ntmps 0 n p_z1d (ls_z1d n) (bodyOf Try.f79) := ⟨trivial, ⟨trivial, trivial⟩⟩
  exact runFT_some Try.prog (c := bodyOf Try.f79) Try.func79 (show Try.f79.body = some (bodyOf Try.f79) from rfl) (show (2 : Nat) ≤ 6 by decide) hb ((m_z1d n a0 a1).trans h) rfl (by kernel_rfl)
noncomputable def c_z1d : Spec := specQ e_z1d h_z1d ro_z1d rh_z1d fun a b => Q_z1d a.1 a.2.1
theorem k_z1d (hm : Try.prog.follows .mixedOrders = true) : SpecOk Try.prog 79 c_z1d := specQ_ok (pol := p_z1d) hm (cf := cf_z1d) (tab_ok specs_nil) fun a b r h => ⟨FUEL, g_z1d FUEL a.1 a.2.1 (decRes_some h)⟩
def s_z1e_r : Sig := ⟨[2], [.ty .bool], []⟩
def p_z1e : Pol := ⟨fun i => none, fun i => none, some [(2, .keep)], [.keep], []⟩
def e_z1e : List EK := [.agg NodeT]
def h_z1e : List HK := []
noncomputable def cf_z1e : CallF := mkCF [] []
noncomputable def ls_z1e (n : Nat) : Loops := fun i =>  none
theorem m_z1e (n : Nat) (a0 : NodeS) : runFT Try.prog cf_z1e p_z1e (ls_z1e n) Try.f107 (bodyOf Try.f107) (EK.encs e_z1e ((a0, ()), ()).1) (HK.encs h_z1e ((a0, ()), ()).2) = M_z1e n a0 := by kernel_rfl
theorem g_z1e (n : Nat) (a0 : NodeS) {r : Res} (h : M_z1e n a0 = some r) : runF Try.prog cf_z1e n p_z1e 107 (EK.encs e_z1e ((a0, ()), ()).1) (HK.encs h_z1e ((a0, ()), ()).2) = some r := by
  have hb : LOk Try.prog cf_z1e Try.f107.ntmps 0 n p_z1e (ls_z1e n) (bodyOf Try.f107) := ⟨trivial, ⟨⟨trivial, ⟨⟨trivial, trivial⟩, trivial⟩⟩, ⟨⟨trivial, ⟨⟨trivial, trivial⟩, trivial⟩⟩, ⟨trivial, trivial⟩⟩⟩⟩
  exact runFT_some Try.prog (c := bodyOf Try.f107) Try.func107 (show Try.f107.body = some (bodyOf Try.f107) from rfl) (show (1 : Nat) ≤ 50 by decide) hb ((m_z1e n a0).trans h) rfl (by kernel_rfl)
noncomputable def c_z1e : Spec := specQ e_z1e h_z1e ro_z1e rh_z1e fun a b => Q_z1e a.1
theorem k_z1e (hm : Try.prog.follows .mixedOrders = true) : SpecOk Try.prog 107 c_z1e := specQ_ok (pol := p_z1e) hm (cf := cf_z1e) (tab_ok specs_nil) fun a b r h => ⟨FUEL, g_z1e FUEL a.1 (decRes_some h)⟩
def s_z1f_r : Sig := ⟨[8, 9], [.ty (.int .i64), .ty .bool], []⟩
def p_z1f : Pol := ⟨fun i => none, fun i => none, some [(8, .keep), (9, .keep)], [.keep, .keep], []⟩
def e_z1f : List EK := [.ty .str, .ty (.int .i64), .ty (.int .i64), .ty (.int .i64)]
def h_z1f : List HK := []
noncomputable def cf_z1f : CallF := mkCF [(71, c_z0g)] [(71, [.str, (.int .i64), (.int .i64)])]
noncomputable def ls_z1f (n : Nat) : Loops := fun i =>  none
theorem m_z1f (n : Nat) (a0 : ByteArray) (a1 : Int) (a2 : Int) (a3 : Int) : runFT Try.prog cf_z1f p_z1f (ls_z1f n) Try.f108 (bodyOf Try.f108) (EK.encs e_z1f ((a0, (a1, (a2, (a3, ())))), ()).1) (HK.encs h_z1f ((a0, (a1, (a2, (a3, ())))), ()).2) = M_z1f n a0 a1 a2 a3 := by kernel_rfl
theorem g_z1f (n : Nat) (a0 : ByteArray) (a1 : Int) (a2 : Int) (a3 : Int) {r : Res} (h : M_z1f n a0 a1 a2 a3 = some r) : runF Try.prog cf_z1f n p_z1f 108 (EK.encs e_z1f ((a0, (a1, (a2, (a3, ())))), ()).1) (HK.encs h_z1f ((a0, (a1, (a2, (a3, ())))), ()).2) = some r := by
  have hb : LOk Try.prog cf_z1f Try.f108.ntmps 0 n p_z1f (ls_z1f n) (bodyOf Try.f108) := ⟨trivial, ⟨⟨trivial, ⟨⟨trivial, trivial⟩, trivial⟩⟩, ⟨trivial, ⟨trivial, trivial⟩⟩⟩⟩
  exact runFT_some Try.prog (c := bodyOf Try.f108) Try.func108 (show Try.f108.body = some (bodyOf Try.f108) from rfl) (show (4 : Nat) ≤ 34 by decide) hb ((m_z1f n a0 a1 a2 a3).trans h) rfl (by kernel_rfl)
noncomputable def c_z1f : Spec := specQ e_z1f h_z1f ro_z1f rh_z1f fun a b => Q_z1f a.1 a.2.1 a.2.2.1 a.2.2.2.1
theorem k_z1f (hm : Try.prog.follows .mixedOrders = true) : SpecOk Try.prog 108 c_z1f := specQ_ok (pol := p_z1f) hm (cf := cf_z1f) (tab_ok (specs_cons (k_z0g hm) specs_nil)) fun a b r h => ⟨FUEL, g_z1f FUEL a.1 a.2.1 a.2.2.1 a.2.2.2.1 (decRes_some h)⟩
def s_z1g_r : Sig := ⟨[6, 7], [.ty (.int .i64), .ty (.int .i64)], []⟩
def p_z1g : Pol := ⟨fun i => none, fun i => none, some [(6, .keep), (7, .keep)], [.keep, .keep], []⟩
def e_z1g : List EK := [.agg NodeT, .ty .str, .ty (.int .i64)]
def h_z1g : List HK := []
noncomputable def cf_z1g : CallF := mkCF [(107, c_z1e), (108, c_z1f)] [(107, [NodeT]), (108, [.str, (.int .i64), (.int .i64), (.int .i64)])]
noncomputable def ls_z1g (n : Nat) : Loops := fun i =>  none
theorem m_z1g (n : Nat) (a0 : NodeS) (a1 : ByteArray) (a2 : Int) : runFT Try.prog cf_z1g p_z1g (ls_z1g n) Try.f97 (bodyOf Try.f97) (EK.encs e_z1g ((a0, (a1, (a2, ()))), ()).1) (HK.encs h_z1g ((a0, (a1, (a2, ()))), ()).2) = M_z1g n a0 a1 a2 := by kernel_rfl
theorem g_z1g (n : Nat) (a0 : NodeS) (a1 : ByteArray) (a2 : Int) {r : Res} (h : M_z1g n a0 a1 a2 = some r) : runF Try.prog cf_z1g n p_z1g 97 (EK.encs e_z1g ((a0, (a1, (a2, ()))), ()).1) (HK.encs h_z1g ((a0, (a1, (a2, ()))), ()).2) = some r := by
  have hb : LOk Try.prog cf_z1g Try.f97.ntmps 0 n p_z1g (ls_z1g n) (bodyOf Try.f97) := ⟨trivial, ⟨⟨trivial, ⟨⟨trivial, trivial⟩, trivial⟩⟩, ⟨trivial, ⟨⟨trivial, ⟨⟨trivial, ⟨⟨trivial, ⟨⟨trivial, trivial⟩, trivial⟩⟩, trivial⟩⟩, trivial⟩⟩, ⟨⟨trivial, ⟨⟨trivial, trivial⟩, ⟨trivial, ⟨⟨trivial, trivial⟩, trivial⟩⟩⟩⟩, ⟨trivial, trivial⟩⟩⟩⟩⟩⟩
  exact runFT_some Try.prog (c := bodyOf Try.f97) Try.func97 (show Try.f97.body = some (bodyOf Try.f97) from rfl) (show (3 : Nat) ≤ 58 by decide) hb ((m_z1g n a0 a1 a2).trans h) rfl (by kernel_rfl)
noncomputable def c_z1g : Spec := specQ e_z1g h_z1g ro_z1g rh_z1g fun a b => Q_z1g a.1 a.2.1 a.2.2.1
theorem k_z1g (hm : Try.prog.follows .mixedOrders = true) : SpecOk Try.prog 97 c_z1g := specQ_ok (pol := p_z1g) hm (cf := cf_z1g) (tab_ok (specs_cons (k_z1e hm) (specs_cons (k_z1f hm) specs_nil))) fun a b r h => ⟨FUEL, g_z1g FUEL a.1 a.2.1 a.2.2.1 (decRes_some h)⟩
def s_z1h_h0 : Sig := ⟨[2, 7, 18, 19, 20], [.ty (.int .u32), .ptr 0 0 0, .ty (.slice ArmT), .ty (.int .i64), .ty (.int .i64)], [.cell NodeT]⟩
def s_z1h_r : Sig := ⟨[6], [.ty (.int .i64)], []⟩
def s_z1h_t0 : Sig := ⟨[7], [.ptr 0 0 0], [.cell NodeT]⟩
def p_z1h : Pol := ⟨fun i => if i = 0 then some [(2, .keep), (7, (.own NodeT)), (18, .keep), (19, .keep), (20, .keep)] else none, fun i => if i = 0 then some [(7, (.own NodeT))] else none, some [(6, .keep)], [.keep], []⟩
def e_z1h : List EK := [.ty (.slice NodeT), .ty (.int .i64), .ty (.int .u32)]
def h_z1h : List HK := []
noncomputable def cf_z1h : CallF := mkCF [(96, c_z18)] [(96, [(.slice NodeT), (.int .i64)])]
noncomputable def ls_z1h (n : Nat) : Loops := fun i => if i = 0 then some (loopT 0 (p_z1h.head 0) s_z1h_h0 fun K v => L_z1h_0 n (fun z0 => K .rt (s_z1h_r.enc ((z0, ()), ()))) (fun _ => K (.ex 0) (s_z1h_t0.enc (((), ()), (v.2.1, ())))) v.1.1 v.1.2.2.1 v.1.2.2.2.1 v.2.1 n v.1.2.2.2.2.1)
  else  none
noncomputable def b_z1h_0 : Code := partOf (bodyOf Try.f109) [1, 1, 0, 1, 0, 0]
noncomputable def V_z1h_0 (n : Nat) (K : Cont) (rec : Sig.sem s_z1h_h0 → Option Res) (v : Sig.sem s_z1h_h0) : Option Res := F_z1h_0 n (fun z0 => K .rt (s_z1h_r.enc ((z0, ()), ()))) (fun _ => K (.ex 0) (s_z1h_t0.enc (((), ()), (v.2.1, ())))) v.1.1 v.1.2.2.1 v.1.2.2.2.1 v.2.1 (fun z3 => rec ((v.1.1, ((), (v.1.2.2.1, (v.1.2.2.2.1, (z3, ()))))), (v.2.1, ()))) v.1.2.2.2.2.1
theorem t_z1h_0 (n : Nat) (K : Cont) (rec : Sig.sem s_z1h_h0 → Option Res) (v : Sig.sem s_z1h_h0) : runT Try.prog cf_z1h Try.f109.ntmps 0 p_z1h (ls_z1h n) b_z1h_0 (s_z1h_h0.enc v) (turnK 0 (p_z1h.head 0) s_z1h_h0 rec K) = V_z1h_0 n K rec v := by kernel_rfl
noncomputable def W_z1h_0 (n : Nat) (K : Cont) (m : Nat) (v : Sig.sem s_z1h_h0) : Option Res := L_z1h_0 n (fun z0 => K .rt (s_z1h_r.enc ((z0, ()), ()))) (fun _ => K (.ex 0) (s_z1h_t0.enc (((), ()), (v.2.1, ())))) v.1.1 v.1.2.2.1 v.1.2.2.2.1 v.2.1 m v.1.2.2.2.2.1
theorem i_z1h_0 (n : Nat) (K : Cont) : ∀ m v, iter (V_z1h_0 n K) m v = W_z1h_0 n K m v := by
  intro m
  induction m with
  | zero => intro v; rfl
  | succ m ih =>
    intro v
    show V_z1h_0 n K (iter (V_z1h_0 n K) m) v = V_z1h_0 n K (W_z1h_0 n K m) v
    rw [show iter (V_z1h_0 n K) m = W_z1h_0 n K m from funext ih]
theorem o_z1h_0 (n : Nat) : ∀ L, ls_z1h n 0 = some L → ∀ s K r, L s K = some r → ∃ x s', loopN (run Try.prog cf_z1h Try.f109.ntmps 0 n p_z1h none b_z1h_0) (gc 0 (p_z1h.head 0)) n s = some (x, s') ∧ K x s' = some r := by
  intro L hL s K r h
  have hL : some (loopT 0 (p_z1h.head 0) s_z1h_h0 fun K v => W_z1h_0 n K n v) = some L := hL
  cases hL
  have hb : LOk Try.prog cf_z1h Try.f109.ntmps 0 n p_z1h (ls_z1h n) b_z1h_0 := ⟨trivial, ⟨⟨trivial, trivial⟩, ⟨⟨trivial, ⟨trivial, ⟨⟨trivial, trivial⟩, trivial⟩⟩⟩, trivial⟩⟩⟩
  refine loopT_ok hb (V_z1h_0 n) (t_z1h_0 n) n s K r ?_
  rw [← h]
  unfold loopT
  simp only [i_z1h_0]
theorem m_z1h (n : Nat) (a0 : (List NodeS)) (a1 : Int) (a2 : Int) : runFT Try.prog cf_z1h p_z1h (ls_z1h n) Try.f109 (bodyOf Try.f109) (EK.encs e_z1h ((a0, (a1, (a2, ()))), ()).1) (HK.encs h_z1h ((a0, (a1, (a2, ()))), ()).2) = M_z1h n a0 a1 a2 := by kernel_rfl
theorem g_z1h (n : Nat) (a0 : (List NodeS)) (a1 : Int) (a2 : Int) {r : Res} (h : M_z1h n a0 a1 a2 = some r) : runF Try.prog cf_z1h n p_z1h 109 (EK.encs e_z1h ((a0, (a1, (a2, ()))), ()).1) (HK.encs h_z1h ((a0, (a1, (a2, ()))), ()).2) = some r := by
  have hb : LOk Try.prog cf_z1h Try.f109.ntmps 0 n p_z1h (ls_z1h n) (bodyOf Try.f109) := ⟨trivial, ⟨trivial, ⟨⟨trivial, (o_z1h_0 n)⟩, ⟨trivial, trivial⟩⟩⟩⟩
  exact runFT_some Try.prog (c := bodyOf Try.f109) Try.func109 (show Try.f109.body = some (bodyOf Try.f109) from rfl) (show (3 : Nat) ≤ 33 by decide) hb ((m_z1h n a0 a1 a2).trans h) rfl (by kernel_rfl)
noncomputable def c_z1h : Spec := specQ e_z1h h_z1h ro_z1h rh_z1h fun a b => Q_z1h a.1 a.2.1 a.2.2.1
theorem k_z1h (hm : Try.prog.follows .mixedOrders = true) : SpecOk Try.prog 109 c_z1h := specQ_ok (pol := p_z1h) hm (cf := cf_z1h) (tab_ok (specs_cons (k_z18 hm) specs_nil)) fun a b r h => ⟨FUEL, g_z1h FUEL a.1 a.2.1 a.2.2.1 (decRes_some h)⟩
def s_z1i_r : Sig := ⟨[8, 9], [.ty (.int .i64), .ty (.int .i64)], []⟩
def p_z1i : Pol := ⟨fun i => none, fun i => none, some [(8, .keep), (9, .keep)], [.keep, .keep], []⟩
def e_z1i : List EK := [.ty (.slice NodeT), .agg NodeT, .ty .str, .ty (.int .i64)]
def h_z1i : List HK := []
noncomputable def cf_z1i : CallF := mkCF [(108, c_z1f), (109, c_z1h)] [(108, [.str, (.int .i64), (.int .i64), (.int .i64)]), (109, [(.slice NodeT), (.int .i64), (.int .u32)])]
noncomputable def ls_z1i (n : Nat) : Loops := fun i =>  none
theorem m_z1i (n : Nat) (a0 : (List NodeS)) (a1 : NodeS) (a2 : ByteArray) (a3 : Int) : runFT Try.prog cf_z1i p_z1i (ls_z1i n) Try.f98 (bodyOf Try.f98) (EK.encs e_z1i ((a0, (a1, (a2, (a3, ())))), ()).1) (HK.encs h_z1i ((a0, (a1, (a2, (a3, ())))), ()).2) = M_z1i n a0 a1 a2 a3 := by kernel_rfl
theorem g_z1i (n : Nat) (a0 : (List NodeS)) (a1 : NodeS) (a2 : ByteArray) (a3 : Int) {r : Res} (h : M_z1i n a0 a1 a2 a3 = some r) : runF Try.prog cf_z1i n p_z1i 98 (EK.encs e_z1i ((a0, (a1, (a2, (a3, ())))), ()).1) (HK.encs h_z1i ((a0, (a1, (a2, (a3, ())))), ()).2) = some r := by
  have hb : LOk Try.prog cf_z1i Try.f98.ntmps 0 n p_z1i (ls_z1i n) (bodyOf Try.f98) := ⟨trivial, ⟨trivial, ⟨⟨trivial, ⟨⟨trivial, ⟨trivial, ⟨trivial, ⟨⟨trivial, trivial⟩, trivial⟩⟩⟩⟩, trivial⟩⟩, ⟨trivial, ⟨⟨trivial, ⟨⟨trivial, trivial⟩, trivial⟩⟩, ⟨trivial, trivial⟩⟩⟩⟩⟩⟩
  exact runFT_some Try.prog (c := bodyOf Try.f98) Try.func98 (show Try.f98.body = some (bodyOf Try.f98) from rfl) (show (4 : Nat) ≤ 37 by decide) hb ((m_z1i n a0 a1 a2 a3).trans h) rfl (by kernel_rfl)
noncomputable def c_z1i : Spec := specQ e_z1i h_z1i ro_z1i rh_z1i fun a b => Q_z1i a.1 a.2.1 a.2.2.1 a.2.2.2.1
theorem k_z1i (hm : Try.prog.follows .mixedOrders = true) : SpecOk Try.prog 98 c_z1i := specQ_ok (pol := p_z1i) hm (cf := cf_z1i) (tab_ok (specs_cons (k_z1f hm) (specs_cons (k_z1h hm) specs_nil))) fun a b r h => ⟨FUEL, g_z1i FUEL a.1 a.2.1 a.2.2.1 a.2.2.2.1 (decRes_some h)⟩
def s_z1j_h0 : Sig := ⟨[0, 1, 2, 4, 5, 6], [.yl 0, .ptr 5 0 0, .ptr 6 0 0, .ty (.int .i64), .ptr 8 0 0, .ty .bool], [.lp 0 [.junk, .junk, .junk, .junk, .junk, .junk, .junk, .ptr 1 0 0, .ptr 3 0 0, .ptr 4 0 0, .junk, .junk, .junk, .junk, .junk, .junk, .junk, .junk, .junk, .junk, .junk, .junk, .junk, .junk, .junk, .junk, .junk, .junk, .junk, .junk, .junk, .junk], .one false [.hs 7 0], .gone, .one true [.ty (.int .i64)], .one true [.ty (.int .i64)], .one true [.ty (.slice NodeT)], .one true [.ty .str], .row HeadT, .cell NodeT]⟩
def s_z1j_r : Sig := ⟨[], [], [.lp 0 [.junk, .junk, .junk, .junk, .junk, .junk, .junk, .ptr 1 0 0, .ptr 3 0 0, .ptr 4 0 0, .junk, .junk, .junk, .junk, .junk, .junk, .junk, .junk, .junk, .junk, .junk, .junk, .junk, .junk, .junk, .junk, .junk, .junk, .junk, .junk, .junk, .junk], .one false [.hs 7 0], .gone, .one true [.ty (.int .i64)], .one true [.ty (.int .i64)], .one true [.ty (.slice NodeT)], .one true [.ty .str], .row HeadT]⟩
def s_z1j_t0 : Sig := ⟨[], [], [.lp 0 [.junk, .junk, .junk, .junk, .junk, .junk, .junk, .ptr 1 0 0, .ptr 3 0 0, .ptr 4 0 0, .junk, .junk, .junk, .junk, .junk, .junk, .junk, .junk, .junk, .junk, .junk, .junk, .junk, .junk, .junk, .junk, .junk, .junk, .junk, .junk, .junk, .junk], .one false [.hs 7 0], .gone, .one true [.ty (.int .i64)], .one true [.ty (.int .i64)], .one true [.ty (.slice NodeT)], .one true [.ty .str], .row HeadT]⟩
def p_z1j : Pol := ⟨fun i => if i = 0 then some [(0, .keep), (1, .keep), (2, .keep), (4, .keep), (5, (.own NodeT)), (6, .keep)] else none, fun i => if i = 0 then some [] else none, some [], [], [2]⟩
def e_z1j : List EK := [.yl 0, .ptr 5 0 0, .ptr 6 0 0]
def h_z1j : List HK := [.lp 0 [.junk, .junk, .junk, .junk, .junk, .junk, .junk, .ptr 1 0 0, .ptr 3 0 0, .ptr 4 0 0, .junk, .junk, .junk, .junk, .junk, .junk, .junk, .junk, .junk, .junk, .junk, .junk, .junk, .junk, .junk, .junk, .junk, .junk, .junk, .junk, .junk, .junk], .one false [.hs 2 0], .row HeadT, .one true [.ty (.int .i64)], .one true [.ty (.int .i64)], .one true [.ty (.slice NodeT)], .one true [.ty .str]]
noncomputable def cf_z1j : CallF := mkCF [(96, c_z18), (97, c_z1g), (98, c_z1i)] [(96, [(.slice NodeT), (.int .i64)]), (97, [NodeT, .str, (.int .i64)]), (98, [(.slice NodeT), NodeT, .str, (.int .i64)])]
noncomputable def ls_z1j (n : Nat) : Loops := fun i => if i = 0 then some (loopT 7 (p_z1j.head 0) s_z1j_h0 fun K v => L_z1j_0 n (fun z0 z1 z2 z5 => K .rt (s_z1j_r.enc ((), (((), ((), ((), ((), ((), ((), ((), ((), ((), ((), ((), ((), ((), ((), ((), ((), ((), ((), ((), ((), ((), ((), ((), ((), ((), ((), ((), ((), ((), ((), ((), ((), ())))))))))))))))))))))))))))))))), ((z0, ()), ((), ((z1, ()), ((z2, ()), ((v.2.2.2.2.2.2.1.1, ()), ((v.2.2.2.2.2.2.2.1.1, ()), (z5, ()))))))))))) (fun z0 z1 z2 z5 => K (.ex 0) (s_z1j_t0.enc ((), (((), ((), ((), ((), ((), ((), ((), ((), ((), ((), ((), ((), ((), ((), ((), ((), ((), ((), ((), ((), ((), ((), ((), ((), ((), ((), ((), ((), ((), ((), ((), ((), ())))))))))))))))))))))))))))))))), ((z0, ()), ((), ((z1, ()), ((z2, ()), ((v.2.2.2.2.2.2.1.1, ()), ((v.2.2.2.2.2.2.2.1.1, ()), (z5, ()))))))))))) v.2.2.2.2.2.2.1.1 v.2.2.2.2.2.2.2.1.1 n v.1.2.2.2.1 v.1.2.2.2.2.2.1 v.2.2.1.1 v.2.2.2.2.1.1 v.2.2.2.2.2.1.1 v.2.2.2.2.2.2.2.2.1 v.2.2.2.2.2.2.2.2.2.1)
  else  none
noncomputable def b_z1j_0 : Code := partOf (bodyOf Try.f95) [1, 1, 0, 0]
noncomputable def V_z1j_0 (n : Nat) (K : Cont) (rec : Sig.sem s_z1j_h0 → Option Res) (v : Sig.sem s_z1j_h0) : Option Res := F_z1j_0 n (fun z0 z1 z2 z5 => K .rt (s_z1j_r.enc ((), (((), ((), ((), ((), ((), ((), ((), ((), ((), ((), ((), ((), ((), ((), ((), ((), ((), ((), ((), ((), ((), ((), ((), ((), ((), ((), ((), ((), ((), ((), ((), ((), ())))))))))))))))))))))))))))))))), ((z0, ()), ((), ((z1, ()), ((z2, ()), ((v.2.2.2.2.2.2.1.1, ()), ((v.2.2.2.2.2.2.2.1.1, ()), (z5, ()))))))))))) (fun z0 z1 z2 z5 => K (.ex 0) (s_z1j_t0.enc ((), (((), ((), ((), ((), ((), ((), ((), ((), ((), ((), ((), ((), ((), ((), ((), ((), ((), ((), ((), ((), ((), ((), ((), ((), ((), ((), ((), ((), ((), ((), ((), ((), ())))))))))))))))))))))))))))))))), ((z0, ()), ((), ((z1, ()), ((z2, ()), ((v.2.2.2.2.2.2.1.1, ()), ((v.2.2.2.2.2.2.2.1.1, ()), (z5, ()))))))))))) v.2.2.2.2.2.2.1.1 v.2.2.2.2.2.2.2.1.1 (fun z0 z1 z2 z3 z4 z7 z8 => rec (((), ((), ((), (z0, ((), (z1, ())))))), (((), ((), ((), ((), ((), ((), ((), ((), ((), ((), ((), ((), ((), ((), ((), ((), ((), ((), ((), ((), ((), ((), ((), ((), ((), ((), ((), ((), ((), ((), ((), ((), ())))))))))))))))))))))))))))))))), ((z2, ()), ((), ((z3, ()), ((z4, ()), ((v.2.2.2.2.2.2.1.1, ()), ((v.2.2.2.2.2.2.2.1.1, ()), (z7, (z8, ()))))))))))) v.1.2.2.2.1 v.1.2.2.2.2.2.1 v.2.2.1.1 v.2.2.2.2.1.1 v.2.2.2.2.2.1.1 v.2.2.2.2.2.2.2.2.1 v.2.2.2.2.2.2.2.2.2.1
theorem t_z1j_0 (n : Nat) (K : Cont) (rec : Sig.sem s_z1j_h0 → Option Res) (v : Sig.sem s_z1j_h0) : runT Try.prog cf_z1j Try.f95.ntmps 7 p_z1j (ls_z1j n) b_z1j_0 (s_z1j_h0.enc v) (turnK 7 (p_z1j.head 0) s_z1j_h0 rec K) = V_z1j_0 n K rec v := by kernel_rfl
noncomputable def W_z1j_0 (n : Nat) (K : Cont) (m : Nat) (v : Sig.sem s_z1j_h0) : Option Res := L_z1j_0 n (fun z0 z1 z2 z5 => K .rt (s_z1j_r.enc ((), (((), ((), ((), ((), ((), ((), ((), ((), ((), ((), ((), ((), ((), ((), ((), ((), ((), ((), ((), ((), ((), ((), ((), ((), ((), ((), ((), ((), ((), ((), ((), ((), ())))))))))))))))))))))))))))))))), ((z0, ()), ((), ((z1, ()), ((z2, ()), ((v.2.2.2.2.2.2.1.1, ()), ((v.2.2.2.2.2.2.2.1.1, ()), (z5, ()))))))))))) (fun z0 z1 z2 z5 => K (.ex 0) (s_z1j_t0.enc ((), (((), ((), ((), ((), ((), ((), ((), ((), ((), ((), ((), ((), ((), ((), ((), ((), ((), ((), ((), ((), ((), ((), ((), ((), ((), ((), ((), ((), ((), ((), ((), ((), ())))))))))))))))))))))))))))))))), ((z0, ()), ((), ((z1, ()), ((z2, ()), ((v.2.2.2.2.2.2.1.1, ()), ((v.2.2.2.2.2.2.2.1.1, ()), (z5, ()))))))))))) v.2.2.2.2.2.2.1.1 v.2.2.2.2.2.2.2.1.1 m v.1.2.2.2.1 v.1.2.2.2.2.2.1 v.2.2.1.1 v.2.2.2.2.1.1 v.2.2.2.2.2.1.1 v.2.2.2.2.2.2.2.2.1 v.2.2.2.2.2.2.2.2.2.1
theorem i_z1j_0 (n : Nat) (K : Cont) : ∀ m v, iter (V_z1j_0 n K) m v = W_z1j_0 n K m v := by
  intro m
  induction m with
  | zero => intro v; rfl
  | succ m ih =>
    intro v
    show V_z1j_0 n K (iter (V_z1j_0 n K) m) v = V_z1j_0 n K (W_z1j_0 n K m) v
    rw [show iter (V_z1j_0 n K) m = W_z1j_0 n K m from funext ih]
theorem o_z1j_0 (n : Nat) : ∀ L, ls_z1j n 0 = some L → ∀ s K r, L s K = some r → ∃ x s', loopN (run Try.prog cf_z1j Try.f95.ntmps 7 n p_z1j none b_z1j_0) (gc 7 (p_z1j.head 0)) n s = some (x, s') ∧ K x s' = some r := by
  intro L hL s K r h
  have hL : some (loopT 7 (p_z1j.head 0) s_z1j_h0 fun K v => W_z1j_0 n K n v) = some L := hL
  cases hL
  have hb : LOk Try.prog cf_z1j Try.f95.ntmps 7 n p_z1j (ls_z1j n) b_z1j_0 := ⟨⟨trivial, ⟨trivial, trivial⟩⟩, ⟨trivial, ⟨⟨trivial, ⟨⟨trivial, trivial⟩, trivial⟩⟩, ⟨trivial, ⟨⟨trivial, ⟨trivial, trivial⟩⟩, ⟨trivial, trivial⟩⟩⟩⟩⟩⟩
  refine loopT_ok hb (V_z1j_0 n) (t_z1j_0 n) n s K r ?_
  rw [← h]
  unfold loopT
  simp only [i_z1j_0]
theorem m_z1j (n : Nat) (a0 : Nat) (a1 : (List HeadS)) (a2 : Int) (a3 : Int) (a4 : (List NodeS)) (a5 : ByteArray) : runFT Try.prog cf_z1j p_z1j (ls_z1j n) Try.f95 (bodyOf Try.f95) (EK.encs e_z1j (((), ((), ((), ()))), (((), ((), ((), ((), ((), ((), ((), ((), ((), ((), ((), ((), ((), ((), ((), ((), ((), ((), ((), ((), ((), ((), ((), ((), ((), ((), ((), ((), ((), ((), ((), ((), ())))))))))))))))))))))))))))))))), ((a0, ()), (a1, ((a2, ()), ((a3, ()), ((a4, ()), ((a5, ()), ())))))))).1) (HK.encs h_z1j (((), ((), ((), ()))), (((), ((), ((), ((), ((), ((), ((), ((), ((), ((), ((), ((), ((), ((), ((), ((), ((), ((), ((), ((), ((), ((), ((), ((), ((), ((), ((), ((), ((), ((), ((), ((), ())))))))))))))))))))))))))))))))), ((a0, ()), (a1, ((a2, ()), ((a3, ()), ((a4, ()), ((a5, ()), ())))))))).2) = M_z1j n a0 a1 a2 a3 a4 a5 := by kernel_rfl
theorem g_z1j (n : Nat) (a0 : Nat) (a1 : (List HeadS)) (a2 : Int) (a3 : Int) (a4 : (List NodeS)) (a5 : ByteArray) {r : Res} (h : M_z1j n a0 a1 a2 a3 a4 a5 = some r) : runF Try.prog cf_z1j n p_z1j 95 (EK.encs e_z1j (((), ((), ((), ()))), (((), ((), ((), ((), ((), ((), ((), ((), ((), ((), ((), ((), ((), ((), ((), ((), ((), ((), ((), ((), ((), ((), ((), ((), ((), ((), ((), ((), ((), ((), ((), ((), ())))))))))))))))))))))))))))))))), ((a0, ()), (a1, ((a2, ()), ((a3, ()), ((a4, ()), ((a5, ()), ())))))))).1) (HK.encs h_z1j (((), ((), ((), ()))), (((), ((), ((), ((), ((), ((), ((), ((), ((), ((), ((), ((), ((), ((), ((), ((), ((), ((), ((), ((), ((), ((), ((), ((), ((), ((), ((), ((), ((), ((), ((), ((), ())))))))))))))))))))))))))))))))), ((a0, ()), (a1, ((a2, ()), ((a3, ()), ((a4, ()), ((a5, ()), ())))))))).2) = some r := by
  have hb : LOk Try.prog cf_z1j Try.f95.ntmps 7 n p_z1j (ls_z1j n) (bodyOf Try.f95) := ⟨trivial, ⟨trivial, (o_z1j_0 n)⟩⟩
  exact runFT_some Try.prog (c := bodyOf Try.f95) Try.func95 (show Try.f95.body = some (bodyOf Try.f95) from rfl) (show (3 : Nat) ≤ 59 by decide) hb ((m_z1j n a0 a1 a2 a3 a4 a5).trans h) rfl (by kernel_rfl)
noncomputable def c_z1j : Spec := specQ e_z1j h_z1j ro_z1j rh_z1j fun a b => Q_z1j b.2.1.1 b.2.2.1 b.2.2.2.1.1 b.2.2.2.2.1.1 b.2.2.2.2.2.1.1 b.2.2.2.2.2.2.1.1
theorem k_z1j (hm : Try.prog.follows .mixedOrders = true) : SpecOk Try.prog 95 c_z1j := specQ_ok (pol := p_z1j) hm (cf := cf_z1j) (tab_ok (specs_cons (k_z18 hm) (specs_cons (k_z1g hm) (specs_cons (k_z1i hm) specs_nil)))) fun a b r h => ⟨FUEL, g_z1j FUEL b.2.1.1 b.2.2.1 b.2.2.2.1.1 b.2.2.2.2.1.1 b.2.2.2.2.2.1.1 b.2.2.2.2.2.2.1.1 (decRes_some h)⟩
def s_z1k_r : Sig := ⟨[4, 5, 6], [.hs 0 0, .ty (.int .i64), .ty (.int .i64)], [.row HeadT]⟩
def p_z1k : Pol := ⟨fun i => none, fun i => none, some [(4, (.own HeadT)), (5, .keep), (6, .keep)], [(.own HeadT), .keep, .keep], []⟩
def e_z1k : List EK := [.ty (.slice NodeT), .ty .str]
def h_z1k : List HK := []
noncomputable def cf_z1k : CallF := { (mkCFs [(78, c_z1c), (79, c_z1d), (95, c_z1j)] [(78, [(.slice NodeT)]), (79, [(.slice NodeT), .str])] 62 0 [7, 8, 9]) with grow := [88] }
noncomputable def ls_z1k (n : Nat) : Loops := fun i =>  none
theorem m_z1k (n : Nat) (a0 : (List NodeS)) (a1 : ByteArray) : runFT Try.prog cf_z1k p_z1k (ls_z1k n) Try.f62 (bodyOf Try.f62) (EK.encs e_z1k ((a0, (a1, ())), ()).1) (HK.encs h_z1k ((a0, (a1, ())), ()).2) = M_z1k n a0 a1 := by kernel_rfl
theorem g_z1k (n : Nat) (a0 : (List NodeS)) (a1 : ByteArray) {r : Res} (h : M_z1k n a0 a1 = some r) : runF Try.prog cf_z1k n p_z1k 62 (EK.encs e_z1k ((a0, (a1, ())), ()).1) (HK.encs h_z1k ((a0, (a1, ())), ()).2) = some r := by
  have hb : LOk Try.prog cf_z1k Try.f62.ntmps 0 n p_z1k (ls_z1k n) (bodyOf Try.f62) := ⟨trivial, ⟨⟨trivial, ⟨⟨trivial, trivial⟩, trivial⟩⟩, ⟨trivial, ⟨trivial, ⟨⟨trivial, trivial⟩, ⟨trivial, trivial⟩⟩⟩⟩⟩⟩
  exact runFT_some Try.prog (c := bodyOf Try.f62) Try.func62 (show Try.f62.body = some (bodyOf Try.f62) from rfl) (show (2 : Nat) ≤ 32 by decide) hb ((m_z1k n a0 a1).trans h) rfl (by kernel_rfl)
noncomputable def c_z1k : Spec := specQ e_z1k h_z1k ro_z1k rh_z1k fun a b => Q_z1k a.1 a.2.1
theorem k_z1k (hm : Try.prog.follows .mixedOrders = true) : SpecOk Try.prog 62 c_z1k := specQ_ok (pol := p_z1k) hm (cf := cf_z1k) (CallSound.grow <| tabs_ok Try.func62 (show Try.f62.body = some (bodyOf Try.f62) from rfl) (RfOk.seq trivial (RfOk.seq (RfOk.seq trivial (RfOk.cond (RfOk.seq trivial trivial) trivial)) (RfOk.seq trivial (RfOk.seq trivial (RfOk.seq (RfOk.seq trivial (RfOk.block (RfOk.range (by kernel_rfl)))) (RfOk.seq trivial trivial)))))) (specs_cons (k_z1c hm) (specs_cons (k_z1d hm) (specs_cons (k_z1j hm) specs_nil)))) fun a b r h => ⟨FUEL, g_z1k FUEL a.1 a.2.1 (decRes_some h)⟩
def s_z1l_r : Sig := ⟨[4, 5], [.ty (.int .i64), .ty (.int .i64)], [.one false [.ptr 1 0 0, .hs 5 0, .ptr 3 0 0, .ty (.int .i64)], .one false [.hs 2 0], .row (.int .u8), .one false [.hs 4 0], .row (.int .u8), .row HeadT]⟩
def p_z1l : Pol := ⟨fun i => none, fun i => none, some [(4, .keep), (5, .keep)], [.keep, .keep], []⟩
def e_z1l : List EK := [.ptr 0 0 0, .ty (.slice NodeT)]
def h_z1l : List HK := [.one false [.ptr 1 0 0, .nul 4, .ptr 3 0 0, .ty (.int .i64)], .one false [.hs 2 0], .row (.int .u8), .one false [.hs 4 0], .row (.int .u8)]
noncomputable def cf_z1l : CallF := mkCF [(29, c_z11), (62, c_z1k)] [(62, [(.slice NodeT), .str])]
noncomputable def ls_z1l (n : Nat) : Loops := fun i =>  none
theorem m_z1l (n : Nat) (a0 : (List NodeS)) (a1 : Int) (a2 : Nat) (a3 : (List Int)) (a4 : Nat) (a5 : (List Int)) : runFT Try.prog cf_z1l p_z1l (ls_z1l n) Try.f45 (bodyOf Try.f45) (EK.encs e_z1l (((), (a0, ())), (((), ((), ((), (a1, ())))), ((a2, ()), (a3, ((a4, ()), (a5, ())))))).1) (HK.encs h_z1l (((), (a0, ())), (((), ((), ((), (a1, ())))), ((a2, ()), (a3, ((a4, ()), (a5, ())))))).2) = M_z1l n a0 a1 a2 a3 a4 a5 := by kernel_rfl
theorem g_z1l (n : Nat) (a0 : (List NodeS)) (a1 : Int) (a2 : Nat) (a3 : (List Int)) (a4 : Nat) (a5 : (List Int)) {r : Res} (h : M_z1l n a0 a1 a2 a3 a4 a5 = some r) : runF Try.prog cf_z1l n p_z1l 45 (EK.encs e_z1l (((), (a0, ())), (((), ((), ((), (a1, ())))), ((a2, ()), (a3, ((a4, ()), (a5, ())))))).1) (HK.encs h_z1l (((), (a0, ())), (((), ((), ((), (a1, ())))), ((a2, ()), (a3, ((a4, ()), (a5, ())))))).2) = some r := by
  have hb : LOk Try.prog cf_z1l Try.f45.ntmps 5 n p_z1l (ls_z1l n) (bodyOf Try.f45) := ⟨trivial, ⟨⟨trivial, ⟨⟨trivial, trivial⟩, trivial⟩⟩, ⟨trivial, ⟨trivial, ⟨trivial, trivial⟩⟩⟩⟩⟩
  exact runFT_some Try.prog (c := bodyOf Try.f45) Try.func45 (show Try.f45.body = some (bodyOf Try.f45) from rfl) (show (2 : Nat) ≤ 26 by decide) hb ((m_z1l n a0 a1 a2 a3 a4 a5).trans h) rfl (by kernel_rfl)
noncomputable def c_z1l : Spec := specQ e_z1l h_z1l ro_z1l rh_z1l fun a b => Q_z1l a.2.1 b.1.2.2.2.1 b.2.1.1 b.2.2.1 b.2.2.2.1.1 b.2.2.2.2.1
theorem k_z1l (hm : Try.prog.follows .mixedOrders = true) : SpecOk Try.prog 45 c_z1l := specQ_ok (pol := p_z1l) hm (cf := cf_z1l) (tab_ok (specs_cons (k_z11 hm) (specs_cons (k_z1k hm) specs_nil))) fun a b r h => ⟨FUEL, g_z1l FUEL a.2.1 b.1.2.2.2.1 b.2.1.1 b.2.2.1 b.2.2.2.1.1 b.2.2.2.2.1 (decRes_some h)⟩
def s_z1m_r : Sig := ⟨[2], [.ty .bool], []⟩
def s_z1m_h0 : Sig := ⟨[1, 3, 4], [.ptr 0 0 0, .ty (.int .u64), .ty (.int .i64)], [.cell NodeT]⟩
def s_z1m_t0 : Sig := ⟨[1, 3], [.ptr 0 0 0, .ty (.int .u64)], [.cell NodeT]⟩
def s_z1m_h2 : Sig := ⟨[1, 3, 5], [.ptr 0 0 0, .ty (.int .u64), .ty (.int .i64)], [.cell NodeT]⟩
def s_z1m_t2 : Sig := ⟨[], [], []⟩
def p_z1m : Pol := ⟨fun i => if i = 0 then some [(1, (.own NodeT)), (3, .keep), (4, .keep)] else if i = 2 then some [(1, (.own NodeT)), (3, .keep), (5, .keep)] else none, fun i => if i = 0 then some [(1, (.own NodeT)), (3, .keep)] else if i = 2 then some [] else none, some [(2, .keep)], [.keep], []⟩
def e_z1m : List EK := [.agg NodeT]
def h_z1m : List HK := []
noncomputable def cf_z1m : CallF := mkCF [] []
noncomputable def ls_z1m (n : Nat) : Loops := fun i => if i = 0 then some (loopT 0 (p_z1m.head 0) s_z1m_h0 fun K v => L_z1m_0 n (fun z0 => K (.ex 0) (s_z1m_t0.enc (((), (z0, ())), (v.2.1, ())))) v.2.1 n v.1.2.1 v.1.2.2.1)
  else if i = 2 then some (loopT 0 (p_z1m.head 2) s_z1m_h2 fun K v => L_z1m_2 n (fun z0 => K .rt (s_z1m_r.enc ((z0, ()), ()))) (fun _ => K (.ex 2) (s_z1m_t2.enc ((), ()))) v.1.2.1 v.2.1 n v.1.2.2.1)
  else  none
noncomputable def b_z1m_0 : Code := partOf (bodyOf Try.f99) [1, 1, 1, 1, 1, 0, 1, 0, 0]
noncomputable def V_z1m_0 (n : Nat) (K : Cont) (rec : Sig.sem s_z1m_h0 → Option Res) (v : Sig.sem s_z1m_h0) : Option Res := F_z1m_0 n (fun z0 => K (.ex 0) (s_z1m_t0.enc (((), (z0, ())), (v.2.1, ())))) v.2.1 (fun z0 z1 => rec (((), (z0, (z1, ()))), (v.2.1, ()))) v.1.2.1 v.1.2.2.1
theorem t_z1m_0 (n : Nat) (K : Cont) (rec : Sig.sem s_z1m_h0 → Option Res) (v : Sig.sem s_z1m_h0) : runT Try.prog cf_z1m Try.f99.ntmps 0 p_z1m (ls_z1m n) b_z1m_0 (s_z1m_h0.enc v) (turnK 0 (p_z1m.head 0) s_z1m_h0 rec K) = V_z1m_0 n K rec v := by kernel_rfl
noncomputable def W_z1m_0 (n : Nat) (K : Cont) (m : Nat) (v : Sig.sem s_z1m_h0) : Option Res := L_z1m_0 n (fun z0 => K (.ex 0) (s_z1m_t0.enc (((), (z0, ())), (v.2.1, ())))) v.2.1 m v.1.2.1 v.1.2.2.1
theorem i_z1m_0 (n : Nat) (K : Cont) : ∀ m v, iter (V_z1m_0 n K) m v = W_z1m_0 n K m v := by
  intro m
  induction m with
  | zero => intro v; rfl
  | succ m ih =>
    intro v
    show V_z1m_0 n K (iter (V_z1m_0 n K) m) v = V_z1m_0 n K (W_z1m_0 n K m) v
    rw [show iter (V_z1m_0 n K) m = W_z1m_0 n K m from funext ih]
theorem o_z1m_0 (n : Nat) : ∀ L, ls_z1m n 0 = some L → ∀ s K r, L s K = some r → ∃ x s', loopN (run Try.prog cf_z1m Try.f99.ntmps 0 n p_z1m none b_z1m_0) (gc 0 (p_z1m.head 0)) n s = some (x, s') ∧ K x s' = some r := by
  intro L hL s K r h
  have hL : some (loopT 0 (p_z1m.head 0) s_z1m_h0 fun K v => W_z1m_0 n K n v) = some L := hL
  cases hL
  have hb : LOk Try.prog cf_z1m Try.f99.ntmps 0 n p_z1m (ls_z1m n) b_z1m_0 := ⟨⟨trivial, ⟨trivial, trivial⟩⟩, ⟨trivial, trivial⟩⟩
  refine loopT_ok hb (V_z1m_0 n) (t_z1m_0 n) n s K r ?_
  rw [← h]
  unfold loopT
  simp only [i_z1m_0]
noncomputable def b_z1m_2 : Code := partOf (bodyOf Try.f99) [1, 1, 1, 1, 1, 1, 0, 1, 0, 0]
noncomputable def V_z1m_2 (n : Nat) (K : Cont) (rec : Sig.sem s_z1m_h2 → Option Res) (v : Sig.sem s_z1m_h2) : Option Res := F_z1m_2 n (fun z0 => K .rt (s_z1m_r.enc ((z0, ()), ()))) (fun _ => K (.ex 2) (s_z1m_t2.enc ((), ()))) v.1.2.1 v.2.1 (fun z1 => rec (((), (v.1.2.1, (z1, ()))), (v.2.1, ()))) v.1.2.2.1
theorem t_z1m_2 (n : Nat) (K : Cont) (rec : Sig.sem s_z1m_h2 → Option Res) (v : Sig.sem s_z1m_h2) : runT Try.prog cf_z1m Try.f99.ntmps 0 p_z1m (ls_z1m n) b_z1m_2 (s_z1m_h2.enc v) (turnK 0 (p_z1m.head 2) s_z1m_h2 rec K) = V_z1m_2 n K rec v := by kernel_rfl
noncomputable def W_z1m_2 (n : Nat) (K : Cont) (m : Nat) (v : Sig.sem s_z1m_h2) : Option Res := L_z1m_2 n (fun z0 => K .rt (s_z1m_r.enc ((z0, ()), ()))) (fun _ => K (.ex 2) (s_z1m_t2.enc ((), ()))) v.1.2.1 v.2.1 m v.1.2.2.1
theorem i_z1m_2 (n : Nat) (K : Cont) : ∀ m v, iter (V_z1m_2 n K) m v = W_z1m_2 n K m v := by
  intro m
  induction m with
  | zero => intro v; rfl
  | succ m ih =>
    intro v
    show V_z1m_2 n K (iter (V_z1m_2 n K) m) v = V_z1m_2 n K (W_z1m_2 n K m) v
    rw [show iter (V_z1m_2 n K) m = W_z1m_2 n K m from funext ih]
theorem o_z1m_2 (n : Nat) : ∀ L, ls_z1m n 2 = some L → ∀ s K r, L s K = some r → ∃ x s', loopN (run Try.prog cf_z1m Try.f99.ntmps 0 n p_z1m none b_z1m_2) (gc 0 (p_z1m.head 2)) n s = some (x, s') ∧ K x s' = some r := by
  intro L hL s K r h
  have hL : some (loopT 0 (p_z1m.head 2) s_z1m_h2 fun K v => W_z1m_2 n K n v) = some L := hL
  cases hL
  have hb : LOk Try.prog cf_z1m Try.f99.ntmps 0 n p_z1m (ls_z1m n) b_z1m_2 := ⟨⟨trivial, ⟨trivial, trivial⟩⟩, ⟨⟨trivial, ⟨trivial, ⟨⟨trivial, trivial⟩, trivial⟩⟩⟩, trivial⟩⟩
  refine loopT_ok hb (V_z1m_2 n) (t_z1m_2 n) n s K r ?_
  rw [← h]
  unfold loopT
  simp only [i_z1m_2]
theorem m_z1m (n : Nat) (a0 : NodeS) : runFT Try.prog cf_z1m p_z1m (ls_z1m n) Try.f99 (bodyOf Try.f99) (EK.encs e_z1m ((a0, ()), ()).1) (HK.encs h_z1m ((a0, ()), ()).2) = M_z1m n a0 := by kernel_rfl
theorem g_z1m (n : Nat) (a0 : NodeS) {r : Res} (h : M_z1m n a0 = some r) : runF Try.prog cf_z1m n p_z1m 99 (EK.encs e_z1m ((a0, ()), ()).1) (HK.encs h_z1m ((a0, ()), ()).2) = some r := by
  have hb : LOk Try.prog cf_z1m Try.f99.ntmps 0 n p_z1m (ls_z1m n) (bodyOf Try.f99) := ⟨trivial, ⟨⟨trivial, ⟨⟨trivial, trivial⟩, trivial⟩⟩, ⟨⟨trivial, ⟨⟨trivial, trivial⟩, trivial⟩⟩, ⟨⟨trivial, ⟨⟨trivial, trivial⟩, trivial⟩⟩, ⟨trivial, ⟨⟨trivial, (o_z1m_0 n)⟩, ⟨⟨trivial, (o_z1m_2 n)⟩, ⟨trivial, trivial⟩⟩⟩⟩⟩⟩⟩⟩
  exact runFT_some Try.prog (c := bodyOf Try.f99) Try.func99 (show Try.f99.body = some (bodyOf Try.f99) from rfl) (show (1 : Nat) ≤ 179 by decide) hb ((m_z1m n a0).trans h) rfl (by kernel_rfl)
noncomputable def c_z1m : Spec := specQ e_z1m h_z1m ro_z1m rh_z1m fun a b => Q_z1m a.1
theorem k_z1m (hm : Try.prog.follows .mixedOrders = true) : SpecOk Try.prog 99 c_z1m := specQ_ok (pol := p_z1m) hm (cf := cf_z1m) (tab_ok specs_nil) fun a b r h => ⟨FUEL, g_z1m FUEL a.1 (decRes_some h)⟩
def s_z1n_h0 : Sig := ⟨[1, 3, 4], [.ptr 0 0 0, .hs 1 0, .ty (.int .i64)], [.cell NodeT, .row (.int .i64)]⟩
def s_z1n_t0 : Sig := ⟨[1, 3], [.ptr 0 0 0, .hs 1 0], [.cell NodeT, .row (.int .i64)]⟩
def s_z1n_r : Sig := ⟨[2], [.hs 0 0], [.row (.int .i64)]⟩
def p_z1n : Pol := ⟨fun i => if i = 0 then some [(1, (.own NodeT)), (3, (.own (.int .i64))), (4, .keep)] else none, fun i => if i = 0 then some [(1, (.own NodeT)), (3, (.own (.int .i64)))] else none, some [(2, (.own (.int .i64)))], [(.own (.int .i64))], []⟩
def e_z1n : List EK := [.agg NodeT]
def h_z1n : List HK := []
noncomputable def cf_z1n : CallF := mkCF [] []
noncomputable def ls_z1n (n : Nat) : Loops := fun i => if i = 0 then some (loopT 0 (p_z1n.head 0) s_z1n_h0 fun K v => L_z1n_0 n (fun z0 z2 => K (.ex 0) (s_z1n_t0.enc (((), (z0, ())), (v.2.1, (z2, ()))))) v.2.1 n v.1.2.1 v.1.2.2.1 v.2.2.1)
  else  none
noncomputable def b_z1n_0 : Code := partOf (bodyOf Try.f100) [1, 1, 0, 1, 0, 0]
noncomputable def V_z1n_0 (n : Nat) (K : Cont) (rec : Sig.sem s_z1n_h0 → Option Res) (v : Sig.sem s_z1n_h0) : Option Res := F_z1n_0 n (fun z0 z2 => K (.ex 0) (s_z1n_t0.enc (((), (z0, ())), (v.2.1, (z2, ()))))) v.2.1 (fun z0 z1 z3 => rec (((), (z0, (z1, ()))), (v.2.1, (z3, ())))) v.1.2.1 v.1.2.2.1 v.2.2.1
theorem t_z1n_0 (n : Nat) (K : Cont) (rec : Sig.sem s_z1n_h0 → Option Res) (v : Sig.sem s_z1n_h0) : runT Try.prog cf_z1n Try.f100.ntmps 0 p_z1n (ls_z1n n) b_z1n_0 (s_z1n_h0.enc v) (turnK 0 (p_z1n.head 0) s_z1n_h0 rec K) = V_z1n_0 n K rec v := by kernel_rfl
noncomputable def W_z1n_0 (n : Nat) (K : Cont) (m : Nat) (v : Sig.sem s_z1n_h0) : Option Res := L_z1n_0 n (fun z0 z2 => K (.ex 0) (s_z1n_t0.enc (((), (z0, ())), (v.2.1, (z2, ()))))) v.2.1 m v.1.2.1 v.1.2.2.1 v.2.2.1
theorem i_z1n_0 (n : Nat) (K : Cont) : ∀ m v, iter (V_z1n_0 n K) m v = W_z1n_0 n K m v := by
  intro m
  induction m with
  | zero => intro v; rfl
  | succ m ih =>
    intro v
    show V_z1n_0 n K (iter (V_z1n_0 n K) m) v = V_z1n_0 n K (W_z1n_0 n K m) v
    rw [show iter (V_z1n_0 n K) m = W_z1n_0 n K m from funext ih]
theorem o_z1n_0 (n : Nat) : ∀ L, ls_z1n n 0 = some L → ∀ s K r, L s K = some r → ∃ x s', loopN (run Try.prog cf_z1n Try.f100.ntmps 0 n p_z1n none b_z1n_0) (gc 0 (p_z1n.head 0)) n s = some (x, s') ∧ K x s' = some r := by
  intro L hL s K r h
  have hL : some (loopT 0 (p_z1n.head 0) s_z1n_h0 fun K v => W_z1n_0 n K n v) = some L := hL
  cases hL
  have hb : LOk Try.prog cf_z1n Try.f100.ntmps 0 n p_z1n (ls_z1n n) b_z1n_0 := ⟨⟨trivial, ⟨trivial, trivial⟩⟩, ⟨trivial, trivial⟩⟩
  refine loopT_ok hb (V_z1n_0 n) (t_z1n_0 n) n s K r ?_
  rw [← h]
  unfold loopT
  simp only [i_z1n_0]
theorem m_z1n (n : Nat) (a0 : NodeS) : runFT Try.prog cf_z1n p_z1n (ls_z1n n) Try.f100 (bodyOf Try.f100) (EK.encs e_z1n ((a0, ()), ()).1) (HK.encs h_z1n ((a0, ()), ()).2) = M_z1n n a0 := by kernel_rfl
theorem g_z1n (n : Nat) (a0 : NodeS) {r : Res} (h : M_z1n n a0 = some r) : runF Try.prog cf_z1n n p_z1n 100 (EK.encs e_z1n ((a0, ()), ()).1) (HK.encs h_z1n ((a0, ()), ()).2) = some r := by
  have hb : LOk Try.prog cf_z1n Try.f100.ntmps 0 n p_z1n (ls_z1n n) (bodyOf Try.f100) := ⟨trivial, ⟨trivial, ⟨⟨trivial, (o_z1n_0 n)⟩, ⟨trivial, trivial⟩⟩⟩⟩
  exact runFT_some Try.prog (c := bodyOf Try.f100) Try.func100 (show Try.f100.body = some (bodyOf Try.f100) from rfl) (show (1 : Nat) ≤ 26 by decide) hb ((m_z1n n a0).trans h) rfl (by kernel_rfl)
noncomputable def c_z1n : Spec := specQ e_z1n h_z1n ro_z1n rh_z1n fun a b => Q_z1n a.1
theorem k_z1n (hm : Try.prog.follows .mixedOrders = true) : SpecOk Try.prog 100 c_z1n := specQ_ok (pol := p_z1n) hm (cf := cf_z1n) (tab_ok specs_nil) fun a b r h => ⟨FUEL, g_z1n FUEL a.1 (decRes_some h)⟩
def s_z1o_r : Sig := ⟨[4, 5, 6], [.ptr 1 0 0, .ty (.int .i64), .ty (.int .i64)], [.one false [.ptr 1 0 0, .hs 3 0, .ptr 4 0 0, .ty (.int .i64)], .one false [.hs 2 0], .row (.int .u8), .row HeadT, .one false [.hs 5 0], .row (.int .u8)]⟩
def s_z1o_r1 : Sig := ⟨[4, 5, 6], [.ptr 4 0 0, .ty (.int .i64), .ty (.int .i64)], [.one false [.ptr 1 0 0, .hs 3 0, .ptr 4 0 0, .ty (.int .i64)], .one false [.hs 2 0], .row (.int .u8), .row HeadT, .one false [.hs 5 0], .row (.int .u8)]⟩
def s_z1o_h1 : Sig := ⟨[0, 3, 32, 33, 34], [.ptr 0 0 0, .ptr 6 0 0, .hs 3 0, .ty (.int .i64), .ty (.int .i64)], [.one false [.ptr 1 0 0, .hs 3 0, .ptr 4 0 0, .ty (.int .i64)], .one false [.hs 2 0], .row (.int .u8), .row HeadT, .one false [.hs 5 0], .row (.int .u8), .cell FieldT]⟩
def s_z1o_t1 : Sig := ⟨[], [], [.one false [.ptr 1 0 0, .hs 3 0, .ptr 4 0 0, .ty (.int .i64)], .one false [.hs 2 0], .row (.int .u8), .row HeadT, .one false [.hs 5 0], .row (.int .u8)]⟩
def s_z1o_r2 : Sig := ⟨[4, 5, 6], [.nul 0, .ty (.int .i64), .ty (.int .i64)], [.one false [.ptr 1 0 0, .hs 3 0, .ptr 4 0 0, .ty (.int .i64)], .one false [.hs 2 0], .row (.int .u8), .row HeadT, .one false [.hs 5 0], .row (.int .u8)]⟩
def p_z1o : Pol := ⟨fun i => if i = 1 then some [(0, .keep), (3, (.own FieldT)), (32, (.own HeadT)), (33, .keep), (34, .keep)] else none, fun i => if i = 1 then some [] else none, some [(4, .keep), (5, .keep), (6, .keep)], [.keep, .keep, .keep], []⟩
def e_z1o : List EK := [.ptr 0 0 0, .agg FieldT]
def h_z1o : List HK := [.one false [.ptr 1 0 0, .hs 3 0, .ptr 4 0 0, .ty (.int .i64)], .one false [.hs 2 0], .row (.int .u8), .row HeadT, .one false [.hs 5 0], .row (.int .u8)]
noncomputable def cf_z1o : CallF := mkCF [] []
noncomputable def ls_z1o (n : Nat) : Loops := fun i => if i = 1 then some (loopT 6 (p_z1o.head 1) s_z1o_h1 fun K v => L_z1o_1 n (fun z0 z1 => K .rt (s_z1o_r.enc (((), (z0, (z1, ()))), (((), (v.2.1.2.1, ((), (v.2.1.2.2.2.1, ())))), ((v.2.2.1.1, ()), (v.2.2.2.1, (v.2.2.2.2.1, ((v.2.2.2.2.2.1.1, ()), (v.2.2.2.2.2.2.1, ()))))))))) (fun _ => K (.ex 1) (s_z1o_t1.enc ((), (((), (v.2.1.2.1, ((), (v.2.1.2.2.2.1, ())))), ((v.2.2.1.1, ()), (v.2.2.2.1, (v.2.2.2.2.1, ((v.2.2.2.2.2.1.1, ()), (v.2.2.2.2.2.2.1, ()))))))))) v.1.2.2.1 v.1.2.2.2.1 v.2.2.2.2.1 v.2.2.2.2.2.2.2.1 n v.1.2.2.2.2.1)
  else  none
noncomputable def b_z1o_1 : Code := partOf (bodyOf Try.f53) [1, 1, 0, 1, 0, 1, 1, 1, 1, 1, 0, 1, 0, 0]
noncomputable def V_z1o_1 (n : Nat) (K : Cont) (rec : Sig.sem s_z1o_h1 → Option Res) (v : Sig.sem s_z1o_h1) : Option Res := F_z1o_1 n (fun z0 z1 => K .rt (s_z1o_r.enc (((), (z0, (z1, ()))), (((), (v.2.1.2.1, ((), (v.2.1.2.2.2.1, ())))), ((v.2.2.1.1, ()), (v.2.2.2.1, (v.2.2.2.2.1, ((v.2.2.2.2.2.1.1, ()), (v.2.2.2.2.2.2.1, ()))))))))) (fun _ => K (.ex 1) (s_z1o_t1.enc ((), (((), (v.2.1.2.1, ((), (v.2.1.2.2.2.1, ())))), ((v.2.2.1.1, ()), (v.2.2.2.1, (v.2.2.2.2.1, ((v.2.2.2.2.2.1.1, ()), (v.2.2.2.2.2.2.1, ()))))))))) v.1.2.2.1 v.1.2.2.2.1 v.2.2.2.2.1 v.2.2.2.2.2.2.2.1 (fun z2 => rec (((), ((), (v.1.2.2.1, (v.1.2.2.2.1, (z2, ()))))), (((), (v.2.1.2.1, ((), (v.2.1.2.2.2.1, ())))), ((v.2.2.1.1, ()), (v.2.2.2.1, (v.2.2.2.2.1, ((v.2.2.2.2.2.1.1, ()), (v.2.2.2.2.2.2.1, (v.2.2.2.2.2.2.2.1, ()))))))))) v.1.2.2.2.2.1
theorem t_z1o_1 (n : Nat) (K : Cont) (rec : Sig.sem s_z1o_h1 → Option Res) (v : Sig.sem s_z1o_h1) : runT Try.prog cf_z1o Try.f53.ntmps 6 p_z1o (ls_z1o n) b_z1o_1 (s_z1o_h1.enc v) (turnK 6 (p_z1o.head 1) s_z1o_h1 rec K) = V_z1o_1 n K rec v := by kernel_rfl
noncomputable def W_z1o_1 (n : Nat) (K : Cont) (m : Nat) (v : Sig.sem s_z1o_h1) : Option Res := L_z1o_1 n (fun z0 z1 => K .rt (s_z1o_r.enc (((), (z0, (z1, ()))), (((), (v.2.1.2.1, ((), (v.2.1.2.2.2.1, ())))), ((v.2.2.1.1, ()), (v.2.2.2.1, (v.2.2.2.2.1, ((v.2.2.2.2.2.1.1, ()), (v.2.2.2.2.2.2.1, ()))))))))) (fun _ => K (.ex 1) (s_z1o_t1.enc ((), (((), (v.2.1.2.1, ((), (v.2.1.2.2.2.1, ())))), ((v.2.2.1.1, ()), (v.2.2.2.1, (v.2.2.2.2.1, ((v.2.2.2.2.2.1.1, ()), (v.2.2.2.2.2.2.1, ()))))))))) v.1.2.2.1 v.1.2.2.2.1 v.2.2.2.2.1 v.2.2.2.2.2.2.2.1 m v.1.2.2.2.2.1
theorem i_z1o_1 (n : Nat) (K : Cont) : ∀ m v, iter (V_z1o_1 n K) m v = W_z1o_1 n K m v := by
  intro m
  induction m with
  | zero => intro v; rfl
  | succ m ih =>
    intro v
    show V_z1o_1 n K (iter (V_z1o_1 n K) m) v = V_z1o_1 n K (W_z1o_1 n K m) v
    rw [show iter (V_z1o_1 n K) m = W_z1o_1 n K m from funext ih]
theorem o_z1o_1 (n : Nat) : ∀ L, ls_z1o n 1 = some L → ∀ s K r, L s K = some r → ∃ x s', loopN (run Try.prog cf_z1o Try.f53.ntmps 6 n p_z1o none b_z1o_1) (gc 6 (p_z1o.head 1)) n s = some (x, s') ∧ K x s' = some r := by
  intro L hL s K r h
  have hL : some (loopT 6 (p_z1o.head 1) s_z1o_h1 fun K v => W_z1o_1 n K n v) = some L := hL
  cases hL
  have hb : LOk Try.prog cf_z1o Try.f53.ntmps 6 n p_z1o (ls_z1o n) b_z1o_1 := ⟨trivial, ⟨⟨trivial, trivial⟩, ⟨⟨trivial, ⟨trivial, ⟨⟨trivial, trivial⟩, trivial⟩⟩⟩, trivial⟩⟩⟩
  refine loopT_ok hb (V_z1o_1 n) (t_z1o_1 n) n s K r ?_
  rw [← h]
  unfold loopT
  simp only [i_z1o_1]
theorem m_z1o (n : Nat) (a0 : FieldS) (a1 : Nat) (a2 : Int) (a3 : Nat) (a4 : (List Int)) (a5 : (List HeadS)) (a6 : Nat) (a7 : (List Int)) : runFT Try.prog cf_z1o p_z1o (ls_z1o n) Try.f53 (bodyOf Try.f53) (EK.encs e_z1o (((), (a0, ())), (((), (a1, ((), (a2, ())))), ((a3, ()), (a4, (a5, ((a6, ()), (a7, ()))))))).1) (HK.encs h_z1o (((), (a0, ())), (((), (a1, ((), (a2, ())))), ((a3, ()), (a4, (a5, ((a6, ()), (a7, ()))))))).2) = M_z1o n a0 a1 a2 a3 a4 a5 a6 a7 := by kernel_rfl
theorem g_z1o (n : Nat) (a0 : FieldS) (a1 : Nat) (a2 : Int) (a3 : Nat) (a4 : (List Int)) (a5 : (List HeadS)) (a6 : Nat) (a7 : (List Int)) {r : Res} (h : M_z1o n a0 a1 a2 a3 a4 a5 a6 a7 = some r) : runF Try.prog cf_z1o n p_z1o 53 (EK.encs e_z1o (((), (a0, ())), (((), (a1, ((), (a2, ())))), ((a3, ()), (a4, (a5, ((a6, ()), (a7, ()))))))).1) (HK.encs h_z1o (((), (a0, ())), (((), (a1, ((), (a2, ())))), ((a3, ()), (a4, (a5, ((a6, ()), (a7, ()))))))).2) = some r := by
  have hb : LOk Try.prog cf_z1o Try.f53.ntmps 6 n p_z1o (ls_z1o n) (bodyOf Try.f53) := ⟨trivial, ⟨⟨trivial, ⟨⟨trivial, trivial⟩, trivial⟩⟩, ⟨⟨trivial, ⟨trivial, ⟨⟨trivial, trivial⟩, ⟨trivial, ⟨⟨trivial, trivial⟩, ⟨trivial, ⟨⟨trivial, (o_z1o_1 n)⟩, trivial⟩⟩⟩⟩⟩⟩⟩, ⟨trivial, trivial⟩⟩⟩⟩
  exact runFT_some Try.prog (c := bodyOf Try.f53) Try.func53 (show Try.f53.body = some (bodyOf Try.f53) from rfl) (show (2 : Nat) ≤ 51 by decide) hb ((m_z1o n a0 a1 a2 a3 a4 a5 a6 a7).trans h) rfl (by kernel_rfl)
noncomputable def c_z1o : Spec := specTr e_z1o h_z1o fun a b => (altTr ro_z1o rh_z1o (Q_z1o a.2.1 b.1.2.1 b.1.2.2.2.1 b.2.1.1 b.2.2.1 b.2.2.2.1 b.2.2.2.2.1.1 b.2.2.2.2.2.1) (altTr ro_z1o_1 rh_z1o_1 (Q_z1o_1 a.2.1 b.1.2.1 b.1.2.2.2.1 b.2.1.1 b.2.2.1 b.2.2.2.1 b.2.2.2.2.1.1 b.2.2.2.2.2.1) (altTr ro_z1o_2 rh_z1o_2 (Q_z1o_2 a.2.1 b.1.2.1 b.1.2.2.2.1 b.2.1.1 b.2.2.1 b.2.2.2.1 b.2.2.2.2.1.1 b.2.2.2.2.2.1) .no)))
theorem k_z1o (hm : Try.prog.follows .mixedOrders = true) : SpecOk Try.prog 53 c_z1o := specTr_ok (pol := p_z1o) hm (cf := cf_z1o) (tab_ok specs_nil) fun a b r => (fun h => (altTr_val h).elim (fun ⟨x, hx, e⟩ => ⟨FUEL, e ▸ g_z1o FUEL a.2.1 b.1.2.1 b.1.2.2.2.1 b.2.1.1 b.2.2.1 b.2.2.2.1 b.2.2.2.2.1.1 b.2.2.2.2.2.1 (decRes_some hx)⟩) (fun h => (altTr_val h).elim (fun ⟨x, hx, e⟩ => ⟨FUEL, e ▸ g_z1o FUEL a.2.1 b.1.2.1 b.1.2.2.2.1 b.2.1.1 b.2.2.1 b.2.2.2.1 b.2.2.2.2.1.1 b.2.2.2.2.2.1 (decRes_some hx)⟩) (fun h => (altTr_val h).elim (fun ⟨x, hx, e⟩ => ⟨FUEL, e ▸ g_z1o FUEL a.2.1 b.1.2.1 b.1.2.2.2.1 b.2.1.1 b.2.2.1 b.2.2.2.1 b.2.2.2.2.1.1 b.2.2.2.2.2.1 (decRes_some hx)⟩) (fun h => by cases h))))
def s_z1p_r : Sig := ⟨[4, 5], [.ptr 6 0 0, .ty (.int .i64)], [.one false [.ptr 1 0 0, .hs 3 0, .ptr 4 0 0, .ty (.int .i64)], .one false [.hs 2 0], .row (.int .u8), .row HeadT, .one false [.hs 5 0], .row (.int .u8), .cell WordT]⟩
def p_z1p : Pol := ⟨fun i => none, fun i => none, some [(4, (.own WordT)), (5, .keep)], [.keep, .keep], []⟩
def e_z1p : List EK := [.ptr 0 0 0, .agg FieldT]
def h_z1p : List HK := [.one false [.ptr 1 0 0, .hs 3 0, .ptr 4 0 0, .ty (.int .i64)], .one false [.hs 2 0], .row (.int .u8), .row HeadT, .one false [.hs 5 0], .row (.int .u8)]
noncomputable def cf_z1p : CallF := mkCF [(53, c_z1o), (55, c_z04), (54, (orSpec c_z05 c_z0h))] [(55, [(.int .i64), (.int .i64)])]
noncomputable def ls_z1p (n : Nat) : Loops := fun i =>  none
theorem m_z1p (n : Nat) (a0 : FieldS) (a1 : Nat) (a2 : Int) (a3 : Nat) (a4 : (List Int)) (a5 : (List HeadS)) (a6 : Nat) (a7 : (List Int)) : runFT Try.prog cf_z1p p_z1p (ls_z1p n) Try.f31 (bodyOf Try.f31) (EK.encs e_z1p (((), (a0, ())), (((), (a1, ((), (a2, ())))), ((a3, ()), (a4, (a5, ((a6, ()), (a7, ()))))))).1) (HK.encs h_z1p (((), (a0, ())), (((), (a1, ((), (a2, ())))), ((a3, ()), (a4, (a5, ((a6, ()), (a7, ()))))))).2) = M_z1p n a0 a1 a2 a3 a4 a5 a6 a7 := by kernel_rfl
theorem g_z1p (n : Nat) (a0 : FieldS) (a1 : Nat) (a2 : Int) (a3 : Nat) (a4 : (List Int)) (a5 : (List HeadS)) (a6 : Nat) (a7 : (List Int)) {r : Res} (h : M_z1p n a0 a1 a2 a3 a4 a5 a6 a7 = some r) : runF Try.prog cf_z1p n p_z1p 31 (EK.encs e_z1p (((), (a0, ())), (((), (a1, ((), (a2, ())))), ((a3, ()), (a4, (a5, ((a6, ()), (a7, ()))))))).1) (HK.encs h_z1p (((), (a0, ())), (((), (a1, ((), (a2, ())))), ((a3, ()), (a4, (a5, ((a6, ()), (a7, ()))))))).2) = some r := by
  have hb : LOk Try.prog cf_z1p Try.f31.ntmps 6 n p_z1p (ls_z1p n) (bodyOf Try.f31) := ⟨trivial, ⟨trivial, ⟨⟨trivial, ⟨⟨trivial, trivial⟩, trivial⟩⟩, ⟨trivial, ⟨⟨trivial, ⟨⟨trivial, trivial⟩, trivial⟩⟩, ⟨trivial, trivial⟩⟩⟩⟩⟩⟩
  exact runFT_some Try.prog (c := bodyOf Try.f31) Try.func31 (show Try.f31.body = some (bodyOf Try.f31) from rfl) (show (2 : Nat) ≤ 37 by decide) hb ((m_z1p n a0 a1 a2 a3 a4 a5 a6 a7).trans h) rfl (by kernel_rfl)
noncomputable def c_z1p : Spec := specQ e_z1p h_z1p ro_z1p rh_z1p fun a b => Q_z1p a.2.1 b.1.2.1 b.1.2.2.2.1 b.2.1.1 b.2.2.1 b.2.2.2.1 b.2.2.2.2.1.1 b.2.2.2.2.2.1
theorem k_z1p (hm : Try.prog.follows .mixedOrders = true) : SpecOk Try.prog 31 c_z1p := specQ_ok (pol := p_z1p) hm (cf := cf_z1p) (tab_ok (specs_cons (k_z1o hm) (specs_cons (k_z04 hm) (specs_cons (orSpec_ok (k_z05 hm) (k_z0h hm)) specs_nil)))) fun a b r h => ⟨FUEL, g_z1p FUEL a.2.1 b.1.2.1 b.1.2.2.2.1 b.2.1.1 b.2.2.1 b.2.2.2.1 b.2.2.2.2.1.1 b.2.2.2.2.2.1 (decRes_some h)⟩
def s_z1q_r : Sig := ⟨[4, 5], [.ty .str, .ty (.int .i64)], [.one false [.ptr 1 0 0, .hs 3 0, .ptr 4 0 0, .ty (.int .i64)], .one false [.hs 2 0], .row (.int .u8), .row HeadT, .one false [.hs 5 0], .row (.int .u8)]⟩
def p_z1q : Pol := ⟨fun i => none, fun i => none, some [(4, .keep), (5, .keep)], [.keep, .keep], []⟩
def e_z1q : List EK := [.mv 31 [(0, 0, 0)], .agg FieldT]
def h_z1q : List HK := [.one false [.ptr 1 0 0, .hs 3 0, .ptr 4 0 0, .ty (.int .i64)], .one false [.hs 2 0], .row (.int .u8), .row HeadT, .one false [.hs 5 0], .row (.int .u8)]
noncomputable def cf_z1q : CallF := mkCF [(31, c_z1p), (32, c_z0l)] [(32, [WordT, (.int .i64)])]
noncomputable def ls_z1q (n : Nat) : Loops := fun i =>  none
theorem m_z1q (n : Nat) (a0 : FieldS) (a1 : Nat) (a2 : Int) (a3 : Nat) (a4 : (List Int)) (a5 : (List HeadS)) (a6 : Nat) (a7 : (List Int)) : runFT Try.prog cf_z1q p_z1q (ls_z1q n) Try.f40 (bodyOf Try.f40) (EK.encs e_z1q (((), (a0, ())), (((), (a1, ((), (a2, ())))), ((a3, ()), (a4, (a5, ((a6, ()), (a7, ()))))))).1) (HK.encs h_z1q (((), (a0, ())), (((), (a1, ((), (a2, ())))), ((a3, ()), (a4, (a5, ((a6, ()), (a7, ()))))))).2) = M_z1q n a0 a1 a2 a3 a4 a5 a6 a7 := by kernel_rfl
theorem g_z1q (n : Nat) (a0 : FieldS) (a1 : Nat) (a2 : Int) (a3 : Nat) (a4 : (List Int)) (a5 : (List HeadS)) (a6 : Nat) (a7 : (List Int)) {r : Res} (h : M_z1q n a0 a1 a2 a3 a4 a5 a6 a7 = some r) : runF Try.prog cf_z1q n p_z1q 40 (EK.encs e_z1q (((), (a0, ())), (((), (a1, ((), (a2, ())))), ((a3, ()), (a4, (a5, ((a6, ()), (a7, ()))))))).1) (HK.encs h_z1q (((), (a0, ())), (((), (a1, ((), (a2, ())))), ((a3, ()), (a4, (a5, ((a6, ()), (a7, ()))))))).2) = some r := by
  have hb : LOk Try.prog cf_z1q Try.f40.ntmps 6 n p_z1q (ls_z1q n) (bodyOf Try.f40) := ⟨trivial, ⟨trivial, ⟨⟨trivial, ⟨⟨trivial, trivial⟩, trivial⟩⟩, ⟨trivial, ⟨trivial, trivial⟩⟩⟩⟩⟩
  exact runFT_some Try.prog (c := bodyOf Try.f40) Try.func40 (show Try.f40.body = some (bodyOf Try.f40) from rfl) (show (2 : Nat) ≤ 27 by decide) hb ((m_z1q n a0 a1 a2 a3 a4 a5 a6 a7).trans h) rfl (by kernel_rfl)
noncomputable def c_z1q : Spec := specQ e_z1q h_z1q ro_z1q rh_z1q fun a b => Q_z1q a.2.1 b.1.2.1 b.1.2.2.2.1 b.2.1.1 b.2.2.1 b.2.2.2.1 b.2.2.2.2.1.1 b.2.2.2.2.2.1
theorem k_z1q (hm : Try.prog.follows .mixedOrders = true) : SpecOk Try.prog 40 c_z1q := specQ_ok (pol := p_z1q) hm (cf := cf_z1q) (tab_ok (specs_cons (k_z1p hm) (specs_cons (k_z0l hm) specs_nil))) fun a b r h => ⟨FUEL, g_z1q FUEL a.2.1 b.1.2.1 b.1.2.2.2.1 b.2.1.1 b.2.2.1 b.2.2.2.1 b.2.2.2.2.1.1 b.2.2.2.2.2.1 (decRes_some h)⟩
def e_z1r : List EK := [.ptr 0 0 0, .ty (.slice FieldT)]
def h_z1r : List HK := [.one false [.ptr 1 0 0, .hs 3 0, .ptr 4 0 0, .ty (.int .i64)], .one false [.hs 2 0], .row (.int .u8), .row HeadT, .one false [.hs 5 0], .row (.int .u8)]
noncomputable def c_z1r : Spec := specQ e_z1r h_z1r ro_z1r rh_z1r fun a b => Q_z1r a.2.1 b.1.2.1 b.1.2.2.2.1 b.2.1.1 b.2.2.1 b.2.2.2.1 b.2.2.2.2.1.1 b.2.2.2.2.2.1
theorem k_z1r (hm : Try.prog.follows .mixedOrders = true) : SpecOk Try.prog 20 c_z1r := H18.of_ok (e0 := (.ptr 0 0 0)) (cap := (0, 0, 0)) (fun s => rfl) (hs := h_z1r) (fun b => rfl) (by rfl) (by rfl) (fun f b => Q_z1q f b.1.2.1 b.1.2.2.2.1 b.2.1.1 b.2.2.1 b.2.2.2.1 b.2.2.2.2.1.1 b.2.2.2.2.2.1) (k_z1q hm)
def s_z1s_r : Sig := ⟨[4, 5], [.ty (.int .u32), .ty (.int .i64)], [.one false [.ptr 1 0 0, .hs 3 0, .ptr 4 0 0, .ty (.int .i64)], .one false [.hs 2 0], .row (.int .u8), .row HeadT, .one false [.hs 5 0], .row (.int .u8)]⟩
def p_z1s : Pol := ⟨fun i => none, fun i => none, some [(4, .keep), (5, .keep)], [.keep, .keep], []⟩
def e_z1s : List EK := [.ptr 0 0 0, .agg FieldT]
def h_z1s : List HK := [.one false [.ptr 1 0 0, .hs 3 0, .ptr 4 0 0, .ty (.int .i64)], .one false [.hs 2 0], .row (.int .u8), .row HeadT, .one false [.hs 5 0], .row (.int .u8)]
noncomputable def cf_z1s : CallF := mkCF [(40, c_z1q), (35, c_z0r), (34, c_z0s)] [(35, [(.slice .str)]), (34, [(.int .u32)])]
noncomputable def ls_z1s (n : Nat) : Loops := fun i =>  none
theorem m_z1s (n : Nat) (a0 : FieldS) (a1 : Nat) (a2 : Int) (a3 : Nat) (a4 : (List Int)) (a5 : (List HeadS)) (a6 : Nat) (a7 : (List Int)) : runFT Try.prog cf_z1s p_z1s (ls_z1s n) Try.f22 (bodyOf Try.f22) (EK.encs e_z1s (((), (a0, ())), (((), (a1, ((), (a2, ())))), ((a3, ()), (a4, (a5, ((a6, ()), (a7, ()))))))).1) (HK.encs h_z1s (((), (a0, ())), (((), (a1, ((), (a2, ())))), ((a3, ()), (a4, (a5, ((a6, ()), (a7, ()))))))).2) = M_z1s n a0 a1 a2 a3 a4 a5 a6 a7 := by kernel_rfl
theorem g_z1s (n : Nat) (a0 : FieldS) (a1 : Nat) (a2 : Int) (a3 : Nat) (a4 : (List Int)) (a5 : (List HeadS)) (a6 : Nat) (a7 : (List Int)) {r : Res} (h : M_z1s n a0 a1 a2 a3 a4 a5 a6 a7 = some r) : runF Try.prog cf_z1s n p_z1s 22 (EK.encs e_z1s (((), (a0, ())), (((), (a1, ((), (a2, ())))), ((a3, ()), (a4, (a5, ((a6, ()), (a7, ()))))))).1) (HK.encs h_z1s (((), (a0, ())), (((), (a1, ((), (a2, ())))), ((a3, ()), (a4, (a5, ((a6, ()), (a7, ()))))))).2) = some r := by
  have hb : LOk Try.prog cf_z1s Try.f22.ntmps 6 n p_z1s (ls_z1s n) (bodyOf Try.f22) := ⟨trivial, ⟨trivial, ⟨⟨trivial, ⟨⟨trivial, trivial⟩, trivial⟩⟩, ⟨trivial, trivial⟩⟩⟩⟩
  exact runFT_some Try.prog (c := bodyOf Try.f22) Try.func22 (show Try.f22.body = some (bodyOf Try.f22) from rfl) (show (2 : Nat) ≤ 22 by decide) hb ((m_z1s n a0 a1 a2 a3 a4 a5 a6 a7).trans h) rfl (by kernel_rfl)
noncomputable def c_z1s : Spec := specQ e_z1s h_z1s ro_z1s rh_z1s fun a b => Q_z1s a.2.1 b.1.2.1 b.1.2.2.2.1 b.2.1.1 b.2.2.1 b.2.2.2.1 b.2.2.2.2.1.1 b.2.2.2.2.2.1
theorem k_z1s (hm : Try.prog.follows .mixedOrders = true) : SpecOk Try.prog 22 c_z1s := specQ_ok (pol := p_z1s) hm (cf := cf_z1s) (tab_ok (specs_cons (k_z1q hm) (specs_cons (k_z0r hm) (specs_cons (k_z0s hm) specs_nil)))) fun a b r h => ⟨FUEL, g_z1s FUEL a.2.1 b.1.2.1 b.1.2.2.2.1 b.2.1.1 b.2.2.1 b.2.2.2.1 b.2.2.2.2.1.1 b.2.2.2.2.2.1 (decRes_some h)⟩
def s_z1t_r : Sig := ⟨[4], [.nul 0], []⟩
def s_z1t_r1 : Sig := ⟨[4], [.ptr 0 0 0], [.one false [.ptr 1 0 0, .hs 3 0, .ptr 4 0 0, .ty (.int .i64)], .one false [.hs 2 0], .row (.int .u8), .row HeadT, .one false [.hs 5 0], .row (.int .u8)]⟩
def p_z1t : Pol := ⟨fun i => none, fun i => none, some [(4, .keep)], [.keep], []⟩
def e_z1t : List EK := [.ty .str, .ty (.slice NodeT)]
def h_z1t : List HK := []
noncomputable def cf_z1t : CallF := { (mkCF [(19, c_z01), (45, c_z1l)] [(19, [(.int .i64), .str])]) with mix := mixes [(45, [none, some ((.slice NodeT))])] }
noncomputable def ls_z1t (n : Nat) : Loops := fun i =>  none
theorem m_z1t (n : Nat) (a0 : ByteArray) (a1 : (List NodeS)) : runFT Try.prog cf_z1t p_z1t (ls_z1t n) Try.f30 (bodyOf Try.f30) (EK.encs e_z1t ((a0, (a1, ())), ()).1) (HK.encs h_z1t ((a0, (a1, ())), ()).2) = M_z1t n a0 a1 := by kernel_rfl
theorem g_z1t (n : Nat) (a0 : ByteArray) (a1 : (List NodeS)) {r : Res} (h : M_z1t n a0 a1 = some r) : runF Try.prog cf_z1t n p_z1t 30 (EK.encs e_z1t ((a0, (a1, ())), ()).1) (HK.encs h_z1t ((a0, (a1, ())), ()).2) = some r := by
  have hb : LOk Try.prog cf_z1t Try.f30.ntmps 0 n p_z1t (ls_z1t n) (bodyOf Try.f30) := ⟨trivial, ⟨trivial, ⟨⟨trivial, ⟨⟨trivial, trivial⟩, trivial⟩⟩, ⟨trivial, ⟨trivial, trivial⟩⟩⟩⟩⟩
  exact runFT_some Try.prog (c := bodyOf Try.f30) Try.func30 (show Try.f30.body = some (bodyOf Try.f30) from rfl) (show (2 : Nat) ≤ 18 by decide) hb ((m_z1t n a0 a1).trans h) rfl (by kernel_rfl)
noncomputable def c_z1t : Spec := specTr e_z1t h_z1t fun a b => (altTr ro_z1t rh_z1t (Q_z1t a.1 a.2.1) (altTr ro_z1t_1 rh_z1t_1 (Q_z1t_1 a.1 a.2.1) .no))
theorem k_z1t (hm : Try.prog.follows .mixedOrders = true) : SpecOk Try.prog 30 c_z1t := specTr_ok (pol := p_z1t) hm (cf := cf_z1t) (CallSound.mix <| tab_ok (specs_cons (k_z01 hm) (specs_cons (k_z1l hm) specs_nil))) fun a b r => (fun h => (altTr_val h).elim (fun ⟨x, hx, e⟩ => ⟨FUEL, e ▸ g_z1t FUEL a.1 a.2.1 (decRes_some hx)⟩) (fun h => (altTr_val h).elim (fun ⟨x, hx, e⟩ => ⟨FUEL, e ▸ g_z1t FUEL a.1 a.2.1 (decRes_some hx)⟩) (fun h => by cases h)))
def s_z1u_r : Sig := ⟨[6], [.ty .bool], []⟩
def s_z1u_h0 : Sig := ⟨[2, 7, 8, 9], [.ty (.slice FieldT), .ptr 0 0 0, .ty (.int .i64), .ty (.int .i64)], [.one false [.ptr 1 0 0, .hs 3 0, .ptr 4 0 0, .ty (.int .i64)], .one false [.hs 2 0], .row (.int .u8), .row HeadT, .one false [.hs 5 0], .row (.int .u8)]⟩
def s_z1u_t0 : Sig := ⟨[2, 7, 8], [.ty (.slice FieldT), .ptr 0 0 0, .ty (.int .i64)], [.one false [.ptr 1 0 0, .hs 3 0, .ptr 4 0 0, .ty (.int .i64)], .one false [.hs 2 0], .row (.int .u8), .row HeadT, .one false [.hs 5 0], .row (.int .u8)]⟩
def p_z1u : Pol := ⟨fun i => if i = 0 then some [(2, .keep), (7, .keep), (8, .keep), (9, .keep)] else none, fun i => if i = 0 then some [(2, .keep), (7, .keep), (8, .keep)] else none, some [(6, .keep)], [.keep], []⟩
def e_z1u : List EK := [.ty .str, .ty (.slice NodeT), .ty (.slice FieldT)]
def h_z1u : List HK := []
noncomputable def cf_z1u : CallF := { (mkCF [(24, c_z0z), (11, c_z0v), (30, c_z1t), (31, c_z1p), (20, c_z1r)] [(24, [(.slice NodeT)]), (11, []), (30, [.str, (.slice NodeT)])]) with mix := mixes [(20, [none, some ((.slice FieldT))])] }
noncomputable def ls_z1u (n : Nat) : Loops := fun i => if i = 0 then some (loopT 0 (p_z1u.head 0) s_z1u_h0 fun K v => L_z1u_0 n (fun z1 z2 z3 z4 z5 z6 z7 z8 => K (.ex 0) (s_z1u_t0.enc ((v.1.1, ((), (z1, ()))), (((), (z2, ((), (z3, ())))), ((z4, ()), (z5, (z6, ((z7, ()), (z8, ()))))))))) v.1.1 n v.1.2.2.1 v.1.2.2.2.1 v.2.1.2.1 v.2.1.2.2.2.1 v.2.2.1.1 v.2.2.2.1 v.2.2.2.2.1 v.2.2.2.2.2.1.1 v.2.2.2.2.2.2.1)
  else  none
noncomputable def b_z1u_0 : Code := partOf (bodyOf Try.f8) [1, 1, 1, 1, 1, 0, 1, 0, 0]
noncomputable def V_z1u_0 (n : Nat) (K : Cont) (rec : Sig.sem s_z1u_h0 → Option Res) (v : Sig.sem s_z1u_h0) : Option Res := F_z1u_0 n (fun z1 z2 z3 z4 z5 z6 z7 z8 => K (.ex 0) (s_z1u_t0.enc ((v.1.1, ((), (z1, ()))), (((), (z2, ((), (z3, ())))), ((z4, ()), (z5, (z6, ((z7, ()), (z8, ()))))))))) v.1.1 (fun z1 z2 z3 z4 z5 z6 z7 z8 z9 => rec ((v.1.1, ((), (z1, (z2, ())))), (((), (z3, ((), (z4, ())))), ((z5, ()), (z6, (z7, ((z8, ()), (z9, ())))))))) v.1.2.2.1 v.1.2.2.2.1 v.2.1.2.1 v.2.1.2.2.2.1 v.2.2.1.1 v.2.2.2.1 v.2.2.2.2.1 v.2.2.2.2.2.1.1 v.2.2.2.2.2.2.1
theorem t_z1u_0 (n : Nat) (K : Cont) (rec : Sig.sem s_z1u_h0 → Option Res) (v : Sig.sem s_z1u_h0) : runT Try.prog cf_z1u Try.f8.ntmps 0 p_z1u (ls_z1u n) b_z1u_0 (s_z1u_h0.enc v) (turnK 0 (p_z1u.head 0) s_z1u_h0 rec K) = V_z1u_0 n K rec v := by kernel_rfl
noncomputable def W_z1u_0 (n : Nat) (K : Cont) (m : Nat) (v : Sig.sem s_z1u_h0) : Option Res := L_z1u_0 n (fun z1 z2 z3 z4 z5 z6 z7 z8 => K (.ex 0) (s_z1u_t0.enc ((v.1.1, ((), (z1, ()))), (((), (z2, ((), (z3, ())))), ((z4, ()), (z5, (z6, ((z7, ()), (z8, ()))))))))) v.1.1 m v.1.2.2.1 v.1.2.2.2.1 v.2.1.2.1 v.2.1.2.2.2.1 v.2.2.1.1 v.2.2.2.1 v.2.2.2.2.1 v.2.2.2.2.2.1.1 v.2.2.2.2.2.2.1
theorem i_z1u_0 (n : Nat) (K : Cont) : ∀ m v, iter (V_z1u_0 n K) m v = W_z1u_0 n K m v := by
  intro m
  induction m with
  | zero => intro v; rfl
  | succ m ih =>
    intro v
    show V_z1u_0 n K (iter (V_z1u_0 n K) m) v = V_z1u_0 n K (W_z1u_0 n K m) v
    rw [show iter (V_z1u_0 n K) m = W_z1u_0 n K m from funext ih]
theorem o_z1u_0 (n : Nat) : ∀ L, ls_z1u n 0 = some L → ∀ s K r, L s K = some r → ∃ x s', loopN (run Try.prog cf_z1u Try.f8.ntmps 0 n p_z1u none b_z1u_0) (gc 0 (p_z1u.head 0)) n s = some (x, s') ∧ K x s' = some r := by
  intro L hL s K r h
  have hL : some (loopT 0 (p_z1u.head 0) s_z1u_h0 fun K v => W_z1u_0 n K n v) = some L := hL
  cases hL
  have hb : LOk Try.prog cf_z1u Try.f8.ntmps 0 n p_z1u (ls_z1u n) b_z1u_0 := ⟨⟨trivial, ⟨trivial, trivial⟩⟩, ⟨⟨trivial, ⟨trivial, ⟨trivial, trivial⟩⟩⟩, trivial⟩⟩
  refine loopT_ok hb (V_z1u_0 n) (t_z1u_0 n) n s K r ?_
  rw [← h]
  unfold loopT
  simp only [i_z1u_0]
theorem m_z1u (n : Nat) (a0 : ByteArray) (a1 : (List NodeS)) (a2 : (List FieldS)) : runFT Try.prog cf_z1u p_z1u (ls_z1u n) Try.f8 (bodyOf Try.f8) (EK.encs e_z1u ((a0, (a1, (a2, ()))), ()).1) (HK.encs h_z1u ((a0, (a1, (a2, ()))), ()).2) = M_z1u n a0 a1 a2 := by kernel_rfl
theorem g_z1u (n : Nat) (a0 : ByteArray) (a1 : (List NodeS)) (a2 : (List FieldS)) {r : Res} (h : M_z1u n a0 a1 a2 = some r) : runF Try.prog cf_z1u n p_z1u 8 (EK.encs e_z1u ((a0, (a1, (a2, ()))), ()).1) (HK.encs h_z1u ((a0, (a1, (a2, ()))), ()).2) = some r := by
  have hb : LOk Try.prog cf_z1u Try.f8.ntmps 0 n p_z1u (ls_z1u n) (bodyOf Try.f8) := ⟨trivial, ⟨⟨trivial, ⟨⟨trivial, trivial⟩, trivial⟩⟩, ⟨trivial, ⟨⟨trivial, ⟨⟨trivial, trivial⟩, trivial⟩⟩, ⟨trivial, ⟨⟨trivial, (o_z1u_0 n)⟩, ⟨trivial, ⟨trivial, trivial⟩⟩⟩⟩⟩⟩⟩⟩
  exact runFT_some Try.prog (c := bodyOf Try.f8) Try.func8 (show Try.f8.body = some (bodyOf Try.f8) from rfl) (show (3 : Nat) ≤ 71 by decide) hb ((m_z1u n a0 a1 a2).trans h) rfl (by kernel_rfl)
noncomputable def c_z1u : Spec := specQ e_z1u h_z1u ro_z1u rh_z1u fun a b => Q_z1u a.1 a.2.1 a.2.2.1
theorem k_z1u (hm : Try.prog.follows .mixedOrders = true) : SpecOk Try.prog 8 c_z1u := specQ_ok (pol := p_z1u) hm (cf := cf_z1u) (CallSound.mix <| tab_ok (specs_cons (k_z0z hm) (specs_cons (k_z0v hm) (specs_cons (k_z1t hm) (specs_cons (k_z1p hm) (specs_cons (k_z1r hm) specs_nil)))))) fun a b r h => ⟨FUEL, g_z1u FUEL a.1 a.2.1 a.2.2.1 (decRes_some h)⟩
def s_z1v_r : Sig := ⟨[8], [.ty (.int .i64)], []⟩
def p_z1v : Pol := ⟨fun i => none, fun i => none, some [(8, .keep)], [.keep], []⟩
def e_z1v : List EK := [.nul 0, .ty (.int .i64), .ty (.int .i64), .agg WordT]
def h_z1v : List HK := []
noncomputable def cf_z1v : CallF := mkCF [] []
noncomputable def ls_z1v (n : Nat) : Loops := fun i =>  none
theorem m_z1v (n : Nat) (a0 : Int) (a1 : Int) (a2 : WordS) : runFT Try.prog cf_z1v p_z1v (ls_z1v n) Try.f58 (bodyOf Try.f58) (EK.encs e_z1v (((), (a0, (a1, (a2, ())))), ()).1) (HK.encs h_z1v (((), (a0, (a1, (a2, ())))), ()).2) = M_z1v n a0 a1 a2 := by kernel_rfl
theorem g_z1v (n : Nat) (a0 : Int) (a1 : Int) (a2 : WordS) {r : Res} (h : M_z1v n a0 a1 a2 = some r) : runF Try.prog cf_z1v n p_z1v 58 (EK.encs e_z1v (((), (a0, (a1, (a2, ())))), ()).1) (HK.encs h_z1v (((), (a0, (a1, (a2, ())))), ()).2) = some r := by
  have hb : LOk Try.prog cf_z1v Try.f58.ntmps 0 n p_z1v (ls_z1v n) (bodyOf Try.f58) := ⟨trivial, ⟨⟨trivial, ⟨⟨trivial, trivial⟩, trivial⟩⟩, ⟨trivial, ⟨trivial, ⟨⟨trivial, ⟨trivial, trivial⟩⟩, ⟨trivial, trivial⟩⟩⟩⟩⟩⟩
  exact runFT_some Try.prog (c := bodyOf Try.f58) Try.func58 (show Try.f58.body = some (bodyOf Try.f58) from rfl) (show (4 : Nat) ≤ 40 by decide) hb ((m_z1v n a0 a1 a2).trans h) rfl (by kernel_rfl)
noncomputable def c_z1v : Spec := specQ e_z1v h_z1v ro_z1v rh_z1v fun a b => Q_z1v a.2.1 a.2.2.1 a.2.2.2.1
theorem k_z1v (hm : Try.prog.follows .mixedOrders = true) : SpecOk Try.prog 58 c_z1v := specQ_ok (pol := p_z1v) hm (cf := cf_z1v) (tab_ok specs_nil) fun a b r h => ⟨FUEL, g_z1v FUEL a.2.1 a.2.2.1 a.2.2.2.1 (decRes_some h)⟩
def s_z1w_r : Sig := ⟨[8, 9], [.ty .str, .ty (.int .i64)], []⟩
def s_z1w_h0 : Sig := ⟨[1, 2, 7, 11, 24, 25], [.ty (.int .i64), .ty (.int .i64), .ptr 0 0 0, .hs 1 0, .ty (.int .i64), .ty (.int .i64)], [.cell WordT, .row (.int .u8)]⟩
def s_z1w_t0 : Sig := ⟨[11], [.hs 0 0], [.row (.int .u8)]⟩
def p_z1w : Pol := ⟨fun i => if i = 0 then some [(1, .keep), (2, .keep), (7, (.own WordT)), (11, (.own (.int .u8))), (24, .keep), (25, .keep)] else none, fun i => if i = 0 then some [(11, (.own (.int .u8)))] else none, some [(8, .keep), (9, .keep)], [.keep, .keep], []⟩
def e_z1w : List EK := [.ty .str, .ty (.int .i64), .ty (.int .i64), .agg WordT]
def h_z1w : List HK := []
noncomputable def cf_z1w : CallF := mkCF [(86, c_z07), (72, c_z0c), (89, c_z09), (73, c_z0e)] [(86, [.str, (.int .i64), (.int .i64)]), (72, [WordT, (.int .i64)]), (89, [(.int .u64)]), (73, [WordT, WordT])]
noncomputable def ls_z1w (n : Nat) : Loops := fun i => if i = 0 then some (loopT 0 (p_z1w.head 0) s_z1w_h0 fun K v => L_z1w_0 n (fun z1 => K (.ex 0) (s_z1w_t0.enc ((v.1.2.2.2.1, ()), (z1, ())))) v.1.1 v.1.2.1 v.1.2.2.2.1 v.1.2.2.2.2.1 v.2.1 n v.1.2.2.2.2.2.1 v.2.2.1)
  else  none
noncomputable def b_z1w_0 : Code := partOf (bodyOf Try.f75) [1, 1, 1, 0, 1, 0, 0]
noncomputable def V_z1w_0 (n : Nat) (K : Cont) (rec : Sig.sem s_z1w_h0 → Option Res) (v : Sig.sem s_z1w_h0) : Option Res := F_z1w_0 n (fun z1 => K (.ex 0) (s_z1w_t0.enc ((v.1.2.2.2.1, ()), (z1, ())))) v.1.1 v.1.2.1 v.1.2.2.2.1 v.1.2.2.2.2.1 v.2.1 (fun z4 z6 => rec ((v.1.1, (v.1.2.1, ((), (v.1.2.2.2.1, (v.1.2.2.2.2.1, (z4, ())))))), (v.2.1, (z6, ())))) v.1.2.2.2.2.2.1 v.2.2.1
theorem t_z1w_0 (n : Nat) (K : Cont) (rec : Sig.sem s_z1w_h0 → Option Res) (v : Sig.sem s_z1w_h0) : runT Try.prog cf_z1w Try.f75.ntmps 0 p_z1w (ls_z1w n) b_z1w_0 (s_z1w_h0.enc v) (turnK 0 (p_z1w.head 0) s_z1w_h0 rec K) = V_z1w_0 n K rec v := by kernel_rfl
noncomputable def W_z1w_0 (n : Nat) (K : Cont) (m : Nat) (v : Sig.sem s_z1w_h0) : Option Res := L_z1w_0 n (fun z1 => K (.ex 0) (s_z1w_t0.enc ((v.1.2.2.2.1, ()), (z1, ())))) v.1.1 v.1.2.1 v.1.2.2.2.1 v.1.2.2.2.2.1 v.2.1 m v.1.2.2.2.2.2.1 v.2.2.1
theorem i_z1w_0 (n : Nat) (K : Cont) : ∀ m v, iter (V_z1w_0 n K) m v = W_z1w_0 n K m v := by
  intro m
  induction m with
  | zero => intro v; rfl
  | succ m ih =>
    intro v
    show V_z1w_0 n K (iter (V_z1w_0 n K) m) v = V_z1w_0 n K (W_z1w_0 n K m) v
    rw [show iter (V_z1w_0 n K) m = W_z1w_0 n K m from funext ih]
theorem o_z1w_0 (n : Nat) : ∀ L, ls_z1w n 0 = some L → ∀ s K r, L s K = some r → ∃ x s', loopN (run Try.prog cf_z1w Try.f75.ntmps 0 n p_z1w none b_z1w_0) (gc 0 (p_z1w.head 0)) n s = some (x, s') ∧ K x s' = some r := by
  intro L hL s K r h
  have hL : some (loopT 0 (p_z1w.head 0) s_z1w_h0 fun K v => W_z1w_0 n K n v) = some L := hL
  cases hL
  have hb : LOk Try.prog cf_z1w Try.f75.ntmps 0 n p_z1w (ls_z1w n) b_z1w_0 := ⟨trivial, ⟨⟨trivial, trivial⟩, ⟨⟨trivial, ⟨trivial, ⟨trivial, ⟨trivial, ⟨trivial, trivial⟩⟩⟩⟩⟩, trivial⟩⟩⟩
  refine loopT_ok hb (V_z1w_0 n) (t_z1w_0 n) n s K r ?_
  rw [← h]
  unfold loopT
  simp only [i_z1w_0]
theorem m_z1w (n : Nat) (a0 : ByteArray) (a1 : Int) (a2 : Int) (a3 : WordS) : runFT Try.prog cf_z1w p_z1w (ls_z1w n) Try.f75 (bodyOf Try.f75) (EK.encs e_z1w ((a0, (a1, (a2, (a3, ())))), ()).1) (HK.encs h_z1w ((a0, (a1, (a2, (a3, ())))), ()).2) = M_z1w n a0 a1 a2 a3 := by kernel_rfl
theorem g_z1w (n : Nat) (a0 : ByteArray) (a1 : Int) (a2 : Int) (a3 : WordS) {r : Res} (h : M_z1w n a0 a1 a2 a3 = some r) : runF Try.prog cf_z1w n p_z1w 75 (EK.encs e_z1w ((a0, (a1, (a2, (a3, ())))), ()).1) (HK.encs h_z1w ((a0, (a1, (a2, (a3, ())))), ()).2) = some r := by
  have hb : LOk Try.prog cf_z1w Try.f75.ntmps 0 n p_z1w (ls_z1w n) (bodyOf Try.f75) := ⟨trivial, ⟨⟨trivial, ⟨trivial, ⟨⟨trivial, trivial⟩, trivial⟩⟩⟩, ⟨trivial, ⟨⟨trivial, (o_z1w_0 n)⟩, ⟨trivial, trivial⟩⟩⟩⟩⟩
  exact runFT_some Try.prog (c := bodyOf Try.f75) Try.func75 (show Try.f75.body = some (bodyOf Try.f75) from rfl) (show (4 : Nat) ≤ 64 by decide) hb ((m_z1w n a0 a1 a2 a3).trans h) rfl (by kernel_rfl)
noncomputable def c_z1w : Spec := specQ e_z1w h_z1w ro_z1w rh_z1w fun a b => Q_z1w a.1 a.2.1 a.2.2.1 a.2.2.2.1
theorem k_z1w (hm : Try.prog.follows .mixedOrders = true) : SpecOk Try.prog 75 c_z1w := specQ_ok (pol := p_z1w) hm (cf := cf_z1w) (tab_ok (specs_cons (k_z07 hm) (specs_cons (k_z0c hm) (specs_cons (k_z09 hm) (specs_cons (k_z0e hm) specs_nil))))) fun a b r h => ⟨FUEL, g_z1w FUEL a.1 a.2.1 a.2.2.1 a.2.2.2.1 (decRes_some h)⟩
def s_z1x_r : Sig := ⟨[8], [.ty (.int .i64)], [.one false [.hs 1 0], .row (.int .u8)]⟩
def p_z1x : Pol := ⟨fun i => none, fun i => none, some [(8, .keep)], [.keep], []⟩
def e_z1x : List EK := [.ptr 0 0 0, .ty (.int .i64), .ty (.int .i64), .agg WordT]
def h_z1x : List HK := [.one false [.hs 1 0], .row (.int .u8)]
noncomputable def cf_z1x : CallF := mkCF [(70, c_z06), (75, c_z1w)] [(75, [.str, (.int .i64), (.int .i64), WordT])]
noncomputable def ls_z1x (n : Nat) : Loops := fun i =>  none
theorem m_z1x (n : Nat) (a0 : Int) (a1 : Int) (a2 : WordS) (a3 : Nat) (a4 : (List Int)) : runFT Try.prog cf_z1x p_z1x (ls_z1x n) Try.f58 (bodyOf Try.f58) (EK.encs e_z1x (((), (a0, (a1, (a2, ())))), ((a3, ()), (a4, ()))).1) (HK.encs h_z1x (((), (a0, (a1, (a2, ())))), ((a3, ()), (a4, ()))).2) = M_z1x n a0 a1 a2 a3 a4 := by kernel_rfl
theorem g_z1x (n : Nat) (a0 : Int) (a1 : Int) (a2 : WordS) (a3 : Nat) (a4 : (List Int)) {r : Res} (h : M_z1x n a0 a1 a2 a3 a4 = some r) : runF Try.prog cf_z1x n p_z1x 58 (EK.encs e_z1x (((), (a0, (a1, (a2, ())))), ((a3, ()), (a4, ()))).1) (HK.encs h_z1x (((), (a0, (a1, (a2, ())))), ((a3, ()), (a4, ()))).2) = some r := by
  have hb : LOk Try.prog cf_z1x Try.f58.ntmps 2 n p_z1x (ls_z1x n) (bodyOf Try.f58) := ⟨trivial, ⟨⟨trivial, ⟨⟨trivial, trivial⟩, trivial⟩⟩, ⟨trivial, ⟨trivial, ⟨⟨trivial, ⟨trivial, trivial⟩⟩, ⟨trivial, trivial⟩⟩⟩⟩⟩⟩
  exact runFT_some Try.prog (c := bodyOf Try.f58) Try.func58 (show Try.f58.body = some (bodyOf Try.f58) from rfl) (show (4 : Nat) ≤ 40 by decide) hb ((m_z1x n a0 a1 a2 a3 a4).trans h) rfl (by kernel_rfl)
noncomputable def c_z1x : Spec := specQ e_z1x h_z1x ro_z1x rh_z1x fun a b => Q_z1x a.2.1 a.2.2.1 a.2.2.2.1 b.1.1 b.2.1
theorem k_z1x (hm : Try.prog.follows .mixedOrders = true) : SpecOk Try.prog 58 c_z1x := specQ_ok (pol := p_z1x) hm (cf := cf_z1x) (tab_ok (specs_cons (k_z06 hm) (specs_cons (k_z1w hm) specs_nil))) fun a b r h => ⟨FUEL, g_z1x FUEL a.2.1 a.2.2.1 a.2.2.2.1 b.1.1 b.2.1 (decRes_some h)⟩
def s_z1y_r : Sig := ⟨[6], [.ty (.int .i64)], [.one false [.ptr 1 0 0, .hs 3 0, .ptr 4 0 0, .ty (.int .i64)], .one false [.hs 2 0], .row (.int .u8), .row HeadT, .one false [.hs 5 0], .row (.int .u8)]⟩
def p_z1y : Pol := ⟨fun i => none, fun i => none, some [(6, .keep)], [.keep], []⟩
def e_z1y : List EK := [.ptr 0 0 0, .agg FieldT, .agg WordT]
def h_z1y : List HK := [.one false [.ptr 1 0 0, .hs 3 0, .ptr 4 0 0, .ty (.int .i64)], .one false [.hs 2 0], .row (.int .u8), .row HeadT, .one false [.hs 5 0], .row (.int .u8)]
noncomputable def cf_z1y : CallF := mkCF [(53, c_z1o), (55, c_z04), (58, (orSpec c_z1v c_z1x))] [(55, [(.int .i64), (.int .i64)])]
noncomputable def ls_z1y (n : Nat) : Loops := fun i =>  none
theorem m_z1y (n : Nat) (a0 : FieldS) (a1 : WordS) (a2 : Nat) (a3 : Int) (a4 : Nat) (a5 : (List Int)) (a6 : (List HeadS)) (a7 : Nat) (a8 : (List Int)) : runFT Try.prog cf_z1y p_z1y (ls_z1y n) Try.f33 (bodyOf Try.f33) (EK.encs e_z1y (((), (a0, (a1, ()))), (((), (a2, ((), (a3, ())))), ((a4, ()), (a5, (a6, ((a7, ()), (a8, ()))))))).1) (HK.encs h_z1y (((), (a0, (a1, ()))), (((), (a2, ((), (a3, ())))), ((a4, ()), (a5, (a6, ((a7, ()), (a8, ()))))))).2) = M_z1y n a0 a1 a2 a3 a4 a5 a6 a7 a8 := by kernel_rfl
theorem g_z1y (n : Nat) (a0 : FieldS) (a1 : WordS) (a2 : Nat) (a3 : Int) (a4 : Nat) (a5 : (List Int)) (a6 : (List HeadS)) (a7 : Nat) (a8 : (List Int)) {r : Res} (h : M_z1y n a0 a1 a2 a3 a4 a5 a6 a7 a8 = some r) : runF Try.prog cf_z1y n p_z1y 33 (EK.encs e_z1y (((), (a0, (a1, ()))), (((), (a2, ((), (a3, ())))), ((a4, ()), (a5, (a6, ((a7, ()), (a8, ()))))))).1) (HK.encs h_z1y (((), (a0, (a1, ()))), (((), (a2, ((), (a3, ())))), ((a4, ()), (a5, (a6, ((a7, ()), (a8, ()))))))).2) = some r := by
  have hb : LOk Try.prog cf_z1y Try.f33.ntmps 6 n p_z1y (ls_z1y n) (bodyOf Try.f33) := ⟨trivial, ⟨trivial, ⟨⟨trivial, ⟨⟨trivial, trivial⟩, trivial⟩⟩, ⟨trivial, trivial⟩⟩⟩⟩
  exact runFT_some Try.prog (c := bodyOf Try.f33) Try.func33 (show Try.f33.body = some (bodyOf Try.f33) from rfl) (show (3 : Nat) ≤ 32 by decide) hb ((m_z1y n a0 a1 a2 a3 a4 a5 a6 a7 a8).trans h) rfl (by kernel_rfl)
noncomputable def c_z1y : Spec := specQ e_z1y h_z1y ro_z1y rh_z1y fun a b => Q_z1y a.2.1 a.2.2.1 b.1.2.1 b.1.2.2.2.1 b.2.1.1 b.2.2.1 b.2.2.2.1 b.2.2.2.2.1.1 b.2.2.2.2.2.1
theorem k_z1y (hm : Try.prog.follows .mixedOrders = true) : SpecOk Try.prog 33 c_z1y := specQ_ok (pol := p_z1y) hm (cf := cf_z1y) (tab_ok (specs_cons (k_z1o hm) (specs_cons (k_z04 hm) (specs_cons (orSpec_ok (k_z1v hm) (k_z1x hm)) specs_nil)))) fun a b r h => ⟨FUEL, g_z1y FUEL a.2.1 a.2.2.1 b.1.2.1 b.1.2.2.2.1 b.2.1.1 b.2.2.1 b.2.2.2.1 b.2.2.2.2.1.1 b.2.2.2.2.2.1 (decRes_some h)⟩
def s_z1z_r : Sig := ⟨[8], [.ty .bool], []⟩
def p_z1z : Pol := ⟨fun i => none, fun i => none, some [(8, .keep)], [.keep], []⟩
def e_z1z : List EK := [.ty .str, .ty (.slice NodeT), .agg FieldT, .agg WordT]
def h_z1z : List HK := []
noncomputable def cf_z1z : CallF := { (mkCF [(24, c_z0z), (11, c_z0v), (30, c_z1t), (33, c_z1y), (20, c_z1r), (32, c_z0l), (22, c_z1s), (35, c_z0r), (34, c_z0s)] [(24, [(.slice NodeT)]), (11, []), (30, [.str, (.slice NodeT)]), (32, [WordT, (.int .i64)]), (35, [(.slice .str)]), (34, [(.int .u32)])]) with mix := mixes [(20, [none, some ((.slice FieldT))])] }
noncomputable def ls_z1z (n : Nat) : Loops := fun i =>  none
theorem m_z1z (n : Nat) (a0 : ByteArray) (a1 : (List NodeS)) (a2 : FieldS) (a3 : WordS) : runFT Try.prog cf_z1z p_z1z (ls_z1z n) Try.f10 (bodyOf Try.f10) (EK.encs e_z1z ((a0, (a1, (a2, (a3, ())))), ()).1) (HK.encs h_z1z ((a0, (a1, (a2, (a3, ())))), ()).2) = M_z1z n a0 a1 a2 a3 := by kernel_rfl
theorem g_z1z (n : Nat) (a0 : ByteArray) (a1 : (List NodeS)) (a2 : FieldS) (a3 : WordS) {r : Res} (h : M_z1z n a0 a1 a2 a3 = some r) : runF Try.prog cf_z1z n p_z1z 10 (EK.encs e_z1z ((a0, (a1, (a2, (a3, ())))), ()).1) (HK.encs h_z1z ((a0, (a1, (a2, (a3, ())))), ()).2) = some r := by
  have hb : LOk Try.prog cf_z1z Try.f10.ntmps 0 n p_z1z (ls_z1z n) (bodyOf Try.f10) := ⟨trivial, ⟨⟨trivial, ⟨⟨trivial, trivial⟩, trivial⟩⟩, ⟨trivial, ⟨⟨trivial, ⟨⟨trivial, trivial⟩, trivial⟩⟩, ⟨⟨trivial, ⟨⟨trivial, ⟨trivial, trivial⟩⟩, trivial⟩⟩, ⟨trivial, ⟨trivial, ⟨trivial, ⟨trivial, trivial⟩⟩⟩⟩⟩⟩⟩⟩⟩
  exact runFT_some Try.prog (c := bodyOf Try.f10) Try.func10 (show Try.f10.body = some (bodyOf Try.f10) from rfl) (show (4 : Nat) ≤ 96 by decide) hb ((m_z1z n a0 a1 a2 a3).trans h) rfl (by kernel_rfl)
noncomputable def c_z1z : Spec := specQ e_z1z h_z1z ro_z1z rh_z1z fun a b => Q_z1z a.1 a.2.1 a.2.2.1 a.2.2.2.1
theorem k_z1z (hm : Try.prog.follows .mixedOrders = true) : SpecOk Try.prog 10 c_z1z := specQ_ok (pol := p_z1z) hm (cf := cf_z1z) (CallSound.mix <| tab_ok (specs_cons (k_z0z hm) (specs_cons (k_z0v hm) (specs_cons (k_z1t hm) (specs_cons (k_z1y hm) (specs_cons (k_z1r hm) (specs_cons (k_z0l hm) (specs_cons (k_z1s hm) (specs_cons (k_z0r hm) (specs_cons (k_z0s hm) specs_nil)))))))))) fun a b r h => ⟨FUEL, g_z1z FUEL a.1 a.2.1 a.2.2.1 a.2.2.2.1 (decRes_some h)⟩
end Go.AMach
