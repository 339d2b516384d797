/- A part of the walk. -/
import Derived.Test.YtphmidhlgkclgaaDx
import Derived.Test.YtphmidhlgkclgaaProg
import Derived.Test.YtphmidhlgkclgaaHb
import Derived.Test.YtphmidhlgkclgaaAm23
namespace Go.AMach
set_option linter.unusedVariables false
set_option linter.unusedSimpArgs false
set_option linter.unnecessarySimpa false
open Go Go.Proofs
set_option linter.unusedVariables false
noncomputable instance : Sites := ⟨fun k => if k = 0 then rfOf (partOf (bodyOf Try.f62) [1, 1, 1, 1, 0, 1, 0]) else none⟩
def s_buf_New_r : Sig := ⟨[2, 3], [.nul 0, .ty (.int .i64)], []⟩
def s_buf_New_r1 : Sig := ⟨[2, 3], [.ptr 0 0 0, .ty (.int .i64)], [.one false [.hs 1 0], .row (.int .u8)]⟩
def p_buf_New : Pol := ⟨fun i => none, fun i => none, some [(2, .keep), (3, .keep)], [.keep, .keep], []⟩
def e_buf_New : List EK := [.ty .str]
def h_buf_New : List HK := []
noncomputable def cf_buf_New : CallF := mkCF [] []
noncomputable def ls_buf_New (n : Nat) : Loops := fun i =>  none
theorem m_buf_New (n : Nat) (a0 : ByteArray) : runFT Try.prog cf_buf_New p_buf_New (ls_buf_New n) Try.f39 (bodyOf Try.f39) (EK.encs e_buf_New ((a0, ()), ()).1) (HK.encs h_buf_New ((a0, ()), ()).2) = M_buf_New n a0 := by kernel_rfl
theorem g_buf_New (n : Nat) (a0 : ByteArray) {r : Res} (h : M_buf_New n a0 = some r) : runF Try.prog cf_buf_New n p_buf_New 39 (EK.encs e_buf_New ((a0, ()), ()).1) (HK.encs h_buf_New ((a0, ()), ()).2) = some r := by
  have hb : LOk Try.prog cf_buf_New Try.f39.ntmps 0 n p_buf_New (ls_buf_New n) (bodyOf Try.f39) := ⟨trivial, ⟨⟨trivial, ⟨⟨trivial, trivial⟩, trivial⟩⟩, ⟨trivial, trivial⟩⟩⟩
  exact runFT_some Try.prog (c := bodyOf Try.f39) Try.func39 (show Try.f39.body = some (bodyOf Try.f39) from rfl) (show (1 : Nat) ≤ 11 by decide) hb ((m_buf_New n a0).trans h) rfl (by kernel_rfl)
noncomputable def c_buf_New : Spec := specTr e_buf_New h_buf_New fun a b => (altTr ro_buf_New rh_buf_New (Q_buf_New a.1) (altTr ro_buf_New_1 rh_buf_New_1 (Q_buf_New_1 a.1) .no))
theorem k_buf_New (hm : Try.prog.follows .mixedOrders = true) : SpecOk Try.prog 39 c_buf_New := specTr_ok (pol := p_buf_New) hm (cf := cf_buf_New) (tab_ok specs_nil) fun a b r => (fun h => (altTr_val h).elim (fun ⟨x, hx, e⟩ => ⟨FUEL, e ▸ g_buf_New FUEL a.1 (decRes_some hx)⟩) (fun h => (altTr_val h).elim (fun ⟨x, hx, e⟩ => ⟨FUEL, e ▸ g_buf_New FUEL a.1 (decRes_some hx)⟩) (fun h => by cases h)))
def s_pack_New_r : Sig := ⟨[4, 5], [.ptr 0 0 0, .ty (.int .i64)], [.one false [.ptr 1 0 0, .nul 4, .ptr 3 0 0, .ty (.int .i64)], .one false [.hs 2 0], .row (.int .u8), .one false [.hs 4 0], .row (.int .u8)]⟩
def s_pack_New_r1 : Sig := ⟨[4, 5], [.ptr 0 0 0, .ty (.int .i64)], [.one false [.ptr 1 0 0, .nul 4, .nul 0, .ty (.int .i64)], .one false [.hs 2 0], .row (.int .u8)]⟩
def s_pack_New_r2 : Sig := ⟨[4, 5], [.nul 0, .ty (.int .i64)], []⟩
def p_pack_New : Pol := ⟨fun i => none, fun i => none, some [(4, .keep), (5, .keep)], [.keep, .keep], []⟩
def e_pack_New : List EK := [.ty (.int .i64), .ty .str]
def h_pack_New : List HK := []
noncomputable def cf_pack_New : CallF := mkCF [(39, c_buf_New)] [(39, [.str])]
noncomputable def ls_pack_New (n : Nat) : Loops := fun i =>  none
theorem m_pack_New (n : Nat) (a0 : Int) (a1 : ByteArray) : runFT Try.prog cf_pack_New p_pack_New (ls_pack_New n) Try.f19 (bodyOf Try.f19) (EK.encs e_pack_New ((a0, (a1, ())), ()).1) (HK.encs h_pack_New ((a0, (a1, ())), ()).2) = M_pack_New n a0 a1 := by kernel_rfl
theorem g_pack_New (n : Nat) (a0 : Int) (a1 : ByteArray) {r : Res} (h : M_pack_New n a0 a1 = some r) : runF Try.prog cf_pack_New n p_pack_New 19 (EK.encs e_pack_New ((a0, (a1, ())), ()).1) (HK.encs h_pack_New ((a0, (a1, ())), ()).2) = some r := by
  have hb : LOk Try.prog cf_pack_New Try.f19.ntmps 0 n p_pack_New (ls_pack_New n) (bodyOf Try.f19) := ⟨trivial, ⟨trivial, ⟨⟨trivial, ⟨⟨trivial, trivial⟩, trivial⟩⟩, ⟨trivial, ⟨trivial, trivial⟩⟩⟩⟩⟩
  exact runFT_some Try.prog (c := bodyOf Try.f19) Try.func19 (show Try.f19.body = some (bodyOf Try.f19) from rfl) (show (2 : Nat) ≤ 29 by decide) hb ((m_pack_New n a0 a1).trans h) rfl (by kernel_rfl)
noncomputable def c_pack_New : Spec := specTr e_pack_New h_pack_New fun a b => (altTr ro_pack_New rh_pack_New (Q_pack_New a.1 a.2.1) (altTr ro_pack_New_2 rh_pack_New_2 (Q_pack_New_2 a.1 a.2.1) .no))
theorem k_pack_New (hm : Try.prog.follows .mixedOrders = true) : SpecOk Try.prog 19 c_pack_New := specTr_ok (pol := p_pack_New) hm (cf := cf_pack_New) (tab_ok (specs_cons (k_buf_New hm) specs_nil)) fun a b r => (fun h => (altTr_val h).elim (fun ⟨x, hx, e⟩ => ⟨FUEL, e ▸ g_pack_New FUEL a.1 a.2.1 (decRes_some hx)⟩) (fun h => (altTr_val h).elim (fun ⟨x, hx, e⟩ => ⟨FUEL, e ▸ g_pack_New FUEL a.1 a.2.1 (decRes_some hx)⟩) (fun h => by cases h)))
def s_turnoutlaw18_bits_r : Sig := ⟨[4], [.ptr 0 0 0], [.cell FieldT]⟩
def p_turnoutlaw18_bits : Pol := ⟨fun i => none, fun i => none, some [(4, (.own FieldT))], [.keep], []⟩
def e_turnoutlaw18_bits : List EK := [.ty (.int .i64), .ty (.int .i64)]
def h_turnoutlaw18_bits : List HK := []
noncomputable def cf_turnoutlaw18_bits : CallF := mkCF [] []
noncomputable def ls_turnoutlaw18_bits (n : Nat) : Loops := fun i =>  none
theorem m_turnoutlaw18_bits (n : Nat) (a0 : Int) (a1 : Int) : runFT Try.prog cf_turnoutlaw18_bits p_turnoutlaw18_bits (ls_turnoutlaw18_bits n) Try.f21 (bodyOf Try.f21) (EK.encs e_turnoutlaw18_bits ((a0, (a1, ())), ()).1) (HK.encs h_turnoutlaw18_bits ((a0, (a1, ())), ()).2) = M_turnoutlaw18_bits n a0 a1 := by kernel_rfl
theorem g_turnoutlaw18_bits (n : Nat) (a0 : Int) (a1 : Int) {r : Res} (h : M_turnoutlaw18_bits n a0 a1 = some r) : runF Try.prog cf_turnoutlaw18_bits n p_turnoutlaw18_bits 21 (EK.encs e_turnoutlaw18_bits ((a0, (a1, ())), ()).1) (HK.encs h_turnoutlaw18_bits ((a0, (a1, ())), ()).2) = some r := by
  have hb : LOk Try.prog cf_turnoutlaw18_bits Try.f21.ntmps 0 n p_turnoutlaw18_bits (ls_turnoutlaw18_bits n) (bodyOf Try.f21) := ⟨trivial, ⟨trivial, trivial⟩⟩
  exact runFT_some Try.prog (c := bodyOf Try.f21) Try.func21 (show Try.f21.body = some (bodyOf Try.f21) from rfl) (show (2 : Nat) ≤ 8 by decide) hb ((m_turnoutlaw18_bits n a0 a1).trans h) rfl (by kernel_rfl)
noncomputable def c_turnoutlaw18_bits : Spec := specQ e_turnoutlaw18_bits h_turnoutlaw18_bits ro_turnoutlaw18_bits rh_turnoutlaw18_bits fun a b => Q_turnoutlaw18_bits a.1 a.2.1
theorem k_turnoutlaw18_bits (hm : Try.prog.follows .mixedOrders = true) : SpecOk Try.prog 21 c_turnoutlaw18_bits := specQ_ok (pol := p_turnoutlaw18_bits) hm (cf := cf_turnoutlaw18_bits) (tab_ok specs_nil) fun a b r h => ⟨FUEL, g_turnoutlaw18_bits FUEL a.1 a.2.1 (decRes_some h)⟩
def s_pack_Packet_place_r : Sig := ⟨[4, 5, 6], [.ptr 1 0 0, .ty (.int .i64), .ty (.int .i64)], [.one false [.ptr 1 0 0, .nul 4, .ptr 3 0 0, .ty (.int .i64)], .one false [.hs 2 0], .row (.int .u8), .one false [.hs 4 0], .row (.int .u8)]⟩
def s_pack_Packet_place_r1 : Sig := ⟨[4, 5, 6], [.ptr 3 0 0, .ty (.int .i64), .ty (.int .i64)], [.one false [.ptr 1 0 0, .nul 4, .ptr 3 0 0, .ty (.int .i64)], .one false [.hs 2 0], .row (.int .u8), .one false [.hs 4 0], .row (.int .u8)]⟩
def s_pack_Packet_place_h1 : Sig := ⟨[0, 3, 32, 33, 34], [.ptr 0 0 0, .ptr 5 0 0, .hs 6 0, .ty (.int .i64), .ty (.int .i64)], [.one false [.ptr 1 0 0, .nul 4, .ptr 3 0 0, .ty (.int .i64)], .one false [.hs 2 0], .row (.int .u8), .one false [.hs 4 0], .row (.int .u8), .cell FieldT, .row HeadT]⟩
def s_pack_Packet_place_t1 : Sig := ⟨[], [], [.one false [.ptr 1 0 0, .nul 4, .ptr 3 0 0, .ty (.int .i64)], .one false [.hs 2 0], .row (.int .u8), .one false [.hs 4 0], .row (.int .u8)]⟩
def s_pack_Packet_place_r2 : Sig := ⟨[4, 5, 6], [.nul 0, .ty (.int .i64), .ty (.int .i64)], [.one false [.ptr 1 0 0, .nul 4, .ptr 3 0 0, .ty (.int .i64)], .one false [.hs 2 0], .row (.int .u8), .one false [.hs 4 0], .row (.int .u8)]⟩
def p_pack_Packet_place : Pol := ⟨fun i => if i = 1 then some [(0, .keep), (3, (.own FieldT)), (32, (.own HeadT)), (33, .keep), (34, .keep)] else none, fun i => if i = 1 then some [] else none, some [(4, .keep), (5, .keep), (6, .keep)], [.keep, .keep, .keep], []⟩
def e_pack_Packet_place : List EK := [.ptr 0 0 0, .agg FieldT]
def h_pack_Packet_place : List HK := [.one false [.ptr 1 0 0, .nul 4, .ptr 3 0 0, .ty (.int .i64)], .one false [.hs 2 0], .row (.int .u8), .one false [.hs 4 0], .row (.int .u8)]
noncomputable def cf_pack_Packet_place : CallF := mkCF [] []
noncomputable def ls_pack_Packet_place (n : Nat) : Loops := fun i => if i = 1 then some (loopT 5 (p_pack_Packet_place.head 1) s_pack_Packet_place_h1 fun K v => L_pack_Packet_place_1 n (fun z0 z1 => K .rt (s_pack_Packet_place_r.enc (((), (z0, (z1, ()))), (((), ((), ((), (v.2.1.2.2.2.1, ())))), ((v.2.2.1.1, ()), (v.2.2.2.1, ((v.2.2.2.2.1.1, ()), (v.2.2.2.2.2.1, ())))))))) (fun _ => K (.ex 1) (s_pack_Packet_place_t1.enc ((), (((), ((), ((), (v.2.1.2.2.2.1, ())))), ((v.2.2.1.1, ()), (v.2.2.2.1, ((v.2.2.2.2.1.1, ()), (v.2.2.2.2.2.1, ())))))))) v.1.2.2.1 v.1.2.2.2.1 v.2.2.2.2.2.2.1 v.2.2.2.2.2.2.2.1 n v.1.2.2.2.2.1)
  else  none
noncomputable def b_pack_Packet_place_1 : Code := partOf (bodyOf Try.f53) [1, 1, 0, 1, 0, 1, 1, 1, 1, 1, 0, 1, 0, 0]
theorem t_pack_Packet_place_1 (n : Nat) (K : Cont) (rec : Sig.sem s_pack_Packet_place_h1 → Option Res) (v : Sig.sem s_pack_Packet_place_h1) : runT Try.prog cf_pack_Packet_place Try.f53.ntmps 5 p_pack_Packet_place (ls_pack_Packet_place n) b_pack_Packet_place_1 (s_pack_Packet_place_h1.enc v) (turnK 5 (p_pack_Packet_place.head 1) s_pack_Packet_place_h1 rec K) = F_pack_Packet_place_1 n (fun z0 z1 => K .rt (s_pack_Packet_place_r.enc (((), (z0, (z1, ()))), (((), ((), ((), (v.2.1.2.2.2.1, ())))), ((v.2.2.1.1, ()), (v.2.2.2.1, ((v.2.2.2.2.1.1, ()), (v.2.2.2.2.2.1, ())))))))) (fun _ => K (.ex 1) (s_pack_Packet_place_t1.enc ((), (((), ((), ((), (v.2.1.2.2.2.1, ())))), ((v.2.2.1.1, ()), (v.2.2.2.1, ((v.2.2.2.2.1.1, ()), (v.2.2.2.2.2.1, ())))))))) v.1.2.2.1 v.1.2.2.2.1 v.2.2.2.2.2.2.1 v.2.2.2.2.2.2.2.1 (fun z2 => rec (((), ((), (v.1.2.2.1, (v.1.2.2.2.1, (z2, ()))))), (((), ((), ((), (v.2.1.2.2.2.1, ())))), ((v.2.2.1.1, ()), (v.2.2.2.1, ((v.2.2.2.2.1.1, ()), (v.2.2.2.2.2.1, (v.2.2.2.2.2.2.1, (v.2.2.2.2.2.2.2.1, ()))))))))) v.1.2.2.2.2.1 := by kernel_rfl
noncomputable def V_pack_Packet_place_1 (n : Nat) (K : Cont) (rec : Sig.sem s_pack_Packet_place_h1 → Option Res) (v : Sig.sem s_pack_Packet_place_h1) : Option Res := F_pack_Packet_place_1 n (fun z0 z1 => K .rt (s_pack_Packet_place_r.enc (((), (z0, (z1, ()))), (((), ((), ((), (v.2.1.2.2.2.1, ())))), ((v.2.2.1.1, ()), (v.2.2.2.1, ((v.2.2.2.2.1.1, ()), (v.2.2.2.2.2.1, ())))))))) (fun _ => K (.ex 1) (s_pack_Packet_place_t1.enc ((), (((), ((), ((), (v.2.1.2.2.2.1, ())))), ((v.2.2.1.1, ()), (v.2.2.2.1, ((v.2.2.2.2.1.1, ()), (v.2.2.2.2.2.1, ())))))))) v.1.2.2.1 v.1.2.2.2.1 v.2.2.2.2.2.2.1 v.2.2.2.2.2.2.2.1 (fun z2 => rec (((), ((), (v.1.2.2.1, (v.1.2.2.2.1, (z2, ()))))), (((), ((), ((), (v.2.1.2.2.2.1, ())))), ((v.2.2.1.1, ()), (v.2.2.2.1, ((v.2.2.2.2.1.1, ()), (v.2.2.2.2.2.1, (v.2.2.2.2.2.2.1, (v.2.2.2.2.2.2.2.1, ()))))))))) v.1.2.2.2.2.1
noncomputable def W_pack_Packet_place_1 (n : Nat) (K : Cont) (m : Nat) (v : Sig.sem s_pack_Packet_place_h1) : Option Res := L_pack_Packet_place_1 n (fun z0 z1 => K .rt (s_pack_Packet_place_r.enc (((), (z0, (z1, ()))), (((), ((), ((), (v.2.1.2.2.2.1, ())))), ((v.2.2.1.1, ()), (v.2.2.2.1, ((v.2.2.2.2.1.1, ()), (v.2.2.2.2.2.1, ())))))))) (fun _ => K (.ex 1) (s_pack_Packet_place_t1.enc ((), (((), ((), ((), (v.2.1.2.2.2.1, ())))), ((v.2.2.1.1, ()), (v.2.2.2.1, ((v.2.2.2.2.1.1, ()), (v.2.2.2.2.2.1, ())))))))) v.1.2.2.1 v.1.2.2.2.1 v.2.2.2.2.2.2.1 v.2.2.2.2.2.2.2.1 m v.1.2.2.2.2.1
theorem i_pack_Packet_place_1 (n : Nat) (K : Cont) : ∀ m v, iter (V_pack_Packet_place_1 n K) m v = W_pack_Packet_place_1 n K m v := by
  intro m
  induction m with
  | zero => intro v; rfl
  | succ m ih =>
    intro v
    show V_pack_Packet_place_1 n K (iter (V_pack_Packet_place_1 n K) m) v = V_pack_Packet_place_1 n K (W_pack_Packet_place_1 n K m) v
    rw [show iter (V_pack_Packet_place_1 n K) m = W_pack_Packet_place_1 n K m from funext ih]
theorem o_pack_Packet_place_1 (n : Nat) : ∀ L, ls_pack_Packet_place n 1 = some L → ∀ s K r, L s K = some r → ∃ x s', loopN (run Try.prog cf_pack_Packet_place Try.f53.ntmps 5 n p_pack_Packet_place none b_pack_Packet_place_1) (gc 5 (p_pack_Packet_place.head 1)) n s = some (x, s') ∧ K x s' = some r := by
  intro L hL s K r h
  have hL : some (loopT 5 (p_pack_Packet_place.head 1) s_pack_Packet_place_h1 fun K v => W_pack_Packet_place_1 n K n v) = some L := hL
  cases hL
  have hb : LOk Try.prog cf_pack_Packet_place Try.f53.ntmps 5 n p_pack_Packet_place (ls_pack_Packet_place n) b_pack_Packet_place_1 := ⟨trivial, ⟨⟨trivial, trivial⟩, ⟨⟨trivial, ⟨trivial, ⟨⟨trivial, trivial⟩, trivial⟩⟩⟩, trivial⟩⟩⟩
  refine loopT_ok hb (V_pack_Packet_place_1 n) (t_pack_Packet_place_1 n) n s K r ?_
  rw [← h]
  unfold loopT
  simp only [i_pack_Packet_place_1]
theorem m_pack_Packet_place (n : Nat) (a0 : FieldS) (a1 : Int) (a2 : Nat) (a3 : (List Int)) (a4 : Nat) (a5 : (List Int)) : runFT Try.prog cf_pack_Packet_place p_pack_Packet_place (ls_pack_Packet_place n) Try.f53 (bodyOf Try.f53) (EK.encs e_pack_Packet_place (((), (a0, ())), (((), ((), ((), (a1, ())))), ((a2, ()), (a3, ((a4, ()), (a5, ())))))).1) (HK.encs h_pack_Packet_place (((), (a0, ())), (((), ((), ((), (a1, ())))), ((a2, ()), (a3, ((a4, ()), (a5, ())))))).2) = M_pack_Packet_place n a0 a1 a2 a3 a4 a5 := by kernel_rfl
theorem g_pack_Packet_place (n : Nat) (a0 : FieldS) (a1 : Int) (a2 : Nat) (a3 : (List Int)) (a4 : Nat) (a5 : (List Int)) {r : Res} (h : M_pack_Packet_place n a0 a1 a2 a3 a4 a5 = some r) : runF Try.prog cf_pack_Packet_place n p_pack_Packet_place 53 (EK.encs e_pack_Packet_place (((), (a0, ())), (((), ((), ((), (a1, ())))), ((a2, ()), (a3, ((a4, ()), (a5, ())))))).1) (HK.encs h_pack_Packet_place (((), (a0, ())), (((), ((), ((), (a1, ())))), ((a2, ()), (a3, ((a4, ()), (a5, ())))))).2) = some r := by
  have hb : LOk Try.prog cf_pack_Packet_place Try.f53.ntmps 5 n p_pack_Packet_place (ls_pack_Packet_place n) (bodyOf Try.f53) := ⟨trivial, ⟨⟨trivial, ⟨⟨trivial, trivial⟩, trivial⟩⟩, ⟨⟨trivial, ⟨trivial, ⟨⟨trivial, trivial⟩, ⟨trivial, ⟨⟨trivial, trivial⟩, ⟨trivial, ⟨⟨trivial, (o_pack_Packet_place_1 n)⟩, trivial⟩⟩⟩⟩⟩⟩⟩, ⟨trivial, trivial⟩⟩⟩⟩
  exact runFT_some Try.prog (c := bodyOf Try.f53) Try.func53 (show Try.f53.body = some (bodyOf Try.f53) from rfl) (show (2 : Nat) ≤ 51 by decide) hb ((m_pack_Packet_place n a0 a1 a2 a3 a4 a5).trans h) rfl (by kernel_rfl)
noncomputable def c_pack_Packet_place : Spec := specTr e_pack_Packet_place h_pack_Packet_place fun a b => (altTr ro_pack_Packet_place rh_pack_Packet_place (Q_pack_Packet_place a.2.1 b.1.2.2.2.1 b.2.1.1 b.2.2.1 b.2.2.2.1.1 b.2.2.2.2.1) (altTr ro_pack_Packet_place_1 rh_pack_Packet_place_1 (Q_pack_Packet_place_1 a.2.1 b.1.2.2.2.1 b.2.1.1 b.2.2.1 b.2.2.2.1.1 b.2.2.2.2.1) (altTr ro_pack_Packet_place_2 rh_pack_Packet_place_2 (Q_pack_Packet_place_2 a.2.1 b.1.2.2.2.1 b.2.1.1 b.2.2.1 b.2.2.2.1.1 b.2.2.2.2.1) .no)))
theorem k_pack_Packet_place (hm : Try.prog.follows .mixedOrders = true) : SpecOk Try.prog 53 c_pack_Packet_place := specTr_ok (pol := p_pack_Packet_place) hm (cf := cf_pack_Packet_place) (tab_ok specs_nil) fun a b r => (fun h => (altTr_val h).elim (fun ⟨x, hx, e⟩ => ⟨FUEL, e ▸ g_pack_Packet_place FUEL a.2.1 b.1.2.2.2.1 b.2.1.1 b.2.2.1 b.2.2.2.1.1 b.2.2.2.2.1 (decRes_some hx)⟩) (fun h => (altTr_val h).elim (fun ⟨x, hx, e⟩ => ⟨FUEL, e ▸ g_pack_Packet_place FUEL a.2.1 b.1.2.2.2.1 b.2.1.1 b.2.2.1 b.2.2.2.1.1 b.2.2.2.2.1 (decRes_some hx)⟩) (fun h => (altTr_val h).elim (fun ⟨x, hx, e⟩ => ⟨FUEL, e ▸ g_pack_Packet_place FUEL a.2.1 b.1.2.2.2.1 b.2.1.1 b.2.2.1 b.2.2.2.1.1 b.2.2.2.2.1 (decRes_some hx)⟩) (fun h => by cases h))))
def s_pack_bit_r : Sig := ⟨[4], [.ty (.int .i64)], []⟩
def p_pack_bit : Pol := ⟨fun i => none, fun i => none, some [(4, .keep)], [.keep], []⟩
def e_pack_bit : List EK := [.ty (.int .i64), .ty (.int .i64)]
def h_pack_bit : List HK := []
noncomputable def cf_pack_bit : CallF := mkCF [] []
noncomputable def ls_pack_bit (n : Nat) : Loops := fun i =>  none
theorem m_pack_bit (n : Nat) (a0 : Int) (a1 : Int) : runFT Try.prog cf_pack_bit p_pack_bit (ls_pack_bit n) Try.f55 (bodyOf Try.f55) (EK.encs e_pack_bit ((a0, (a1, ())), ()).1) (HK.encs h_pack_bit ((a0, (a1, ())), ()).2) = M_pack_bit n a0 a1 := by kernel_rfl
theorem g_pack_bit (n : Nat) (a0 : Int) (a1 : Int) {r : Res} (h : M_pack_bit n a0 a1 = some r) : runF Try.prog cf_pack_bit n p_pack_bit 55 (EK.encs e_pack_bit ((a0, (a1, ())), ()).1) (HK.encs h_pack_bit ((a0, (a1, ())), ()).2) = some r := by
  have hb : LOk Try.prog cf_pack_bit Try.f55.ntmps 0 n p_pack_bit (ls_pack_bit n) (bodyOf Try.f55) := ⟨trivial, ⟨⟨trivial, ⟨⟨trivial, trivial⟩, trivial⟩⟩, ⟨trivial, trivial⟩⟩⟩
  exact runFT_some Try.prog (c := bodyOf Try.f55) Try.func55 (show Try.f55.body = some (bodyOf Try.f55) from rfl) (show (2 : Nat) ≤ 12 by decide) hb ((m_pack_bit n a0 a1).trans h) rfl (by kernel_rfl)
noncomputable def c_pack_bit : Spec := specQ e_pack_bit h_pack_bit ro_pack_bit rh_pack_bit fun a b => Q_pack_bit a.1 a.2.1
theorem k_pack_bit (hm : Try.prog.follows .mixedOrders = true) : SpecOk Try.prog 55 c_pack_bit := specQ_ok (pol := p_pack_bit) hm (cf := cf_pack_bit) (tab_ok specs_nil) fun a b r h => ⟨FUEL, g_pack_bit FUEL a.1 a.2.1 (decRes_some h)⟩
def s_buf_Buf_Get_r : Sig := ⟨[6, 7], [.ptr 0 0 0, .ty (.int .i64)], [.cell WordT]⟩
def p_buf_Buf_Get : Pol := ⟨fun i => none, fun i => none, some [(6, (.own WordT)), (7, .keep)], [.keep, .keep], []⟩
def e_buf_Buf_Get : List EK := [.nul 0, .ty (.int .i64), .ty (.int .i64)]
def h_buf_Buf_Get : List HK := []
noncomputable def cf_buf_Buf_Get : CallF := mkCF [] []
noncomputable def ls_buf_Buf_Get (n : Nat) : Loops := fun i =>  none
theorem m_buf_Buf_Get (n : Nat) (a0 : Int) (a1 : Int) : runFT Try.prog cf_buf_Buf_Get p_buf_Buf_Get (ls_buf_Buf_Get n) Try.f54 (bodyOf Try.f54) (EK.encs e_buf_Buf_Get (((), (a0, (a1, ()))), ()).1) (HK.encs h_buf_Buf_Get (((), (a0, (a1, ()))), ()).2) = M_buf_Buf_Get n a0 a1 := by kernel_rfl
theorem g_buf_Buf_Get (n : Nat) (a0 : Int) (a1 : Int) {r : Res} (h : M_buf_Buf_Get n a0 a1 = some r) : runF Try.prog cf_buf_Buf_Get n p_buf_Buf_Get 54 (EK.encs e_buf_Buf_Get (((), (a0, (a1, ()))), ()).1) (HK.encs h_buf_Buf_Get (((), (a0, (a1, ()))), ()).2) = some r := by
  have hb : LOk Try.prog cf_buf_Buf_Get Try.f54.ntmps 0 n p_buf_Buf_Get (ls_buf_Buf_Get n) (bodyOf Try.f54) := ⟨trivial, ⟨⟨trivial, ⟨⟨trivial, trivial⟩, trivial⟩⟩, ⟨trivial, ⟨trivial, trivial⟩⟩⟩⟩
  exact runFT_some Try.prog (c := bodyOf Try.f54) Try.func54 (show Try.f54.body = some (bodyOf Try.f54) from rfl) (show (3 : Nat) ≤ 30 by decide) hb ((m_buf_Buf_Get n a0 a1).trans h) rfl (by kernel_rfl)
noncomputable def c_buf_Buf_Get : Spec := specQ e_buf_Buf_Get h_buf_Buf_Get ro_buf_Buf_Get rh_buf_Buf_Get fun a b => Q_buf_Buf_Get a.2.1 a.2.2.1
theorem k_buf_Buf_Get (hm : Try.prog.follows .mixedOrders = true) : SpecOk Try.prog 54 c_buf_Buf_Get := specQ_ok (pol := p_buf_Buf_Get) hm (cf := cf_buf_Buf_Get) (tab_ok specs_nil) fun a b r h => ⟨FUEL, g_buf_Buf_Get FUEL a.2.1 a.2.2.1 (decRes_some h)⟩
def s_buf_Buf_window_r : Sig := ⟨[6, 7], [.hs 1 0, .ty (.int .i64)], [.one false [.hs 1 0], .row (.int .u8)]⟩
def s_buf_Buf_window_r1 : Sig := ⟨[6, 7], [.hv 1, .ty (.int .i64)], [.one false [.hs 1 0], .row (.int .u8)]⟩
def p_buf_Buf_window : Pol := ⟨fun i => none, fun i => none, some [(6, (.own (.int .u8))), (7, .keep)], [(.own (.int .u8)), .keep], []⟩
def e_buf_Buf_window : List EK := [.ptr 0 0 0, .ty (.int .i64), .ty (.int .i64)]
def h_buf_Buf_window : List HK := [.one false [.hs 1 0], .row (.int .u8)]
noncomputable def cf_buf_Buf_window : CallF := mkCF [] []
noncomputable def ls_buf_Buf_window (n : Nat) : Loops := fun i =>  none
theorem m_buf_Buf_window (n : Nat) (a0 : Int) (a1 : Int) (a2 : Nat) (a3 : (List Int)) : runFT Try.prog cf_buf_Buf_window p_buf_Buf_window (ls_buf_Buf_window n) Try.f70 (bodyOf Try.f70) (EK.encs e_buf_Buf_window (((), (a0, (a1, ()))), ((a2, ()), (a3, ()))).1) (HK.encs h_buf_Buf_window (((), (a0, (a1, ()))), ((a2, ()), (a3, ()))).2) = M_buf_Buf_window n a0 a1 a2 a3 := by kernel_rfl
theorem g_buf_Buf_window (n : Nat) (a0 : Int) (a1 : Int) (a2 : Nat) (a3 : (List Int)) {r : Res} (h : M_buf_Buf_window n a0 a1 a2 a3 = some r) : runF Try.prog cf_buf_Buf_window n p_buf_Buf_window 70 (EK.encs e_buf_Buf_window (((), (a0, (a1, ()))), ((a2, ()), (a3, ()))).1) (HK.encs h_buf_Buf_window (((), (a0, (a1, ()))), ((a2, ()), (a3, ()))).2) = some r := by
  have hb : LOk Try.prog cf_buf_Buf_window Try.f70.ntmps 2 n p_buf_Buf_window (ls_buf_Buf_window n) (bodyOf Try.f70) := ⟨trivial, ⟨⟨trivial, ⟨⟨trivial, trivial⟩, trivial⟩⟩, ⟨trivial, ⟨trivial, trivial⟩⟩⟩⟩
  exact runFT_some Try.prog (c := bodyOf Try.f70) Try.func70 (show Try.f70.body = some (bodyOf Try.f70) from rfl) (show (3 : Nat) ≤ 49 by decide) hb ((m_buf_Buf_window n a0 a1 a2 a3).trans h) rfl (by kernel_rfl)
noncomputable def c_buf_Buf_window : Spec := specTr e_buf_Buf_window h_buf_Buf_window fun a b => (altTr ro_buf_Buf_window rh_buf_Buf_window (Q_buf_Buf_window a.2.1 a.2.2.1 b.1.1 b.2.1) (altTr ro_buf_Buf_window_1 rh_buf_Buf_window_1 (Q_buf_Buf_window_1 a.2.1 a.2.2.1 b.1.1 b.2.1) .no))
theorem k_buf_Buf_window (hm : Try.prog.follows .mixedOrders = true) : SpecOk Try.prog 70 c_buf_Buf_window := specTr_ok (pol := p_buf_Buf_window) hm (cf := cf_buf_Buf_window) (tab_ok specs_nil) fun a b r => (fun h => (altTr_val h).elim (fun ⟨x, hx, e⟩ => ⟨FUEL, e ▸ g_buf_Buf_window FUEL a.2.1 a.2.2.1 b.1.1 b.2.1 (decRes_some hx)⟩) (fun h => (altTr_val h).elim (fun ⟨x, hx, e⟩ => ⟨FUEL, e ▸ g_buf_Buf_window FUEL a.2.1 a.2.2.1 b.1.1 b.2.1 (decRes_some hx)⟩) (fun h => by cases h)))
def s_field_may_r : Sig := ⟨[6], [.ty (.int .i64)], []⟩
def p_field_may : Pol := ⟨fun i => none, fun i => none, some [(6, .keep)], [.keep], []⟩
def e_field_may : List EK := [.ty .str, .ty (.int .i64), .ty (.int .i64)]
def h_field_may : List HK := []
noncomputable def cf_field_may : CallF := mkCF [] []
noncomputable def ls_field_may (n : Nat) : Loops := fun i =>  none
theorem m_field_may (n : Nat) (a0 : ByteArray) (a1 : Int) (a2 : Int) : runFT Try.prog cf_field_may p_field_may (ls_field_may n) Try.f86 (bodyOf Try.f86) (EK.encs e_field_may ((a0, (a1, (a2, ()))), ()).1) (HK.encs h_field_may ((a0, (a1, (a2, ()))), ()).2) = M_field_may n a0 a1 a2 := by kernel_rfl
theorem g_field_may (n : Nat) (a0 : ByteArray) (a1 : Int) (a2 : Int) {r : Res} (h : M_field_may n a0 a1 a2 = some r) : runF Try.prog cf_field_may n p_field_may 86 (EK.encs e_field_may ((a0, (a1, (a2, ()))), ()).1) (HK.encs h_field_may ((a0, (a1, (a2, ()))), ()).2) = some r := by
  have hb : LOk Try.prog cf_field_may Try.f86.ntmps 0 n p_field_may (ls_field_may n) (bodyOf Try.f86) := ⟨trivial, ⟨⟨trivial, ⟨⟨trivial, trivial⟩, ⟨trivial, ⟨⟨trivial, trivial⟩, trivial⟩⟩⟩⟩, ⟨trivial, trivial⟩⟩⟩
  exact runFT_some Try.prog (c := bodyOf Try.f86) Try.func86 (show Try.f86.body = some (bodyOf Try.f86) from rfl) (show (3 : Nat) ≤ 26 by decide) hb ((m_field_may n a0 a1 a2).trans h) rfl (by kernel_rfl)
noncomputable def c_field_may : Spec := specQ e_field_may h_field_may ro_field_may rh_field_may fun a b => Q_field_may a.1 a.2.1 a.2.2.1
theorem k_field_may (hm : Try.prog.follows .mixedOrders = true) : SpecOk Try.prog 86 c_field_may := specQ_ok (pol := p_field_may) hm (cf := cf_field_may) (tab_ok specs_nil) fun a b r h => ⟨FUEL, g_field_may FUEL a.1 a.2.1 a.2.2.1 (decRes_some h)⟩
def s_word_Left_r : Sig := ⟨[4], [.ptr 0 0 0], [.cell WordT]⟩
def p_word_Left : Pol := ⟨fun i => none, fun i => none, some [(4, (.own WordT))], [.keep], []⟩
def e_word_Left : List EK := [.agg WordT, .ty (.int .i64)]
def h_word_Left : List HK := []
noncomputable def cf_word_Left : CallF := mkCF [] []
noncomputable def ls_word_Left (n : Nat) : Loops := fun i =>  none
theorem m_word_Left (n : Nat) (a0 : WordS) (a1 : Int) : runFT Try.prog cf_word_Left p_word_Left (ls_word_Left n) Try.f88 (bodyOf Try.f88) (EK.encs e_word_Left ((a0, (a1, ())), ()).1) (HK.encs h_word_Left ((a0, (a1, ())), ()).2) = M_word_Left n a0 a1 := by kernel_rfl
theorem g_word_Left (n : Nat) (a0 : WordS) (a1 : Int) {r : Res} (h : M_word_Left n a0 a1 = some r) : runF Try.prog cf_word_Left n p_word_Left 88 (EK.encs e_word_Left ((a0, (a1, ())), ()).1) (HK.encs h_word_Left ((a0, (a1, ())), ()).2) = some r := by
  have hb : LOk Try.prog cf_word_Left Try.f88.ntmps 0 n p_word_Left (ls_word_Left n) (bodyOf Try.f88) := ⟨trivial, ⟨⟨trivial, ⟨⟨trivial, trivial⟩, ⟨trivial, ⟨⟨trivial, trivial⟩, trivial⟩⟩⟩⟩, ⟨trivial, trivial⟩⟩⟩
  exact runFT_some Try.prog (c := bodyOf Try.f88) Try.func88 (show Try.f88.body = some (bodyOf Try.f88) from rfl) (show (2 : Nat) ≤ 33 by decide) hb ((m_word_Left n a0 a1).trans h) rfl (by kernel_rfl)
noncomputable def c_word_Left : Spec := specQ e_word_Left h_word_Left ro_word_Left rh_word_Left fun a b => Q_word_Left a.1 a.2.1
theorem k_word_Left (hm : Try.prog.follows .mixedOrders = true) : SpecOk Try.prog 88 c_word_Left := specQ_ok (pol := p_word_Left) hm (cf := cf_word_Left) (tab_ok specs_nil) fun a b r h => ⟨FUEL, g_word_Left FUEL a.1 a.2.1 (decRes_some h)⟩
def s_word_New_r : Sig := ⟨[2], [.ptr 0 0 0], [.cell WordT]⟩
def p_word_New : Pol := ⟨fun i => none, fun i => none, some [(2, (.own WordT))], [.keep], []⟩
def e_word_New : List EK := [.ty (.int .u64)]
def h_word_New : List HK := []
noncomputable def cf_word_New : CallF := mkCF [] []
noncomputable def ls_word_New (n : Nat) : Loops := fun i =>  none
theorem m_word_New (n : Nat) (a0 : Int) : runFT Try.prog cf_word_New p_word_New (ls_word_New n) Try.f89 (bodyOf Try.f89) (EK.encs e_word_New ((a0, ()), ()).1) (HK.encs h_word_New ((a0, ()), ()).2) = M_word_New n a0 := by kernel_rfl
theorem g_word_New (n : Nat) (a0 : Int) {r : Res} (h : M_word_New n a0 = some r) : runF Try.prog cf_word_New n p_word_New 89 (EK.encs e_word_New ((a0, ()), ()).1) (HK.encs h_word_New ((a0, ()), ()).2) = some r := by
  have hb : LOk Try.prog cf_word_New Try.f89.ntmps 0 n p_word_New (ls_word_New n) (bodyOf Try.f89) := ⟨trivial, ⟨trivial, trivial⟩⟩
  exact runFT_some Try.prog (c := bodyOf Try.f89) Try.func89 (show Try.f89.body = some (bodyOf Try.f89) from rfl) (show (1 : Nat) ≤ 5 by decide) hb ((m_word_New n a0).trans h) rfl (by kernel_rfl)
noncomputable def c_word_New : Spec := specQ e_word_New h_word_New ro_word_New rh_word_New fun a b => Q_word_New a.1
theorem k_word_New (hm : Try.prog.follows .mixedOrders = true) : SpecOk Try.prog 89 c_word_New := specQ_ok (pol := p_word_New) hm (cf := cf_word_New) (tab_ok specs_nil) fun a b r h => ⟨FUEL, g_word_New FUEL a.1 (decRes_some h)⟩
def s_word_Or_r : Sig := ⟨[4], [.ptr 0 0 0], [.cell WordT]⟩
def p_word_Or : Pol := ⟨fun i => none, fun i => none, some [(4, (.own WordT))], [.keep], []⟩
def e_word_Or : List EK := [.agg WordT, .agg WordT]
def h_word_Or : List HK := []
noncomputable def cf_word_Or : CallF := mkCF [] []
noncomputable def ls_word_Or (n : Nat) : Loops := fun i =>  none
theorem m_word_Or (n : Nat) (a0 : WordS) (a1 : WordS) : runFT Try.prog cf_word_Or p_word_Or (ls_word_Or n) Try.f87 (bodyOf Try.f87) (EK.encs e_word_Or ((a0, (a1, ())), ()).1) (HK.encs h_word_Or ((a0, (a1, ())), ()).2) = M_word_Or n a0 a1 := by kernel_rfl
theorem g_word_Or (n : Nat) (a0 : WordS) (a1 : WordS) {r : Res} (h : M_word_Or n a0 a1 = some r) : runF Try.prog cf_word_Or n p_word_Or 87 (EK.encs e_word_Or ((a0, (a1, ())), ()).1) (HK.encs h_word_Or ((a0, (a1, ())), ()).2) = some r := by
  have hb : LOk Try.prog cf_word_Or Try.f87.ntmps 0 n p_word_Or (ls_word_Or n) (bodyOf Try.f87) := ⟨trivial, ⟨trivial, trivial⟩⟩
  exact runFT_some Try.prog (c := bodyOf Try.f87) Try.func87 (show Try.f87.body = some (bodyOf Try.f87) from rfl) (show (2 : Nat) ≤ 16 by decide) hb ((m_word_Or n a0 a1).trans h) rfl (by kernel_rfl)
noncomputable def c_word_Or : Spec := specQ e_word_Or h_word_Or ro_word_Or rh_word_Or fun a b => Q_word_Or a.1 a.2.1
theorem k_word_Or (hm : Try.prog.follows .mixedOrders = true) : SpecOk Try.prog 87 c_word_Or := specQ_ok (pol := p_word_Or) hm (cf := cf_word_Or) (tab_ok specs_nil) fun a b r h => ⟨FUEL, g_word_Or FUEL a.1 a.2.1 (decRes_some h)⟩
def s_word_Not_r : Sig := ⟨[2], [.ptr 0 0 0], [.cell WordT]⟩
def p_word_Not : Pol := ⟨fun i => none, fun i => none, some [(2, (.own WordT))], [.keep], []⟩
def e_word_Not : List EK := [.agg WordT]
def h_word_Not : List HK := []
noncomputable def cf_word_Not : CallF := mkCF [] []
noncomputable def ls_word_Not (n : Nat) : Loops := fun i =>  none
theorem m_word_Not (n : Nat) (a0 : WordS) : runFT Try.prog cf_word_Not p_word_Not (ls_word_Not n) Try.f90 (bodyOf Try.f90) (EK.encs e_word_Not ((a0, ()), ()).1) (HK.encs h_word_Not ((a0, ()), ()).2) = M_word_Not n a0 := by kernel_rfl
theorem g_word_Not (n : Nat) (a0 : WordS) {r : Res} (h : M_word_Not n a0 = some r) : runF Try.prog cf_word_Not n p_word_Not 90 (EK.encs e_word_Not ((a0, ()), ()).1) (HK.encs h_word_Not ((a0, ()), ()).2) = some r := by
  have hb : LOk Try.prog cf_word_Not Try.f90.ntmps 0 n p_word_Not (ls_word_Not n) (bodyOf Try.f90) := ⟨trivial, ⟨trivial, trivial⟩⟩
  exact runFT_some Try.prog (c := bodyOf Try.f90) Try.func90 (show Try.f90.body = some (bodyOf Try.f90) from rfl) (show (1 : Nat) ≤ 10 by decide) hb ((m_word_Not n a0).trans h) rfl (by kernel_rfl)
noncomputable def c_word_Not : Spec := specQ e_word_Not h_word_Not ro_word_Not rh_word_Not fun a b => Q_word_Not a.1
theorem k_word_Not (hm : Try.prog.follows .mixedOrders = true) : SpecOk Try.prog 90 c_word_Not := specQ_ok (pol := p_word_Not) hm (cf := cf_word_Not) (tab_ok specs_nil) fun a b r h => ⟨FUEL, g_word_Not FUEL a.1 (decRes_some h)⟩
def s_word_Right_r : Sig := ⟨[4], [.ptr 0 0 0], [.cell WordT]⟩
def p_word_Right : Pol := ⟨fun i => none, fun i => none, some [(4, (.own WordT))], [.keep], []⟩
def e_word_Right : List EK := [.agg WordT, .ty (.int .i64)]
def h_word_Right : List HK := []
noncomputable def cf_word_Right : CallF := mkCF [] []
noncomputable def ls_word_Right (n : Nat) : Loops := fun i =>  none
theorem m_word_Right (n : Nat) (a0 : WordS) (a1 : Int) : runFT Try.prog cf_word_Right p_word_Right (ls_word_Right n) Try.f72 (bodyOf Try.f72) (EK.encs e_word_Right ((a0, (a1, ())), ()).1) (HK.encs h_word_Right ((a0, (a1, ())), ()).2) = M_word_Right n a0 a1 := by kernel_rfl
theorem g_word_Right (n : Nat) (a0 : WordS) (a1 : Int) {r : Res} (h : M_word_Right n a0 a1 = some r) : runF Try.prog cf_word_Right n p_word_Right 72 (EK.encs e_word_Right ((a0, (a1, ())), ()).1) (HK.encs h_word_Right ((a0, (a1, ())), ()).2) = some r := by
  have hb : LOk Try.prog cf_word_Right Try.f72.ntmps 0 n p_word_Right (ls_word_Right n) (bodyOf Try.f72) := ⟨trivial, ⟨⟨trivial, ⟨⟨trivial, trivial⟩, ⟨trivial, ⟨⟨trivial, trivial⟩, trivial⟩⟩⟩⟩, ⟨trivial, trivial⟩⟩⟩
  exact runFT_some Try.prog (c := bodyOf Try.f72) Try.func72 (show Try.f72.body = some (bodyOf Try.f72) from rfl) (show (2 : Nat) ≤ 33 by decide) hb ((m_word_Right n a0 a1).trans h) rfl (by kernel_rfl)
noncomputable def c_word_Right : Spec := specQ e_word_Right h_word_Right ro_word_Right rh_word_Right fun a b => Q_word_Right a.1 a.2.1
theorem k_word_Right (hm : Try.prog.follows .mixedOrders = true) : SpecOk Try.prog 72 c_word_Right := specQ_ok (pol := p_word_Right) hm (cf := cf_word_Right) (tab_ok specs_nil) fun a b r h => ⟨FUEL, g_word_Right FUEL a.1 a.2.1 (decRes_some h)⟩
def s_word_Mask_r : Sig := ⟨[2], [.ptr 0 0 0], [.cell WordT]⟩
def p_word_Mask : Pol := ⟨fun i => none, fun i => none, some [(2, (.own WordT))], [.keep], []⟩
def e_word_Mask : List EK := [.ty (.int .i64)]
def h_word_Mask : List HK := []
noncomputable def cf_word_Mask : CallF := mkCF [(90, c_word_Not), (72, c_word_Right)] [(90, [WordT]), (72, [WordT, (.int .i64)])]
noncomputable def ls_word_Mask (n : Nat) : Loops := fun i =>  none
theorem m_word_Mask (n : Nat) (a0 : Int) : runFT Try.prog cf_word_Mask p_word_Mask (ls_word_Mask n) Try.f74 (bodyOf Try.f74) (EK.encs e_word_Mask ((a0, ()), ()).1) (HK.encs h_word_Mask ((a0, ()), ()).2) = M_word_Mask n a0 := by kernel_rfl
theorem g_word_Mask (n : Nat) (a0 : Int) {r : Res} (h : M_word_Mask n a0 = some r) : runF Try.prog cf_word_Mask n p_word_Mask 74 (EK.encs e_word_Mask ((a0, ()), ()).1) (HK.encs h_word_Mask ((a0, ()), ()).2) = some r := by
  have hb : LOk Try.prog cf_word_Mask Try.f74.ntmps 0 n p_word_Mask (ls_word_Mask n) (bodyOf Try.f74) := ⟨trivial, ⟨trivial, trivial⟩⟩
  exact runFT_some Try.prog (c := bodyOf Try.f74) Try.func74 (show Try.f74.body = some (bodyOf Try.f74) from rfl) (show (1 : Nat) ≤ 10 by decide) hb ((m_word_Mask n a0).trans h) rfl (by kernel_rfl)
noncomputable def c_word_Mask : Spec := specQ e_word_Mask h_word_Mask ro_word_Mask rh_word_Mask fun a b => Q_word_Mask a.1
theorem k_word_Mask (hm : Try.prog.follows .mixedOrders = true) : SpecOk Try.prog 74 c_word_Mask := specQ_ok (pol := p_word_Mask) hm (cf := cf_word_Mask) (tab_ok (specs_cons (k_word_Not hm) (specs_cons (k_word_Right hm) specs_nil))) fun a b r h => ⟨FUEL, g_word_Mask FUEL a.1 (decRes_some h)⟩
def s_word_And_r : Sig := ⟨[4], [.ptr 0 0 0], [.cell WordT]⟩
def p_word_And : Pol := ⟨fun i => none, fun i => none, some [(4, (.own WordT))], [.keep], []⟩
def e_word_And : List EK := [.agg WordT, .agg WordT]
def h_word_And : List HK := []
noncomputable def cf_word_And : CallF := mkCF [] []
noncomputable def ls_word_And (n : Nat) : Loops := fun i =>  none
theorem m_word_And (n : Nat) (a0 : WordS) (a1 : WordS) : runFT Try.prog cf_word_And p_word_And (ls_word_And n) Try.f73 (bodyOf Try.f73) (EK.encs e_word_And ((a0, (a1, ())), ()).1) (HK.encs h_word_And ((a0, (a1, ())), ()).2) = M_word_And n a0 a1 := by kernel_rfl
theorem g_word_And (n : Nat) (a0 : WordS) (a1 : WordS) {r : Res} (h : M_word_And n a0 a1 = some r) : runF Try.prog cf_word_And n p_word_And 73 (EK.encs e_word_And ((a0, (a1, ())), ()).1) (HK.encs h_word_And ((a0, (a1, ())), ()).2) = some r := by
  have hb : LOk Try.prog cf_word_And Try.f73.ntmps 0 n p_word_And (ls_word_And n) (bodyOf Try.f73) := ⟨trivial, ⟨trivial, trivial⟩⟩
  exact runFT_some Try.prog (c := bodyOf Try.f73) Try.func73 (show Try.f73.body = some (bodyOf Try.f73) from rfl) (show (2 : Nat) ≤ 16 by decide) hb ((m_word_And n a0 a1).trans h) rfl (by kernel_rfl)
noncomputable def c_word_And : Spec := specQ e_word_And h_word_And ro_word_And rh_word_And fun a b => Q_word_And a.1 a.2.1
theorem k_word_And (hm : Try.prog.follows .mixedOrders = true) : SpecOk Try.prog 73 c_word_And := specQ_ok (pol := p_word_And) hm (cf := cf_word_And) (tab_ok specs_nil) fun a b r h => ⟨FUEL, g_word_And FUEL a.1 a.2.1 (decRes_some h)⟩
def s_word_Cut_r : Sig := ⟨[4], [.ptr 0 0 0], [.cell WordT]⟩
def p_word_Cut : Pol := ⟨fun i => none, fun i => none, some [(4, (.own WordT))], [.keep], []⟩
def e_word_Cut : List EK := [.agg WordT, .ty (.int .i64)]
def h_word_Cut : List HK := []
noncomputable def cf_word_Cut : CallF := mkCF [(74, c_word_Mask), (73, c_word_And)] [(74, [(.int .i64)]), (73, [WordT, WordT])]
noncomputable def ls_word_Cut (n : Nat) : Loops := fun i =>  none
theorem m_word_Cut (n : Nat) (a0 : WordS) (a1 : Int) : runFT Try.prog cf_word_Cut p_word_Cut (ls_word_Cut n) Try.f57 (bodyOf Try.f57) (EK.encs e_word_Cut ((a0, (a1, ())), ()).1) (HK.encs h_word_Cut ((a0, (a1, ())), ()).2) = M_word_Cut n a0 a1 := by kernel_rfl
theorem g_word_Cut (n : Nat) (a0 : WordS) (a1 : Int) {r : Res} (h : M_word_Cut n a0 a1 = some r) : runF Try.prog cf_word_Cut n p_word_Cut 57 (EK.encs e_word_Cut ((a0, (a1, ())), ()).1) (HK.encs h_word_Cut ((a0, (a1, ())), ()).2) = some r := by
  have hb : LOk Try.prog cf_word_Cut Try.f57.ntmps 0 n p_word_Cut (ls_word_Cut n) (bodyOf Try.f57) := ⟨trivial, ⟨trivial, trivial⟩⟩
  exact runFT_some Try.prog (c := bodyOf Try.f57) Try.func57 (show Try.f57.body = some (bodyOf Try.f57) from rfl) (show (2 : Nat) ≤ 9 by decide) hb ((m_word_Cut n a0 a1).trans h) rfl (by kernel_rfl)
noncomputable def c_word_Cut : Spec := specQ e_word_Cut h_word_Cut ro_word_Cut rh_word_Cut fun a b => Q_word_Cut a.1 a.2.1
theorem k_word_Cut (hm : Try.prog.follows .mixedOrders = true) : SpecOk Try.prog 57 c_word_Cut := specQ_ok (pol := p_word_Cut) hm (cf := cf_word_Cut) (tab_ok (specs_cons (k_word_Mask hm) (specs_cons (k_word_And hm) specs_nil))) fun a b r h => ⟨FUEL, g_word_Cut FUEL a.1 a.2.1 (decRes_some h)⟩
def s_field_Get_r : Sig := ⟨[6, 7], [.ptr 0 0 0, .ty (.int .i64)], [.cell WordT]⟩
def s_field_Get_h0 : Sig := ⟨[0, 1, 2, 6, 9, 10, 11, 33, 34], [.ty .str, .ty (.int .i64), .ty (.int .i64), .ptr 0 0 0, .ty (.int .i64), .ty (.int .i64), .ptr 1 0 0, .ty (.int .i64), .ty (.int .i64)], [.cell WordT, .cell WordT]⟩
def s_field_Get_t0 : Sig := ⟨[0, 1, 2, 6, 10, 11], [.ty .str, .ty (.int .i64), .ty (.int .i64), .ptr 0 0 0, .ty (.int .i64), .ptr 1 0 0], [.cell WordT, .cell WordT]⟩
def p_field_Get : Pol := ⟨fun i => if i = 0 then some [(0, .keep), (1, .keep), (2, .keep), (6, (.own WordT)), (9, .keep), (10, .keep), (11, (.own WordT)), (33, .keep), (34, .keep)] else none, fun i => if i = 0 then some [(0, .keep), (1, .keep), (2, .keep), (6, (.own WordT)), (10, .keep), (11, (.own WordT))] else none, some [(6, (.own WordT)), (7, .keep)], [.keep, .keep], []⟩
def e_field_Get : List EK := [.ty .str, .ty (.int .i64), .ty (.int .i64)]
def h_field_Get : List HK := []
noncomputable def cf_field_Get : CallF := mkCF [(86, c_field_may), (88, c_word_Left), (89, c_word_New), (87, c_word_Or), (57, c_word_Cut)] [(86, [.str, (.int .i64), (.int .i64)]), (88, [WordT, (.int .i64)]), (89, [(.int .u64)]), (87, [WordT, WordT]), (57, [WordT, (.int .i64)])]
noncomputable def ls_field_Get (n : Nat) : Loops := fun i => if i = 0 then some (loopT 0 (p_field_Get.head 0) s_field_Get_h0 fun K v => L_field_Get_0 n (fun z5 => K (.ex 0) (s_field_Get_t0.enc ((v.1.1, (v.1.2.1, (v.1.2.2.1, ((), (v.1.2.2.2.2.2.1, ((), ())))))), (v.2.1, (z5, ()))))) v.1.1 v.1.2.1 v.1.2.2.1 v.1.2.2.2.2.1 v.1.2.2.2.2.2.1 v.1.2.2.2.2.2.2.2.1 v.2.1 n v.1.2.2.2.2.2.2.2.2.1 v.2.2.1)
  else  none
noncomputable def b_field_Get_0 : Code := partOf (bodyOf Try.f71) [1, 1, 1, 1, 0, 1, 0, 0]
theorem t_field_Get_0 (n : Nat) (K : Cont) (rec : Sig.sem s_field_Get_h0 → Option Res) (v : Sig.sem s_field_Get_h0) : runT Try.prog cf_field_Get Try.f71.ntmps 0 p_field_Get (ls_field_Get n) b_field_Get_0 (s_field_Get_h0.enc v) (turnK 0 (p_field_Get.head 0) s_field_Get_h0 rec K) = F_field_Get_0 n (fun z5 => K (.ex 0) (s_field_Get_t0.enc ((v.1.1, (v.1.2.1, (v.1.2.2.1, ((), (v.1.2.2.2.2.2.1, ((), ())))))), (v.2.1, (z5, ()))))) v.1.1 v.1.2.1 v.1.2.2.1 v.1.2.2.2.2.1 v.1.2.2.2.2.2.1 v.1.2.2.2.2.2.2.2.1 v.2.1 (fun z6 z8 => rec ((v.1.1, (v.1.2.1, (v.1.2.2.1, ((), (v.1.2.2.2.2.1, (v.1.2.2.2.2.2.1, ((), (v.1.2.2.2.2.2.2.2.1, (z6, ()))))))))), (v.2.1, (z8, ())))) v.1.2.2.2.2.2.2.2.2.1 v.2.2.1 := by kernel_rfl
noncomputable def V_field_Get_0 (n : Nat) (K : Cont) (rec : Sig.sem s_field_Get_h0 → Option Res) (v : Sig.sem s_field_Get_h0) : Option Res := F_field_Get_0 n (fun z5 => K (.ex 0) (s_field_Get_t0.enc ((v.1.1, (v.1.2.1, (v.1.2.2.1, ((), (v.1.2.2.2.2.2.1, ((), ())))))), (v.2.1, (z5, ()))))) v.1.1 v.1.2.1 v.1.2.2.1 v.1.2.2.2.2.1 v.1.2.2.2.2.2.1 v.1.2.2.2.2.2.2.2.1 v.2.1 (fun z6 z8 => rec ((v.1.1, (v.1.2.1, (v.1.2.2.1, ((), (v.1.2.2.2.2.1, (v.1.2.2.2.2.2.1, ((), (v.1.2.2.2.2.2.2.2.1, (z6, ()))))))))), (v.2.1, (z8, ())))) v.1.2.2.2.2.2.2.2.2.1 v.2.2.1
noncomputable def W_field_Get_0 (n : Nat) (K : Cont) (m : Nat) (v : Sig.sem s_field_Get_h0) : Option Res := L_field_Get_0 n (fun z5 => K (.ex 0) (s_field_Get_t0.enc ((v.1.1, (v.1.2.1, (v.1.2.2.1, ((), (v.1.2.2.2.2.2.1, ((), ())))))), (v.2.1, (z5, ()))))) v.1.1 v.1.2.1 v.1.2.2.1 v.1.2.2.2.2.1 v.1.2.2.2.2.2.1 v.1.2.2.2.2.2.2.2.1 v.2.1 m v.1.2.2.2.2.2.2.2.2.1 v.2.2.1
theorem i_field_Get_0 (n : Nat) (K : Cont) : ∀ m v, iter (V_field_Get_0 n K) m v = W_field_Get_0 n K m v := by
  intro m
  induction m with
  | zero => intro v; rfl
  | succ m ih =>
    intro v
    show V_field_Get_0 n K (iter (V_field_Get_0 n K) m) v = V_field_Get_0 n K (W_field_Get_0 n K m) v
    rw [show iter (V_field_Get_0 n K) m = W_field_Get_0 n K m from funext ih]
theorem o_field_Get_0 (n : Nat) : ∀ L, ls_field_Get n 0 = some L → ∀ s K r, L s K = some r → ∃ x s', loopN (run Try.prog cf_field_Get Try.f71.ntmps 0 n p_field_Get none b_field_Get_0) (gc 0 (p_field_Get.head 0)) n s = some (x, s') ∧ K x s' = some r := by
  intro L hL s K r h
  have hL : some (loopT 0 (p_field_Get.head 0) s_field_Get_h0 fun K v => W_field_Get_0 n K n v) = some L := hL
  cases hL
  have hb : LOk Try.prog cf_field_Get Try.f71.ntmps 0 n p_field_Get (ls_field_Get n) b_field_Get_0 := ⟨trivial, ⟨⟨trivial, trivial⟩, ⟨⟨trivial, trivial⟩, trivial⟩⟩⟩
  refine loopT_ok hb (V_field_Get_0 n) (t_field_Get_0 n) n s K r ?_
  rw [← h]
  unfold loopT
  simp only [i_field_Get_0]
theorem m_field_Get (n : Nat) (a0 : ByteArray) (a1 : Int) (a2 : Int) : runFT Try.prog cf_field_Get p_field_Get (ls_field_Get n) Try.f71 (bodyOf Try.f71) (EK.encs e_field_Get ((a0, (a1, (a2, ()))), ()).1) (HK.encs h_field_Get ((a0, (a1, (a2, ()))), ()).2) = M_field_Get n a0 a1 a2 := by kernel_rfl
theorem g_field_Get (n : Nat) (a0 : ByteArray) (a1 : Int) (a2 : Int) {r : Res} (h : M_field_Get n a0 a1 a2 = some r) : runF Try.prog cf_field_Get n p_field_Get 71 (EK.encs e_field_Get ((a0, (a1, (a2, ()))), ()).1) (HK.encs h_field_Get ((a0, (a1, (a2, ()))), ()).2) = some r := by
  have hb : LOk Try.prog cf_field_Get Try.f71.ntmps 0 n p_field_Get (ls_field_Get n) (bodyOf Try.f71) := ⟨trivial, ⟨⟨trivial, ⟨trivial, ⟨⟨trivial, trivial⟩, trivial⟩⟩⟩, ⟨trivial, ⟨trivial, ⟨⟨trivial, (o_field_Get_0 n)⟩, ⟨trivial, ⟨trivial, ⟨trivial, trivial⟩⟩⟩⟩⟩⟩⟩⟩
  exact runFT_some Try.prog (c := bodyOf Try.f71) Try.func71 (show Try.f71.body = some (bodyOf Try.f71) from rfl) (show (3 : Nat) ≤ 70 by decide) hb ((m_field_Get n a0 a1 a2).trans h) rfl (by kernel_rfl)
noncomputable def c_field_Get : Spec := specQ e_field_Get h_field_Get ro_field_Get rh_field_Get fun a b => Q_field_Get a.1 a.2.1 a.2.2.1
theorem k_field_Get (hm : Try.prog.follows .mixedOrders = true) : SpecOk Try.prog 71 c_field_Get := specQ_ok (pol := p_field_Get) hm (cf := cf_field_Get) (tab_ok (specs_cons (k_field_may hm) (specs_cons (k_word_Left hm) (specs_cons (k_word_New hm) (specs_cons (k_word_Or hm) (specs_cons (k_word_Cut hm) specs_nil)))))) fun a b r h => ⟨FUEL, g_field_Get FUEL a.1 a.2.1 a.2.2.1 (decRes_some h)⟩
def s_buf_Buf_Getv2_r : Sig := ⟨[6, 7], [.ptr 2 0 0, .ty (.int .i64)], [.one false [.hs 1 0], .row (.int .u8), .cell WordT]⟩
def p_buf_Buf_Getv2 : Pol := ⟨fun i => none, fun i => none, some [(6, (.own WordT)), (7, .keep)], [.keep, .keep], []⟩
def e_buf_Buf_Getv2 : List EK := [.ptr 0 0 0, .ty (.int .i64), .ty (.int .i64)]
def h_buf_Buf_Getv2 : List HK := [.one false [.hs 1 0], .row (.int .u8)]
noncomputable def cf_buf_Buf_Getv2 : CallF := mkCF [(70, c_buf_Buf_window), (71, c_field_Get)] [(71, [.str, (.int .i64), (.int .i64)])]
noncomputable def ls_buf_Buf_Getv2 (n : Nat) : Loops := fun i =>  none
theorem m_buf_Buf_Getv2 (n : Nat) (a0 : Int) (a1 : Int) (a2 : Nat) (a3 : (List Int)) : runFT Try.prog cf_buf_Buf_Getv2 p_buf_Buf_Getv2 (ls_buf_Buf_Getv2 n) Try.f54 (bodyOf Try.f54) (EK.encs e_buf_Buf_Getv2 (((), (a0, (a1, ()))), ((a2, ()), (a3, ()))).1) (HK.encs h_buf_Buf_Getv2 (((), (a0, (a1, ()))), ((a2, ()), (a3, ()))).2) = M_buf_Buf_Getv2 n a0 a1 a2 a3 := by kernel_rfl
theorem g_buf_Buf_Getv2 (n : Nat) (a0 : Int) (a1 : Int) (a2 : Nat) (a3 : (List Int)) {r : Res} (h : M_buf_Buf_Getv2 n a0 a1 a2 a3 = some r) : runF Try.prog cf_buf_Buf_Getv2 n p_buf_Buf_Getv2 54 (EK.encs e_buf_Buf_Getv2 (((), (a0, (a1, ()))), ((a2, ()), (a3, ()))).1) (HK.encs h_buf_Buf_Getv2 (((), (a0, (a1, ()))), ((a2, ()), (a3, ()))).2) = some r := by
  have hb : LOk Try.prog cf_buf_Buf_Getv2 Try.f54.ntmps 2 n p_buf_Buf_Getv2 (ls_buf_Buf_Getv2 n) (bodyOf Try.f54) := ⟨trivial, ⟨⟨trivial, ⟨⟨trivial, trivial⟩, trivial⟩⟩, ⟨trivial, ⟨trivial, trivial⟩⟩⟩⟩
  exact runFT_some Try.prog (c := bodyOf Try.f54) Try.func54 (show Try.f54.body = some (bodyOf Try.f54) from rfl) (show (3 : Nat) ≤ 30 by decide) hb ((m_buf_Buf_Getv2 n a0 a1 a2 a3).trans h) rfl (by kernel_rfl)
noncomputable def c_buf_Buf_Getv2 : Spec := specQ e_buf_Buf_Getv2 h_buf_Buf_Getv2 ro_buf_Buf_Getv2 rh_buf_Buf_Getv2 fun a b => Q_buf_Buf_Getv2 a.2.1 a.2.2.1 b.1.1 b.2.1
theorem k_buf_Buf_Getv2 (hm : Try.prog.follows .mixedOrders = true) : SpecOk Try.prog 54 c_buf_Buf_Getv2 := specQ_ok (pol := p_buf_Buf_Getv2) hm (cf := cf_buf_Buf_Getv2) (tab_ok (specs_cons (k_buf_Buf_window hm) (specs_cons (k_field_Get hm) specs_nil))) fun a b r h => ⟨FUEL, g_buf_Buf_Getv2 FUEL a.2.1 a.2.2.1 b.1.1 b.2.1 (decRes_some h)⟩
def s_pack_Packet_Get_r : Sig := ⟨[4, 5], [.ptr 5 0 0, .ty (.int .i64)], [.one false [.ptr 1 0 0, .nul 4, .ptr 3 0 0, .ty (.int .i64)], .one false [.hs 2 0], .row (.int .u8), .one false [.hs 4 0], .row (.int .u8), .cell WordT]⟩
def p_pack_Packet_Get : Pol := ⟨fun i => none, fun i => none, some [(4, (.own WordT)), (5, .keep)], [.keep, .keep], []⟩
def e_pack_Packet_Get : List EK := [.ptr 0 0 0, .agg FieldT]
def h_pack_Packet_Get : List HK := [.one false [.ptr 1 0 0, .nul 4, .ptr 3 0 0, .ty (.int .i64)], .one false [.hs 2 0], .row (.int .u8), .one false [.hs 4 0], .row (.int .u8)]
noncomputable def cf_pack_Packet_Get : CallF := mkCF [(53, c_pack_Packet_place), (55, c_pack_bit), (54, (orSpec c_buf_Buf_Get c_buf_Buf_Getv2))] [(55, [(.int .i64), (.int .i64)])]
noncomputable def ls_pack_Packet_Get (n : Nat) : Loops := fun i =>  none
theorem m_pack_Packet_Get (n : Nat) (a0 : FieldS) (a1 : Int) (a2 : Nat) (a3 : (List Int)) (a4 : Nat) (a5 : (List Int)) : runFT Try.prog cf_pack_Packet_Get p_pack_Packet_Get (ls_pack_Packet_Get n) Try.f31 (bodyOf Try.f31) (EK.encs e_pack_Packet_Get (((), (a0, ())), (((), ((), ((), (a1, ())))), ((a2, ()), (a3, ((a4, ()), (a5, ())))))).1) (HK.encs h_pack_Packet_Get (((), (a0, ())), (((), ((), ((), (a1, ())))), ((a2, ()), (a3, ((a4, ()), (a5, ())))))).2) = M_pack_Packet_Get n a0 a1 a2 a3 a4 a5 := by kernel_rfl
theorem g_pack_Packet_Get (n : Nat) (a0 : FieldS) (a1 : Int) (a2 : Nat) (a3 : (List Int)) (a4 : Nat) (a5 : (List Int)) {r : Res} (h : M_pack_Packet_Get n a0 a1 a2 a3 a4 a5 = some r) : runF Try.prog cf_pack_Packet_Get n p_pack_Packet_Get 31 (EK.encs e_pack_Packet_Get (((), (a0, ())), (((), ((), ((), (a1, ())))), ((a2, ()), (a3, ((a4, ()), (a5, ())))))).1) (HK.encs h_pack_Packet_Get (((), (a0, ())), (((), ((), ((), (a1, ())))), ((a2, ()), (a3, ((a4, ()), (a5, ())))))).2) = some r := by
  have hb : LOk Try.prog cf_pack_Packet_Get Try.f31.ntmps 5 n p_pack_Packet_Get (ls_pack_Packet_Get n) (bodyOf Try.f31) := ⟨trivial, ⟨trivial, ⟨⟨trivial, ⟨⟨trivial, trivial⟩, trivial⟩⟩, ⟨trivial, ⟨⟨trivial, ⟨⟨trivial, trivial⟩, trivial⟩⟩, ⟨trivial, trivial⟩⟩⟩⟩⟩⟩
  exact runFT_some Try.prog (c := bodyOf Try.f31) Try.func31 (show Try.f31.body = some (bodyOf Try.f31) from rfl) (show (2 : Nat) ≤ 37 by decide) hb ((m_pack_Packet_Get n a0 a1 a2 a3 a4 a5).trans h) rfl (by kernel_rfl)
noncomputable def c_pack_Packet_Get : Spec := specQ e_pack_Packet_Get h_pack_Packet_Get ro_pack_Packet_Get rh_pack_Packet_Get fun a b => Q_pack_Packet_Get a.2.1 b.1.2.2.2.1 b.2.1.1 b.2.2.1 b.2.2.2.1.1 b.2.2.2.2.1
theorem k_pack_Packet_Get (hm : Try.prog.follows .mixedOrders = true) : SpecOk Try.prog 31 c_pack_Packet_Get := specQ_ok (pol := p_pack_Packet_Get) hm (cf := cf_pack_Packet_Get) (tab_ok (specs_cons (k_pack_Packet_place hm) (specs_cons (k_pack_bit hm) (specs_cons (orSpec_ok (k_buf_Buf_Get hm) (k_buf_Buf_Getv2 hm)) specs_nil)))) fun a b r h => ⟨FUEL, g_pack_Packet_Get FUEL a.2.1 b.1.2.2.2.1 b.2.1.1 b.2.2.1 b.2.2.2.1.1 b.2.2.2.2.1 (decRes_some h)⟩
def s_field_Bytes_r : Sig := ⟨[2], [.ty (.int .i64)], []⟩
def p_field_Bytes : Pol := ⟨fun i => none, fun i => none, some [(2, .keep)], [.keep], []⟩
def e_field_Bytes : List EK := [.ty (.int .i64)]
def h_field_Bytes : List HK := []
noncomputable def cf_field_Bytes : CallF := mkCF [] []
noncomputable def ls_field_Bytes (n : Nat) : Loops := fun i =>  none
theorem m_field_Bytes (n : Nat) (a0 : Int) : runFT Try.prog cf_field_Bytes p_field_Bytes (ls_field_Bytes n) Try.f43 (bodyOf Try.f43) (EK.encs e_field_Bytes ((a0, ()), ()).1) (HK.encs h_field_Bytes ((a0, ()), ()).2) = M_field_Bytes n a0 := by kernel_rfl
theorem g_field_Bytes (n : Nat) (a0 : Int) {r : Res} (h : M_field_Bytes n a0 = some r) : runF Try.prog cf_field_Bytes n p_field_Bytes 43 (EK.encs e_field_Bytes ((a0, ()), ()).1) (HK.encs h_field_Bytes ((a0, ()), ()).2) = some r := by
  have hb : LOk Try.prog cf_field_Bytes Try.f43.ntmps 0 n p_field_Bytes (ls_field_Bytes n) (bodyOf Try.f43) := ⟨trivial, ⟨⟨trivial, ⟨⟨trivial, trivial⟩, trivial⟩⟩, ⟨trivial, trivial⟩⟩⟩
  exact runFT_some Try.prog (c := bodyOf Try.f43) Try.func43 (show Try.f43.body = some (bodyOf Try.f43) from rfl) (show (1 : Nat) ≤ 13 by decide) hb ((m_field_Bytes n a0).trans h) rfl (by kernel_rfl)
noncomputable def c_field_Bytes : Spec := specQ e_field_Bytes h_field_Bytes ro_field_Bytes rh_field_Bytes fun a b => Q_field_Bytes a.1
theorem k_field_Bytes (hm : Try.prog.follows .mixedOrders = true) : SpecOk Try.prog 43 c_field_Bytes := specQ_ok (pol := p_field_Bytes) hm (cf := cf_field_Bytes) (tab_ok specs_nil) fun a b r h => ⟨FUEL, g_field_Bytes FUEL a.1 (decRes_some h)⟩
def s_word_Text_h0 : Sig := ⟨[1, 3, 5], [.ptr 0 0 0, .ptr 1 0 0, .ty (.int .i64)], [.cell WordT, .row (.int .u8)]⟩
def s_word_Text_t0 : Sig := ⟨[3], [.ptr 0 0 0], [.row (.int .u8)]⟩
def s_word_Text_r : Sig := ⟨[2], [.ty .str], []⟩
def p_word_Text : Pol := ⟨fun i => if i = 0 then some [(1, (.own WordT)), (3, (.own (.int .u8))), (5, .keep)] else none, fun i => if i = 0 then some [(3, (.own (.int .u8)))] else none, some [(2, .keep)], [.keep], []⟩
def e_word_Text : List EK := [.agg WordT]
def h_word_Text : List HK := []
noncomputable def cf_word_Text : CallF := { (mkCF [(72, c_word_Right)] [(72, [WordT, (.int .i64)])]) with arr := [138] }
noncomputable def ls_word_Text (n : Nat) : Loops := fun i => if i = 0 then some (loopT 0 (p_word_Text.head 0) s_word_Text_h0 fun K v => L_word_Text_0 n (fun z0 => K (.ex 0) (s_word_Text_t0.enc (((), ()), (z0, ())))) v.2.1 n v.1.2.2.1 v.2.2.1)
  else  none
noncomputable def b_word_Text_0 : Code := partOf (bodyOf Try.f56) [1, 1, 0, 1, 0, 0]
theorem t_word_Text_0 (n : Nat) (K : Cont) (rec : Sig.sem s_word_Text_h0 → Option Res) (v : Sig.sem s_word_Text_h0) : runT Try.prog cf_word_Text Try.f56.ntmps 0 p_word_Text (ls_word_Text n) b_word_Text_0 (s_word_Text_h0.enc v) (turnK 0 (p_word_Text.head 0) s_word_Text_h0 rec K) = F_word_Text_0 n (fun z0 => K (.ex 0) (s_word_Text_t0.enc (((), ()), (z0, ())))) v.2.1 (fun z0 z2 => rec (((), ((), (z0, ()))), (v.2.1, (z2, ())))) v.1.2.2.1 v.2.2.1 := by kernel_rfl
noncomputable def V_word_Text_0 (n : Nat) (K : Cont) (rec : Sig.sem s_word_Text_h0 → Option Res) (v : Sig.sem s_word_Text_h0) : Option Res := F_word_Text_0 n (fun z0 => K (.ex 0) (s_word_Text_t0.enc (((), ()), (z0, ())))) v.2.1 (fun z0 z2 => rec (((), ((), (z0, ()))), (v.2.1, (z2, ())))) v.1.2.2.1 v.2.2.1
noncomputable def W_word_Text_0 (n : Nat) (K : Cont) (m : Nat) (v : Sig.sem s_word_Text_h0) : Option Res := L_word_Text_0 n (fun z0 => K (.ex 0) (s_word_Text_t0.enc (((), ()), (z0, ())))) v.2.1 m v.1.2.2.1 v.2.2.1
theorem i_word_Text_0 (n : Nat) (K : Cont) : ∀ m v, iter (V_word_Text_0 n K) m v = W_word_Text_0 n K m v := by
  intro m
  induction m with
  | zero => intro v; rfl
  | succ m ih =>
    intro v
    show V_word_Text_0 n K (iter (V_word_Text_0 n K) m) v = V_word_Text_0 n K (W_word_Text_0 n K m) v
    rw [show iter (V_word_Text_0 n K) m = W_word_Text_0 n K m from funext ih]
theorem o_word_Text_0 (n : Nat) : ∀ L, ls_word_Text n 0 = some L → ∀ s K r, L s K = some r → ∃ x s', loopN (run Try.prog cf_word_Text Try.f56.ntmps 0 n p_word_Text none b_word_Text_0) (gc 0 (p_word_Text.head 0)) n s = some (x, s') ∧ K x s' = some r := by
  intro L hL s K r h
  have hL : some (loopT 0 (p_word_Text.head 0) s_word_Text_h0 fun K v => W_word_Text_0 n K n v) = some L := hL
  cases hL
  have hb : LOk Try.prog cf_word_Text Try.f56.ntmps 0 n p_word_Text (ls_word_Text n) b_word_Text_0 := ⟨trivial, ⟨⟨trivial, trivial⟩, ⟨⟨trivial, trivial⟩, trivial⟩⟩⟩
  refine loopT_ok hb (V_word_Text_0 n) (t_word_Text_0 n) n s K r ?_
  rw [← h]
  unfold loopT
  simp only [i_word_Text_0]
theorem m_word_Text (n : Nat) (a0 : WordS) : runFT Try.prog cf_word_Text p_word_Text (ls_word_Text n) Try.f56 (bodyOf Try.f56) (EK.encs e_word_Text ((a0, ()), ()).1) (HK.encs h_word_Text ((a0, ()), ()).2) = M_word_Text n a0 := by kernel_rfl
theorem g_word_Text (n : Nat) (a0 : WordS) {r : Res} (h : M_word_Text n a0 = some r) : runF Try.prog cf_word_Text n p_word_Text 56 (EK.encs e_word_Text ((a0, ()), ()).1) (HK.encs h_word_Text ((a0, ()), ()).2) = some r := by
  have hb : LOk Try.prog cf_word_Text Try.f56.ntmps 0 n p_word_Text (ls_word_Text n) (bodyOf Try.f56) := ⟨trivial, ⟨trivial, ⟨⟨trivial, (o_word_Text_0 n)⟩, ⟨trivial, trivial⟩⟩⟩⟩
  exact runFT_some Try.prog (c := bodyOf Try.f56) Try.func56 (show Try.f56.body = some (bodyOf Try.f56) from rfl) (show (1 : Nat) ≤ 21 by decide) hb ((m_word_Text n a0).trans h) rfl (by kernel_rfl)
noncomputable def c_word_Text : Spec := specQ e_word_Text h_word_Text ro_word_Text rh_word_Text fun a b => Q_word_Text a.1
theorem k_word_Text (hm : Try.prog.follows .mixedOrders = true) : SpecOk Try.prog 56 c_word_Text := specQ_ok (pol := p_word_Text) hm (cf := cf_word_Text) (CallSound.arr <| tab_ok (specs_cons (k_word_Right hm) specs_nil)) fun a b r h => ⟨FUEL, g_word_Text FUEL a.1 (decRes_some h)⟩
def s_field_Text_r : Sig := ⟨[4, 5], [.ty .str, .ty (.int .i64)], []⟩
def p_field_Text : Pol := ⟨fun i => none, fun i => none, some [(4, .keep), (5, .keep)], [.keep, .keep], []⟩
def e_field_Text : List EK := [.agg WordT, .ty (.int .i64)]
def h_field_Text : List HK := []
noncomputable def cf_field_Text : CallF := mkCF [(43, c_field_Bytes), (57, c_word_Cut), (56, c_word_Text)] [(43, [(.int .i64)]), (57, [WordT, (.int .i64)]), (56, [WordT])]
noncomputable def ls_field_Text (n : Nat) : Loops := fun i =>  none
theorem m_field_Text (n : Nat) (a0 : WordS) (a1 : Int) : runFT Try.prog cf_field_Text p_field_Text (ls_field_Text n) Try.f32 (bodyOf Try.f32) (EK.encs e_field_Text ((a0, (a1, ())), ()).1) (HK.encs h_field_Text ((a0, (a1, ())), ()).2) = M_field_Text n a0 a1 := by kernel_rfl
theorem g_field_Text (n : Nat) (a0 : WordS) (a1 : Int) {r : Res} (h : M_field_Text n a0 a1 = some r) : runF Try.prog cf_field_Text n p_field_Text 32 (EK.encs e_field_Text ((a0, (a1, ())), ()).1) (HK.encs h_field_Text ((a0, (a1, ())), ()).2) = some r := by
  have hb : LOk Try.prog cf_field_Text Try.f32.ntmps 0 n p_field_Text (ls_field_Text n) (bodyOf Try.f32) := ⟨trivial, ⟨trivial, ⟨⟨trivial, ⟨⟨trivial, trivial⟩, trivial⟩⟩, ⟨trivial, ⟨trivial, trivial⟩⟩⟩⟩⟩
  exact runFT_some Try.prog (c := bodyOf Try.f32) Try.func32 (show Try.f32.body = some (bodyOf Try.f32) from rfl) (show (2 : Nat) ≤ 22 by decide) hb ((m_field_Text n a0 a1).trans h) rfl (by kernel_rfl)
noncomputable def c_field_Text : Spec := specQ e_field_Text h_field_Text ro_field_Text rh_field_Text fun a b => Q_field_Text a.1 a.2.1
theorem k_field_Text (hm : Try.prog.follows .mixedOrders = true) : SpecOk Try.prog 32 c_field_Text := specQ_ok (pol := p_field_Text) hm (cf := cf_field_Text) (tab_ok (specs_cons (k_field_Bytes hm) (specs_cons (k_word_Cut hm) (specs_cons (k_word_Text hm) specs_nil)))) fun a b r h => ⟨FUEL, g_field_Text FUEL a.1 a.2.1 (decRes_some h)⟩
def s_key_text_r : Sig := ⟨[4, 5], [.ty .str, .ty (.int .i64)], [.one false [.ptr 1 0 0, .nul 4, .ptr 3 0 0, .ty (.int .i64)], .one false [.hs 2 0], .row (.int .u8), .one false [.hs 4 0], .row (.int .u8)]⟩
def p_key_text : Pol := ⟨fun i => none, fun i => none, some [(4, .keep), (5, .keep)], [.keep, .keep], []⟩
def e_key_text : List EK := [.mv 31 [(0, 0, 0)], .agg FieldT]
def h_key_text : List HK := [.one false [.ptr 1 0 0, .nul 4, .ptr 3 0 0, .ty (.int .i64)], .one false [.hs 2 0], .row (.int .u8), .one false [.hs 4 0], .row (.int .u8)]
noncomputable def cf_key_text : CallF := mkCF [(31, c_pack_Packet_Get), (32, c_field_Text)] [(32, [WordT, (.int .i64)])]
noncomputable def ls_key_text (n : Nat) : Loops := fun i =>  none
theorem m_key_text (n : Nat) (a0 : FieldS) (a1 : Int) (a2 : Nat) (a3 : (List Int)) (a4 : Nat) (a5 : (List Int)) : runFT Try.prog cf_key_text p_key_text (ls_key_text n) Try.f40 (bodyOf Try.f40) (EK.encs e_key_text (((), (a0, ())), (((), ((), ((), (a1, ())))), ((a2, ()), (a3, ((a4, ()), (a5, ())))))).1) (HK.encs h_key_text (((), (a0, ())), (((), ((), ((), (a1, ())))), ((a2, ()), (a3, ((a4, ()), (a5, ())))))).2) = M_key_text n a0 a1 a2 a3 a4 a5 := by kernel_rfl
theorem g_key_text (n : Nat) (a0 : FieldS) (a1 : Int) (a2 : Nat) (a3 : (List Int)) (a4 : Nat) (a5 : (List Int)) {r : Res} (h : M_key_text n a0 a1 a2 a3 a4 a5 = some r) : runF Try.prog cf_key_text n p_key_text 40 (EK.encs e_key_text (((), (a0, ())), (((), ((), ((), (a1, ())))), ((a2, ()), (a3, ((a4, ()), (a5, ())))))).1) (HK.encs h_key_text (((), (a0, ())), (((), ((), ((), (a1, ())))), ((a2, ()), (a3, ((a4, ()), (a5, ())))))).2) = some r := by
  have hb : LOk Try.prog cf_key_text Try.f40.ntmps 5 n p_key_text (ls_key_text n) (bodyOf Try.f40) := ⟨trivial, ⟨trivial, ⟨⟨trivial, ⟨⟨trivial, trivial⟩, trivial⟩⟩, ⟨trivial, ⟨trivial, trivial⟩⟩⟩⟩⟩
  exact runFT_some Try.prog (c := bodyOf Try.f40) Try.func40 (show Try.f40.body = some (bodyOf Try.f40) from rfl) (show (2 : Nat) ≤ 27 by decide) hb ((m_key_text n a0 a1 a2 a3 a4 a5).trans h) rfl (by kernel_rfl)
noncomputable def c_key_text : Spec := specQ e_key_text h_key_text ro_key_text rh_key_text fun a b => Q_key_text a.2.1 b.1.2.2.2.1 b.2.1.1 b.2.2.1 b.2.2.2.1.1 b.2.2.2.2.1
theorem k_key_text (hm : Try.prog.follows .mixedOrders = true) : SpecOk Try.prog 40 c_key_text := specQ_ok (pol := p_key_text) hm (cf := cf_key_text) (tab_ok (specs_cons (k_pack_Packet_Get hm) (specs_cons (k_field_Text hm) specs_nil))) fun a b r h => ⟨FUEL, g_key_text FUEL a.2.1 b.1.2.2.2.1 b.2.1.1 b.2.2.1 b.2.2.2.1.1 b.2.2.2.2.1 (decRes_some h)⟩
def e_key_Of : List EK := [.ptr 0 0 0, .ty (.slice FieldT)]
def h_key_Of : List HK := [.one false [.ptr 1 0 0, .nul 4, .ptr 3 0 0, .ty (.int .i64)], .one false [.hs 2 0], .row (.int .u8), .one false [.hs 4 0], .row (.int .u8)]
noncomputable def c_key_Of : Spec := specQ e_key_Of h_key_Of ro_key_Of rh_key_Of fun a b => Q_key_Of a.2.1 b.1.2.2.2.1 b.2.1.1 b.2.2.1 b.2.2.2.1.1 b.2.2.2.2.1
theorem k_key_Of (hm : Try.prog.follows .mixedOrders = true) : SpecOk Try.prog 20 c_key_Of := H18.of_ok (e0 := (.ptr 0 0 0)) (cap := (0, 0, 0)) (fun s => rfl) (hs := h_key_Of) (fun b => rfl) (by rfl) (by rfl) (fun f b => Q_key_text f b.1.2.2.2.1 b.2.1.1 b.2.2.1 b.2.2.2.1.1 b.2.2.2.2.1) (k_key_text hm)
def s_key_Widths_h0 : Sig := ⟨[3, 6, 7, 8], [.hs 0 0, .ty (.slice FieldT), .ty (.int .i64), .ty (.int .i64)], [.row (.int .i64)]⟩
def s_key_Widths_t0 : Sig := ⟨[3], [.hs 0 0], [.row (.int .i64)]⟩
def s_key_Widths_r : Sig := ⟨[2], [.hs 0 0], [.row (.int .i64)]⟩
def p_key_Widths : Pol := ⟨fun i => if i = 0 then some [(3, (.own (.int .i64))), (6, .keep), (7, .keep), (8, .keep)] else none, fun i => if i = 0 then some [(3, (.own (.int .i64)))] else none, some [(2, (.own (.int .i64)))], [(.own (.int .i64))], []⟩
def e_key_Widths : List EK := [.ty (.slice FieldT)]
def h_key_Widths : List HK := []
noncomputable def cf_key_Widths : CallF := mkCF [(43, c_field_Bytes)] [(43, [(.int .i64)])]
noncomputable def ls_key_Widths (n : Nat) : Loops := fun i => if i = 0 then some (loopT 0 (p_key_Widths.head 0) s_key_Widths_h0 fun K v => L_key_Widths_0 n (fun z0 z1 => K (.ex 0) (s_key_Widths_t0.enc ((z0, ()), (z1, ())))) v.1.2.1 v.1.2.2.1 n v.1.1 v.1.2.2.2.1 v.2.1)
  else  none
noncomputable def b_key_Widths_0 : Code := partOf (bodyOf Try.f23) [1, 1, 0, 1, 0, 0]
theorem t_key_Widths_0 (n : Nat) (K : Cont) (rec : Sig.sem s_key_Widths_h0 → Option Res) (v : Sig.sem s_key_Widths_h0) : runT Try.prog cf_key_Widths Try.f23.ntmps 0 p_key_Widths (ls_key_Widths n) b_key_Widths_0 (s_key_Widths_h0.enc v) (turnK 0 (p_key_Widths.head 0) s_key_Widths_h0 rec K) = F_key_Widths_0 n (fun z0 z1 => K (.ex 0) (s_key_Widths_t0.enc ((z0, ()), (z1, ())))) v.1.2.1 v.1.2.2.1 (fun z0 z3 z4 => rec ((z0, (v.1.2.1, (v.1.2.2.1, (z3, ())))), (z4, ()))) v.1.1 v.1.2.2.2.1 v.2.1 := by kernel_rfl
noncomputable def V_key_Widths_0 (n : Nat) (K : Cont) (rec : Sig.sem s_key_Widths_h0 → Option Res) (v : Sig.sem s_key_Widths_h0) : Option Res := F_key_Widths_0 n (fun z0 z1 => K (.ex 0) (s_key_Widths_t0.enc ((z0, ()), (z1, ())))) v.1.2.1 v.1.2.2.1 (fun z0 z3 z4 => rec ((z0, (v.1.2.1, (v.1.2.2.1, (z3, ())))), (z4, ()))) v.1.1 v.1.2.2.2.1 v.2.1
noncomputable def W_key_Widths_0 (n : Nat) (K : Cont) (m : Nat) (v : Sig.sem s_key_Widths_h0) : Option Res := L_key_Widths_0 n (fun z0 z1 => K (.ex 0) (s_key_Widths_t0.enc ((z0, ()), (z1, ())))) v.1.2.1 v.1.2.2.1 m v.1.1 v.1.2.2.2.1 v.2.1
theorem i_key_Widths_0 (n : Nat) (K : Cont) : ∀ m v, iter (V_key_Widths_0 n K) m v = W_key_Widths_0 n K m v := by
  intro m
  induction m with
  | zero => intro v; rfl
  | succ m ih =>
    intro v
    show V_key_Widths_0 n K (iter (V_key_Widths_0 n K) m) v = V_key_Widths_0 n K (W_key_Widths_0 n K m) v
    rw [show iter (V_key_Widths_0 n K) m = W_key_Widths_0 n K m from funext ih]
theorem o_key_Widths_0 (n : Nat) : ∀ L, ls_key_Widths n 0 = some L → ∀ s K r, L s K = some r → ∃ x s', loopN (run Try.prog cf_key_Widths Try.f23.ntmps 0 n p_key_Widths none b_key_Widths_0) (gc 0 (p_key_Widths.head 0)) n s = some (x, s') ∧ K x s' = some r := by
  intro L hL s K r h
  have hL : some (loopT 0 (p_key_Widths.head 0) s_key_Widths_h0 fun K v => W_key_Widths_0 n K n v) = some L := hL
  cases hL
  have hb : LOk Try.prog cf_key_Widths Try.f23.ntmps 0 n p_key_Widths (ls_key_Widths n) b_key_Widths_0 := ⟨trivial, ⟨⟨trivial, trivial⟩, ⟨⟨trivial, trivial⟩, trivial⟩⟩⟩
  refine loopT_ok hb (V_key_Widths_0 n) (t_key_Widths_0 n) n s K r ?_
  rw [← h]
  unfold loopT
  simp only [i_key_Widths_0]
theorem m_key_Widths (n : Nat) (a0 : (List FieldS)) : runFT Try.prog cf_key_Widths p_key_Widths (ls_key_Widths n) Try.f23 (bodyOf Try.f23) (EK.encs e_key_Widths ((a0, ()), ()).1) (HK.encs h_key_Widths ((a0, ()), ()).2) = M_key_Widths n a0 := by kernel_rfl
theorem g_key_Widths (n : Nat) (a0 : (List FieldS)) {r : Res} (h : M_key_Widths n a0 = some r) : runF Try.prog cf_key_Widths n p_key_Widths 23 (EK.encs e_key_Widths ((a0, ()), ()).1) (HK.encs h_key_Widths ((a0, ()), ()).2) = some r := by
  have hb : LOk Try.prog cf_key_Widths Try.f23.ntmps 0 n p_key_Widths (ls_key_Widths n) (bodyOf Try.f23) := ⟨trivial, ⟨trivial, ⟨⟨trivial, (o_key_Widths_0 n)⟩, ⟨trivial, trivial⟩⟩⟩⟩
  exact runFT_some Try.prog (c := bodyOf Try.f23) Try.func23 (show Try.f23.body = some (bodyOf Try.f23) from rfl) (show (1 : Nat) ≤ 20 by decide) hb ((m_key_Widths n a0).trans h) rfl (by kernel_rfl)
noncomputable def c_key_Widths : Spec := specQ e_key_Widths h_key_Widths ro_key_Widths rh_key_Widths fun a b => Q_key_Widths a.1
theorem k_key_Widths (hm : Try.prog.follows .mixedOrders = true) : SpecOk Try.prog 23 c_key_Widths := specQ_ok (pol := p_key_Widths) hm (cf := cf_key_Widths) (tab_ok (specs_cons (k_field_Bytes hm) specs_nil)) fun a b r h => ⟨FUEL, g_key_Widths FUEL a.1 (decRes_some h)⟩
def s_key_Segments_h0 : Sig := ⟨[0, 1, 6, 12, 13, 14], [.ty .str, .ty (.slice (.int .i64)), .ty (.int .i64), .ty (.slice (.int .i64)), .ty (.int .i64), .ty (.int .i64)], []⟩
def s_key_Segments_r : Sig := ⟨[4, 5], [.hs 0 0, .ty (.int .i64)], [.row .str]⟩
def s_key_Segments_t0 : Sig := ⟨[0, 1, 6], [.ty .str, .ty (.slice (.int .i64)), .ty (.int .i64)], []⟩
def s_key_Segments_h3 : Sig := ⟨[0, 9, 38, 39, 40], [.ty .str, .hs 0 0, .ty (.slice (.int .i64)), .ty (.int .i64), .ty (.int .i64)], [.row .str]⟩
def s_key_Segments_t3 : Sig := ⟨[9], [.hs 0 0], [.row .str]⟩
def p_key_Segments : Pol := ⟨fun i => if i = 0 then some [(0, .keep), (1, .keep), (6, .keep), (12, .keep), (13, .keep), (14, .keep)] else if i = 3 then some [(0, .keep), (9, (.own .str)), (38, .keep), (39, .keep), (40, .keep)] else none, fun i => if i = 0 then some [(0, .keep), (1, .keep), (6, .keep)] else if i = 3 then some [(9, (.own .str))] else none, some [(4, (.own .str)), (5, .keep)], [(.own .str), .keep], []⟩
def e_key_Segments : List EK := [.ty .str, .ty (.slice (.int .i64))]
def h_key_Segments : List HK := []
noncomputable def cf_key_Segments : CallF := mkCF [] []
noncomputable def ls_key_Segments (n : Nat) : Loops := fun i => if i = 0 then some (loopT 0 (p_key_Segments.head 0) s_key_Segments_h0 fun K v => L_key_Segments_0 n (fun z0 z1 z2 => K .rt (s_key_Segments_r.enc ((z0, (z1, ())), (z2, ())))) (fun z2 => K (.ex 0) (s_key_Segments_t0.enc ((v.1.1, (v.1.2.1, (z2, ()))), ()))) v.1.2.2.2.1 v.1.2.2.2.2.1 n v.1.2.2.1 v.1.2.2.2.2.2.1)
  else if i = 3 then some (loopT 0 (p_key_Segments.head 3) s_key_Segments_h3 fun K v => L_key_Segments_3 n (fun z0 z1 => K (.ex 3) (s_key_Segments_t3.enc ((z0, ()), (z1, ())))) v.1.2.2.1 v.1.2.2.2.1 n v.1.1 v.1.2.1 v.1.2.2.2.2.1 v.2.1)
  else  none
noncomputable def b_key_Segments_0 : Code := partOf (bodyOf Try.f12) [1, 1, 0, 1, 0, 0]
theorem t_key_Segments_0 (n : Nat) (K : Cont) (rec : Sig.sem s_key_Segments_h0 → Option Res) (v : Sig.sem s_key_Segments_h0) : runT Try.prog cf_key_Segments Try.f12.ntmps 0 p_key_Segments (ls_key_Segments n) b_key_Segments_0 (s_key_Segments_h0.enc v) (turnK 0 (p_key_Segments.head 0) s_key_Segments_h0 rec K) = F_key_Segments_0 n (fun z0 z1 z2 => K .rt (s_key_Segments_r.enc ((z0, (z1, ())), (z2, ())))) (fun z2 => K (.ex 0) (s_key_Segments_t0.enc ((v.1.1, (v.1.2.1, (z2, ()))), ()))) v.1.2.2.2.1 v.1.2.2.2.2.1 (fun z2 z5 => rec ((v.1.1, (v.1.2.1, (z2, (v.1.2.2.2.1, (v.1.2.2.2.2.1, (z5, ())))))), ())) v.1.2.2.1 v.1.2.2.2.2.2.1 := by kernel_rfl
noncomputable def V_key_Segments_0 (n : Nat) (K : Cont) (rec : Sig.sem s_key_Segments_h0 → Option Res) (v : Sig.sem s_key_Segments_h0) : Option Res := F_key_Segments_0 n (fun z0 z1 z2 => K .rt (s_key_Segments_r.enc ((z0, (z1, ())), (z2, ())))) (fun z2 => K (.ex 0) (s_key_Segments_t0.enc ((v.1.1, (v.1.2.1, (z2, ()))), ()))) v.1.2.2.2.1 v.1.2.2.2.2.1 (fun z2 z5 => rec ((v.1.1, (v.1.2.1, (z2, (v.1.2.2.2.1, (v.1.2.2.2.2.1, (z5, ())))))), ())) v.1.2.2.1 v.1.2.2.2.2.2.1
noncomputable def W_key_Segments_0 (n : Nat) (K : Cont) (m : Nat) (v : Sig.sem s_key_Segments_h0) : Option Res := L_key_Segments_0 n (fun z0 z1 z2 => K .rt (s_key_Segments_r.enc ((z0, (z1, ())), (z2, ())))) (fun z2 => K (.ex 0) (s_key_Segments_t0.enc ((v.1.1, (v.1.2.1, (z2, ()))), ()))) v.1.2.2.2.1 v.1.2.2.2.2.1 m v.1.2.2.1 v.1.2.2.2.2.2.1
theorem i_key_Segments_0 (n : Nat) (K : Cont) : ∀ m v, iter (V_key_Segments_0 n K) m v = W_key_Segments_0 n K m v := by
  intro m
  induction m with
  | zero => intro v; rfl
  | succ m ih =>
    intro v
    show V_key_Segments_0 n K (iter (V_key_Segments_0 n K) m) v = V_key_Segments_0 n K (W_key_Segments_0 n K m) v
    rw [show iter (V_key_Segments_0 n K) m = W_key_Segments_0 n K m from funext ih]
theorem o_key_Segments_0 (n : Nat) : ∀ L, ls_key_Segments n 0 = some L → ∀ s K r, L s K = some r → ∃ x s', loopN (run Try.prog cf_key_Segments Try.f12.ntmps 0 n p_key_Segments none b_key_Segments_0) (gc 0 (p_key_Segments.head 0)) n s = some (x, s') ∧ K x s' = some r := by
  intro L hL s K r h
  have hL : some (loopT 0 (p_key_Segments.head 0) s_key_Segments_h0 fun K v => W_key_Segments_0 n K n v) = some L := hL
  cases hL
  have hb : LOk Try.prog cf_key_Segments Try.f12.ntmps 0 n p_key_Segments (ls_key_Segments n) b_key_Segments_0 := ⟨trivial, ⟨⟨trivial, trivial⟩, ⟨⟨trivial, ⟨⟨trivial, ⟨⟨trivial, trivial⟩, trivial⟩⟩, trivial⟩⟩, trivial⟩⟩⟩
  refine loopT_ok hb (V_key_Segments_0 n) (t_key_Segments_0 n) n s K r ?_
  rw [← h]
  unfold loopT
  simp only [i_key_Segments_0]
noncomputable def b_key_Segments_3 : Code := partOf (bodyOf Try.f12) [1, 1, 1, 1, 1, 0, 1, 0, 0]
theorem t_key_Segments_3 (n : Nat) (K : Cont) (rec : Sig.sem s_key_Segments_h3 → Option Res) (v : Sig.sem s_key_Segments_h3) : runT Try.prog cf_key_Segments Try.f12.ntmps 0 p_key_Segments (ls_key_Segments n) b_key_Segments_3 (s_key_Segments_h3.enc v) (turnK 0 (p_key_Segments.head 3) s_key_Segments_h3 rec K) = F_key_Segments_3 n (fun z0 z1 => K (.ex 3) (s_key_Segments_t3.enc ((z0, ()), (z1, ())))) v.1.2.2.1 v.1.2.2.2.1 (fun z0 z1 z4 z5 => rec ((z0, (z1, (v.1.2.2.1, (v.1.2.2.2.1, (z4, ()))))), (z5, ()))) v.1.1 v.1.2.1 v.1.2.2.2.2.1 v.2.1 := by kernel_rfl
noncomputable def V_key_Segments_3 (n : Nat) (K : Cont) (rec : Sig.sem s_key_Segments_h3 → Option Res) (v : Sig.sem s_key_Segments_h3) : Option Res := F_key_Segments_3 n (fun z0 z1 => K (.ex 3) (s_key_Segments_t3.enc ((z0, ()), (z1, ())))) v.1.2.2.1 v.1.2.2.2.1 (fun z0 z1 z4 z5 => rec ((z0, (z1, (v.1.2.2.1, (v.1.2.2.2.1, (z4, ()))))), (z5, ()))) v.1.1 v.1.2.1 v.1.2.2.2.2.1 v.2.1
noncomputable def W_key_Segments_3 (n : Nat) (K : Cont) (m : Nat) (v : Sig.sem s_key_Segments_h3) : Option Res := L_key_Segments_3 n (fun z0 z1 => K (.ex 3) (s_key_Segments_t3.enc ((z0, ()), (z1, ())))) v.1.2.2.1 v.1.2.2.2.1 m v.1.1 v.1.2.1 v.1.2.2.2.2.1 v.2.1
theorem i_key_Segments_3 (n : Nat) (K : Cont) : ∀ m v, iter (V_key_Segments_3 n K) m v = W_key_Segments_3 n K m v := by
  intro m
  induction m with
  | zero => intro v; rfl
  | succ m ih =>
    intro v
    show V_key_Segments_3 n K (iter (V_key_Segments_3 n K) m) v = V_key_Segments_3 n K (W_key_Segments_3 n K m) v
    rw [show iter (V_key_Segments_3 n K) m = W_key_Segments_3 n K m from funext ih]
theorem o_key_Segments_3 (n : Nat) : ∀ L, ls_key_Segments n 3 = some L → ∀ s K r, L s K = some r → ∃ x s', loopN (run Try.prog cf_key_Segments Try.f12.ntmps 0 n p_key_Segments none b_key_Segments_3) (gc 0 (p_key_Segments.head 3)) n s = some (x, s') ∧ K x s' = some r := by
  intro L hL s K r h
  have hL : some (loopT 0 (p_key_Segments.head 3) s_key_Segments_h3 fun K v => W_key_Segments_3 n K n v) = some L := hL
  cases hL
  have hb : LOk Try.prog cf_key_Segments Try.f12.ntmps 0 n p_key_Segments (ls_key_Segments n) b_key_Segments_3 := ⟨trivial, ⟨⟨trivial, trivial⟩, ⟨⟨trivial, ⟨trivial, trivial⟩⟩, trivial⟩⟩⟩
  refine loopT_ok hb (V_key_Segments_3 n) (t_key_Segments_3 n) n s K r ?_
  rw [← h]
  unfold loopT
  simp only [i_key_Segments_3]
theorem m_key_Segments (n : Nat) (a0 : ByteArray) (a1 : (List Int)) : runFT Try.prog cf_key_Segments p_key_Segments (ls_key_Segments n) Try.f12 (bodyOf Try.f12) (EK.encs e_key_Segments ((a0, (a1, ())), ()).1) (HK.encs h_key_Segments ((a0, (a1, ())), ()).2) = M_key_Segments n a0 a1 := by kernel_rfl
theorem g_key_Segments (n : Nat) (a0 : ByteArray) (a1 : (List Int)) {r : Res} (h : M_key_Segments n a0 a1 = some r) : runF Try.prog cf_key_Segments n p_key_Segments 12 (EK.encs e_key_Segments ((a0, (a1, ())), ()).1) (HK.encs h_key_Segments ((a0, (a1, ())), ()).2) = some r := by
  have hb : LOk Try.prog cf_key_Segments Try.f12.ntmps 0 n p_key_Segments (ls_key_Segments n) (bodyOf Try.f12) := ⟨trivial, ⟨trivial, ⟨⟨trivial, (o_key_Segments_0 n)⟩, ⟨⟨trivial, ⟨⟨trivial, trivial⟩, ⟨trivial, ⟨⟨trivial, trivial⟩, trivial⟩⟩⟩⟩, ⟨trivial, ⟨⟨trivial, (o_key_Segments_3 n)⟩, ⟨trivial, trivial⟩⟩⟩⟩⟩⟩⟩
  exact runFT_some Try.prog (c := bodyOf Try.f12) Try.func12 (show Try.f12.body = some (bodyOf Try.f12) from rfl) (show (2 : Nat) ≤ 55 by decide) hb ((m_key_Segments n a0 a1).trans h) rfl (by kernel_rfl)
noncomputable def c_key_Segments : Spec := specQ e_key_Segments h_key_Segments ro_key_Segments rh_key_Segments fun a b => Q_key_Segments a.1 a.2.1
theorem k_key_Segments (hm : Try.prog.follows .mixedOrders = true) : SpecOk Try.prog 12 c_key_Segments := specQ_ok (pol := p_key_Segments) hm (cf := cf_key_Segments) (tab_ok specs_nil) fun a b r h => ⟨FUEL, g_key_Segments FUEL a.1 a.2.1 (decRes_some h)⟩
def s_hash_More_h0 : Sig := ⟨[0, 1, 7, 8], [.ty (.int .u32), .ty .str, .ty (.int .i64), .ty (.int .i64)], []⟩
def s_hash_More_t0 : Sig := ⟨[0], [.ty (.int .u32)], []⟩
def s_hash_More_r : Sig := ⟨[4], [.ty (.int .u32)], []⟩
def p_hash_More : Pol := ⟨fun i => if i = 0 then some [(0, .keep), (1, .keep), (7, .keep), (8, .keep)] else none, fun i => if i = 0 then some [(0, .keep)] else none, some [(4, .keep)], [.keep], []⟩
def e_hash_More : List EK := [.ty (.int .u32), .ty .str]
def h_hash_More : List HK := []
noncomputable def cf_hash_More : CallF := mkCF [] []
noncomputable def ls_hash_More (n : Nat) : Loops := fun i => if i = 0 then some (loopT 0 (p_hash_More.head 0) s_hash_More_h0 fun K v => L_hash_More_0 n (fun z0 => K (.ex 0) (s_hash_More_t0.enc ((z0, ()), ()))) v.1.2.1 v.1.2.2.1 n v.1.1 v.1.2.2.2.1)
  else  none
noncomputable def b_hash_More_0 : Code := partOf (bodyOf Try.f59) [1, 0, 1, 0, 0]
theorem t_hash_More_0 (n : Nat) (K : Cont) (rec : Sig.sem s_hash_More_h0 → Option Res) (v : Sig.sem s_hash_More_h0) : runT Try.prog cf_hash_More Try.f59.ntmps 0 p_hash_More (ls_hash_More n) b_hash_More_0 (s_hash_More_h0.enc v) (turnK 0 (p_hash_More.head 0) s_hash_More_h0 rec K) = F_hash_More_0 n (fun z0 => K (.ex 0) (s_hash_More_t0.enc ((z0, ()), ()))) v.1.2.1 v.1.2.2.1 (fun z0 z3 => rec ((z0, (v.1.2.1, (v.1.2.2.1, (z3, ())))), ())) v.1.1 v.1.2.2.2.1 := by kernel_rfl
noncomputable def V_hash_More_0 (n : Nat) (K : Cont) (rec : Sig.sem s_hash_More_h0 → Option Res) (v : Sig.sem s_hash_More_h0) : Option Res := F_hash_More_0 n (fun z0 => K (.ex 0) (s_hash_More_t0.enc ((z0, ()), ()))) v.1.2.1 v.1.2.2.1 (fun z0 z3 => rec ((z0, (v.1.2.1, (v.1.2.2.1, (z3, ())))), ())) v.1.1 v.1.2.2.2.1
noncomputable def W_hash_More_0 (n : Nat) (K : Cont) (m : Nat) (v : Sig.sem s_hash_More_h0) : Option Res := L_hash_More_0 n (fun z0 => K (.ex 0) (s_hash_More_t0.enc ((z0, ()), ()))) v.1.2.1 v.1.2.2.1 m v.1.1 v.1.2.2.2.1
theorem i_hash_More_0 (n : Nat) (K : Cont) : ∀ m v, iter (V_hash_More_0 n K) m v = W_hash_More_0 n K m v := by
  intro m
  induction m with
  | zero => intro v; rfl
  | succ m ih =>
    intro v
    show V_hash_More_0 n K (iter (V_hash_More_0 n K) m) v = V_hash_More_0 n K (W_hash_More_0 n K m) v
    rw [show iter (V_hash_More_0 n K) m = W_hash_More_0 n K m from funext ih]
theorem o_hash_More_0 (n : Nat) : ∀ L, ls_hash_More n 0 = some L → ∀ s K r, L s K = some r → ∃ x s', loopN (run Try.prog cf_hash_More Try.f59.ntmps 0 n p_hash_More none b_hash_More_0) (gc 0 (p_hash_More.head 0)) n s = some (x, s') ∧ K x s' = some r := by
  intro L hL s K r h
  have hL : some (loopT 0 (p_hash_More.head 0) s_hash_More_h0 fun K v => W_hash_More_0 n K n v) = some L := hL
  cases hL
  have hb : LOk Try.prog cf_hash_More Try.f59.ntmps 0 n p_hash_More (ls_hash_More n) b_hash_More_0 := ⟨trivial, ⟨⟨trivial, trivial⟩, ⟨⟨trivial, ⟨trivial, trivial⟩⟩, trivial⟩⟩⟩
  refine loopT_ok hb (V_hash_More_0 n) (t_hash_More_0 n) n s K r ?_
  rw [← h]
  unfold loopT
  simp only [i_hash_More_0]
theorem m_hash_More (n : Nat) (a0 : Int) (a1 : ByteArray) : runFT Try.prog cf_hash_More p_hash_More (ls_hash_More n) Try.f59 (bodyOf Try.f59) (EK.encs e_hash_More ((a0, (a1, ())), ()).1) (HK.encs h_hash_More ((a0, (a1, ())), ()).2) = M_hash_More n a0 a1 := by kernel_rfl
theorem g_hash_More (n : Nat) (a0 : Int) (a1 : ByteArray) {r : Res} (h : M_hash_More n a0 a1 = some r) : runF Try.prog cf_hash_More n p_hash_More 59 (EK.encs e_hash_More ((a0, (a1, ())), ()).1) (HK.encs h_hash_More ((a0, (a1, ())), ()).2) = some r := by
  have hb : LOk Try.prog cf_hash_More Try.f59.ntmps 0 n p_hash_More (ls_hash_More n) (bodyOf Try.f59) := ⟨trivial, ⟨⟨trivial, (o_hash_More_0 n)⟩, ⟨trivial, trivial⟩⟩⟩
  exact runFT_some Try.prog (c := bodyOf Try.f59) Try.func59 (show Try.f59.body = some (bodyOf Try.f59) from rfl) (show (2 : Nat) ≤ 21 by decide) hb ((m_hash_More n a0 a1).trans h) rfl (by kernel_rfl)
noncomputable def c_hash_More : Spec := specQ e_hash_More h_hash_More ro_hash_More rh_hash_More fun a b => Q_hash_More a.1 a.2.1
theorem k_hash_More (hm : Try.prog.follows .mixedOrders = true) : SpecOk Try.prog 59 c_hash_More := specQ_ok (pol := p_hash_More) hm (cf := cf_hash_More) (tab_ok specs_nil) fun a b r h => ⟨FUEL, g_hash_More FUEL a.1 a.2.1 (decRes_some h)⟩
def s_hash_Of_h0 : Sig := ⟨[3, 6, 7, 8], [.ty (.int .u32), .ty (.slice .str), .ty (.int .i64), .ty (.int .i64)], []⟩
def s_hash_Of_t0 : Sig := ⟨[3], [.ty (.int .u32)], []⟩
def s_hash_Of_r : Sig := ⟨[2], [.ty (.int .u32)], []⟩
def p_hash_Of : Pol := ⟨fun i => if i = 0 then some [(3, .keep), (6, .keep), (7, .keep), (8, .keep)] else none, fun i => if i = 0 then some [(3, .keep)] else none, some [(2, .keep)], [.keep], []⟩
def e_hash_Of : List EK := [.ty (.slice .str)]
def h_hash_Of : List HK := []
noncomputable def cf_hash_Of : CallF := mkCF [(59, c_hash_More)] [(59, [(.int .u32), .str])]
noncomputable def ls_hash_Of (n : Nat) : Loops := fun i => if i = 0 then some (loopT 0 (p_hash_Of.head 0) s_hash_Of_h0 fun K v => L_hash_Of_0 n (fun z0 => K (.ex 0) (s_hash_Of_t0.enc ((z0, ()), ()))) v.1.2.1 v.1.2.2.1 n v.1.1 v.1.2.2.2.1)
  else  none
noncomputable def b_hash_Of_0 : Code := partOf (bodyOf Try.f35) [1, 1, 0, 1, 0, 0]
theorem t_hash_Of_0 (n : Nat) (K : Cont) (rec : Sig.sem s_hash_Of_h0 → Option Res) (v : Sig.sem s_hash_Of_h0) : runT Try.prog cf_hash_Of Try.f35.ntmps 0 p_hash_Of (ls_hash_Of n) b_hash_Of_0 (s_hash_Of_h0.enc v) (turnK 0 (p_hash_Of.head 0) s_hash_Of_h0 rec K) = F_hash_Of_0 n (fun z0 => K (.ex 0) (s_hash_Of_t0.enc ((z0, ()), ()))) v.1.2.1 v.1.2.2.1 (fun z0 z3 => rec ((z0, (v.1.2.1, (v.1.2.2.1, (z3, ())))), ())) v.1.1 v.1.2.2.2.1 := by kernel_rfl
noncomputable def V_hash_Of_0 (n : Nat) (K : Cont) (rec : Sig.sem s_hash_Of_h0 → Option Res) (v : Sig.sem s_hash_Of_h0) : Option Res := F_hash_Of_0 n (fun z0 => K (.ex 0) (s_hash_Of_t0.enc ((z0, ()), ()))) v.1.2.1 v.1.2.2.1 (fun z0 z3 => rec ((z0, (v.1.2.1, (v.1.2.2.1, (z3, ())))), ())) v.1.1 v.1.2.2.2.1
noncomputable def W_hash_Of_0 (n : Nat) (K : Cont) (m : Nat) (v : Sig.sem s_hash_Of_h0) : Option Res := L_hash_Of_0 n (fun z0 => K (.ex 0) (s_hash_Of_t0.enc ((z0, ()), ()))) v.1.2.1 v.1.2.2.1 m v.1.1 v.1.2.2.2.1
theorem i_hash_Of_0 (n : Nat) (K : Cont) : ∀ m v, iter (V_hash_Of_0 n K) m v = W_hash_Of_0 n K m v := by
  intro m
  induction m with
  | zero => intro v; rfl
  | succ m ih =>
    intro v
    show V_hash_Of_0 n K (iter (V_hash_Of_0 n K) m) v = V_hash_Of_0 n K (W_hash_Of_0 n K m) v
    rw [show iter (V_hash_Of_0 n K) m = W_hash_Of_0 n K m from funext ih]
theorem o_hash_Of_0 (n : Nat) : ∀ L, ls_hash_Of n 0 = some L → ∀ s K r, L s K = some r → ∃ x s', loopN (run Try.prog cf_hash_Of Try.f35.ntmps 0 n p_hash_Of none b_hash_Of_0) (gc 0 (p_hash_Of.head 0)) n s = some (x, s') ∧ K x s' = some r := by
  intro L hL s K r h
  have hL : some (loopT 0 (p_hash_Of.head 0) s_hash_Of_h0 fun K v => W_hash_Of_0 n K n v) = some L := hL
  cases hL
  have hb : LOk Try.prog cf_hash_Of Try.f35.ntmps 0 n p_hash_Of (ls_hash_Of n) b_hash_Of_0 := ⟨trivial, ⟨⟨trivial, trivial⟩, ⟨⟨trivial, trivial⟩, trivial⟩⟩⟩
  refine loopT_ok hb (V_hash_Of_0 n) (t_hash_Of_0 n) n s K r ?_
  rw [← h]
  unfold loopT
  simp only [i_hash_Of_0]
theorem m_hash_Of (n : Nat) (a0 : (List ByteArray)) : runFT Try.prog cf_hash_Of p_hash_Of (ls_hash_Of n) Try.f35 (bodyOf Try.f35) (EK.encs e_hash_Of ((a0, ()), ()).1) (HK.encs h_hash_Of ((a0, ()), ()).2) = M_hash_Of n a0 := by kernel_rfl
theorem g_hash_Of (n : Nat) (a0 : (List ByteArray)) {r : Res} (h : M_hash_Of n a0 = some r) : runF Try.prog cf_hash_Of n p_hash_Of 35 (EK.encs e_hash_Of ((a0, ()), ()).1) (HK.encs h_hash_Of ((a0, ()), ()).2) = some r := by
  have hb : LOk Try.prog cf_hash_Of Try.f35.ntmps 0 n p_hash_Of (ls_hash_Of n) (bodyOf Try.f35) := ⟨trivial, ⟨trivial, ⟨⟨trivial, (o_hash_Of_0 n)⟩, ⟨trivial, trivial⟩⟩⟩⟩
  exact runFT_some Try.prog (c := bodyOf Try.f35) Try.func35 (show Try.f35.body = some (bodyOf Try.f35) from rfl) (show (1 : Nat) ≤ 17 by decide) hb ((m_hash_Of n a0).trans h) rfl (by kernel_rfl)
noncomputable def c_hash_Of : Spec := specQ e_hash_Of h_hash_Of ro_hash_Of rh_hash_Of fun a b => Q_hash_Of a.1
theorem k_hash_Of (hm : Try.prog.follows .mixedOrders = true) : SpecOk Try.prog 35 c_hash_Of := specQ_ok (pol := p_hash_Of) hm (cf := cf_hash_Of) (tab_ok (specs_cons (k_hash_More hm) specs_nil)) fun a b r h => ⟨FUEL, g_hash_Of FUEL a.1 (decRes_some h)⟩
def s_hash_Mix_r : Sig := ⟨[2], [.ty (.int .u32)], []⟩
def p_hash_Mix : Pol := ⟨fun i => none, fun i => none, some [(2, .keep)], [.keep], []⟩
def e_hash_Mix : List EK := [.ty (.int .u32)]
def h_hash_Mix : List HK := []
noncomputable def cf_hash_Mix : CallF := mkCF [] []
noncomputable def ls_hash_Mix (n : Nat) : Loops := fun i =>  none
theorem m_hash_Mix (n : Nat) (a0 : Int) : runFT Try.prog cf_hash_Mix p_hash_Mix (ls_hash_Mix n) Try.f34 (bodyOf Try.f34) (EK.encs e_hash_Mix ((a0, ()), ()).1) (HK.encs h_hash_Mix ((a0, ()), ()).2) = M_hash_Mix n a0 := by kernel_rfl
theorem g_hash_Mix (n : Nat) (a0 : Int) {r : Res} (h : M_hash_Mix n a0 = some r) : runF Try.prog cf_hash_Mix n p_hash_Mix 34 (EK.encs e_hash_Mix ((a0, ()), ()).1) (HK.encs h_hash_Mix ((a0, ()), ()).2) = some r := by
  have hb : LOk Try.prog cf_hash_Mix Try.f34.ntmps 0 n p_hash_Mix (ls_hash_Mix n) (bodyOf Try.f34) := ⟨trivial, ⟨trivial, ⟨trivial, ⟨trivial, ⟨trivial, ⟨trivial, trivial⟩⟩⟩⟩⟩⟩
  exact runFT_some Try.prog (c := bodyOf Try.f34) Try.func34 (show Try.f34.body = some (bodyOf Try.f34) from rfl) (show (1 : Nat) ≤ 19 by decide) hb ((m_hash_Mix n a0).trans h) rfl (by kernel_rfl)
noncomputable def c_hash_Mix : Spec := specQ e_hash_Mix h_hash_Mix ro_hash_Mix rh_hash_Mix fun a b => Q_hash_Mix a.1
theorem k_hash_Mix (hm : Try.prog.follows .mixedOrders = true) : SpecOk Try.prog 34 c_hash_Mix := specQ_ok (pol := p_hash_Mix) hm (cf := cf_hash_Mix) (tab_ok specs_nil) fun a b r h => ⟨FUEL, g_hash_Mix FUEL a.1 (decRes_some h)⟩
def s_key_Number_r : Sig := ⟨[4, 5], [.ty (.int .u32), .ty (.int .i64)], [.one false [.ptr 1 0 0, .nul 4, .ptr 3 0 0, .ty (.int .i64)], .one false [.hs 2 0], .row (.int .u8), .one false [.hs 4 0], .row (.int .u8)]⟩
def p_key_Number : Pol := ⟨fun i => none, fun i => none, some [(4, .keep), (5, .keep)], [.keep, .keep], []⟩
def e_key_Number : List EK := [.ptr 0 0 0, .agg FieldT]
def h_key_Number : List HK := [.one false [.ptr 1 0 0, .nul 4, .ptr 3 0 0, .ty (.int .i64)], .one false [.hs 2 0], .row (.int .u8), .one false [.hs 4 0], .row (.int .u8)]
noncomputable def cf_key_Number : CallF := mkCF [(40, c_key_text), (35, c_hash_Of), (34, c_hash_Mix)] [(35, [(.slice .str)]), (34, [(.int .u32)])]
noncomputable def ls_key_Number (n : Nat) : Loops := fun i =>  none
theorem m_key_Number (n : Nat) (a0 : FieldS) (a1 : Int) (a2 : Nat) (a3 : (List Int)) (a4 : Nat) (a5 : (List Int)) : runFT Try.prog cf_key_Number p_key_Number (ls_key_Number n) Try.f22 (bodyOf Try.f22) (EK.encs e_key_Number (((), (a0, ())), (((), ((), ((), (a1, ())))), ((a2, ()), (a3, ((a4, ()), (a5, ())))))).1) (HK.encs h_key_Number (((), (a0, ())), (((), ((), ((), (a1, ())))), ((a2, ()), (a3, ((a4, ()), (a5, ())))))).2) = M_key_Number n a0 a1 a2 a3 a4 a5 := by kernel_rfl
theorem g_key_Number (n : Nat) (a0 : FieldS) (a1 : Int) (a2 : Nat) (a3 : (List Int)) (a4 : Nat) (a5 : (List Int)) {r : Res} (h : M_key_Number n a0 a1 a2 a3 a4 a5 = some r) : runF Try.prog cf_key_Number n p_key_Number 22 (EK.encs e_key_Number (((), (a0, ())), (((), ((), ((), (a1, ())))), ((a2, ()), (a3, ((a4, ()), (a5, ())))))).1) (HK.encs h_key_Number (((), (a0, ())), (((), ((), ((), (a1, ())))), ((a2, ()), (a3, ((a4, ()), (a5, ())))))).2) = some r := by
  have hb : LOk Try.prog cf_key_Number Try.f22.ntmps 5 n p_key_Number (ls_key_Number n) (bodyOf Try.f22) := ⟨trivial, ⟨trivial, ⟨⟨trivial, ⟨⟨trivial, trivial⟩, trivial⟩⟩, ⟨trivial, trivial⟩⟩⟩⟩
  exact runFT_some Try.prog (c := bodyOf Try.f22) Try.func22 (show Try.f22.body = some (bodyOf Try.f22) from rfl) (show (2 : Nat) ≤ 22 by decide) hb ((m_key_Number n a0 a1 a2 a3 a4 a5).trans h) rfl (by kernel_rfl)
noncomputable def c_key_Number : Spec := specQ e_key_Number h_key_Number ro_key_Number rh_key_Number fun a b => Q_key_Number a.2.1 b.1.2.2.2.1 b.2.1.1 b.2.2.1 b.2.2.2.1.1 b.2.2.2.2.1
theorem k_key_Number (hm : Try.prog.follows .mixedOrders = true) : SpecOk Try.prog 22 c_key_Number := specQ_ok (pol := p_key_Number) hm (cf := cf_key_Number) (tab_ok (specs_cons (k_key_text hm) (specs_cons (k_hash_Of hm) (specs_cons (k_hash_Mix hm) specs_nil)))) fun a b r h => ⟨FUEL, g_key_Number FUEL a.2.1 b.1.2.2.2.1 b.2.1.1 b.2.2.1 b.2.2.2.1.1 b.2.2.2.2.1 (decRes_some h)⟩
def s_turnoutref06_Texts_r : Sig := ⟨[4], [.ty .bool], []⟩
def s_turnoutref06_Texts_h0 : Sig := ⟨[0, 1, 5], [.ty (.slice .str), .ty (.slice .str), .ty (.int .i64)], []⟩
def s_turnoutref06_Texts_t0 : Sig := ⟨[], [], []⟩
def p_turnoutref06_Texts : Pol := ⟨fun i => if i = 0 then some [(0, .keep), (1, .keep), (5, .keep)] else none, fun i => if i = 0 then some [] else none, some [(4, .keep)], [.keep], []⟩
def e_turnoutref06_Texts : List EK := [.ty (.slice .str), .ty (.slice .str)]
def h_turnoutref06_Texts : List HK := []
noncomputable def cf_turnoutref06_Texts : CallF := mkCF [] []
noncomputable def ls_turnoutref06_Texts (n : Nat) : Loops := fun i => if i = 0 then some (loopT 0 (p_turnoutref06_Texts.head 0) s_turnoutref06_Texts_h0 fun K v => L_turnoutref06_Texts_0 n (fun z0 => K .rt (s_turnoutref06_Texts_r.enc ((z0, ()), ()))) (fun _ => K (.ex 0) (s_turnoutref06_Texts_t0.enc ((), ()))) v.1.1 v.1.2.1 n v.1.2.2.1)
  else  none
noncomputable def b_turnoutref06_Texts_0 : Code := partOf (bodyOf Try.f14) [1, 1, 0, 1, 0, 0]
theorem t_turnoutref06_Texts_0 (n : Nat) (K : Cont) (rec : Sig.sem s_turnoutref06_Texts_h0 → Option Res) (v : Sig.sem s_turnoutref06_Texts_h0) : runT Try.prog cf_turnoutref06_Texts Try.f14.ntmps 0 p_turnoutref06_Texts (ls_turnoutref06_Texts n) b_turnoutref06_Texts_0 (s_turnoutref06_Texts_h0.enc v) (turnK 0 (p_turnoutref06_Texts.head 0) s_turnoutref06_Texts_h0 rec K) = F_turnoutref06_Texts_0 n (fun z0 => K .rt (s_turnoutref06_Texts_r.enc ((z0, ()), ()))) (fun _ => K (.ex 0) (s_turnoutref06_Texts_t0.enc ((), ()))) v.1.1 v.1.2.1 (fun z2 => rec ((v.1.1, (v.1.2.1, (z2, ()))), ())) v.1.2.2.1 := by kernel_rfl
noncomputable def V_turnoutref06_Texts_0 (n : Nat) (K : Cont) (rec : Sig.sem s_turnoutref06_Texts_h0 → Option Res) (v : Sig.sem s_turnoutref06_Texts_h0) : Option Res := F_turnoutref06_Texts_0 n (fun z0 => K .rt (s_turnoutref06_Texts_r.enc ((z0, ()), ()))) (fun _ => K (.ex 0) (s_turnoutref06_Texts_t0.enc ((), ()))) v.1.1 v.1.2.1 (fun z2 => rec ((v.1.1, (v.1.2.1, (z2, ()))), ())) v.1.2.2.1
noncomputable def W_turnoutref06_Texts_0 (n : Nat) (K : Cont) (m : Nat) (v : Sig.sem s_turnoutref06_Texts_h0) : Option Res := L_turnoutref06_Texts_0 n (fun z0 => K .rt (s_turnoutref06_Texts_r.enc ((z0, ()), ()))) (fun _ => K (.ex 0) (s_turnoutref06_Texts_t0.enc ((), ()))) v.1.1 v.1.2.1 m v.1.2.2.1
theorem i_turnoutref06_Texts_0 (n : Nat) (K : Cont) : ∀ m v, iter (V_turnoutref06_Texts_0 n K) m v = W_turnoutref06_Texts_0 n K m v := by
  intro m
  induction m with
  | zero => intro v; rfl
  | succ m ih =>
    intro v
    show V_turnoutref06_Texts_0 n K (iter (V_turnoutref06_Texts_0 n K) m) v = V_turnoutref06_Texts_0 n K (W_turnoutref06_Texts_0 n K m) v
    rw [show iter (V_turnoutref06_Texts_0 n K) m = W_turnoutref06_Texts_0 n K m from funext ih]
theorem o_turnoutref06_Texts_0 (n : Nat) : ∀ L, ls_turnoutref06_Texts n 0 = some L → ∀ s K r, L s K = some r → ∃ x s', loopN (run Try.prog cf_turnoutref06_Texts Try.f14.ntmps 0 n p_turnoutref06_Texts none b_turnoutref06_Texts_0) (gc 0 (p_turnoutref06_Texts.head 0)) n s = some (x, s') ∧ K x s' = some r := by
  intro L hL s K r h
  have hL : some (loopT 0 (p_turnoutref06_Texts.head 0) s_turnoutref06_Texts_h0 fun K v => W_turnoutref06_Texts_0 n K n v) = some L := hL
  cases hL
  have hb : LOk Try.prog cf_turnoutref06_Texts Try.f14.ntmps 0 n p_turnoutref06_Texts (ls_turnoutref06_Texts n) b_turnoutref06_Texts_0 := ⟨⟨trivial, ⟨trivial, trivial⟩⟩, ⟨⟨trivial, ⟨⟨trivial, trivial⟩, trivial⟩⟩, trivial⟩⟩
  refine loopT_ok hb (V_turnoutref06_Texts_0 n) (t_turnoutref06_Texts_0 n) n s K r ?_
  rw [← h]
  unfold loopT
  simp only [i_turnoutref06_Texts_0]
theorem m_turnoutref06_Texts (n : Nat) (a0 : (List ByteArray)) (a1 : (List ByteArray)) : runFT Try.prog cf_turnoutref06_Texts p_turnoutref06_Texts (ls_turnoutref06_Texts n) Try.f14 (bodyOf Try.f14) (EK.encs e_turnoutref06_Texts ((a0, (a1, ())), ()).1) (HK.encs h_turnoutref06_Texts ((a0, (a1, ())), ()).2) = M_turnoutref06_Texts n a0 a1 := by kernel_rfl
theorem g_turnoutref06_Texts (n : Nat) (a0 : (List ByteArray)) (a1 : (List ByteArray)) {r : Res} (h : M_turnoutref06_Texts n a0 a1 = some r) : runF Try.prog cf_turnoutref06_Texts n p_turnoutref06_Texts 14 (EK.encs e_turnoutref06_Texts ((a0, (a1, ())), ()).1) (HK.encs h_turnoutref06_Texts ((a0, (a1, ())), ()).2) = some r := by
  have hb : LOk Try.prog cf_turnoutref06_Texts Try.f14.ntmps 0 n p_turnoutref06_Texts (ls_turnoutref06_Texts n) (bodyOf Try.f14) := ⟨trivial, ⟨⟨trivial, ⟨⟨trivial, trivial⟩, trivial⟩⟩, ⟨⟨trivial, (o_turnoutref06_Texts_0 n)⟩, ⟨trivial, trivial⟩⟩⟩⟩
  exact runFT_some Try.prog (c := bodyOf Try.f14) Try.func14 (show Try.f14.body = some (bodyOf Try.f14) from rfl) (show (2 : Nat) ≤ 26 by decide) hb ((m_turnoutref06_Texts n a0 a1).trans h) rfl (by kernel_rfl)
noncomputable def c_turnoutref06_Texts : Spec := specQ e_turnoutref06_Texts h_turnoutref06_Texts ro_turnoutref06_Texts rh_turnoutref06_Texts fun a b => Q_turnoutref06_Texts a.1 a.2.1
theorem k_turnoutref06_Texts (hm : Try.prog.follows .mixedOrders = true) : SpecOk Try.prog 14 c_turnoutref06_Texts := specQ_ok (pol := p_turnoutref06_Texts) hm (cf := cf_turnoutref06_Texts) (tab_ok specs_nil) fun a b r h => ⟨FUEL, g_turnoutref06_Texts FUEL a.1 a.2.1 (decRes_some h)⟩
def s_turnoutlaw18_awake_r : Sig := ⟨[0], [.ty .bool], []⟩
def p_turnoutlaw18_awake : Pol := ⟨fun i => none, fun i => none, some [(0, .keep)], [.keep], []⟩
def e_turnoutlaw18_awake : List EK := []
def h_turnoutlaw18_awake : List HK := []
noncomputable def cf_turnoutlaw18_awake : CallF := { (mkCF [(19, c_pack_New), (21, c_turnoutlaw18_bits), (20, c_key_Of), (23, c_key_Widths), (12, c_key_Segments), (22, c_key_Number), (14, c_turnoutref06_Texts), (35, c_hash_Of), (34, c_hash_Mix)] [(19, [(.int .i64), .str]), (21, [(.int .i64), (.int .i64)]), (23, [(.slice FieldT)]), (12, [.str, (.slice (.int .i64))]), (14, [(.slice .str), (.slice .str)]), (35, [(.slice .str)]), (34, [(.int .u32)])]) with mix := mixes [(20, [none, some ((.slice FieldT))])] }
noncomputable def ls_turnoutlaw18_awake (n : Nat) : Loops := fun i =>  none
theorem m_turnoutlaw18_awake (n : Nat) : runFT Try.prog cf_turnoutlaw18_awake p_turnoutlaw18_awake (ls_turnoutlaw18_awake n) Try.f11 (bodyOf Try.f11) (EK.encs e_turnoutlaw18_awake ((), ()).1) (HK.encs h_turnoutlaw18_awake ((), ()).2) = M_turnoutlaw18_awake n := by kernel_rfl
theorem g_turnoutlaw18_awake (n : Nat) {r : Res} (h : M_turnoutlaw18_awake n = some r) : runF Try.prog cf_turnoutlaw18_awake n p_turnoutlaw18_awake 11 (EK.encs e_turnoutlaw18_awake ((), ()).1) (HK.encs h_turnoutlaw18_awake ((), ()).2) = some r := by
  have hb : LOk Try.prog cf_turnoutlaw18_awake Try.f11.ntmps 0 n p_turnoutlaw18_awake (ls_turnoutlaw18_awake n) (bodyOf Try.f11) := ⟨trivial, ⟨trivial, ⟨trivial, ⟨⟨trivial, ⟨⟨trivial, trivial⟩, trivial⟩⟩, ⟨trivial, ⟨trivial, ⟨trivial, ⟨trivial, ⟨trivial, ⟨trivial, ⟨trivial, trivial⟩⟩⟩⟩⟩⟩⟩⟩⟩⟩⟩
  exact runFT_some Try.prog (c := bodyOf Try.f11) Try.func11 (show Try.f11.body = some (bodyOf Try.f11) from rfl) (show (0 : Nat) ≤ 119 by decide) hb ((m_turnoutlaw18_awake n).trans h) rfl (by kernel_rfl)
noncomputable def c_turnoutlaw18_awake : Spec := specQ e_turnoutlaw18_awake h_turnoutlaw18_awake ro_turnoutlaw18_awake rh_turnoutlaw18_awake fun a b => Q_turnoutlaw18_awake
theorem k_turnoutlaw18_awake (hm : Try.prog.follows .mixedOrders = true) : SpecOk Try.prog 11 c_turnoutlaw18_awake := specQ_ok (pol := p_turnoutlaw18_awake) hm (cf := cf_turnoutlaw18_awake) (CallSound.mix <| tab_ok (specs_cons (k_pack_New hm) (specs_cons (k_turnoutlaw18_bits hm) (specs_cons (k_key_Of hm) (specs_cons (k_key_Widths hm) (specs_cons (k_key_Segments hm) (specs_cons (k_key_Number hm) (specs_cons (k_turnoutref06_Texts hm) (specs_cons (k_hash_Of hm) (specs_cons (k_hash_Mix hm) specs_nil)))))))))) fun a b r h => ⟨FUEL, g_turnoutlaw18_awake FUEL (decRes_some h)⟩
noncomputable def c_strings_Join : Spec := specQ [.ty (.slice .str), .ty .str] [] ro_strings_Join rh_strings_Join fun a b => Q_strings_Join a.1 a.2.1
theorem k_strings_Join (hm : Try.prog.follows .mixedOrders = true) : SpecOk Try.prog 36 c_strings_Join := H18.join_ok
def s_key_Join_r : Sig := ⟨[2], [.ty .str], []⟩
def p_key_Join : Pol := ⟨fun i => none, fun i => none, some [(2, .keep)], [.keep], []⟩
def e_key_Join : List EK := [.ty (.slice .str)]
def h_key_Join : List HK := []
noncomputable def cf_key_Join : CallF := mkCF [(36, c_strings_Join)] [(36, [(.slice .str), .str])]
noncomputable def ls_key_Join (n : Nat) : Loops := fun i =>  none
theorem m_key_Join (n : Nat) (a0 : (List ByteArray)) : runFT Try.prog cf_key_Join p_key_Join (ls_key_Join n) Try.f13 (bodyOf Try.f13) (EK.encs e_key_Join ((a0, ()), ()).1) (HK.encs h_key_Join ((a0, ()), ()).2) = M_key_Join n a0 := by kernel_rfl
theorem g_key_Join (n : Nat) (a0 : (List ByteArray)) {r : Res} (h : M_key_Join n a0 = some r) : runF Try.prog cf_key_Join n p_key_Join 13 (EK.encs e_key_Join ((a0, ()), ()).1) (HK.encs h_key_Join ((a0, ()), ()).2) = some r := by
  have hb : LOk Try.prog cf_key_Join Try.f13.ntmps 0 n p_key_Join (ls_key_Join n) (bodyOf Try.f13) := ⟨trivial, ⟨trivial, trivial⟩⟩
  exact runFT_some Try.prog (c := bodyOf Try.f13) Try.func13 (show Try.f13.body = some (bodyOf Try.f13) from rfl) (show (1 : Nat) ≤ 5 by decide) hb ((m_key_Join n a0).trans h) rfl (by kernel_rfl)
noncomputable def c_key_Join : Spec := specQ e_key_Join h_key_Join ro_key_Join rh_key_Join fun a b => Q_key_Join a.1
theorem k_key_Join (hm : Try.prog.follows .mixedOrders = true) : SpecOk Try.prog 13 c_key_Join := specQ_ok (pol := p_key_Join) hm (cf := cf_key_Join) (tab_ok (specs_cons (k_strings_Join hm) specs_nil)) fun a b r h => ⟨FUEL, g_key_Join FUEL a.1 (decRes_some h)⟩
def s_turnoutlaw18_KeyBack_r : Sig := ⟨[6], [.ty .bool], []⟩
def s_turnoutlaw18_KeyBack_h0 : Sig := ⟨[0, 1, 2, 7, 8], [.ty (.slice .str), .ty .str, .ty (.slice (.int .i64)), .hs 0 0, .ty (.int .i64)], [.row (.int .i64)]⟩
def s_turnoutlaw18_KeyBack_t0 : Sig := ⟨[0, 1, 2, 7], [.ty (.slice .str), .ty .str, .ty (.slice (.int .i64)), .hs 0 0], [.row (.int .i64)]⟩
def p_turnoutlaw18_KeyBack : Pol := ⟨fun i => if i = 0 then some [(0, .keep), (1, .keep), (2, .keep), (7, (.own (.int .i64))), (8, .keep)] else none, fun i => if i = 0 then some [(0, .keep), (1, .keep), (2, .keep), (7, (.own (.int .i64)))] else none, some [(6, .keep)], [.keep], []⟩
def e_turnoutlaw18_KeyBack : List EK := [.ty (.slice .str), .ty .str, .ty (.slice (.int .i64))]
def h_turnoutlaw18_KeyBack : List HK := []
noncomputable def cf_turnoutlaw18_KeyBack : CallF := mkCF [(11, c_turnoutlaw18_awake), (13, c_key_Join), (12, c_key_Segments), (14, c_turnoutref06_Texts)] [(11, []), (13, [(.slice .str)]), (12, [.str, (.slice (.int .i64))]), (14, [(.slice .str), (.slice .str)])]
noncomputable def ls_turnoutlaw18_KeyBack (n : Nat) : Loops := fun i => if i = 0 then some (loopT 0 (p_turnoutlaw18_KeyBack.head 0) s_turnoutlaw18_KeyBack_h0 fun K v => L_turnoutlaw18_KeyBack_0 n (fun z0 => K .rt (s_turnoutlaw18_KeyBack_r.enc ((z0, ()), ()))) (fun z3 z4 => K (.ex 0) (s_turnoutlaw18_KeyBack_t0.enc ((v.1.1, (v.1.2.1, (v.1.2.2.1, (z3, ())))), (z4, ())))) v.1.1 n v.1.2.2.2.1 v.1.2.2.2.2.1 v.2.1)
  else  none
noncomputable def b_turnoutlaw18_KeyBack_0 : Code := partOf (bodyOf Try.f3) [1, 1, 1, 0, 1, 0, 0]
theorem t_turnoutlaw18_KeyBack_0 (n : Nat) (K : Cont) (rec : Sig.sem s_turnoutlaw18_KeyBack_h0 → Option Res) (v : Sig.sem s_turnoutlaw18_KeyBack_h0) : runT Try.prog cf_turnoutlaw18_KeyBack Try.f3.ntmps 0 p_turnoutlaw18_KeyBack (ls_turnoutlaw18_KeyBack n) b_turnoutlaw18_KeyBack_0 (s_turnoutlaw18_KeyBack_h0.enc v) (turnK 0 (p_turnoutlaw18_KeyBack.head 0) s_turnoutlaw18_KeyBack_h0 rec K) = F_turnoutlaw18_KeyBack_0 n (fun z0 => K .rt (s_turnoutlaw18_KeyBack_r.enc ((z0, ()), ()))) (fun z3 z4 => K (.ex 0) (s_turnoutlaw18_KeyBack_t0.enc ((v.1.1, (v.1.2.1, (v.1.2.2.1, (z3, ())))), (z4, ())))) v.1.1 (fun z3 z4 z5 => rec ((v.1.1, (v.1.2.1, (v.1.2.2.1, (z3, (z4, ()))))), (z5, ()))) v.1.2.2.2.1 v.1.2.2.2.2.1 v.2.1 := by kernel_rfl
noncomputable def V_turnoutlaw18_KeyBack_0 (n : Nat) (K : Cont) (rec : Sig.sem s_turnoutlaw18_KeyBack_h0 → Option Res) (v : Sig.sem s_turnoutlaw18_KeyBack_h0) : Option Res := F_turnoutlaw18_KeyBack_0 n (fun z0 => K .rt (s_turnoutlaw18_KeyBack_r.enc ((z0, ()), ()))) (fun z3 z4 => K (.ex 0) (s_turnoutlaw18_KeyBack_t0.enc ((v.1.1, (v.1.2.1, (v.1.2.2.1, (z3, ())))), (z4, ())))) v.1.1 (fun z3 z4 z5 => rec ((v.1.1, (v.1.2.1, (v.1.2.2.1, (z3, (z4, ()))))), (z5, ()))) v.1.2.2.2.1 v.1.2.2.2.2.1 v.2.1
noncomputable def W_turnoutlaw18_KeyBack_0 (n : Nat) (K : Cont) (m : Nat) (v : Sig.sem s_turnoutlaw18_KeyBack_h0) : Option Res := L_turnoutlaw18_KeyBack_0 n (fun z0 => K .rt (s_turnoutlaw18_KeyBack_r.enc ((z0, ()), ()))) (fun z3 z4 => K (.ex 0) (s_turnoutlaw18_KeyBack_t0.enc ((v.1.1, (v.1.2.1, (v.1.2.2.1, (z3, ())))), (z4, ())))) v.1.1 m v.1.2.2.2.1 v.1.2.2.2.2.1 v.2.1
theorem i_turnoutlaw18_KeyBack_0 (n : Nat) (K : Cont) : ∀ m v, iter (V_turnoutlaw18_KeyBack_0 n K) m v = W_turnoutlaw18_KeyBack_0 n K m v := by
  intro m
  induction m with
  | zero => intro v; rfl
  | succ m ih =>
    intro v
    show V_turnoutlaw18_KeyBack_0 n K (iter (V_turnoutlaw18_KeyBack_0 n K) m) v = V_turnoutlaw18_KeyBack_0 n K (W_turnoutlaw18_KeyBack_0 n K m) v
    rw [show iter (V_turnoutlaw18_KeyBack_0 n K) m = W_turnoutlaw18_KeyBack_0 n K m from funext ih]
theorem o_turnoutlaw18_KeyBack_0 (n : Nat) : ∀ L, ls_turnoutlaw18_KeyBack n 0 = some L → ∀ s K r, L s K = some r → ∃ x s', loopN (run Try.prog cf_turnoutlaw18_KeyBack Try.f3.ntmps 0 n p_turnoutlaw18_KeyBack none b_turnoutlaw18_KeyBack_0) (gc 0 (p_turnoutlaw18_KeyBack.head 0)) n s = some (x, s') ∧ K x s' = some r := by
  intro L hL s K r h
  have hL : some (loopT 0 (p_turnoutlaw18_KeyBack.head 0) s_turnoutlaw18_KeyBack_h0 fun K v => W_turnoutlaw18_KeyBack_0 n K n v) = some L := hL
  cases hL
  have hb : LOk Try.prog cf_turnoutlaw18_KeyBack Try.f3.ntmps 0 n p_turnoutlaw18_KeyBack (ls_turnoutlaw18_KeyBack n) b_turnoutlaw18_KeyBack_0 := ⟨⟨trivial, ⟨trivial, trivial⟩⟩, ⟨⟨⟨trivial, ⟨⟨trivial, trivial⟩, trivial⟩⟩, trivial⟩, trivial⟩⟩
  refine loopT_ok hb (V_turnoutlaw18_KeyBack_0 n) (t_turnoutlaw18_KeyBack_0 n) n s K r ?_
  rw [← h]
  unfold loopT
  simp only [i_turnoutlaw18_KeyBack_0]
theorem m_turnoutlaw18_KeyBack (n : Nat) (a0 : (List ByteArray)) (a1 : ByteArray) (a2 : (List Int)) : runFT Try.prog cf_turnoutlaw18_KeyBack p_turnoutlaw18_KeyBack (ls_turnoutlaw18_KeyBack n) Try.f3 (bodyOf Try.f3) (EK.encs e_turnoutlaw18_KeyBack ((a0, (a1, (a2, ()))), ()).1) (HK.encs h_turnoutlaw18_KeyBack ((a0, (a1, (a2, ()))), ()).2) = M_turnoutlaw18_KeyBack n a0 a1 a2 := by kernel_rfl
theorem g_turnoutlaw18_KeyBack (n : Nat) (a0 : (List ByteArray)) (a1 : ByteArray) (a2 : (List Int)) {r : Res} (h : M_turnoutlaw18_KeyBack n a0 a1 a2 = some r) : runF Try.prog cf_turnoutlaw18_KeyBack n p_turnoutlaw18_KeyBack 3 (EK.encs e_turnoutlaw18_KeyBack ((a0, (a1, (a2, ()))), ()).1) (HK.encs h_turnoutlaw18_KeyBack ((a0, (a1, (a2, ()))), ()).2) = some r := by
  have hb : LOk Try.prog cf_turnoutlaw18_KeyBack Try.f3.ntmps 0 n p_turnoutlaw18_KeyBack (ls_turnoutlaw18_KeyBack n) (bodyOf Try.f3) := ⟨trivial, ⟨⟨trivial, ⟨⟨trivial, trivial⟩, trivial⟩⟩, ⟨trivial, ⟨⟨trivial, (o_turnoutlaw18_KeyBack_0 n)⟩, ⟨trivial, ⟨⟨trivial, ⟨⟨trivial, trivial⟩, trivial⟩⟩, ⟨trivial, ⟨trivial, trivial⟩⟩⟩⟩⟩⟩⟩⟩
  exact runFT_some Try.prog (c := bodyOf Try.f3) Try.func3 (show Try.f3.body = some (bodyOf Try.f3) from rfl) (show (3 : Nat) ≤ 94 by decide) hb ((m_turnoutlaw18_KeyBack n a0 a1 a2).trans h) rfl (by kernel_rfl)
noncomputable def c_turnoutlaw18_KeyBack : Spec := specQ e_turnoutlaw18_KeyBack h_turnoutlaw18_KeyBack ro_turnoutlaw18_KeyBack rh_turnoutlaw18_KeyBack fun a b => Q_turnoutlaw18_KeyBack a.1 a.2.1 a.2.2.1
theorem k_turnoutlaw18_KeyBack (hm : Try.prog.follows .mixedOrders = true) : SpecOk Try.prog 3 c_turnoutlaw18_KeyBack := specQ_ok (pol := p_turnoutlaw18_KeyBack) hm (cf := cf_turnoutlaw18_KeyBack) (tab_ok (specs_cons (k_turnoutlaw18_awake hm) (specs_cons (k_key_Join hm) (specs_cons (k_key_Segments hm) (specs_cons (k_turnoutref06_Texts hm) specs_nil))))) fun a b r h => ⟨FUEL, g_turnoutlaw18_KeyBack FUEL a.1 a.2.1 a.2.2.1 (decRes_some h)⟩
def s_turnoutref18_Segments_h0 : Sig := ⟨[0, 1, 6, 7], [.ty .str, .ty (.slice (.int .i64)), .ty (.int .i64), .ty (.int .i64)], []⟩
def s_turnoutref18_Segments_r : Sig := ⟨[4, 5], [.hs 0 0, .ty (.int .i64)], [.row .str]⟩
def s_turnoutref18_Segments_t0 : Sig := ⟨[0, 1, 6], [.ty .str, .ty (.slice (.int .i64)), .ty (.int .i64)], []⟩
def s_turnoutref18_Segments_h2 : Sig := ⟨[0, 1, 8, 9], [.ty .str, .ty (.slice (.int .i64)), .hs 0 0, .ty (.int .i64)], [.row .str]⟩
def s_turnoutref18_Segments_t2 : Sig := ⟨[8], [.hs 0 0], [.row .str]⟩
def p_turnoutref18_Segments : Pol := ⟨fun i => if i = 0 then some [(0, .keep), (1, .keep), (6, .keep), (7, .keep)] else if i = 2 then some [(0, .keep), (1, .keep), (8, (.own .str)), (9, .keep)] else none, fun i => if i = 0 then some [(0, .keep), (1, .keep), (6, .keep)] else if i = 2 then some [(8, (.own .str))] else none, some [(4, (.own .str)), (5, .keep)], [(.own .str), .keep], []⟩
def e_turnoutref18_Segments : List EK := [.ty .str, .ty (.slice (.int .i64))]
def h_turnoutref18_Segments : List HK := []
noncomputable def cf_turnoutref18_Segments : CallF := mkCF [] []
noncomputable def ls_turnoutref18_Segments (n : Nat) : Loops := fun i => if i = 0 then some (loopT 0 (p_turnoutref18_Segments.head 0) s_turnoutref18_Segments_h0 fun K v => L_turnoutref18_Segments_0 n (fun z0 z1 z2 => K .rt (s_turnoutref18_Segments_r.enc ((z0, (z1, ())), (z2, ())))) (fun z2 => K (.ex 0) (s_turnoutref18_Segments_t0.enc ((v.1.1, (v.1.2.1, (z2, ()))), ()))) v.1.2.1 n v.1.2.2.1 v.1.2.2.2.1)
  else if i = 2 then some (loopT 0 (p_turnoutref18_Segments.head 2) s_turnoutref18_Segments_h2 fun K v => L_turnoutref18_Segments_2 n (fun z0 z1 => K (.ex 2) (s_turnoutref18_Segments_t2.enc ((z0, ()), (z1, ())))) v.1.2.1 n v.1.1 v.1.2.2.1 v.1.2.2.2.1 v.2.1)
  else  none
noncomputable def b_turnoutref18_Segments_0 : Code := partOf (bodyOf Try.f15) [1, 1, 0, 1, 0, 0]
theorem t_turnoutref18_Segments_0 (n : Nat) (K : Cont) (rec : Sig.sem s_turnoutref18_Segments_h0 → Option Res) (v : Sig.sem s_turnoutref18_Segments_h0) : runT Try.prog cf_turnoutref18_Segments Try.f15.ntmps 0 p_turnoutref18_Segments (ls_turnoutref18_Segments n) b_turnoutref18_Segments_0 (s_turnoutref18_Segments_h0.enc v) (turnK 0 (p_turnoutref18_Segments.head 0) s_turnoutref18_Segments_h0 rec K) = F_turnoutref18_Segments_0 n (fun z0 z1 z2 => K .rt (s_turnoutref18_Segments_r.enc ((z0, (z1, ())), (z2, ())))) (fun z2 => K (.ex 0) (s_turnoutref18_Segments_t0.enc ((v.1.1, (v.1.2.1, (z2, ()))), ()))) v.1.2.1 (fun z2 z3 => rec ((v.1.1, (v.1.2.1, (z2, (z3, ())))), ())) v.1.2.2.1 v.1.2.2.2.1 := by kernel_rfl
noncomputable def V_turnoutref18_Segments_0 (n : Nat) (K : Cont) (rec : Sig.sem s_turnoutref18_Segments_h0 → Option Res) (v : Sig.sem s_turnoutref18_Segments_h0) : Option Res := F_turnoutref18_Segments_0 n (fun z0 z1 z2 => K .rt (s_turnoutref18_Segments_r.enc ((z0, (z1, ())), (z2, ())))) (fun z2 => K (.ex 0) (s_turnoutref18_Segments_t0.enc ((v.1.1, (v.1.2.1, (z2, ()))), ()))) v.1.2.1 (fun z2 z3 => rec ((v.1.1, (v.1.2.1, (z2, (z3, ())))), ())) v.1.2.2.1 v.1.2.2.2.1
noncomputable def W_turnoutref18_Segments_0 (n : Nat) (K : Cont) (m : Nat) (v : Sig.sem s_turnoutref18_Segments_h0) : Option Res := L_turnoutref18_Segments_0 n (fun z0 z1 z2 => K .rt (s_turnoutref18_Segments_r.enc ((z0, (z1, ())), (z2, ())))) (fun z2 => K (.ex 0) (s_turnoutref18_Segments_t0.enc ((v.1.1, (v.1.2.1, (z2, ()))), ()))) v.1.2.1 m v.1.2.2.1 v.1.2.2.2.1
theorem i_turnoutref18_Segments_0 (n : Nat) (K : Cont) : ∀ m v, iter (V_turnoutref18_Segments_0 n K) m v = W_turnoutref18_Segments_0 n K m v := by
  intro m
  induction m with
  | zero => intro v; rfl
  | succ m ih =>
    intro v
    show V_turnoutref18_Segments_0 n K (iter (V_turnoutref18_Segments_0 n K) m) v = V_turnoutref18_Segments_0 n K (W_turnoutref18_Segments_0 n K m) v
    rw [show iter (V_turnoutref18_Segments_0 n K) m = W_turnoutref18_Segments_0 n K m from funext ih]
theorem o_turnoutref18_Segments_0 (n : Nat) : ∀ L, ls_turnoutref18_Segments n 0 = some L → ∀ s K r, L s K = some r → ∃ x s', loopN (run Try.prog cf_turnoutref18_Segments Try.f15.ntmps 0 n p_turnoutref18_Segments none b_turnoutref18_Segments_0) (gc 0 (p_turnoutref18_Segments.head 0)) n s = some (x, s') ∧ K x s' = some r := by
  intro L hL s K r h
  have hL : some (loopT 0 (p_turnoutref18_Segments.head 0) s_turnoutref18_Segments_h0 fun K v => W_turnoutref18_Segments_0 n K n v) = some L := hL
  cases hL
  have hb : LOk Try.prog cf_turnoutref18_Segments Try.f15.ntmps 0 n p_turnoutref18_Segments (ls_turnoutref18_Segments n) b_turnoutref18_Segments_0 := ⟨⟨trivial, ⟨trivial, trivial⟩⟩, ⟨⟨⟨trivial, ⟨⟨trivial, trivial⟩, trivial⟩⟩, trivial⟩, trivial⟩⟩
  refine loopT_ok hb (V_turnoutref18_Segments_0 n) (t_turnoutref18_Segments_0 n) n s K r ?_
  rw [← h]
  unfold loopT
  simp only [i_turnoutref18_Segments_0]
noncomputable def b_turnoutref18_Segments_2 : Code := partOf (bodyOf Try.f15) [1, 1, 1, 1, 1, 1, 0, 1, 0, 0]
theorem t_turnoutref18_Segments_2 (n : Nat) (K : Cont) (rec : Sig.sem s_turnoutref18_Segments_h2 → Option Res) (v : Sig.sem s_turnoutref18_Segments_h2) : runT Try.prog cf_turnoutref18_Segments Try.f15.ntmps 0 p_turnoutref18_Segments (ls_turnoutref18_Segments n) b_turnoutref18_Segments_2 (s_turnoutref18_Segments_h2.enc v) (turnK 0 (p_turnoutref18_Segments.head 2) s_turnoutref18_Segments_h2 rec K) = F_turnoutref18_Segments_2 n (fun z0 z1 => K (.ex 2) (s_turnoutref18_Segments_t2.enc ((z0, ()), (z1, ())))) v.1.2.1 (fun z0 z2 z3 z4 => rec ((z0, (v.1.2.1, (z2, (z3, ())))), (z4, ()))) v.1.1 v.1.2.2.1 v.1.2.2.2.1 v.2.1 := by kernel_rfl
noncomputable def V_turnoutref18_Segments_2 (n : Nat) (K : Cont) (rec : Sig.sem s_turnoutref18_Segments_h2 → Option Res) (v : Sig.sem s_turnoutref18_Segments_h2) : Option Res := F_turnoutref18_Segments_2 n (fun z0 z1 => K (.ex 2) (s_turnoutref18_Segments_t2.enc ((z0, ()), (z1, ())))) v.1.2.1 (fun z0 z2 z3 z4 => rec ((z0, (v.1.2.1, (z2, (z3, ())))), (z4, ()))) v.1.1 v.1.2.2.1 v.1.2.2.2.1 v.2.1
noncomputable def W_turnoutref18_Segments_2 (n : Nat) (K : Cont) (m : Nat) (v : Sig.sem s_turnoutref18_Segments_h2) : Option Res := L_turnoutref18_Segments_2 n (fun z0 z1 => K (.ex 2) (s_turnoutref18_Segments_t2.enc ((z0, ()), (z1, ())))) v.1.2.1 m v.1.1 v.1.2.2.1 v.1.2.2.2.1 v.2.1
theorem i_turnoutref18_Segments_2 (n : Nat) (K : Cont) : ∀ m v, iter (V_turnoutref18_Segments_2 n K) m v = W_turnoutref18_Segments_2 n K m v := by
  intro m
  induction m with
  | zero => intro v; rfl
  | succ m ih =>
    intro v
    show V_turnoutref18_Segments_2 n K (iter (V_turnoutref18_Segments_2 n K) m) v = V_turnoutref18_Segments_2 n K (W_turnoutref18_Segments_2 n K m) v
    rw [show iter (V_turnoutref18_Segments_2 n K) m = W_turnoutref18_Segments_2 n K m from funext ih]
theorem o_turnoutref18_Segments_2 (n : Nat) : ∀ L, ls_turnoutref18_Segments n 2 = some L → ∀ s K r, L s K = some r → ∃ x s', loopN (run Try.prog cf_turnoutref18_Segments Try.f15.ntmps 0 n p_turnoutref18_Segments none b_turnoutref18_Segments_2) (gc 0 (p_turnoutref18_Segments.head 2)) n s = some (x, s') ∧ K x s' = some r := by
  intro L hL s K r h
  have hL : some (loopT 0 (p_turnoutref18_Segments.head 2) s_turnoutref18_Segments_h2 fun K v => W_turnoutref18_Segments_2 n K n v) = some L := hL
  cases hL
  have hb : LOk Try.prog cf_turnoutref18_Segments Try.f15.ntmps 0 n p_turnoutref18_Segments (ls_turnoutref18_Segments n) b_turnoutref18_Segments_2 := ⟨⟨trivial, ⟨trivial, trivial⟩⟩, ⟨⟨trivial, trivial⟩, trivial⟩⟩
  refine loopT_ok hb (V_turnoutref18_Segments_2 n) (t_turnoutref18_Segments_2 n) n s K r ?_
  rw [← h]
  unfold loopT
  simp only [i_turnoutref18_Segments_2]
theorem m_turnoutref18_Segments (n : Nat) (a0 : ByteArray) (a1 : (List Int)) : runFT Try.prog cf_turnoutref18_Segments p_turnoutref18_Segments (ls_turnoutref18_Segments n) Try.f15 (bodyOf Try.f15) (EK.encs e_turnoutref18_Segments ((a0, (a1, ())), ()).1) (HK.encs h_turnoutref18_Segments ((a0, (a1, ())), ()).2) = M_turnoutref18_Segments n a0 a1 := by kernel_rfl
theorem g_turnoutref18_Segments (n : Nat) (a0 : ByteArray) (a1 : (List Int)) {r : Res} (h : M_turnoutref18_Segments n a0 a1 = some r) : runF Try.prog cf_turnoutref18_Segments n p_turnoutref18_Segments 15 (EK.encs e_turnoutref18_Segments ((a0, (a1, ())), ()).1) (HK.encs h_turnoutref18_Segments ((a0, (a1, ())), ()).2) = some r := by
  have hb : LOk Try.prog cf_turnoutref18_Segments Try.f15.ntmps 0 n p_turnoutref18_Segments (ls_turnoutref18_Segments n) (bodyOf Try.f15) := ⟨trivial, ⟨trivial, ⟨⟨trivial, (o_turnoutref18_Segments_0 n)⟩, ⟨⟨trivial, ⟨⟨trivial, trivial⟩, trivial⟩⟩, ⟨⟨trivial, ⟨⟨trivial, trivial⟩, trivial⟩⟩, ⟨trivial, ⟨⟨trivial, (o_turnoutref18_Segments_2 n)⟩, ⟨trivial, trivial⟩⟩⟩⟩⟩⟩⟩⟩
  exact runFT_some Try.prog (c := bodyOf Try.f15) Try.func15 (show Try.f15.body = some (bodyOf Try.f15) from rfl) (show (2 : Nat) ≤ 64 by decide) hb ((m_turnoutref18_Segments n a0 a1).trans h) rfl (by kernel_rfl)
noncomputable def c_turnoutref18_Segments : Spec := specQ e_turnoutref18_Segments h_turnoutref18_Segments ro_turnoutref18_Segments rh_turnoutref18_Segments fun a b => Q_turnoutref18_Segments a.1 a.2.1
theorem k_turnoutref18_Segments (hm : Try.prog.follows .mixedOrders = true) : SpecOk Try.prog 15 c_turnoutref18_Segments := specQ_ok (pol := p_turnoutref18_Segments) hm (cf := cf_turnoutref18_Segments) (tab_ok specs_nil) fun a b r h => ⟨FUEL, g_turnoutref18_Segments FUEL a.1 a.2.1 (decRes_some h)⟩
def s_turnoutref18_Fields_h0 : Sig := ⟨[2, 3, 6, 7], [.ptr 0 0 0, .ptr 1 0 0, .hs 2 0, .ty (.int .i64)], [.cell ConfigT, .cell TableT, .row FieldT]⟩
def s_turnoutref18_Fields_h2 : Sig := ⟨[2, 3, 6, 7, 8, 9], [.ptr 0 0 0, .ptr 1 0 0, .hs 2 0, .ty (.int .i64), .ty (.int .i64), .ty (.int .i64)], [.cell ConfigT, .cell TableT, .row FieldT]⟩
def s_turnoutref18_Fields_t2 : Sig := ⟨[2, 3, 6, 7, 8], [.ptr 0 0 0, .ptr 1 0 0, .hs 2 0, .ty (.int .i64), .ty (.int .i64)], [.cell ConfigT, .cell TableT, .row FieldT]⟩
def s_turnoutref18_Fields_r : Sig := ⟨[4, 5], [.hs 0 0, .ty (.int .i64)], [.row FieldT]⟩
def s_turnoutref18_Fields_t0 : Sig := ⟨[6], [.hs 0 0], [.row FieldT]⟩
def p_turnoutref18_Fields : Pol := ⟨fun i => if i = 0 then some [(2, (.own ConfigT)), (3, (.own TableT)), (6, (.own FieldT)), (7, .keep)] else if i = 2 then some [(2, (.own ConfigT)), (3, (.own TableT)), (6, (.own FieldT)), (7, .keep), (8, .keep), (9, .keep)] else none, fun i => if i = 2 then some [(2, (.own ConfigT)), (3, (.own TableT)), (6, (.own FieldT)), (7, .keep), (8, .keep)] else if i = 0 then some [(6, (.own FieldT))] else none, some [(4, (.own FieldT)), (5, .keep)], [(.own FieldT), .keep], []⟩
def e_turnoutref18_Fields : List EK := [.agg ConfigT, .agg TableT]
def h_turnoutref18_Fields : List HK := []
noncomputable def cf_turnoutref18_Fields : CallF := mkCF [] []
noncomputable def ls_turnoutref18_Fields (n : Nat) : Loops := fun i => if i = 2 then some (loopT 0 (p_turnoutref18_Fields.head 2) s_turnoutref18_Fields_h2 fun K v => L_turnoutref18_Fields_2 n (fun z2 => K (.ex 2) (s_turnoutref18_Fields_t2.enc (((), ((), (v.1.2.2.1, (v.1.2.2.2.1, (z2, ()))))), (v.2.1, (v.2.2.1, (v.2.2.2.1, ())))))) v.1.2.2.2.1 v.2.1 v.2.2.1 n v.1.2.2.2.2.1 v.1.2.2.2.2.2.1)
  else if i = 0 then some (loopT 0 (p_turnoutref18_Fields.head 0) s_turnoutref18_Fields_h0 fun K v => L_turnoutref18_Fields_0 n (fun z0 z1 z2 => K .rt (s_turnoutref18_Fields_r.enc ((z0, (z1, ())), (z2, ())))) (fun z0 z1 => K (.ex 0) (s_turnoutref18_Fields_t0.enc ((z0, ()), (z1, ())))) v.2.1 v.2.2.1 n v.1.2.2.1 v.1.2.2.2.1 v.2.2.2.1)
  else  none
noncomputable def b_turnoutref18_Fields_2 : Code := partOf (bodyOf Try.f16) [1, 1, 0, 1, 0, 0, 1, 0, 0, 1, 0, 1, 0, 0]
theorem t_turnoutref18_Fields_2 (n : Nat) (K : Cont) (rec : Sig.sem s_turnoutref18_Fields_h2 → Option Res) (v : Sig.sem s_turnoutref18_Fields_h2) : runT Try.prog cf_turnoutref18_Fields Try.f16.ntmps 0 p_turnoutref18_Fields (ls_turnoutref18_Fields n) b_turnoutref18_Fields_2 (s_turnoutref18_Fields_h2.enc v) (turnK 0 (p_turnoutref18_Fields.head 2) s_turnoutref18_Fields_h2 rec K) = F_turnoutref18_Fields_2 n (fun z2 => K (.ex 2) (s_turnoutref18_Fields_t2.enc (((), ((), (v.1.2.2.1, (v.1.2.2.2.1, (z2, ()))))), (v.2.1, (v.2.2.1, (v.2.2.2.1, ())))))) v.1.2.2.2.1 v.2.1 v.2.2.1 (fun z2 z3 => rec (((), ((), (v.1.2.2.1, (v.1.2.2.2.1, (z2, (z3, ())))))), (v.2.1, (v.2.2.1, (v.2.2.2.1, ()))))) v.1.2.2.2.2.1 v.1.2.2.2.2.2.1 := by kernel_rfl
noncomputable def V_turnoutref18_Fields_2 (n : Nat) (K : Cont) (rec : Sig.sem s_turnoutref18_Fields_h2 → Option Res) (v : Sig.sem s_turnoutref18_Fields_h2) : Option Res := F_turnoutref18_Fields_2 n (fun z2 => K (.ex 2) (s_turnoutref18_Fields_t2.enc (((), ((), (v.1.2.2.1, (v.1.2.2.2.1, (z2, ()))))), (v.2.1, (v.2.2.1, (v.2.2.2.1, ())))))) v.1.2.2.2.1 v.2.1 v.2.2.1 (fun z2 z3 => rec (((), ((), (v.1.2.2.1, (v.1.2.2.2.1, (z2, (z3, ())))))), (v.2.1, (v.2.2.1, (v.2.2.2.1, ()))))) v.1.2.2.2.2.1 v.1.2.2.2.2.2.1
noncomputable def W_turnoutref18_Fields_2 (n : Nat) (K : Cont) (m : Nat) (v : Sig.sem s_turnoutref18_Fields_h2) : Option Res := L_turnoutref18_Fields_2 n (fun z2 => K (.ex 2) (s_turnoutref18_Fields_t2.enc (((), ((), (v.1.2.2.1, (v.1.2.2.2.1, (z2, ()))))), (v.2.1, (v.2.2.1, (v.2.2.2.1, ())))))) v.1.2.2.2.1 v.2.1 v.2.2.1 m v.1.2.2.2.2.1 v.1.2.2.2.2.2.1
theorem i_turnoutref18_Fields_2 (n : Nat) (K : Cont) : ∀ m v, iter (V_turnoutref18_Fields_2 n K) m v = W_turnoutref18_Fields_2 n K m v := by
  intro m
  induction m with
  | zero => intro v; rfl
  | succ m ih =>
    intro v
    show V_turnoutref18_Fields_2 n K (iter (V_turnoutref18_Fields_2 n K) m) v = V_turnoutref18_Fields_2 n K (W_turnoutref18_Fields_2 n K m) v
    rw [show iter (V_turnoutref18_Fields_2 n K) m = W_turnoutref18_Fields_2 n K m from funext ih]
theorem o_turnoutref18_Fields_2 (n : Nat) : ∀ L, ls_turnoutref18_Fields n 2 = some L → ∀ s K r, L s K = some r → ∃ x s', loopN (run Try.prog cf_turnoutref18_Fields Try.f16.ntmps 0 n p_turnoutref18_Fields none b_turnoutref18_Fields_2) (gc 0 (p_turnoutref18_Fields.head 2)) n s = some (x, s') ∧ K x s' = some r := by
  intro L hL s K r h
  have hL : some (loopT 0 (p_turnoutref18_Fields.head 2) s_turnoutref18_Fields_h2 fun K v => W_turnoutref18_Fields_2 n K n v) = some L := hL
  cases hL
  have hb : LOk Try.prog cf_turnoutref18_Fields Try.f16.ntmps 0 n p_turnoutref18_Fields (ls_turnoutref18_Fields n) b_turnoutref18_Fields_2 := ⟨⟨trivial, ⟨trivial, trivial⟩⟩, ⟨⟨trivial, ⟨trivial, trivial⟩⟩, trivial⟩⟩
  refine loopT_ok hb (V_turnoutref18_Fields_2 n) (t_turnoutref18_Fields_2 n) n s K r ?_
  rw [← h]
  unfold loopT
  simp only [i_turnoutref18_Fields_2]
noncomputable def b_turnoutref18_Fields_0 : Code := partOf (bodyOf Try.f16) [1, 1, 0, 1, 0, 0]
theorem t_turnoutref18_Fields_0 (n : Nat) (K : Cont) (rec : Sig.sem s_turnoutref18_Fields_h0 → Option Res) (v : Sig.sem s_turnoutref18_Fields_h0) : runT Try.prog cf_turnoutref18_Fields Try.f16.ntmps 0 p_turnoutref18_Fields (ls_turnoutref18_Fields n) b_turnoutref18_Fields_0 (s_turnoutref18_Fields_h0.enc v) (turnK 0 (p_turnoutref18_Fields.head 0) s_turnoutref18_Fields_h0 rec K) = F_turnoutref18_Fields_0 n (fun z0 z1 z2 => K .rt (s_turnoutref18_Fields_r.enc ((z0, (z1, ())), (z2, ())))) (fun z0 z1 => K (.ex 0) (s_turnoutref18_Fields_t0.enc ((z0, ()), (z1, ())))) v.2.1 v.2.2.1 (fun z0 z1 z4 => rec (((), ((), (z0, (z1, ())))), (v.2.1, (v.2.2.1, (z4, ()))))) v.1.2.2.1 v.1.2.2.2.1 v.2.2.2.1 := by kernel_rfl
noncomputable def V_turnoutref18_Fields_0 (n : Nat) (K : Cont) (rec : Sig.sem s_turnoutref18_Fields_h0 → Option Res) (v : Sig.sem s_turnoutref18_Fields_h0) : Option Res := F_turnoutref18_Fields_0 n (fun z0 z1 z2 => K .rt (s_turnoutref18_Fields_r.enc ((z0, (z1, ())), (z2, ())))) (fun z0 z1 => K (.ex 0) (s_turnoutref18_Fields_t0.enc ((z0, ()), (z1, ())))) v.2.1 v.2.2.1 (fun z0 z1 z4 => rec (((), ((), (z0, (z1, ())))), (v.2.1, (v.2.2.1, (z4, ()))))) v.1.2.2.1 v.1.2.2.2.1 v.2.2.2.1
noncomputable def W_turnoutref18_Fields_0 (n : Nat) (K : Cont) (m : Nat) (v : Sig.sem s_turnoutref18_Fields_h0) : Option Res := L_turnoutref18_Fields_0 n (fun z0 z1 z2 => K .rt (s_turnoutref18_Fields_r.enc ((z0, (z1, ())), (z2, ())))) (fun z0 z1 => K (.ex 0) (s_turnoutref18_Fields_t0.enc ((z0, ()), (z1, ())))) v.2.1 v.2.2.1 m v.1.2.2.1 v.1.2.2.2.1 v.2.2.2.1
theorem i_turnoutref18_Fields_0 (n : Nat) (K : Cont) : ∀ m v, iter (V_turnoutref18_Fields_0 n K) m v = W_turnoutref18_Fields_0 n K m v := by
  intro m
  induction m with
  | zero => intro v; rfl
  | succ m ih =>
    intro v
    show V_turnoutref18_Fields_0 n K (iter (V_turnoutref18_Fields_0 n K) m) v = V_turnoutref18_Fields_0 n K (W_turnoutref18_Fields_0 n K m) v
    rw [show iter (V_turnoutref18_Fields_0 n K) m = W_turnoutref18_Fields_0 n K m from funext ih]
theorem o_turnoutref18_Fields_0 (n : Nat) : ∀ L, ls_turnoutref18_Fields n 0 = some L → ∀ s K r, L s K = some r → ∃ x s', loopN (run Try.prog cf_turnoutref18_Fields Try.f16.ntmps 0 n p_turnoutref18_Fields none b_turnoutref18_Fields_0) (gc 0 (p_turnoutref18_Fields.head 0)) n s = some (x, s') ∧ K x s' = some r := by
  intro L hL s K r h
  have hL : some (loopT 0 (p_turnoutref18_Fields.head 0) s_turnoutref18_Fields_h0 fun K v => W_turnoutref18_Fields_0 n K n v) = some L := hL
  cases hL
  have hb : LOk Try.prog cf_turnoutref18_Fields Try.f16.ntmps 0 n p_turnoutref18_Fields (ls_turnoutref18_Fields n) b_turnoutref18_Fields_0 := ⟨⟨trivial, ⟨trivial, trivial⟩⟩, ⟨⟨trivial, ⟨⟨trivial, (o_turnoutref18_Fields_2 n)⟩, ⟨⟨trivial, ⟨⟨trivial, trivial⟩, trivial⟩⟩, trivial⟩⟩⟩, trivial⟩⟩
  refine loopT_ok hb (V_turnoutref18_Fields_0 n) (t_turnoutref18_Fields_0 n) n s K r ?_
  rw [← h]
  unfold loopT
  simp only [i_turnoutref18_Fields_0]
theorem m_turnoutref18_Fields (n : Nat) (a0 : ConfigS) (a1 : TableS) : runFT Try.prog cf_turnoutref18_Fields p_turnoutref18_Fields (ls_turnoutref18_Fields n) Try.f16 (bodyOf Try.f16) (EK.encs e_turnoutref18_Fields ((a0, (a1, ())), ()).1) (HK.encs h_turnoutref18_Fields ((a0, (a1, ())), ()).2) = M_turnoutref18_Fields n a0 a1 := by kernel_rfl
theorem g_turnoutref18_Fields (n : Nat) (a0 : ConfigS) (a1 : TableS) {r : Res} (h : M_turnoutref18_Fields n a0 a1 = some r) : runF Try.prog cf_turnoutref18_Fields n p_turnoutref18_Fields 16 (EK.encs e_turnoutref18_Fields ((a0, (a1, ())), ()).1) (HK.encs h_turnoutref18_Fields ((a0, (a1, ())), ()).2) = some r := by
  have hb : LOk Try.prog cf_turnoutref18_Fields Try.f16.ntmps 0 n p_turnoutref18_Fields (ls_turnoutref18_Fields n) (bodyOf Try.f16) := ⟨trivial, ⟨trivial, ⟨⟨trivial, (o_turnoutref18_Fields_0 n)⟩, ⟨trivial, trivial⟩⟩⟩⟩
  exact runFT_some Try.prog (c := bodyOf Try.f16) Try.func16 (show Try.f16.body = some (bodyOf Try.f16) from rfl) (show (2 : Nat) ≤ 52 by decide) hb ((m_turnoutref18_Fields n a0 a1).trans h) rfl (by kernel_rfl)
noncomputable def c_turnoutref18_Fields : Spec := specQ e_turnoutref18_Fields h_turnoutref18_Fields ro_turnoutref18_Fields rh_turnoutref18_Fields fun a b => Q_turnoutref18_Fields a.1 a.2.1
theorem k_turnoutref18_Fields (hm : Try.prog.follows .mixedOrders = true) : SpecOk Try.prog 16 c_turnoutref18_Fields := specQ_ok (pol := p_turnoutref18_Fields) hm (cf := cf_turnoutref18_Fields) (tab_ok specs_nil) fun a b r h => ⟨FUEL, g_turnoutref18_Fields FUEL a.1 a.2.1 (decRes_some h)⟩
def s_key_Fields_1_r : Sig := ⟨[3], [.ty .bool], [.one true [.ty (.int .i64)]]⟩
def p_key_Fields_1 : Pol := ⟨fun i => none, fun i => none, some [(3, .keep)], [.keep], []⟩
def e_key_Fields_1 : List EK := [.agg FieldT, .ptr 0 0 0]
def h_key_Fields_1 : List HK := [.one true [.ty (.int .i64)]]
noncomputable def cf_key_Fields_1 : CallF := mkCF [] []
noncomputable def ls_key_Fields_1 (n : Nat) : Loops := fun i =>  none
theorem m_key_Fields_1 (n : Nat) (a0 : FieldS) (a1 : Int) : runFT Try.prog cf_key_Fields_1 p_key_Fields_1 (ls_key_Fields_1 n) Try.f38 (bodyOf Try.f38) (EK.encs e_key_Fields_1 ((a0, ((), ())), ((a1, ()), ())).1) (HK.encs h_key_Fields_1 ((a0, ((), ())), ((a1, ()), ())).2) = M_key_Fields_1 n a0 a1 := by kernel_rfl
theorem g_key_Fields_1 (n : Nat) (a0 : FieldS) (a1 : Int) {r : Res} (h : M_key_Fields_1 n a0 a1 = some r) : runF Try.prog cf_key_Fields_1 n p_key_Fields_1 38 (EK.encs e_key_Fields_1 ((a0, ((), ())), ((a1, ()), ())).1) (HK.encs h_key_Fields_1 ((a0, ((), ())), ((a1, ()), ())).2) = some r := by
  have hb : LOk Try.prog cf_key_Fields_1 Try.f38.ntmps 1 n p_key_Fields_1 (ls_key_Fields_1 n) (bodyOf Try.f38) := ⟨trivial, ⟨trivial, trivial⟩⟩
  exact runFT_some Try.prog (c := bodyOf Try.f38) Try.func38 (show Try.f38.body = some (bodyOf Try.f38) from rfl) (show (2 : Nat) ≤ 8 by decide) hb ((m_key_Fields_1 n a0 a1).trans h) rfl (by kernel_rfl)
noncomputable def c_key_Fields_1 : Spec := specQ e_key_Fields_1 h_key_Fields_1 ro_key_Fields_1 rh_key_Fields_1 fun a b => Q_key_Fields_1 a.1 b.1.1
theorem k_key_Fields_1 (hm : Try.prog.follows .mixedOrders = true) : SpecOk Try.prog 38 c_key_Fields_1 := specQ_ok (pol := p_key_Fields_1) hm (cf := cf_key_Fields_1) (tab_ok specs_nil) fun a b r h => ⟨FUEL, g_key_Fields_1 FUEL a.1 b.1.1 (decRes_some h)⟩
def s_api_Field_h0 : Sig := ⟨[0, 1, 7, 8], [.ty (.slice FieldT), .fn 38 [(0, 0, 0)], .ty (.int .i64), .ty (.int .i64)], [.one true [.ty (.int .i64)]]⟩
def s_api_Field_r : Sig := ⟨[4], [.ty (.int .i64)], [.one true [.ty (.int .i64)]]⟩
def s_api_Field_t0 : Sig := ⟨[], [], [.one true [.ty (.int .i64)]]⟩
def p_api_Field : Pol := ⟨fun i => if i = 0 then some [(0, .keep), (1, .keep), (7, .keep), (8, .keep)] else none, fun i => if i = 0 then some [] else none, some [(4, .keep)], [.keep], []⟩
def e_api_Field : List EK := [.ty (.slice FieldT), .fn 38 [(0, 0, 0)]]
def h_api_Field : List HK := [.one true [.ty (.int .i64)]]
noncomputable def cf_api_Field : CallF := mkCF [(38, c_key_Fields_1)] []
noncomputable def ls_api_Field (n : Nat) : Loops := fun i => if i = 0 then some (loopT 1 (p_api_Field.head 0) s_api_Field_h0 fun K v => L_api_Field_0 n (fun z0 z1 => K .rt (s_api_Field_r.enc ((z0, ()), ((z1, ()), ())))) (fun z0 => K (.ex 0) (s_api_Field_t0.enc ((), ((z0, ()), ())))) v.1.1 v.1.2.2.1 n v.1.2.2.2.1 v.2.1.1)
  else  none
noncomputable def b_api_Field_0 : Code := partOf (bodyOf Try.f37) [1, 0, 1, 0, 0]
theorem t_api_Field_0 (n : Nat) (K : Cont) (rec : Sig.sem s_api_Field_h0 → Option Res) (v : Sig.sem s_api_Field_h0) : runT Try.prog cf_api_Field Try.f37.ntmps 1 p_api_Field (ls_api_Field n) b_api_Field_0 (s_api_Field_h0.enc v) (turnK 1 (p_api_Field.head 0) s_api_Field_h0 rec K) = F_api_Field_0 n (fun z0 z1 => K .rt (s_api_Field_r.enc ((z0, ()), ((z1, ()), ())))) (fun z0 => K (.ex 0) (s_api_Field_t0.enc ((), ((z0, ()), ())))) v.1.1 v.1.2.2.1 (fun z2 z3 => rec ((v.1.1, ((), (v.1.2.2.1, (z2, ())))), ((z3, ()), ()))) v.1.2.2.2.1 v.2.1.1 := by kernel_rfl
noncomputable def V_api_Field_0 (n : Nat) (K : Cont) (rec : Sig.sem s_api_Field_h0 → Option Res) (v : Sig.sem s_api_Field_h0) : Option Res := F_api_Field_0 n (fun z0 z1 => K .rt (s_api_Field_r.enc ((z0, ()), ((z1, ()), ())))) (fun z0 => K (.ex 0) (s_api_Field_t0.enc ((), ((z0, ()), ())))) v.1.1 v.1.2.2.1 (fun z2 z3 => rec ((v.1.1, ((), (v.1.2.2.1, (z2, ())))), ((z3, ()), ()))) v.1.2.2.2.1 v.2.1.1
noncomputable def W_api_Field_0 (n : Nat) (K : Cont) (m : Nat) (v : Sig.sem s_api_Field_h0) : Option Res := L_api_Field_0 n (fun z0 z1 => K .rt (s_api_Field_r.enc ((z0, ()), ((z1, ()), ())))) (fun z0 => K (.ex 0) (s_api_Field_t0.enc ((), ((z0, ()), ())))) v.1.1 v.1.2.2.1 m v.1.2.2.2.1 v.2.1.1
theorem i_api_Field_0 (n : Nat) (K : Cont) : ∀ m v, iter (V_api_Field_0 n K) m v = W_api_Field_0 n K m v := by
  intro m
  induction m with
  | zero => intro v; rfl
  | succ m ih =>
    intro v
    show V_api_Field_0 n K (iter (V_api_Field_0 n K) m) v = V_api_Field_0 n K (W_api_Field_0 n K m) v
    rw [show iter (V_api_Field_0 n K) m = W_api_Field_0 n K m from funext ih]
theorem o_api_Field_0 (n : Nat) : ∀ L, ls_api_Field n 0 = some L → ∀ s K r, L s K = some r → ∃ x s', loopN (run Try.prog cf_api_Field Try.f37.ntmps 1 n p_api_Field none b_api_Field_0) (gc 1 (p_api_Field.head 0)) n s = some (x, s') ∧ K x s' = some r := by
  intro L hL s K r h
  have hL : some (loopT 1 (p_api_Field.head 0) s_api_Field_h0 fun K v => W_api_Field_0 n K n v) = some L := hL
  cases hL
  have hb : LOk Try.prog cf_api_Field Try.f37.ntmps 1 n p_api_Field (ls_api_Field n) b_api_Field_0 := ⟨trivial, ⟨⟨trivial, trivial⟩, ⟨⟨trivial, ⟨trivial, ⟨⟨trivial, trivial⟩, trivial⟩⟩⟩, trivial⟩⟩⟩
  refine loopT_ok hb (V_api_Field_0 n) (t_api_Field_0 n) n s K r ?_
  rw [← h]
  unfold loopT
  simp only [i_api_Field_0]
theorem m_api_Field (n : Nat) (a0 : (List FieldS)) (a1 : Int) : runFT Try.prog cf_api_Field p_api_Field (ls_api_Field n) Try.f37 (bodyOf Try.f37) (EK.encs e_api_Field ((a0, ((), ())), ((a1, ()), ())).1) (HK.encs h_api_Field ((a0, ((), ())), ((a1, ()), ())).2) = M_api_Field n a0 a1 := by kernel_rfl
theorem g_api_Field (n : Nat) (a0 : (List FieldS)) (a1 : Int) {r : Res} (h : M_api_Field n a0 a1 = some r) : runF Try.prog cf_api_Field n p_api_Field 37 (EK.encs e_api_Field ((a0, ((), ())), ((a1, ()), ())).1) (HK.encs h_api_Field ((a0, ((), ())), ((a1, ()), ())).2) = some r := by
  have hb : LOk Try.prog cf_api_Field Try.f37.ntmps 1 n p_api_Field (ls_api_Field n) (bodyOf Try.f37) := ⟨trivial, ⟨⟨trivial, (o_api_Field_0 n)⟩, ⟨trivial, trivial⟩⟩⟩
  exact runFT_some Try.prog (c := bodyOf Try.f37) Try.func37 (show Try.f37.body = some (bodyOf Try.f37) from rfl) (show (2 : Nat) ≤ 19 by decide) hb ((m_api_Field n a0 a1).trans h) rfl (by kernel_rfl)
noncomputable def c_api_Field : Spec := specQ e_api_Field h_api_Field ro_api_Field rh_api_Field fun a b => Q_api_Field a.1 b.1.1
theorem k_api_Field (hm : Try.prog.follows .mixedOrders = true) : SpecOk Try.prog 37 c_api_Field := specQ_ok (pol := p_api_Field) hm (cf := cf_api_Field) (tab_ok (specs_cons (k_key_Fields_1 hm) specs_nil)) fun a b r h => ⟨FUEL, g_api_Field FUEL a.1 b.1.1 (decRes_some h)⟩
def s_key_Fields_h0 : Sig := ⟨[2, 6, 11, 12, 13], [.ptr 0 0 0, .hs 1 0, .ty (.slice (.int .i64)), .ty (.int .i64), .ty (.int .i64)], [.cell ConfigT, .row FieldT]⟩
def s_key_Fields_r : Sig := ⟨[4, 5], [.hs 0 0, .ty (.int .i64)], [.row FieldT]⟩
def s_key_Fields_t0 : Sig := ⟨[6], [.hs 0 0], [.row FieldT]⟩
def p_key_Fields : Pol := ⟨fun i => if i = 0 then some [(2, (.own ConfigT)), (6, (.own FieldT)), (11, .keep), (12, .keep), (13, .keep)] else none, fun i => if i = 0 then some [(6, (.own FieldT))] else none, some [(4, (.own FieldT)), (5, .keep)], [(.own FieldT), .keep], []⟩
def e_key_Fields : List EK := [.agg ConfigT, .agg TableT]
def h_key_Fields : List HK := []
noncomputable def cf_key_Fields : CallF := { (mkCF [(37, c_api_Field)] []) with mix := mixes [(37, [some ((.slice FieldT)), none])] }
noncomputable def ls_key_Fields (n : Nat) : Loops := fun i => if i = 0 then some (loopT 0 (p_key_Fields.head 0) s_key_Fields_h0 fun K v => L_key_Fields_0 n (fun z0 z1 z2 => K .rt (s_key_Fields_r.enc ((z0, (z1, ())), (z2, ())))) (fun z0 z1 => K (.ex 0) (s_key_Fields_t0.enc ((z0, ()), (z1, ())))) v.1.2.2.1 v.1.2.2.2.1 v.2.1 n v.1.2.1 v.1.2.2.2.2.1 v.2.2.1)
  else  none
noncomputable def b_key_Fields_0 : Code := partOf (bodyOf Try.f17) [1, 1, 0, 1, 0, 0]
theorem t_key_Fields_0 (n : Nat) (K : Cont) (rec : Sig.sem s_key_Fields_h0 → Option Res) (v : Sig.sem s_key_Fields_h0) : runT Try.prog cf_key_Fields Try.f17.ntmps 0 p_key_Fields (ls_key_Fields n) b_key_Fields_0 (s_key_Fields_h0.enc v) (turnK 0 (p_key_Fields.head 0) s_key_Fields_h0 rec K) = F_key_Fields_0 n (fun z0 z1 z2 => K .rt (s_key_Fields_r.enc ((z0, (z1, ())), (z2, ())))) (fun z0 z1 => K (.ex 0) (s_key_Fields_t0.enc ((z0, ()), (z1, ())))) v.1.2.2.1 v.1.2.2.2.1 v.2.1 (fun z0 z3 z5 => rec (((), (z0, (v.1.2.2.1, (v.1.2.2.2.1, (z3, ()))))), (v.2.1, (z5, ())))) v.1.2.1 v.1.2.2.2.2.1 v.2.2.1 := by kernel_rfl
noncomputable def V_key_Fields_0 (n : Nat) (K : Cont) (rec : Sig.sem s_key_Fields_h0 → Option Res) (v : Sig.sem s_key_Fields_h0) : Option Res := F_key_Fields_0 n (fun z0 z1 z2 => K .rt (s_key_Fields_r.enc ((z0, (z1, ())), (z2, ())))) (fun z0 z1 => K (.ex 0) (s_key_Fields_t0.enc ((z0, ()), (z1, ())))) v.1.2.2.1 v.1.2.2.2.1 v.2.1 (fun z0 z3 z5 => rec (((), (z0, (v.1.2.2.1, (v.1.2.2.2.1, (z3, ()))))), (v.2.1, (z5, ())))) v.1.2.1 v.1.2.2.2.2.1 v.2.2.1
noncomputable def W_key_Fields_0 (n : Nat) (K : Cont) (m : Nat) (v : Sig.sem s_key_Fields_h0) : Option Res := L_key_Fields_0 n (fun z0 z1 z2 => K .rt (s_key_Fields_r.enc ((z0, (z1, ())), (z2, ())))) (fun z0 z1 => K (.ex 0) (s_key_Fields_t0.enc ((z0, ()), (z1, ())))) v.1.2.2.1 v.1.2.2.2.1 v.2.1 m v.1.2.1 v.1.2.2.2.2.1 v.2.2.1
theorem i_key_Fields_0 (n : Nat) (K : Cont) : ∀ m v, iter (V_key_Fields_0 n K) m v = W_key_Fields_0 n K m v := by
  intro m
  induction m with
  | zero => intro v; rfl
  | succ m ih =>
    intro v
    show V_key_Fields_0 n K (iter (V_key_Fields_0 n K) m) v = V_key_Fields_0 n K (W_key_Fields_0 n K m) v
    rw [show iter (V_key_Fields_0 n K) m = W_key_Fields_0 n K m from funext ih]
theorem o_key_Fields_0 (n : Nat) : ∀ L, ls_key_Fields n 0 = some L → ∀ s K r, L s K = some r → ∃ x s', loopN (run Try.prog cf_key_Fields Try.f17.ntmps 0 n p_key_Fields none b_key_Fields_0) (gc 0 (p_key_Fields.head 0)) n s = some (x, s') ∧ K x s' = some r := by
  intro L hL s K r h
  have hL : some (loopT 0 (p_key_Fields.head 0) s_key_Fields_h0 fun K v => W_key_Fields_0 n K n v) = some L := hL
  cases hL
  have hb : LOk Try.prog cf_key_Fields Try.f17.ntmps 0 n p_key_Fields (ls_key_Fields n) b_key_Fields_0 := ⟨trivial, ⟨⟨trivial, trivial⟩, ⟨⟨trivial, ⟨trivial, ⟨⟨trivial, ⟨⟨trivial, trivial⟩, trivial⟩⟩, trivial⟩⟩⟩, trivial⟩⟩⟩
  refine loopT_ok hb (V_key_Fields_0 n) (t_key_Fields_0 n) n s K r ?_
  rw [← h]
  unfold loopT
  simp only [i_key_Fields_0]
theorem m_key_Fields (n : Nat) (a0 : ConfigS) (a1 : TableS) : runFT Try.prog cf_key_Fields p_key_Fields (ls_key_Fields n) Try.f17 (bodyOf Try.f17) (EK.encs e_key_Fields ((a0, (a1, ())), ()).1) (HK.encs h_key_Fields ((a0, (a1, ())), ()).2) = M_key_Fields n a0 a1 := by kernel_rfl
theorem g_key_Fields (n : Nat) (a0 : ConfigS) (a1 : TableS) {r : Res} (h : M_key_Fields n a0 a1 = some r) : runF Try.prog cf_key_Fields n p_key_Fields 17 (EK.encs e_key_Fields ((a0, (a1, ())), ()).1) (HK.encs h_key_Fields ((a0, (a1, ())), ()).2) = some r := by
  have hb : LOk Try.prog cf_key_Fields Try.f17.ntmps 0 n p_key_Fields (ls_key_Fields n) (bodyOf Try.f17) := ⟨trivial, ⟨trivial, ⟨⟨trivial, (o_key_Fields_0 n)⟩, ⟨trivial, trivial⟩⟩⟩⟩
  exact runFT_some Try.prog (c := bodyOf Try.f17) Try.func17 (show Try.f17.body = some (bodyOf Try.f17) from rfl) (show (2 : Nat) ≤ 33 by decide) hb ((m_key_Fields n a0 a1).trans h) rfl (by kernel_rfl)
noncomputable def c_key_Fields : Spec := specQ e_key_Fields h_key_Fields ro_key_Fields rh_key_Fields fun a b => Q_key_Fields a.1 a.2.1
theorem k_key_Fields (hm : Try.prog.follows .mixedOrders = true) : SpecOk Try.prog 17 c_key_Fields := specQ_ok (pol := p_key_Fields) hm (cf := cf_key_Fields) (CallSound.mix <| tab_ok (specs_cons (k_api_Field hm) specs_nil)) fun a b r h => ⟨FUEL, g_key_Fields FUEL a.1 a.2.1 (decRes_some h)⟩
def s_turnoutref18_Join_h0 : Sig := ⟨[0, 3, 4], [.ty (.slice .str), .ty .str, .ty (.int .i64)], []⟩
def s_turnoutref18_Join_t0 : Sig := ⟨[3], [.ty .str], []⟩
def s_turnoutref18_Join_r : Sig := ⟨[2], [.ty .str], []⟩
def p_turnoutref18_Join : Pol := ⟨fun i => if i = 0 then some [(0, .keep), (3, .keep), (4, .keep)] else none, fun i => if i = 0 then some [(3, .keep)] else none, some [(2, .keep)], [.keep], []⟩
def e_turnoutref18_Join : List EK := [.ty (.slice .str)]
def h_turnoutref18_Join : List HK := []
noncomputable def cf_turnoutref18_Join : CallF := mkCF [] []
noncomputable def ls_turnoutref18_Join (n : Nat) : Loops := fun i => if i = 0 then some (loopT 0 (p_turnoutref18_Join.head 0) s_turnoutref18_Join_h0 fun K v => L_turnoutref18_Join_0 n (fun z0 => K (.ex 0) (s_turnoutref18_Join_t0.enc ((z0, ()), ()))) v.1.1 n v.1.2.1 v.1.2.2.1)
  else  none
noncomputable def b_turnoutref18_Join_0 : Code := partOf (bodyOf Try.f18) [1, 1, 0, 1, 0, 0]
theorem t_turnoutref18_Join_0 (n : Nat) (K : Cont) (rec : Sig.sem s_turnoutref18_Join_h0 → Option Res) (v : Sig.sem s_turnoutref18_Join_h0) : runT Try.prog cf_turnoutref18_Join Try.f18.ntmps 0 p_turnoutref18_Join (ls_turnoutref18_Join n) b_turnoutref18_Join_0 (s_turnoutref18_Join_h0.enc v) (turnK 0 (p_turnoutref18_Join.head 0) s_turnoutref18_Join_h0 rec K) = F_turnoutref18_Join_0 n (fun z0 => K (.ex 0) (s_turnoutref18_Join_t0.enc ((z0, ()), ()))) v.1.1 (fun z1 z2 => rec ((v.1.1, (z1, (z2, ()))), ())) v.1.2.1 v.1.2.2.1 := by kernel_rfl
noncomputable def V_turnoutref18_Join_0 (n : Nat) (K : Cont) (rec : Sig.sem s_turnoutref18_Join_h0 → Option Res) (v : Sig.sem s_turnoutref18_Join_h0) : Option Res := F_turnoutref18_Join_0 n (fun z0 => K (.ex 0) (s_turnoutref18_Join_t0.enc ((z0, ()), ()))) v.1.1 (fun z1 z2 => rec ((v.1.1, (z1, (z2, ()))), ())) v.1.2.1 v.1.2.2.1
noncomputable def W_turnoutref18_Join_0 (n : Nat) (K : Cont) (m : Nat) (v : Sig.sem s_turnoutref18_Join_h0) : Option Res := L_turnoutref18_Join_0 n (fun z0 => K (.ex 0) (s_turnoutref18_Join_t0.enc ((z0, ()), ()))) v.1.1 m v.1.2.1 v.1.2.2.1
theorem i_turnoutref18_Join_0 (n : Nat) (K : Cont) : ∀ m v, iter (V_turnoutref18_Join_0 n K) m v = W_turnoutref18_Join_0 n K m v := by
  intro m
  induction m with
  | zero => intro v; rfl
  | succ m ih =>
    intro v
    show V_turnoutref18_Join_0 n K (iter (V_turnoutref18_Join_0 n K) m) v = V_turnoutref18_Join_0 n K (W_turnoutref18_Join_0 n K m) v
    rw [show iter (V_turnoutref18_Join_0 n K) m = W_turnoutref18_Join_0 n K m from funext ih]
theorem o_turnoutref18_Join_0 (n : Nat) : ∀ L, ls_turnoutref18_Join n 0 = some L → ∀ s K r, L s K = some r → ∃ x s', loopN (run Try.prog cf_turnoutref18_Join Try.f18.ntmps 0 n p_turnoutref18_Join none b_turnoutref18_Join_0) (gc 0 (p_turnoutref18_Join.head 0)) n s = some (x, s') ∧ K x s' = some r := by
  intro L hL s K r h
  have hL : some (loopT 0 (p_turnoutref18_Join.head 0) s_turnoutref18_Join_h0 fun K v => W_turnoutref18_Join_0 n K n v) = some L := hL
  cases hL
  have hb : LOk Try.prog cf_turnoutref18_Join Try.f18.ntmps 0 n p_turnoutref18_Join (ls_turnoutref18_Join n) b_turnoutref18_Join_0 := ⟨⟨trivial, ⟨trivial, trivial⟩⟩, ⟨trivial, trivial⟩⟩
  refine loopT_ok hb (V_turnoutref18_Join_0 n) (t_turnoutref18_Join_0 n) n s K r ?_
  rw [← h]
  unfold loopT
  simp only [i_turnoutref18_Join_0]
theorem m_turnoutref18_Join (n : Nat) (a0 : (List ByteArray)) : runFT Try.prog cf_turnoutref18_Join p_turnoutref18_Join (ls_turnoutref18_Join n) Try.f18 (bodyOf Try.f18) (EK.encs e_turnoutref18_Join ((a0, ()), ()).1) (HK.encs h_turnoutref18_Join ((a0, ()), ()).2) = M_turnoutref18_Join n a0 := by kernel_rfl
theorem g_turnoutref18_Join (n : Nat) (a0 : (List ByteArray)) {r : Res} (h : M_turnoutref18_Join n a0 = some r) : runF Try.prog cf_turnoutref18_Join n p_turnoutref18_Join 18 (EK.encs e_turnoutref18_Join ((a0, ()), ()).1) (HK.encs h_turnoutref18_Join ((a0, ()), ()).2) = some r := by
  have hb : LOk Try.prog cf_turnoutref18_Join Try.f18.ntmps 0 n p_turnoutref18_Join (ls_turnoutref18_Join n) (bodyOf Try.f18) := ⟨trivial, ⟨trivial, ⟨⟨trivial, (o_turnoutref18_Join_0 n)⟩, ⟨trivial, trivial⟩⟩⟩⟩
  exact runFT_some Try.prog (c := bodyOf Try.f18) Try.func18 (show Try.f18.body = some (bodyOf Try.f18) from rfl) (show (1 : Nat) ≤ 18 by decide) hb ((m_turnoutref18_Join n a0).trans h) rfl (by kernel_rfl)
noncomputable def c_turnoutref18_Join : Spec := specQ e_turnoutref18_Join h_turnoutref18_Join ro_turnoutref18_Join rh_turnoutref18_Join fun a b => Q_turnoutref18_Join a.1
theorem k_turnoutref18_Join (hm : Try.prog.follows .mixedOrders = true) : SpecOk Try.prog 18 c_turnoutref18_Join := specQ_ok (pol := p_turnoutref18_Join) hm (cf := cf_turnoutref18_Join) (tab_ok specs_nil) fun a b r h => ⟨FUEL, g_turnoutref18_Join FUEL a.1 (decRes_some h)⟩
def s_turnoutlaw18_KeyParts_r : Sig := ⟨[10], [.ty .bool], []⟩
def s_turnoutlaw18_KeyParts_h0 : Sig := ⟨[0, 1, 2, 3, 4, 11], [.ty .str, .ty (.slice (.int .i64)), .ty (.slice .str), .ty (.slice FieldT), .ty (.slice (.int .i64)), .ty (.int .i64)], []⟩
def s_turnoutlaw18_KeyParts_t0 : Sig := ⟨[0, 1, 2, 3, 4], [.ty .str, .ty (.slice (.int .i64)), .ty (.slice .str), .ty (.slice FieldT), .ty (.slice (.int .i64))], []⟩
def s_turnoutlaw18_KeyParts_h2 : Sig := ⟨[0, 1, 2, 12, 13, 14, 15, 16, 17, 18], [.ty .str, .ty (.slice (.int .i64)), .ty (.slice .str), .ptr 0 0 0, .ptr 1 0 0, .hs 2 0, .ty (.int .i64), .hs 3 0, .ty (.int .i64), .ty (.int .i64)], [.cell ConfigT, .cell TableT, .row .str, .row FieldT]⟩
def s_turnoutlaw18_KeyParts_h4 : Sig := ⟨[0, 1, 2, 12, 13, 14, 15, 16, 17, 18, 19, 21, 23], [.ty .str, .ty (.slice (.int .i64)), .ty (.slice .str), .ptr 0 0 0, .ptr 1 0 0, .hs 2 0, .ty (.int .i64), .hs 3 0, .ty (.int .i64), .ty (.int .i64), .hs 4 0, .hs 5 0, .ty (.int .i64)], [.cell ConfigT, .cell TableT, .row .str, .row FieldT, .row .str, .row FieldT]⟩
def s_turnoutlaw18_KeyParts_t4 : Sig := ⟨[0, 1, 2, 12, 13, 14, 15, 16, 17, 18, 19], [.ty .str, .ty (.slice (.int .i64)), .ty (.slice .str), .ptr 0 0 0, .ptr 1 0 0, .hs 2 0, .ty (.int .i64), .hs 3 0, .ty (.int .i64), .ty (.int .i64), .hs 4 0], [.cell ConfigT, .cell TableT, .row .str, .row FieldT, .row .str]⟩
def s_turnoutlaw18_KeyParts_h6 : Sig := ⟨[0, 1, 2, 12, 13, 14, 15, 16, 17, 18, 19, 24], [.ty .str, .ty (.slice (.int .i64)), .ty (.slice .str), .ptr 0 0 0, .ptr 1 0 0, .hs 2 0, .ty (.int .i64), .hs 3 0, .ty (.int .i64), .ty (.int .i64), .hs 4 0, .ty (.int .i64)], [.cell ConfigT, .cell TableT, .row .str, .row FieldT, .row .str]⟩
def s_turnoutlaw18_KeyParts_t6 : Sig := ⟨[0, 1, 2, 12, 13, 14, 15, 16, 17, 18], [.ty .str, .ty (.slice (.int .i64)), .ty (.slice .str), .ptr 0 0 0, .ptr 1 0 0, .hs 2 0, .ty (.int .i64), .hs 3 0, .ty (.int .i64), .ty (.int .i64)], [.cell ConfigT, .cell TableT, .row .str, .row FieldT]⟩
def s_turnoutlaw18_KeyParts_t2 : Sig := ⟨[2], [.ty (.slice .str)], []⟩
def p_turnoutlaw18_KeyParts : Pol := ⟨fun i => if i = 0 then some [(0, .keep), (1, .keep), (2, .keep), (3, .keep), (4, .keep), (11, .keep)] else if i = 2 then some [(0, .keep), (1, .keep), (2, .keep), (12, (.own ConfigT)), (13, (.own TableT)), (14, (.own .str)), (15, .keep), (16, (.own FieldT)), (17, .keep), (18, .keep)] else if i = 4 then some [(0, .keep), (1, .keep), (2, .keep), (12, (.own ConfigT)), (13, (.own TableT)), (14, (.own .str)), (15, .keep), (16, (.own FieldT)), (17, .keep), (18, .keep), (19, (.own .str)), (21, (.own FieldT)), (23, .keep)] else if i = 6 then some [(0, .keep), (1, .keep), (2, .keep), (12, (.own ConfigT)), (13, (.own TableT)), (14, (.own .str)), (15, .keep), (16, (.own FieldT)), (17, .keep), (18, .keep), (19, (.own .str)), (24, .keep)] else none, fun i => if i = 0 then some [(0, .keep), (1, .keep), (2, .keep), (3, .keep), (4, .keep)] else if i = 4 then some [(0, .keep), (1, .keep), (2, .keep), (12, (.own ConfigT)), (13, (.own TableT)), (14, (.own .str)), (15, .keep), (16, (.own FieldT)), (17, .keep), (18, .keep), (19, (.own .str))] else if i = 6 then some [(0, .keep), (1, .keep), (2, .keep), (12, (.own ConfigT)), (13, (.own TableT)), (14, (.own .str)), (15, .keep), (16, (.own FieldT)), (17, .keep), (18, .keep)] else if i = 2 then some [(2, .keep)] else none, some [(10, .keep)], [.keep], []⟩
def e_turnoutlaw18_KeyParts : List EK := [.ty .str, .ty (.slice (.int .i64)), .ty (.slice .str), .ty (.slice FieldT), .ty (.slice (.int .i64))]
def h_turnoutlaw18_KeyParts : List HK := []
noncomputable def cf_turnoutlaw18_KeyParts : CallF := mkCF [(11, c_turnoutlaw18_awake), (15, c_turnoutref18_Segments), (16, c_turnoutref18_Fields), (12, c_key_Segments), (14, c_turnoutref06_Texts), (17, c_key_Fields), (13, c_key_Join), (18, c_turnoutref18_Join)] [(11, []), (15, [.str, (.slice (.int .i64))]), (16, [ConfigT, TableT]), (12, [.str, (.slice (.int .i64))]), (14, [(.slice .str), (.slice .str)]), (17, [ConfigT, TableT]), (13, [(.slice .str)]), (18, [(.slice .str)])]
noncomputable def ls_turnoutlaw18_KeyParts (n : Nat) : Loops := fun i => if i = 0 then some (loopT 0 (p_turnoutlaw18_KeyParts.head 0) s_turnoutlaw18_KeyParts_h0 fun K v => L_turnoutlaw18_KeyParts_0 n (fun z0 => K .rt (s_turnoutlaw18_KeyParts_r.enc ((z0, ()), ()))) (fun _ => K (.ex 0) (s_turnoutlaw18_KeyParts_t0.enc ((v.1.1, (v.1.2.1, (v.1.2.2.1, (v.1.2.2.2.1, (v.1.2.2.2.2.1, ()))))), ()))) v.1.2.2.1 n v.1.2.2.2.2.2.1)
  else if i = 4 then some (loopT 0 (p_turnoutlaw18_KeyParts.head 4) s_turnoutlaw18_KeyParts_h4 fun K v => L_turnoutlaw18_KeyParts_4 n (fun z0 => K .rt (s_turnoutlaw18_KeyParts_r.enc ((z0, ()), ()))) (fun _ => K (.ex 4) (s_turnoutlaw18_KeyParts_t4.enc ((v.1.1, (v.1.2.1, (v.1.2.2.1, ((), ((), (v.1.2.2.2.2.2.1, (v.1.2.2.2.2.2.2.1, (v.1.2.2.2.2.2.2.2.1, (v.1.2.2.2.2.2.2.2.2.1, (v.1.2.2.2.2.2.2.2.2.2.1, (v.1.2.2.2.2.2.2.2.2.2.2.1, ()))))))))))), (v.2.1, (v.2.2.1, (v.2.2.2.1, (v.2.2.2.2.1, (v.2.2.2.2.2.1, ())))))))) v.1.2.2.2.2.2.2.2.1 v.1.2.2.2.2.2.2.2.2.2.2.2.1 v.2.2.2.2.1 n v.1.2.2.2.2.2.2.2.2.2.2.2.2.1 v.2.2.2.2.2.2.1)
  else if i = 6 then some (loopT 0 (p_turnoutlaw18_KeyParts.head 6) s_turnoutlaw18_KeyParts_h6 fun K v => L_turnoutlaw18_KeyParts_6 n (fun _ => K (.ex 6) (s_turnoutlaw18_KeyParts_t6.enc ((v.1.1, (v.1.2.1, (v.1.2.2.1, ((), ((), (v.1.2.2.2.2.2.1, (v.1.2.2.2.2.2.2.1, (v.1.2.2.2.2.2.2.2.1, (v.1.2.2.2.2.2.2.2.2.1, (v.1.2.2.2.2.2.2.2.2.2.1, ())))))))))), (v.2.1, (v.2.2.1, (v.2.2.2.1, (v.2.2.2.2.1, ()))))))) v.1.2.2.2.2.2.2.2.2.2.2.1 n v.1.2.2.2.2.2.2.2.2.2.2.2.1 v.2.2.2.2.2.1)
  else if i = 2 then some (loopT 0 (p_turnoutlaw18_KeyParts.head 2) s_turnoutlaw18_KeyParts_h2 fun K v => L_turnoutlaw18_KeyParts_2 n (fun z0 => K .rt (s_turnoutlaw18_KeyParts_r.enc ((z0, ()), ()))) (fun _ => K (.ex 2) (s_turnoutlaw18_KeyParts_t2.enc ((v.1.2.2.1, ()), ()))) v.1.1 v.1.2.1 v.1.2.2.2.2.2.1 v.1.2.2.2.2.2.2.1 v.1.2.2.2.2.2.2.2.1 v.1.2.2.2.2.2.2.2.2.1 v.2.1 v.2.2.1 v.2.2.2.1 v.2.2.2.2.1 n v.1.2.2.2.2.2.2.2.2.2.1)
  else  none
noncomputable def b_turnoutlaw18_KeyParts_0 : Code := partOf (bodyOf Try.f4) [1, 1, 0, 1, 0, 0]
theorem t_turnoutlaw18_KeyParts_0 (n : Nat) (K : Cont) (rec : Sig.sem s_turnoutlaw18_KeyParts_h0 → Option Res) (v : Sig.sem s_turnoutlaw18_KeyParts_h0) : runT Try.prog cf_turnoutlaw18_KeyParts Try.f4.ntmps 0 p_turnoutlaw18_KeyParts (ls_turnoutlaw18_KeyParts n) b_turnoutlaw18_KeyParts_0 (s_turnoutlaw18_KeyParts_h0.enc v) (turnK 0 (p_turnoutlaw18_KeyParts.head 0) s_turnoutlaw18_KeyParts_h0 rec K) = F_turnoutlaw18_KeyParts_0 n (fun z0 => K .rt (s_turnoutlaw18_KeyParts_r.enc ((z0, ()), ()))) (fun _ => K (.ex 0) (s_turnoutlaw18_KeyParts_t0.enc ((v.1.1, (v.1.2.1, (v.1.2.2.1, (v.1.2.2.2.1, (v.1.2.2.2.2.1, ()))))), ()))) v.1.2.2.1 (fun z5 => rec ((v.1.1, (v.1.2.1, (v.1.2.2.1, (v.1.2.2.2.1, (v.1.2.2.2.2.1, (z5, ())))))), ())) v.1.2.2.2.2.2.1 := by kernel_rfl
noncomputable def V_turnoutlaw18_KeyParts_0 (n : Nat) (K : Cont) (rec : Sig.sem s_turnoutlaw18_KeyParts_h0 → Option Res) (v : Sig.sem s_turnoutlaw18_KeyParts_h0) : Option Res := F_turnoutlaw18_KeyParts_0 n (fun z0 => K .rt (s_turnoutlaw18_KeyParts_r.enc ((z0, ()), ()))) (fun _ => K (.ex 0) (s_turnoutlaw18_KeyParts_t0.enc ((v.1.1, (v.1.2.1, (v.1.2.2.1, (v.1.2.2.2.1, (v.1.2.2.2.2.1, ()))))), ()))) v.1.2.2.1 (fun z5 => rec ((v.1.1, (v.1.2.1, (v.1.2.2.1, (v.1.2.2.2.1, (v.1.2.2.2.2.1, (z5, ())))))), ())) v.1.2.2.2.2.2.1
noncomputable def W_turnoutlaw18_KeyParts_0 (n : Nat) (K : Cont) (m : Nat) (v : Sig.sem s_turnoutlaw18_KeyParts_h0) : Option Res := L_turnoutlaw18_KeyParts_0 n (fun z0 => K .rt (s_turnoutlaw18_KeyParts_r.enc ((z0, ()), ()))) (fun _ => K (.ex 0) (s_turnoutlaw18_KeyParts_t0.enc ((v.1.1, (v.1.2.1, (v.1.2.2.1, (v.1.2.2.2.1, (v.1.2.2.2.2.1, ()))))), ()))) v.1.2.2.1 m v.1.2.2.2.2.2.1
theorem i_turnoutlaw18_KeyParts_0 (n : Nat) (K : Cont) : ∀ m v, iter (V_turnoutlaw18_KeyParts_0 n K) m v = W_turnoutlaw18_KeyParts_0 n K m v := by
  intro m
  induction m with
  | zero => intro v; rfl
  | succ m ih =>
    intro v
    show V_turnoutlaw18_KeyParts_0 n K (iter (V_turnoutlaw18_KeyParts_0 n K) m) v = V_turnoutlaw18_KeyParts_0 n K (W_turnoutlaw18_KeyParts_0 n K m) v
    rw [show iter (V_turnoutlaw18_KeyParts_0 n K) m = W_turnoutlaw18_KeyParts_0 n K m from funext ih]
theorem o_turnoutlaw18_KeyParts_0 (n : Nat) : ∀ L, ls_turnoutlaw18_KeyParts n 0 = some L → ∀ s K r, L s K = some r → ∃ x s', loopN (run Try.prog cf_turnoutlaw18_KeyParts Try.f4.ntmps 0 n p_turnoutlaw18_KeyParts none b_turnoutlaw18_KeyParts_0) (gc 0 (p_turnoutlaw18_KeyParts.head 0)) n s = some (x, s') ∧ K x s' = some r := by
  intro L hL s K r h
  have hL : some (loopT 0 (p_turnoutlaw18_KeyParts.head 0) s_turnoutlaw18_KeyParts_h0 fun K v => W_turnoutlaw18_KeyParts_0 n K n v) = some L := hL
  cases hL
  have hb : LOk Try.prog cf_turnoutlaw18_KeyParts Try.f4.ntmps 0 n p_turnoutlaw18_KeyParts (ls_turnoutlaw18_KeyParts n) b_turnoutlaw18_KeyParts_0 := ⟨⟨trivial, ⟨trivial, trivial⟩⟩, ⟨⟨trivial, ⟨⟨trivial, trivial⟩, trivial⟩⟩, trivial⟩⟩
  refine loopT_ok hb (V_turnoutlaw18_KeyParts_0 n) (t_turnoutlaw18_KeyParts_0 n) n s K r ?_
  rw [← h]
  unfold loopT
  simp only [i_turnoutlaw18_KeyParts_0]
noncomputable def b_turnoutlaw18_KeyParts_4 : Code := partOf (bodyOf Try.f4) [1, 1, 1, 1, 1, 1, 0, 1, 0, 0, 1, 0, 0, 1, 1, 1, 1, 0, 1, 0, 0]
theorem t_turnoutlaw18_KeyParts_4 (n : Nat) (K : Cont) (rec : Sig.sem s_turnoutlaw18_KeyParts_h4 → Option Res) (v : Sig.sem s_turnoutlaw18_KeyParts_h4) : runT Try.prog cf_turnoutlaw18_KeyParts Try.f4.ntmps 0 p_turnoutlaw18_KeyParts (ls_turnoutlaw18_KeyParts n) b_turnoutlaw18_KeyParts_4 (s_turnoutlaw18_KeyParts_h4.enc v) (turnK 0 (p_turnoutlaw18_KeyParts.head 4) s_turnoutlaw18_KeyParts_h4 rec K) = F_turnoutlaw18_KeyParts_4 n (fun z0 => K .rt (s_turnoutlaw18_KeyParts_r.enc ((z0, ()), ()))) (fun _ => K (.ex 4) (s_turnoutlaw18_KeyParts_t4.enc ((v.1.1, (v.1.2.1, (v.1.2.2.1, ((), ((), (v.1.2.2.2.2.2.1, (v.1.2.2.2.2.2.2.1, (v.1.2.2.2.2.2.2.2.1, (v.1.2.2.2.2.2.2.2.2.1, (v.1.2.2.2.2.2.2.2.2.2.1, (v.1.2.2.2.2.2.2.2.2.2.2.1, ()))))))))))), (v.2.1, (v.2.2.1, (v.2.2.2.1, (v.2.2.2.2.1, (v.2.2.2.2.2.1, ())))))))) v.1.2.2.2.2.2.2.2.1 v.1.2.2.2.2.2.2.2.2.2.2.2.1 v.2.2.2.2.1 (fun z10 z16 => rec ((v.1.1, (v.1.2.1, (v.1.2.2.1, ((), ((), (v.1.2.2.2.2.2.1, (v.1.2.2.2.2.2.2.1, (v.1.2.2.2.2.2.2.2.1, (v.1.2.2.2.2.2.2.2.2.1, (v.1.2.2.2.2.2.2.2.2.2.1, (v.1.2.2.2.2.2.2.2.2.2.2.1, (v.1.2.2.2.2.2.2.2.2.2.2.2.1, (z10, ()))))))))))))), (v.2.1, (v.2.2.1, (v.2.2.2.1, (v.2.2.2.2.1, (v.2.2.2.2.2.1, (z16, ())))))))) v.1.2.2.2.2.2.2.2.2.2.2.2.2.1 v.2.2.2.2.2.2.1 := by kernel_rfl
noncomputable def V_turnoutlaw18_KeyParts_4 (n : Nat) (K : Cont) (rec : Sig.sem s_turnoutlaw18_KeyParts_h4 → Option Res) (v : Sig.sem s_turnoutlaw18_KeyParts_h4) : Option Res := F_turnoutlaw18_KeyParts_4 n (fun z0 => K .rt (s_turnoutlaw18_KeyParts_r.enc ((z0, ()), ()))) (fun _ => K (.ex 4) (s_turnoutlaw18_KeyParts_t4.enc ((v.1.1, (v.1.2.1, (v.1.2.2.1, ((), ((), (v.1.2.2.2.2.2.1, (v.1.2.2.2.2.2.2.1, (v.1.2.2.2.2.2.2.2.1, (v.1.2.2.2.2.2.2.2.2.1, (v.1.2.2.2.2.2.2.2.2.2.1, (v.1.2.2.2.2.2.2.2.2.2.2.1, ()))))))))))), (v.2.1, (v.2.2.1, (v.2.2.2.1, (v.2.2.2.2.1, (v.2.2.2.2.2.1, ())))))))) v.1.2.2.2.2.2.2.2.1 v.1.2.2.2.2.2.2.2.2.2.2.2.1 v.2.2.2.2.1 (fun z10 z16 => rec ((v.1.1, (v.1.2.1, (v.1.2.2.1, ((), ((), (v.1.2.2.2.2.2.1, (v.1.2.2.2.2.2.2.1, (v.1.2.2.2.2.2.2.2.1, (v.1.2.2.2.2.2.2.2.2.1, (v.1.2.2.2.2.2.2.2.2.2.1, (v.1.2.2.2.2.2.2.2.2.2.2.1, (v.1.2.2.2.2.2.2.2.2.2.2.2.1, (z10, ()))))))))))))), (v.2.1, (v.2.2.1, (v.2.2.2.1, (v.2.2.2.2.1, (v.2.2.2.2.2.1, (z16, ())))))))) v.1.2.2.2.2.2.2.2.2.2.2.2.2.1 v.2.2.2.2.2.2.1
noncomputable def W_turnoutlaw18_KeyParts_4 (n : Nat) (K : Cont) (m : Nat) (v : Sig.sem s_turnoutlaw18_KeyParts_h4) : Option Res := L_turnoutlaw18_KeyParts_4 n (fun z0 => K .rt (s_turnoutlaw18_KeyParts_r.enc ((z0, ()), ()))) (fun _ => K (.ex 4) (s_turnoutlaw18_KeyParts_t4.enc ((v.1.1, (v.1.2.1, (v.1.2.2.1, ((), ((), (v.1.2.2.2.2.2.1, (v.1.2.2.2.2.2.2.1, (v.1.2.2.2.2.2.2.2.1, (v.1.2.2.2.2.2.2.2.2.1, (v.1.2.2.2.2.2.2.2.2.2.1, (v.1.2.2.2.2.2.2.2.2.2.2.1, ()))))))))))), (v.2.1, (v.2.2.1, (v.2.2.2.1, (v.2.2.2.2.1, (v.2.2.2.2.2.1, ())))))))) v.1.2.2.2.2.2.2.2.1 v.1.2.2.2.2.2.2.2.2.2.2.2.1 v.2.2.2.2.1 m v.1.2.2.2.2.2.2.2.2.2.2.2.2.1 v.2.2.2.2.2.2.1
theorem i_turnoutlaw18_KeyParts_4 (n : Nat) (K : Cont) : ∀ m v, iter (V_turnoutlaw18_KeyParts_4 n K) m v = W_turnoutlaw18_KeyParts_4 n K m v := by
  intro m
  induction m with
  | zero => intro v; rfl
  | succ m ih =>
    intro v
    show V_turnoutlaw18_KeyParts_4 n K (iter (V_turnoutlaw18_KeyParts_4 n K) m) v = V_turnoutlaw18_KeyParts_4 n K (W_turnoutlaw18_KeyParts_4 n K m) v
    rw [show iter (V_turnoutlaw18_KeyParts_4 n K) m = W_turnoutlaw18_KeyParts_4 n K m from funext ih]
theorem o_turnoutlaw18_KeyParts_4 (n : Nat) : ∀ L, ls_turnoutlaw18_KeyParts n 4 = some L → ∀ s K r, L s K = some r → ∃ x s', loopN (run Try.prog cf_turnoutlaw18_KeyParts Try.f4.ntmps 0 n p_turnoutlaw18_KeyParts none b_turnoutlaw18_KeyParts_4) (gc 0 (p_turnoutlaw18_KeyParts.head 4)) n s = some (x, s') ∧ K x s' = some r := by
  intro L hL s K r h
  have hL : some (loopT 0 (p_turnoutlaw18_KeyParts.head 4) s_turnoutlaw18_KeyParts_h4 fun K v => W_turnoutlaw18_KeyParts_4 n K n v) = some L := hL
  cases hL
  have hb : LOk Try.prog cf_turnoutlaw18_KeyParts Try.f4.ntmps 0 n p_turnoutlaw18_KeyParts (ls_turnoutlaw18_KeyParts n) b_turnoutlaw18_KeyParts_4 := ⟨⟨trivial, ⟨trivial, trivial⟩⟩, ⟨⟨⟨trivial, ⟨⟨trivial, trivial⟩, trivial⟩⟩, trivial⟩, trivial⟩⟩
  refine loopT_ok hb (V_turnoutlaw18_KeyParts_4 n) (t_turnoutlaw18_KeyParts_4 n) n s K r ?_
  rw [← h]
  unfold loopT
  simp only [i_turnoutlaw18_KeyParts_4]
noncomputable def b_turnoutlaw18_KeyParts_6 : Code := partOf (bodyOf Try.f4) [1, 1, 1, 1, 1, 1, 0, 1, 0, 0, 1, 0, 0, 1, 1, 1, 1, 1, 1, 0, 0]
theorem t_turnoutlaw18_KeyParts_6 (n : Nat) (K : Cont) (rec : Sig.sem s_turnoutlaw18_KeyParts_h6 → Option Res) (v : Sig.sem s_turnoutlaw18_KeyParts_h6) : runT Try.prog cf_turnoutlaw18_KeyParts Try.f4.ntmps 0 p_turnoutlaw18_KeyParts (ls_turnoutlaw18_KeyParts n) b_turnoutlaw18_KeyParts_6 (s_turnoutlaw18_KeyParts_h6.enc v) (turnK 0 (p_turnoutlaw18_KeyParts.head 6) s_turnoutlaw18_KeyParts_h6 rec K) = F_turnoutlaw18_KeyParts_6 n (fun _ => K (.ex 6) (s_turnoutlaw18_KeyParts_t6.enc ((v.1.1, (v.1.2.1, (v.1.2.2.1, ((), ((), (v.1.2.2.2.2.2.1, (v.1.2.2.2.2.2.2.1, (v.1.2.2.2.2.2.2.2.1, (v.1.2.2.2.2.2.2.2.2.1, (v.1.2.2.2.2.2.2.2.2.2.1, ())))))))))), (v.2.1, (v.2.2.1, (v.2.2.2.1, (v.2.2.2.2.1, ()))))))) v.1.2.2.2.2.2.2.2.2.2.2.1 (fun z9 z14 => rec ((v.1.1, (v.1.2.1, (v.1.2.2.1, ((), ((), (v.1.2.2.2.2.2.1, (v.1.2.2.2.2.2.2.1, (v.1.2.2.2.2.2.2.2.1, (v.1.2.2.2.2.2.2.2.2.1, (v.1.2.2.2.2.2.2.2.2.2.1, (v.1.2.2.2.2.2.2.2.2.2.2.1, (z9, ())))))))))))), (v.2.1, (v.2.2.1, (v.2.2.2.1, (v.2.2.2.2.1, (z14, ()))))))) v.1.2.2.2.2.2.2.2.2.2.2.2.1 v.2.2.2.2.2.1 := by kernel_rfl
noncomputable def V_turnoutlaw18_KeyParts_6 (n : Nat) (K : Cont) (rec : Sig.sem s_turnoutlaw18_KeyParts_h6 → Option Res) (v : Sig.sem s_turnoutlaw18_KeyParts_h6) : Option Res := F_turnoutlaw18_KeyParts_6 n (fun _ => K (.ex 6) (s_turnoutlaw18_KeyParts_t6.enc ((v.1.1, (v.1.2.1, (v.1.2.2.1, ((), ((), (v.1.2.2.2.2.2.1, (v.1.2.2.2.2.2.2.1, (v.1.2.2.2.2.2.2.2.1, (v.1.2.2.2.2.2.2.2.2.1, (v.1.2.2.2.2.2.2.2.2.2.1, ())))))))))), (v.2.1, (v.2.2.1, (v.2.2.2.1, (v.2.2.2.2.1, ()))))))) v.1.2.2.2.2.2.2.2.2.2.2.1 (fun z9 z14 => rec ((v.1.1, (v.1.2.1, (v.1.2.2.1, ((), ((), (v.1.2.2.2.2.2.1, (v.1.2.2.2.2.2.2.1, (v.1.2.2.2.2.2.2.2.1, (v.1.2.2.2.2.2.2.2.2.1, (v.1.2.2.2.2.2.2.2.2.2.1, (v.1.2.2.2.2.2.2.2.2.2.2.1, (z9, ())))))))))))), (v.2.1, (v.2.2.1, (v.2.2.2.1, (v.2.2.2.2.1, (z14, ()))))))) v.1.2.2.2.2.2.2.2.2.2.2.2.1 v.2.2.2.2.2.1
noncomputable def W_turnoutlaw18_KeyParts_6 (n : Nat) (K : Cont) (m : Nat) (v : Sig.sem s_turnoutlaw18_KeyParts_h6) : Option Res := L_turnoutlaw18_KeyParts_6 n (fun _ => K (.ex 6) (s_turnoutlaw18_KeyParts_t6.enc ((v.1.1, (v.1.2.1, (v.1.2.2.1, ((), ((), (v.1.2.2.2.2.2.1, (v.1.2.2.2.2.2.2.1, (v.1.2.2.2.2.2.2.2.1, (v.1.2.2.2.2.2.2.2.2.1, (v.1.2.2.2.2.2.2.2.2.2.1, ())))))))))), (v.2.1, (v.2.2.1, (v.2.2.2.1, (v.2.2.2.2.1, ()))))))) v.1.2.2.2.2.2.2.2.2.2.2.1 m v.1.2.2.2.2.2.2.2.2.2.2.2.1 v.2.2.2.2.2.1
theorem i_turnoutlaw18_KeyParts_6 (n : Nat) (K : Cont) : ∀ m v, iter (V_turnoutlaw18_KeyParts_6 n K) m v = W_turnoutlaw18_KeyParts_6 n K m v := by
  intro m
  induction m with
  | zero => intro v; rfl
  | succ m ih =>
    intro v
    show V_turnoutlaw18_KeyParts_6 n K (iter (V_turnoutlaw18_KeyParts_6 n K) m) v = V_turnoutlaw18_KeyParts_6 n K (W_turnoutlaw18_KeyParts_6 n K m) v
    rw [show iter (V_turnoutlaw18_KeyParts_6 n K) m = W_turnoutlaw18_KeyParts_6 n K m from funext ih]
theorem o_turnoutlaw18_KeyParts_6 (n : Nat) : ∀ L, ls_turnoutlaw18_KeyParts n 6 = some L → ∀ s K r, L s K = some r → ∃ x s', loopN (run Try.prog cf_turnoutlaw18_KeyParts Try.f4.ntmps 0 n p_turnoutlaw18_KeyParts none b_turnoutlaw18_KeyParts_6) (gc 0 (p_turnoutlaw18_KeyParts.head 6)) n s = some (x, s') ∧ K x s' = some r := by
  intro L hL s K r h
  have hL : some (loopT 0 (p_turnoutlaw18_KeyParts.head 6) s_turnoutlaw18_KeyParts_h6 fun K v => W_turnoutlaw18_KeyParts_6 n K n v) = some L := hL
  cases hL
  have hb : LOk Try.prog cf_turnoutlaw18_KeyParts Try.f4.ntmps 0 n p_turnoutlaw18_KeyParts (ls_turnoutlaw18_KeyParts n) b_turnoutlaw18_KeyParts_6 := ⟨⟨trivial, ⟨trivial, trivial⟩⟩, ⟨trivial, trivial⟩⟩
  refine loopT_ok hb (V_turnoutlaw18_KeyParts_6 n) (t_turnoutlaw18_KeyParts_6 n) n s K r ?_
  rw [← h]
  unfold loopT
  simp only [i_turnoutlaw18_KeyParts_6]
noncomputable def b_turnoutlaw18_KeyParts_2 : Code := partOf (bodyOf Try.f4) [1, 1, 1, 1, 1, 1, 0, 1, 0, 0]
theorem t_turnoutlaw18_KeyParts_2 (n : Nat) (K : Cont) (rec : Sig.sem s_turnoutlaw18_KeyParts_h2 → Option Res) (v : Sig.sem s_turnoutlaw18_KeyParts_h2) : runT Try.prog cf_turnoutlaw18_KeyParts Try.f4.ntmps 0 p_turnoutlaw18_KeyParts (ls_turnoutlaw18_KeyParts n) b_turnoutlaw18_KeyParts_2 (s_turnoutlaw18_KeyParts_h2.enc v) (turnK 0 (p_turnoutlaw18_KeyParts.head 2) s_turnoutlaw18_KeyParts_h2 rec K) = F_turnoutlaw18_KeyParts_2 n (fun z0 => K .rt (s_turnoutlaw18_KeyParts_r.enc ((z0, ()), ()))) (fun _ => K (.ex 2) (s_turnoutlaw18_KeyParts_t2.enc ((v.1.2.2.1, ()), ()))) v.1.1 v.1.2.1 v.1.2.2.2.2.2.1 v.1.2.2.2.2.2.2.1 v.1.2.2.2.2.2.2.2.1 v.1.2.2.2.2.2.2.2.2.1 v.2.1 v.2.2.1 v.2.2.2.1 v.2.2.2.2.1 (fun z7 => rec ((v.1.1, (v.1.2.1, (v.1.2.2.1, ((), ((), (v.1.2.2.2.2.2.1, (v.1.2.2.2.2.2.2.1, (v.1.2.2.2.2.2.2.2.1, (v.1.2.2.2.2.2.2.2.2.1, (z7, ())))))))))), (v.2.1, (v.2.2.1, (v.2.2.2.1, (v.2.2.2.2.1, ())))))) v.1.2.2.2.2.2.2.2.2.2.1 := by kernel_rfl
noncomputable def V_turnoutlaw18_KeyParts_2 (n : Nat) (K : Cont) (rec : Sig.sem s_turnoutlaw18_KeyParts_h2 → Option Res) (v : Sig.sem s_turnoutlaw18_KeyParts_h2) : Option Res := F_turnoutlaw18_KeyParts_2 n (fun z0 => K .rt (s_turnoutlaw18_KeyParts_r.enc ((z0, ()), ()))) (fun _ => K (.ex 2) (s_turnoutlaw18_KeyParts_t2.enc ((v.1.2.2.1, ()), ()))) v.1.1 v.1.2.1 v.1.2.2.2.2.2.1 v.1.2.2.2.2.2.2.1 v.1.2.2.2.2.2.2.2.1 v.1.2.2.2.2.2.2.2.2.1 v.2.1 v.2.2.1 v.2.2.2.1 v.2.2.2.2.1 (fun z7 => rec ((v.1.1, (v.1.2.1, (v.1.2.2.1, ((), ((), (v.1.2.2.2.2.2.1, (v.1.2.2.2.2.2.2.1, (v.1.2.2.2.2.2.2.2.1, (v.1.2.2.2.2.2.2.2.2.1, (z7, ())))))))))), (v.2.1, (v.2.2.1, (v.2.2.2.1, (v.2.2.2.2.1, ())))))) v.1.2.2.2.2.2.2.2.2.2.1
noncomputable def W_turnoutlaw18_KeyParts_2 (n : Nat) (K : Cont) (m : Nat) (v : Sig.sem s_turnoutlaw18_KeyParts_h2) : Option Res := L_turnoutlaw18_KeyParts_2 n (fun z0 => K .rt (s_turnoutlaw18_KeyParts_r.enc ((z0, ()), ()))) (fun _ => K (.ex 2) (s_turnoutlaw18_KeyParts_t2.enc ((v.1.2.2.1, ()), ()))) v.1.1 v.1.2.1 v.1.2.2.2.2.2.1 v.1.2.2.2.2.2.2.1 v.1.2.2.2.2.2.2.2.1 v.1.2.2.2.2.2.2.2.2.1 v.2.1 v.2.2.1 v.2.2.2.1 v.2.2.2.2.1 m v.1.2.2.2.2.2.2.2.2.2.1
theorem i_turnoutlaw18_KeyParts_2 (n : Nat) (K : Cont) : ∀ m v, iter (V_turnoutlaw18_KeyParts_2 n K) m v = W_turnoutlaw18_KeyParts_2 n K m v := by
  intro m
  induction m with
  | zero => intro v; rfl
  | succ m ih =>
    intro v
    show V_turnoutlaw18_KeyParts_2 n K (iter (V_turnoutlaw18_KeyParts_2 n K) m) v = V_turnoutlaw18_KeyParts_2 n K (W_turnoutlaw18_KeyParts_2 n K m) v
    rw [show iter (V_turnoutlaw18_KeyParts_2 n K) m = W_turnoutlaw18_KeyParts_2 n K m from funext ih]
theorem o_turnoutlaw18_KeyParts_2 (n : Nat) : ∀ L, ls_turnoutlaw18_KeyParts n 2 = some L → ∀ s K r, L s K = some r → ∃ x s', loopN (run Try.prog cf_turnoutlaw18_KeyParts Try.f4.ntmps 0 n p_turnoutlaw18_KeyParts none b_turnoutlaw18_KeyParts_2) (gc 0 (p_turnoutlaw18_KeyParts.head 2)) n s = some (x, s') ∧ K x s' = some r := by
  intro L hL s K r h
  have hL : some (loopT 0 (p_turnoutlaw18_KeyParts.head 2) s_turnoutlaw18_KeyParts_h2 fun K v => W_turnoutlaw18_KeyParts_2 n K n v) = some L := hL
  cases hL
  have hb : LOk Try.prog cf_turnoutlaw18_KeyParts Try.f4.ntmps 0 n p_turnoutlaw18_KeyParts (ls_turnoutlaw18_KeyParts n) b_turnoutlaw18_KeyParts_2 := ⟨⟨trivial, ⟨trivial, trivial⟩⟩, ⟨⟨trivial, ⟨⟨trivial, ⟨⟨trivial, trivial⟩, trivial⟩⟩, ⟨trivial, ⟨⟨trivial, ⟨⟨trivial, trivial⟩, trivial⟩⟩, ⟨⟨trivial, (o_turnoutlaw18_KeyParts_4 n)⟩, ⟨trivial, (o_turnoutlaw18_KeyParts_6 n)⟩⟩⟩⟩⟩⟩, trivial⟩⟩
  refine loopT_ok hb (V_turnoutlaw18_KeyParts_2 n) (t_turnoutlaw18_KeyParts_2 n) n s K r ?_
  rw [← h]
  unfold loopT
  simp only [i_turnoutlaw18_KeyParts_2]
theorem m_turnoutlaw18_KeyParts (n : Nat) (a0 : ByteArray) (a1 : (List Int)) (a2 : (List ByteArray)) (a3 : (List FieldS)) (a4 : (List Int)) : runFT Try.prog cf_turnoutlaw18_KeyParts p_turnoutlaw18_KeyParts (ls_turnoutlaw18_KeyParts n) Try.f4 (bodyOf Try.f4) (EK.encs e_turnoutlaw18_KeyParts ((a0, (a1, (a2, (a3, (a4, ()))))), ()).1) (HK.encs h_turnoutlaw18_KeyParts ((a0, (a1, (a2, (a3, (a4, ()))))), ()).2) = M_turnoutlaw18_KeyParts n a0 a1 a2 a3 a4 := by kernel_rfl
theorem g_turnoutlaw18_KeyParts (n : Nat) (a0 : ByteArray) (a1 : (List Int)) (a2 : (List ByteArray)) (a3 : (List FieldS)) (a4 : (List Int)) {r : Res} (h : M_turnoutlaw18_KeyParts n a0 a1 a2 a3 a4 = some r) : runF Try.prog cf_turnoutlaw18_KeyParts n p_turnoutlaw18_KeyParts 4 (EK.encs e_turnoutlaw18_KeyParts ((a0, (a1, (a2, (a3, (a4, ()))))), ()).1) (HK.encs h_turnoutlaw18_KeyParts ((a0, (a1, (a2, (a3, (a4, ()))))), ()).2) = some r := by
  have hb : LOk Try.prog cf_turnoutlaw18_KeyParts Try.f4.ntmps 0 n p_turnoutlaw18_KeyParts (ls_turnoutlaw18_KeyParts n) (bodyOf Try.f4) := ⟨trivial, ⟨⟨trivial, ⟨⟨trivial, trivial⟩, trivial⟩⟩, ⟨⟨trivial, (o_turnoutlaw18_KeyParts_0 n)⟩, ⟨trivial, ⟨trivial, ⟨trivial, ⟨⟨trivial, (o_turnoutlaw18_KeyParts_2 n)⟩, ⟨trivial, trivial⟩⟩⟩⟩⟩⟩⟩⟩
  exact runFT_some Try.prog (c := bodyOf Try.f4) Try.func4 (show Try.f4.body = some (bodyOf Try.f4) from rfl) (show (5 : Nat) ≤ 149 by decide) hb ((m_turnoutlaw18_KeyParts n a0 a1 a2 a3 a4).trans h) rfl (by kernel_rfl)
noncomputable def c_turnoutlaw18_KeyParts : Spec := specQ e_turnoutlaw18_KeyParts h_turnoutlaw18_KeyParts ro_turnoutlaw18_KeyParts rh_turnoutlaw18_KeyParts fun a b => Q_turnoutlaw18_KeyParts a.1 a.2.1 a.2.2.1 a.2.2.2.1 a.2.2.2.2.1
theorem k_turnoutlaw18_KeyParts (hm : Try.prog.follows .mixedOrders = true) : SpecOk Try.prog 4 c_turnoutlaw18_KeyParts := specQ_ok (pol := p_turnoutlaw18_KeyParts) hm (cf := cf_turnoutlaw18_KeyParts) (tab_ok (specs_cons (k_turnoutlaw18_awake hm) (specs_cons (k_turnoutref18_Segments hm) (specs_cons (k_turnoutref18_Fields hm) (specs_cons (k_key_Segments hm) (specs_cons (k_turnoutref06_Texts hm) (specs_cons (k_key_Fields hm) (specs_cons (k_key_Join hm) (specs_cons (k_turnoutref18_Join hm) specs_nil))))))))) fun a b r h => ⟨FUEL, g_turnoutlaw18_KeyParts FUEL a.1 a.2.1 a.2.2.1 a.2.2.2.1 a.2.2.2.2.1 (decRes_some h)⟩
end Go.AMach
