/- A part of the walk. -/
import Derived.Test.YtphmidhlgkclgaaDx
import Derived.Test.YtphmidhlgkclgaaProg
import Derived.Test.YtphmidhlgkclgaaHb
import Derived.Test.YtphmidhlgkclgaaAm23
namespace Go.AMach
set_option linter.unusedVariables false
set_option linter.unusedSimpArgs false
set_option linter.unnecessarySimpa false
open Go Go.Proofs
set_option linter.unusedVariables false
noncomputable instance : Sites := ⟨fun k => if k = 0 then rfOf (partOf (bodyOf Try.f62) [1, 1, 1, 1, 0, 1, 0]) else none⟩
def s_buf_New_r : Sig := ⟨[2, 3], [.nul 0, .ty (.int .i64)], []⟩
def s_buf_New_r1 : Sig := ⟨[2, 3], [.ptr 0 0 0, .ty (.int .i64)], [.one false [.hs 1 0], .row (.int .u8)]⟩
def p_buf_New : Pol := ⟨fun i => none, fun i => none, some [(2, .keep), (3, .keep)], [.keep, .keep], []⟩
def e_buf_New : List EK := [.ty .str]
def h_buf_New : List HK := []
noncomputable def cf_buf_New : CallF := mkCF [] []
noncomputable def ls_buf_New (n : Nat) : Loops := fun i =>  none
theorem m_buf_New (n : Nat) (a0 : ByteArray) : runFT Try.prog cf_buf_New p_buf_New (ls_buf_New n) Try.f39 (bodyOf Try.f39) (EK.encs e_buf_New ((a0, ()), ()).1) (HK.encs h_buf_New ((a0, ()), ()).2) = M_buf_New n a0 := by kernel_rfl
theorem g_buf_New (n : Nat) (a0 : ByteArray) {r : Res} (h : M_buf_New n a0 = some r) : runF Try.prog cf_buf_New n p_buf_New 39 (EK.encs e_buf_New ((a0, ()), ()).1) (HK.encs h_buf_New ((a0, ()), ()).2) = some r := by
  have hb : LOk Try.prog cf_buf_New Try.f39.ntmps 0 n p_buf_New (ls_buf_New n) (bodyOf Try.f39) := ⟨trivial, ⟨⟨trivial, ⟨⟨trivial, trivial⟩, trivial⟩⟩, ⟨trivial, trivial⟩⟩⟩
  exact runFT_some Try.prog (c := bodyOf Try.f39) Try.func39 (show Try.f39.body = some (bodyOf Try.f39) from rfl) (show (1 : Nat) ≤ 11 by decide) hb ((m_buf_New n a0).trans h) rfl (by kernel_rfl)
noncomputable def c_buf_New : Spec := specTr e_buf_New h_buf_New fun a b => (altTr ro_buf_New rh_buf_New (Q_buf_New a.1) (altTr ro_buf_New_1 rh_buf_New_1 (Q_buf_New_1 a.1) .no))
theorem k_buf_New (hm : Try.prog.follows .mixedOrders = true) : SpecOk Try.prog 39 c_buf_New := specTr_ok (pol := p_buf_New) hm (cf := cf_buf_New) (tab_ok specs_nil) fun a b r => (fun h => (altTr_val h).elim (fun ⟨x, hx, e⟩ => ⟨FUEL, e ▸ g_buf_New FUEL a.1 (decRes_some hx)⟩) (fun h => (altTr_val h).elim (fun ⟨x, hx, e⟩ => ⟨FUEL, e ▸ g_buf_New FUEL a.1 (decRes_some hx)⟩) (fun h => by cases h)))
def s_pack_New_r : Sig := ⟨[4, 5], [.ptr 0 0 0, .ty (.int .i64)], [.one false [.ptr 1 0 0, .nul 4, .ptr 3 0 0, .ty (.int .i64)], .one false [.hs 2 0], .row (.int .u8), .one false [.hs 4 0], .row (.int .u8)]⟩
def s_pack_New_r1 : Sig := ⟨[4, 5], [.ptr 0 0 0, .ty (.int .i64)], [.one false [.ptr 1 0 0, .nul 4, .nul 0, .ty (.int .i64)], .one false [.hs 2 0], .row (.int .u8)]⟩
def s_pack_New_r2 : Sig := ⟨[4, 5], [.nul 0, .ty (.int .i64)], []⟩
def p_pack_New : Pol := ⟨fun i => none, fun i => none, some [(4, .keep), (5, .keep)], [.keep, .keep], []⟩
def e_pack_New : List EK := [.ty (.int .i64), .ty .str]
def h_pack_New : List HK := []
noncomputable def cf_pack_New : CallF := mkCF [(39, c_buf_New)] [(39, [.str])]
noncomputable def ls_pack_New (n : Nat) : Loops := fun i =>  none
theorem m_pack_New (n : Nat) (a0 : Int) (a1 : ByteArray) : runFT Try.prog cf_pack_New p_pack_New (ls_pack_New n) Try.f19 (bodyOf Try.f19) (EK.encs e_pack_New ((a0, (a1, ())), ()).1) (HK.encs h_pack_New ((a0, (a1, ())), ()).2) = M_pack_New n a0 a1 := by kernel_rfl
theorem g_pack_New (n : Nat) (a0 : Int) (a1 : ByteArray) {r : Res} (h : M_pack_New n a0 a1 = some r) : runF Try.prog cf_pack_New n p_pack_New 19 (EK.encs e_pack_New ((a0, (a1, ())), ()).1) (HK.encs h_pack_New ((a0, (a1, ())), ()).2) = some r := by
  have hb : LOk Try.prog cf_pack_New Try.f19.ntmps 0 n p_pack_New (ls_pack_New n) (bodyOf Try.f19) := ⟨trivial, ⟨trivial, ⟨⟨trivial, ⟨⟨trivial, trivial⟩, trivial⟩⟩, ⟨trivial, ⟨trivial, trivial⟩⟩⟩⟩⟩
  exact runFT_some Try.prog (c := bodyOf Try.f19) Try.func19 (show Try.f19.body = some (bodyOf Try.f19) from rfl) (show (2 : Nat) ≤ 29 by decide) hb ((m_pack_New n a0 a1).trans h) rfl (by kernel_rfl)
noncomputable def c_pack_New : Spec := specTr e_pack_New h_pack_New fun a b => (altTr ro_pack_New rh_pack_New (Q_pack_New a.1 a.2.1) (altTr ro_pack_New_2 rh_pack_New_2 (Q_pack_New_2 a.1 a.2.1) .no))
theorem k_pack_New (hm : Try.prog.follows .mixedOrders = true) : SpecOk Try.prog 19 c_pack_New := specTr_ok (pol := p_pack_New) hm (cf := cf_pack_New) (tab_ok (specs_cons (k_buf_New hm) specs_nil)) fun a b r => (fun h => (altTr_val h).elim (fun ⟨x, hx, e⟩ => ⟨FUEL, e ▸ g_pack_New FUEL a.1 a.2.1 (decRes_some hx)⟩) (fun h => (altTr_val h).elim (fun ⟨x, hx, e⟩ => ⟨FUEL, e ▸ g_pack_New FUEL a.1 a.2.1 (decRes_some hx)⟩) (fun h => by cases h)))
def s_turnoutlaw18_bits_r : Sig := ⟨[4], [.ptr 0 0 0], [.cell FieldT]⟩
def p_turnoutlaw18_bits : Pol := ⟨fun i => none, fun i => none, some [(4, (.own FieldT))], [.keep], []⟩
def e_turnoutlaw18_bits : List EK := [.ty (.int .i64), .ty (.int .i64)]
def h_turnoutlaw18_bits : List HK := []
noncomputable def cf_turnoutlaw18_bits : CallF := mkCF [] []
noncomputable def ls_turnoutlaw18_bits (n : Nat) : Loops := fun i =>  none
theorem m_turnoutlaw18_bits (n : Nat) (a0 : Int) (a1 : Int) : runFT Try.prog cf_turnoutlaw18_bits p_turnoutlaw18_bits (ls_turnoutlaw18_bits n) Try.f21 (bodyOf Try.f21) (EK.encs e_turnoutlaw18_bits ((a0, (a1, ())), ()).1) (HK.encs h_turnoutlaw18_bits ((a0, (a1, ())), ()).2) = M_turnoutlaw18_bits n a0 a1 := by kernel_rfl
theorem g_turnoutlaw18_bits (n : Nat) (a0 : Int) (a1 : Int) {r : Res} (h : M_turnoutlaw18_bits n a0 a1 = some r) : runF Try.prog cf_turnoutlaw18_bits n p_turnoutlaw18_bits 21 (EK.encs e_turnoutlaw18_bits ((a0, (a1, ())), ()).1) (HK.encs h_turnoutlaw18_bits ((a0, (a1, ())), ()).2) = some r := by
  have hb : LOk Try.prog cf_turnoutlaw18_bits Try.f21.ntmps 0 n p_turnoutlaw18_bits (ls_turnoutlaw18_bits n) (bodyOf Try.f21) := ⟨trivial, ⟨trivial, trivial⟩⟩
  exact runFT_some Try.prog (c := bodyOf Try.f21) Try.func21 (show Try.f21.body = some (bodyOf Try.f21) from rfl) (show (2 : Nat) ≤ 8 by decide) hb ((m_turnoutlaw18_bits n a0 a1).trans h) rfl (by kernel_rfl)
noncomputable def c_turnoutlaw18_bits : Spec := specQ e_turnoutlaw18_bits h_turnoutlaw18_bits ro_turnoutlaw18_bits rh_turnoutlaw18_bits fun a b => Q_turnoutlaw18_bits a.1 a.2.1
theorem k_turnoutlaw18_bits (hm : Try.prog.follows .mixedOrders = true) : SpecOk Try.prog 21 c_turnoutlaw18_bits := specQ_ok (pol := p_turnoutlaw18_bits) hm (cf := cf_turnoutlaw18_bits) (tab_ok specs_nil) fun a b r h => ⟨FUEL, g_turnoutlaw18_bits FUEL a.1 a.2.1 (decRes_some h)⟩
def s_pack_Packet_placexe04_r : Sig := ⟨[4, 5, 6], [.ptr 1 0 0, .ty (.int .i64), .ty (.int .i64)], [.one false [.ptr 1 0 0, .nul 4, .ptr 3 0 0, .ty (.int .i64)], .one false [.hs 2 0], .row (.int .u8), .one false [.hs 4 0], .row (.int .u8)]⟩
def s_pack_Packet_placexe04_r1 : Sig := ⟨[4, 5, 6], [.ptr 3 0 0, .ty (.int .i64), .ty (.int .i64)], [.one false [.ptr 1 0 0, .nul 4, .ptr 3 0 0, .ty (.int .i64)], .one false [.hs 2 0], .row (.int .u8), .one false [.hs 4 0], .row (.int .u8)]⟩
def s_pack_Packet_placexe04_h1 : Sig := ⟨[0, 3, 32, 33, 34], [.ptr 0 0 0, .ptr 5 0 0, .hs 6 0, .ty (.int .i64), .ty (.int .i64)], [.one false [.ptr 1 0 0, .nul 4, .ptr 3 0 0, .ty (.int .i64)], .one false [.hs 2 0], .row (.int .u8), .one false [.hs 4 0], .row (.int .u8), .cell FieldT, .row HeadT]⟩
def s_pack_Packet_placexe04_t1 : Sig := ⟨[], [], [.one false [.ptr 1 0 0, .nul 4, .ptr 3 0 0, .ty (.int .i64)], .one false [.hs 2 0], .row (.int .u8), .one false [.hs 4 0], .row (.int .u8)]⟩
def s_pack_Packet_placexe04_r2 : Sig := ⟨[4, 5, 6], [.nul 0, .ty (.int .i64), .ty (.int .i64)], [.one false [.ptr 1 0 0, .nul 4, .ptr 3 0 0, .ty (.int .i64)], .one false [.hs 2 0], .row (.int .u8), .one false [.hs 4 0], .row (.int .u8)]⟩
def p_pack_Packet_placexe04 : Pol := ⟨fun i => if i = 1 then some [(0, .keep), (3, (.own FieldT)), (32, (.own HeadT)), (33, .keep), (34, .keep)] else none, fun i => if i = 1 then some [] else none, some [(4, .keep), (5, .keep), (6, .keep)], [.keep, .keep, .keep], []⟩
def e_pack_Packet_placexe04 : List EK := [.ptr 0 0 0, .agg FieldT]
def h_pack_Packet_placexe04 : List HK := [.one false [.ptr 1 0 0, .nul 4, .ptr 3 0 0, .ty (.int .i64)], .one false [.hs 2 0], .row (.int .u8), .one false [.hs 4 0], .row (.int .u8)]
noncomputable def cf_pack_Packet_placexe04 : CallF := mkCF [] []
noncomputable def ls_pack_Packet_placexe04 (n : Nat) : Loops := fun i => if i = 1 then some (loopT 5 (p_pack_Packet_placexe04.head 1) s_pack_Packet_placexe04_h1 fun K v => L_pack_Packet_placexe04_1 n (fun z0 z1 => K .rt (s_pack_Packet_placexe04_r.enc (((), (z0, (z1, ()))), (((), ((), ((), (v.2.1.2.2.2.1, ())))), ((v.2.2.1.1, ()), (v.2.2.2.1, ((v.2.2.2.2.1.1, ()), (v.2.2.2.2.2.1, ())))))))) (fun _ => K (.ex 1) (s_pack_Packet_placexe04_t1.enc ((), (((), ((), ((), (v.2.1.2.2.2.1, ())))), ((v.2.2.1.1, ()), (v.2.2.2.1, ((v.2.2.2.2.1.1, ()), (v.2.2.2.2.2.1, ())))))))) v.1.2.2.1 v.1.2.2.2.1 v.2.2.2.2.2.2.1 v.2.2.2.2.2.2.2.1 n v.1.2.2.2.2.1)
  else  none
noncomputable def b_pack_Packet_placexe04_1 : Code := partOf (bodyOf Try.f53) [1, 1, 0, 1, 0, 1, 1, 1, 1, 1, 0, 1, 0, 0]
theorem t_pack_Packet_placexe04_1 (n : Nat) (K : Cont) (rec : Sig.sem s_pack_Packet_placexe04_h1 → Option Res) (v : Sig.sem s_pack_Packet_placexe04_h1) : runT Try.prog cf_pack_Packet_placexe04 Try.f53.ntmps 5 p_pack_Packet_placexe04 (ls_pack_Packet_placexe04 n) b_pack_Packet_placexe04_1 (s_pack_Packet_placexe04_h1.enc v) (turnK 5 (p_pack_Packet_placexe04.head 1) s_pack_Packet_placexe04_h1 rec K) = F_pack_Packet_placexe04_1 n (fun z0 z1 => K .rt (s_pack_Packet_placexe04_r.enc (((), (z0, (z1, ()))), (((), ((), ((), (v.2.1.2.2.2.1, ())))), ((v.2.2.1.1, ()), (v.2.2.2.1, ((v.2.2.2.2.1.1, ()), (v.2.2.2.2.2.1, ())))))))) (fun _ => K (.ex 1) (s_pack_Packet_placexe04_t1.enc ((), (((), ((), ((), (v.2.1.2.2.2.1, ())))), ((v.2.2.1.1, ()), (v.2.2.2.1, ((v.2.2.2.2.1.1, ()), (v.2.2.2.2.2.1, ())))))))) v.1.2.2.1 v.1.2.2.2.1 v.2.2.2.2.2.2.1 v.2.2.2.2.2.2.2.1 (fun z2 => rec (((), ((), (v.1.2.2.1, (v.1.2.2.2.1, (z2, ()))))), (((), ((), ((), (v.2.1.2.2.2.1, ())))), ((v.2.2.1.1, ()), (v.2.2.2.1, ((v.2.2.2.2.1.1, ()), (v.2.2.2.2.2.1, (v.2.2.2.2.2.2.1, (v.2.2.2.2.2.2.2.1, ()))))))))) v.1.2.2.2.2.1 := by kernel_rfl
noncomputable def V_pack_Packet_placexe04_1 (n : Nat) (K : Cont) (rec : Sig.sem s_pack_Packet_placexe04_h1 → Option Res) (v : Sig.sem s_pack_Packet_placexe04_h1) : Option Res := F_pack_Packet_placexe04_1 n (fun z0 z1 => K .rt (s_pack_Packet_placexe04_r.enc (((), (z0, (z1, ()))), (((), ((), ((), (v.2.1.2.2.2.1, ())))), ((v.2.2.1.1, ()), (v.2.2.2.1, ((v.2.2.2.2.1.1, ()), (v.2.2.2.2.2.1, ())))))))) (fun _ => K (.ex 1) (s_pack_Packet_placexe04_t1.enc ((), (((), ((), ((), (v.2.1.2.2.2.1, ())))), ((v.2.2.1.1, ()), (v.2.2.2.1, ((v.2.2.2.2.1.1, ()), (v.2.2.2.2.2.1, ())))))))) v.1.2.2.1 v.1.2.2.2.1 v.2.2.2.2.2.2.1 v.2.2.2.2.2.2.2.1 (fun z2 => rec (((), ((), (v.1.2.2.1, (v.1.2.2.2.1, (z2, ()))))), (((), ((), ((), (v.2.1.2.2.2.1, ())))), ((v.2.2.1.1, ()), (v.2.2.2.1, ((v.2.2.2.2.1.1, ()), (v.2.2.2.2.2.1, (v.2.2.2.2.2.2.1, (v.2.2.2.2.2.2.2.1, ()))))))))) v.1.2.2.2.2.1
noncomputable def W_pack_Packet_placexe04_1 (n : Nat) (K : Cont) (m : Nat) (v : Sig.sem s_pack_Packet_placexe04_h1) : Option Res := L_pack_Packet_placexe04_1 n (fun z0 z1 => K .rt (s_pack_Packet_placexe04_r.enc (((), (z0, (z1, ()))), (((), ((), ((), (v.2.1.2.2.2.1, ())))), ((v.2.2.1.1, ()), (v.2.2.2.1, ((v.2.2.2.2.1.1, ()), (v.2.2.2.2.2.1, ())))))))) (fun _ => K (.ex 1) (s_pack_Packet_placexe04_t1.enc ((), (((), ((), ((), (v.2.1.2.2.2.1, ())))), ((v.2.2.1.1, ()), (v.2.2.2.1, ((v.2.2.2.2.1.1, ()), (v.2.2.2.2.2.1, ())))))))) v.1.2.2.1 v.1.2.2.2.1 v.2.2.2.2.2.2.1 v.2.2.2.2.2.2.2.1 m v.1.2.2.2.2.1
theorem i_pack_Packet_placexe04_1 (n : Nat) (K : Cont) : ∀ m v, iter (V_pack_Packet_placexe04_1 n K) m v = W_pack_Packet_placexe04_1 n K m v := by
  intro m
  induction m with
  | zero => intro v; rfl
  | succ m ih =>
    intro v
    show V_pack_Packet_placexe04_1 n K (iter (V_pack_Packet_placexe04_1 n K) m) v = V_pack_Packet_placexe04_1 n K (W_pack_Packet_placexe04_1 n K m) v
    rw [show iter (V_pack_Packet_placexe04_1 n K) m = W_pack_Packet_placexe04_1 n K m from funext ih]
theorem o_pack_Packet_placexe04_1 (n : Nat) : ∀ L, ls_pack_Packet_placexe04 n 1 = some L → ∀ s K r, L s K = some r → ∃ x s', loopN (run Try.prog cf_pack_Packet_placexe04 Try.f53.ntmps 5 n p_pack_Packet_placexe04 none b_pack_Packet_placexe04_1) (gc 5 (p_pack_Packet_placexe04.head 1)) n s = some (x, s') ∧ K x s' = some r := by
  intro L hL s K r h
  have hL : some (loopT 5 (p_pack_Packet_placexe04.head 1) s_pack_Packet_placexe04_h1 fun K v => W_pack_Packet_placexe04_1 n K n v) = some L := hL
  cases hL
  have hb : LOk Try.prog cf_pack_Packet_placexe04 Try.f53.ntmps 5 n p_pack_Packet_placexe04 (ls_pack_Packet_placexe04 n) b_pack_Packet_placexe04_1 := ⟨trivial, ⟨⟨trivial, trivial⟩, ⟨⟨trivial, ⟨trivial, ⟨⟨trivial, trivial⟩, trivial⟩⟩⟩, trivial⟩⟩⟩
  refine loopT_ok hb (V_pack_Packet_placexe04_1 n) (t_pack_Packet_placexe04_1 n) n s K r ?_
  rw [← h]
  unfold loopT
  simp only [i_pack_Packet_placexe04_1]
theorem m_pack_Packet_placexe04 (n : Nat) (a0 : FieldS) (a1 : Int) (a2 : Nat) (a3 : (List Int)) (a4 : Nat) (a5 : (List Int)) : runFT Try.prog cf_pack_Packet_placexe04 p_pack_Packet_placexe04 (ls_pack_Packet_placexe04 n) Try.f53 (bodyOf Try.f53) (EK.encs e_pack_Packet_placexe04 (((), (a0, ())), (((), ((), ((), (a1, ())))), ((a2, ()), (a3, ((a4, ()), (a5, ())))))).1) (HK.encs h_pack_Packet_placexe04 (((), (a0, ())), (((), ((), ((), (a1, ())))), ((a2, ()), (a3, ((a4, ()), (a5, ())))))).2) = M_pack_Packet_placexe04 n a0 a1 a2 a3 a4 a5 := by kernel_rfl
theorem g_pack_Packet_placexe04 (n : Nat) (a0 : FieldS) (a1 : Int) (a2 : Nat) (a3 : (List Int)) (a4 : Nat) (a5 : (List Int)) {r : Res} (h : M_pack_Packet_placexe04 n a0 a1 a2 a3 a4 a5 = some r) : runF Try.prog cf_pack_Packet_placexe04 n p_pack_Packet_placexe04 53 (EK.encs e_pack_Packet_placexe04 (((), (a0, ())), (((), ((), ((), (a1, ())))), ((a2, ()), (a3, ((a4, ()), (a5, ())))))).1) (HK.encs h_pack_Packet_placexe04 (((), (a0, ())), (((), ((), ((), (a1, ())))), ((a2, ()), (a3, ((a4, ()), (a5, ())))))).2) = some r := by
  have hb : LOk Try.prog cf_pack_Packet_placexe04 Try.f53.ntmps 5 n p_pack_Packet_placexe04 (ls_pack_Packet_placexe04 n) (bodyOf Try.f53) := ⟨trivial, ⟨⟨trivial, ⟨⟨trivial, trivial⟩, trivial⟩⟩, ⟨⟨trivial, ⟨trivial, ⟨⟨trivial, trivial⟩, ⟨trivial, ⟨⟨trivial, trivial⟩, ⟨trivial, ⟨⟨trivial, (o_pack_Packet_placexe04_1 n)⟩, trivial⟩⟩⟩⟩⟩⟩⟩, ⟨trivial, trivial⟩⟩⟩⟩
  exact runFT_some Try.prog (c := bodyOf Try.f53) Try.func53 (show Try.f53.body = some (bodyOf Try.f53) from rfl) (show (2 : Nat) ≤ 51 by decide) hb ((m_pack_Packet_placexe04 n a0 a1 a2 a3 a4 a5).trans h) rfl (by kernel_rfl)
noncomputable def c_pack_Packet_placexe04 : Spec := specTr e_pack_Packet_placexe04 h_pack_Packet_placexe04 fun a b => (altTr ro_pack_Packet_placexe04 rh_pack_Packet_placexe04 (Q_pack_Packet_placexe04 a.2.1 b.1.2.2.2.1 b.2.1.1 b.2.2.1 b.2.2.2.1.1 b.2.2.2.2.1) (altTr ro_pack_Packet_placexe04_1 rh_pack_Packet_placexe04_1 (Q_pack_Packet_placexe04_1 a.2.1 b.1.2.2.2.1 b.2.1.1 b.2.2.1 b.2.2.2.1.1 b.2.2.2.2.1) (altTr ro_pack_Packet_placexe04_2 rh_pack_Packet_placexe04_2 (Q_pack_Packet_placexe04_2 a.2.1 b.1.2.2.2.1 b.2.1.1 b.2.2.1 b.2.2.2.1.1 b.2.2.2.2.1) .no)))
theorem k_pack_Packet_placexe04 (hm : Try.prog.follows .mixedOrders = true) : SpecOk Try.prog 53 c_pack_Packet_placexe04 := specTr_ok (pol := p_pack_Packet_placexe04) hm (cf := cf_pack_Packet_placexe04) (tab_ok specs_nil) fun a b r => (fun h => (altTr_val h).elim (fun ⟨x, hx, e⟩ => ⟨FUEL, e ▸ g_pack_Packet_placexe04 FUEL a.2.1 b.1.2.2.2.1 b.2.1.1 b.2.2.1 b.2.2.2.1.1 b.2.2.2.2.1 (decRes_some hx)⟩) (fun h => (altTr_val h).elim (fun ⟨x, hx, e⟩ => ⟨FUEL, e ▸ g_pack_Packet_placexe04 FUEL a.2.1 b.1.2.2.2.1 b.2.1.1 b.2.2.1 b.2.2.2.1.1 b.2.2.2.2.1 (decRes_some hx)⟩) (fun h => (altTr_val h).elim (fun ⟨x, hx, e⟩ => ⟨FUEL, e ▸ g_pack_Packet_placexe04 FUEL a.2.1 b.1.2.2.2.1 b.2.1.1 b.2.2.1 b.2.2.2.1.1 b.2.2.2.2.1 (decRes_some hx)⟩) (fun h => by cases h))))
def s_pack_bit_r : Sig := ⟨[4], [.ty (.int .i64)], []⟩
def p_pack_bit : Pol := ⟨fun i => none, fun i => none, some [(4, .keep)], [.keep], []⟩
def e_pack_bit : List EK := [.ty (.int .i64), .ty (.int .i64)]
def h_pack_bit : List HK := []
noncomputable def cf_pack_bit : CallF := mkCF [] []
noncomputable def ls_pack_bit (n : Nat) : Loops := fun i =>  none
theorem m_pack_bit (n : Nat) (a0 : Int) (a1 : Int) : runFT Try.prog cf_pack_bit p_pack_bit (ls_pack_bit n) Try.f55 (bodyOf Try.f55) (EK.encs e_pack_bit ((a0, (a1, ())), ()).1) (HK.encs h_pack_bit ((a0, (a1, ())), ()).2) = M_pack_bit n a0 a1 := by kernel_rfl
theorem g_pack_bit (n : Nat) (a0 : Int) (a1 : Int) {r : Res} (h : M_pack_bit n a0 a1 = some r) : runF Try.prog cf_pack_bit n p_pack_bit 55 (EK.encs e_pack_bit ((a0, (a1, ())), ()).1) (HK.encs h_pack_bit ((a0, (a1, ())), ()).2) = some r := by
  have hb : LOk Try.prog cf_pack_bit Try.f55.ntmps 0 n p_pack_bit (ls_pack_bit n) (bodyOf Try.f55) := ⟨trivial, ⟨⟨trivial, ⟨⟨trivial, trivial⟩, trivial⟩⟩, ⟨trivial, trivial⟩⟩⟩
  exact runFT_some Try.prog (c := bodyOf Try.f55) Try.func55 (show Try.f55.body = some (bodyOf Try.f55) from rfl) (show (2 : Nat) ≤ 12 by decide) hb ((m_pack_bit n a0 a1).trans h) rfl (by kernel_rfl)
noncomputable def c_pack_bit : Spec := specQ e_pack_bit h_pack_bit ro_pack_bit rh_pack_bit fun a b => Q_pack_bit a.1 a.2.1
theorem k_pack_bit (hm : Try.prog.follows .mixedOrders = true) : SpecOk Try.prog 55 c_pack_bit := specQ_ok (pol := p_pack_bit) hm (cf := cf_pack_bit) (tab_ok specs_nil) fun a b r h => ⟨FUEL, g_pack_bit FUEL a.1 a.2.1 (decRes_some h)⟩
def s_buf_Buf_Getx845_r : Sig := ⟨[6, 7], [.ptr 0 0 0, .ty (.int .i64)], [.cell WordT]⟩
def p_buf_Buf_Getx845 : Pol := ⟨fun i => none, fun i => none, some [(6, (.own WordT)), (7, .keep)], [.keep, .keep], []⟩
def e_buf_Buf_Getx845 : List EK := [.nul 0, .ty (.int .i64), .ty (.int .i64)]
def h_buf_Buf_Getx845 : List HK := []
noncomputable def cf_buf_Buf_Getx845 : CallF := mkCF [] []
noncomputable def ls_buf_Buf_Getx845 (n : Nat) : Loops := fun i =>  none
theorem m_buf_Buf_Getx845 (n : Nat) (a0 : Int) (a1 : Int) : runFT Try.prog cf_buf_Buf_Getx845 p_buf_Buf_Getx845 (ls_buf_Buf_Getx845 n) Try.f54 (bodyOf Try.f54) (EK.encs e_buf_Buf_Getx845 (((), (a0, (a1, ()))), ()).1) (HK.encs h_buf_Buf_Getx845 (((), (a0, (a1, ()))), ()).2) = M_buf_Buf_Getx845 n a0 a1 := by kernel_rfl
theorem g_buf_Buf_Getx845 (n : Nat) (a0 : Int) (a1 : Int) {r : Res} (h : M_buf_Buf_Getx845 n a0 a1 = some r) : runF Try.prog cf_buf_Buf_Getx845 n p_buf_Buf_Getx845 54 (EK.encs e_buf_Buf_Getx845 (((), (a0, (a1, ()))), ()).1) (HK.encs h_buf_Buf_Getx845 (((), (a0, (a1, ()))), ()).2) = some r := by
  have hb : LOk Try.prog cf_buf_Buf_Getx845 Try.f54.ntmps 0 n p_buf_Buf_Getx845 (ls_buf_Buf_Getx845 n) (bodyOf Try.f54) := ⟨trivial, ⟨⟨trivial, ⟨⟨trivial, trivial⟩, trivial⟩⟩, ⟨trivial, ⟨trivial, trivial⟩⟩⟩⟩
  exact runFT_some Try.prog (c := bodyOf Try.f54) Try.func54 (show Try.f54.body = some (bodyOf Try.f54) from rfl) (show (3 : Nat) ≤ 30 by decide) hb ((m_buf_Buf_Getx845 n a0 a1).trans h) rfl (by kernel_rfl)
noncomputable def c_buf_Buf_Getx845 : Spec := specQ e_buf_Buf_Getx845 h_buf_Buf_Getx845 ro_buf_Buf_Getx845 rh_buf_Buf_Getx845 fun a b => Q_buf_Buf_Getx845 a.2.1 a.2.2.1
theorem k_buf_Buf_Getx845 (hm : Try.prog.follows .mixedOrders = true) : SpecOk Try.prog 54 c_buf_Buf_Getx845 := specQ_ok (pol := p_buf_Buf_Getx845) hm (cf := cf_buf_Buf_Getx845) (tab_ok specs_nil) fun a b r h => ⟨FUEL, g_buf_Buf_Getx845 FUEL a.2.1 a.2.2.1 (decRes_some h)⟩
def s_buf_Buf_windowx37e_r : Sig := ⟨[6, 7], [.hs 1 0, .ty (.int .i64)], [.one false [.hs 1 0], .row (.int .u8)]⟩
def s_buf_Buf_windowx37e_r1 : Sig := ⟨[6, 7], [.hv 1, .ty (.int .i64)], [.one false [.hs 1 0], .row (.int .u8)]⟩
def p_buf_Buf_windowx37e : Pol := ⟨fun i => none, fun i => none, some [(6, (.own (.int .u8))), (7, .keep)], [(.own (.int .u8)), .keep], []⟩
def e_buf_Buf_windowx37e : List EK := [.ptr 0 0 0, .ty (.int .i64), .ty (.int .i64)]
def h_buf_Buf_windowx37e : List HK := [.one false [.hs 1 0], .row (.int .u8)]
noncomputable def cf_buf_Buf_windowx37e : CallF := mkCF [] []
noncomputable def ls_buf_Buf_windowx37e (n : Nat) : Loops := fun i =>  none
theorem m_buf_Buf_windowx37e (n : Nat) (a0 : Int) (a1 : Int) (a2 : Nat) (a3 : (List Int)) : runFT Try.prog cf_buf_Buf_windowx37e p_buf_Buf_windowx37e (ls_buf_Buf_windowx37e n) Try.f70 (bodyOf Try.f70) (EK.encs e_buf_Buf_windowx37e (((), (a0, (a1, ()))), ((a2, ()), (a3, ()))).1) (HK.encs h_buf_Buf_windowx37e (((), (a0, (a1, ()))), ((a2, ()), (a3, ()))).2) = M_buf_Buf_windowx37e n a0 a1 a2 a3 := by kernel_rfl
theorem g_buf_Buf_windowx37e (n : Nat) (a0 : Int) (a1 : Int) (a2 : Nat) (a3 : (List Int)) {r : Res} (h : M_buf_Buf_windowx37e n a0 a1 a2 a3 = some r) : runF Try.prog cf_buf_Buf_windowx37e n p_buf_Buf_windowx37e 70 (EK.encs e_buf_Buf_windowx37e (((), (a0, (a1, ()))), ((a2, ()), (a3, ()))).1) (HK.encs h_buf_Buf_windowx37e (((), (a0, (a1, ()))), ((a2, ()), (a3, ()))).2) = some r := by
  have hb : LOk Try.prog cf_buf_Buf_windowx37e Try.f70.ntmps 2 n p_buf_Buf_windowx37e (ls_buf_Buf_windowx37e n) (bodyOf Try.f70) := ⟨trivial, ⟨⟨trivial, ⟨⟨trivial, trivial⟩, trivial⟩⟩, ⟨trivial, ⟨trivial, trivial⟩⟩⟩⟩
  exact runFT_some Try.prog (c := bodyOf Try.f70) Try.func70 (show Try.f70.body = some (bodyOf Try.f70) from rfl) (show (3 : Nat) ≤ 49 by decide) hb ((m_buf_Buf_windowx37e n a0 a1 a2 a3).trans h) rfl (by kernel_rfl)
noncomputable def c_buf_Buf_windowx37e : Spec := specTr e_buf_Buf_windowx37e h_buf_Buf_windowx37e fun a b => (altTr ro_buf_Buf_windowx37e rh_buf_Buf_windowx37e (Q_buf_Buf_windowx37e a.2.1 a.2.2.1 b.1.1 b.2.1) (altTr ro_buf_Buf_windowx37e_1 rh_buf_Buf_windowx37e_1 (Q_buf_Buf_windowx37e_1 a.2.1 a.2.2.1 b.1.1 b.2.1) .no))
theorem k_buf_Buf_windowx37e (hm : Try.prog.follows .mixedOrders = true) : SpecOk Try.prog 70 c_buf_Buf_windowx37e := specTr_ok (pol := p_buf_Buf_windowx37e) hm (cf := cf_buf_Buf_windowx37e) (tab_ok specs_nil) fun a b r => (fun h => (altTr_val h).elim (fun ⟨x, hx, e⟩ => ⟨FUEL, e ▸ g_buf_Buf_windowx37e FUEL a.2.1 a.2.2.1 b.1.1 b.2.1 (decRes_some hx)⟩) (fun h => (altTr_val h).elim (fun ⟨x, hx, e⟩ => ⟨FUEL, e ▸ g_buf_Buf_windowx37e FUEL a.2.1 a.2.2.1 b.1.1 b.2.1 (decRes_some hx)⟩) (fun h => by cases h)))
def s_field_may_r : Sig := ⟨[6], [.ty (.int .i64)], []⟩
def p_field_may : Pol := ⟨fun i => none, fun i => none, some [(6, .keep)], [.keep], []⟩
def e_field_may : List EK := [.ty .str, .ty (.int .i64), .ty (.int .i64)]
def h_field_may : List HK := []
noncomputable def cf_field_may : CallF := mkCF [] []
noncomputable def ls_field_may (n : Nat) : Loops := fun i =>  none
theorem m_field_may (n : Nat) (a0 : ByteArray) (a1 : Int) (a2 : Int) : runFT Try.prog cf_field_may p_field_may (ls_field_may n) Try.f86 (bodyOf Try.f86) (EK.encs e_field_may ((a0, (a1, (a2, ()))), ()).1) (HK.encs h_field_may ((a0, (a1, (a2, ()))), ()).2) = M_field_may n a0 a1 a2 := by kernel_rfl
theorem g_field_may (n : Nat) (a0 : ByteArray) (a1 : Int) (a2 : Int) {r : Res} (h : M_field_may n a0 a1 a2 = some r) : runF Try.prog cf_field_may n p_field_may 86 (EK.encs e_field_may ((a0, (a1, (a2, ()))), ()).1) (HK.encs h_field_may ((a0, (a1, (a2, ()))), ()).2) = some r := by
  have hb : LOk Try.prog cf_field_may Try.f86.ntmps 0 n p_field_may (ls_field_may n) (bodyOf Try.f86) := ⟨trivial, ⟨⟨trivial, ⟨⟨trivial, trivial⟩, ⟨trivial, ⟨⟨trivial, trivial⟩, trivial⟩⟩⟩⟩, ⟨trivial, trivial⟩⟩⟩
  exact runFT_some Try.prog (c := bodyOf Try.f86) Try.func86 (show Try.f86.body = some (bodyOf Try.f86) from rfl) (show (3 : Nat) ≤ 26 by decide) hb ((m_field_may n a0 a1 a2).trans h) rfl (by kernel_rfl)
noncomputable def c_field_may : Spec := specQ e_field_may h_field_may ro_field_may rh_field_may fun a b => Q_field_may a.1 a.2.1 a.2.2.1
theorem k_field_may (hm : Try.prog.follows .mixedOrders = true) : SpecOk Try.prog 86 c_field_may := specQ_ok (pol := p_field_may) hm (cf := cf_field_may) (tab_ok specs_nil) fun a b r h => ⟨FUEL, g_field_may FUEL a.1 a.2.1 a.2.2.1 (decRes_some h)⟩
def s_word_Left_r : Sig := ⟨[4], [.ptr 0 0 0], [.cell WordT]⟩
def p_word_Left : Pol := ⟨fun i => none, fun i => none, some [(4, (.own WordT))], [.keep], []⟩
def e_word_Left : List EK := [.agg WordT, .ty (.int .i64)]
def h_word_Left : List HK := []
noncomputable def cf_word_Left : CallF := mkCF [] []
noncomputable def ls_word_Left (n : Nat) : Loops := fun i =>  none
theorem m_word_Left (n : Nat) (a0 : WordS) (a1 : Int) : runFT Try.prog cf_word_Left p_word_Left (ls_word_Left n) Try.f88 (bodyOf Try.f88) (EK.encs e_word_Left ((a0, (a1, ())), ()).1) (HK.encs h_word_Left ((a0, (a1, ())), ()).2) = M_word_Left n a0 a1 := by kernel_rfl
theorem g_word_Left (n : Nat) (a0 : WordS) (a1 : Int) {r : Res} (h : M_word_Left n a0 a1 = some r) : runF Try.prog cf_word_Left n p_word_Left 88 (EK.encs e_word_Left ((a0, (a1, ())), ()).1) (HK.encs h_word_Left ((a0, (a1, ())), ()).2) = some r := by
  have hb : LOk Try.prog cf_word_Left Try.f88.ntmps 0 n p_word_Left (ls_word_Left n) (bodyOf Try.f88) := ⟨trivial, ⟨⟨trivial, ⟨⟨trivial, trivial⟩, ⟨trivial, ⟨⟨trivial, trivial⟩, trivial⟩⟩⟩⟩, ⟨trivial, trivial⟩⟩⟩
  exact runFT_some Try.prog (c := bodyOf Try.f88) Try.func88 (show Try.f88.body = some (bodyOf Try.f88) from rfl) (show (2 : Nat) ≤ 33 by decide) hb ((m_word_Left n a0 a1).trans h) rfl (by kernel_rfl)
noncomputable def c_word_Left : Spec := specQ e_word_Left h_word_Left ro_word_Left rh_word_Left fun a b => Q_word_Left a.1 a.2.1
theorem k_word_Left (hm : Try.prog.follows .mixedOrders = true) : SpecOk Try.prog 88 c_word_Left := specQ_ok (pol := p_word_Left) hm (cf := cf_word_Left) (tab_ok specs_nil) fun a b r h => ⟨FUEL, g_word_Left FUEL a.1 a.2.1 (decRes_some h)⟩
def s_word_New_r : Sig := ⟨[2], [.ptr 0 0 0], [.cell WordT]⟩
def p_word_New : Pol := ⟨fun i => none, fun i => none, some [(2, (.own WordT))], [.keep], []⟩
def e_word_New : List EK := [.ty (.int .u64)]
def h_word_New : List HK := []
noncomputable def cf_word_New : CallF := mkCF [] []
noncomputable def ls_word_New (n : Nat) : Loops := fun i =>  none
theorem m_word_New (n : Nat) (a0 : Int) : runFT Try.prog cf_word_New p_word_New (ls_word_New n) Try.f89 (bodyOf Try.f89) (EK.encs e_word_New ((a0, ()), ()).1) (HK.encs h_word_New ((a0, ()), ()).2) = M_word_New n a0 := by kernel_rfl
theorem g_word_New (n : Nat) (a0 : Int) {r : Res} (h : M_word_New n a0 = some r) : runF Try.prog cf_word_New n p_word_New 89 (EK.encs e_word_New ((a0, ()), ()).1) (HK.encs h_word_New ((a0, ()), ()).2) = some r := by
  have hb : LOk Try.prog cf_word_New Try.f89.ntmps 0 n p_word_New (ls_word_New n) (bodyOf Try.f89) := ⟨trivial, ⟨trivial, trivial⟩⟩
  exact runFT_some Try.prog (c := bodyOf Try.f89) Try.func89 (show Try.f89.body = some (bodyOf Try.f89) from rfl) (show (1 : Nat) ≤ 5 by decide) hb ((m_word_New n a0).trans h) rfl (by kernel_rfl)
noncomputable def c_word_New : Spec := specQ e_word_New h_word_New ro_word_New rh_word_New fun a b => Q_word_New a.1
theorem k_word_New (hm : Try.prog.follows .mixedOrders = true) : SpecOk Try.prog 89 c_word_New := specQ_ok (pol := p_word_New) hm (cf := cf_word_New) (tab_ok specs_nil) fun a b r h => ⟨FUEL, g_word_New FUEL a.1 (decRes_some h)⟩
def s_word_Or_r : Sig := ⟨[4], [.ptr 0 0 0], [.cell WordT]⟩
def p_word_Or : Pol := ⟨fun i => none, fun i => none, some [(4, (.own WordT))], [.keep], []⟩
def e_word_Or : List EK := [.agg WordT, .agg WordT]
def h_word_Or : List HK := []
noncomputable def cf_word_Or : CallF := mkCF [] []
noncomputable def ls_word_Or (n : Nat) : Loops := fun i =>  none
theorem m_word_Or (n : Nat) (a0 : WordS) (a1 : WordS) : runFT Try.prog cf_word_Or p_word_Or (ls_word_Or n) Try.f87 (bodyOf Try.f87) (EK.encs e_word_Or ((a0, (a1, ())), ()).1) (HK.encs h_word_Or ((a0, (a1, ())), ()).2) = M_word_Or n a0 a1 := by kernel_rfl
theorem g_word_Or (n : Nat) (a0 : WordS) (a1 : WordS) {r : Res} (h : M_word_Or n a0 a1 = some r) : runF Try.prog cf_word_Or n p_word_Or 87 (EK.encs e_word_Or ((a0, (a1, ())), ()).1) (HK.encs h_word_Or ((a0, (a1, ())), ()).2) = some r := by
  have hb : LOk Try.prog cf_word_Or Try.f87.ntmps 0 n p_word_Or (ls_word_Or n) (bodyOf Try.f87) := ⟨trivial, ⟨trivial, trivial⟩⟩
  exact runFT_some Try.prog (c := bodyOf Try.f87) Try.func87 (show Try.f87.body = some (bodyOf Try.f87) from rfl) (show (2 : Nat) ≤ 16 by decide) hb ((m_word_Or n a0 a1).trans h) rfl (by kernel_rfl)
noncomputable def c_word_Or : Spec := specQ e_word_Or h_word_Or ro_word_Or rh_word_Or fun a b => Q_word_Or a.1 a.2.1
theorem k_word_Or (hm : Try.prog.follows .mixedOrders = true) : SpecOk Try.prog 87 c_word_Or := specQ_ok (pol := p_word_Or) hm (cf := cf_word_Or) (tab_ok specs_nil) fun a b r h => ⟨FUEL, g_word_Or FUEL a.1 a.2.1 (decRes_some h)⟩
def s_word_Not_r : Sig := ⟨[2], [.ptr 0 0 0], [.cell WordT]⟩
def p_word_Not : Pol := ⟨fun i => none, fun i => none, some [(2, (.own WordT))], [.keep], []⟩
def e_word_Not : List EK := [.agg WordT]
def h_word_Not : List HK := []
noncomputable def cf_word_Not : CallF := mkCF [] []
noncomputable def ls_word_Not (n : Nat) : Loops := fun i =>  none
theorem m_word_Not (n : Nat) (a0 : WordS) : runFT Try.prog cf_word_Not p_word_Not (ls_word_Not n) Try.f90 (bodyOf Try.f90) (EK.encs e_word_Not ((a0, ()), ()).1) (HK.encs h_word_Not ((a0, ()), ()).2) = M_word_Not n a0 := by kernel_rfl
theorem g_word_Not (n : Nat) (a0 : WordS) {r : Res} (h : M_word_Not n a0 = some r) : runF Try.prog cf_word_Not n p_word_Not 90 (EK.encs e_word_Not ((a0, ()), ()).1) (HK.encs h_word_Not ((a0, ()), ()).2) = some r := by
  have hb : LOk Try.prog cf_word_Not Try.f90.ntmps 0 n p_word_Not (ls_word_Not n) (bodyOf Try.f90) := ⟨trivial, ⟨trivial, trivial⟩⟩
  exact runFT_some Try.prog (c := bodyOf Try.f90) Try.func90 (show Try.f90.body = some (bodyOf Try.f90) from rfl) (show (1 : Nat) ≤ 10 by decide) hb ((m_word_Not n a0).trans h) rfl (by kernel_rfl)
noncomputable def c_word_Not : Spec := specQ e_word_Not h_word_Not ro_word_Not rh_word_Not fun a b => Q_word_Not a.1
theorem k_word_Not (hm : Try.prog.follows .mixedOrders = true) : SpecOk Try.prog 90 c_word_Not := specQ_ok (pol := p_word_Not) hm (cf := cf_word_Not) (tab_ok specs_nil) fun a b r h => ⟨FUEL, g_word_Not FUEL a.1 (decRes_some h)⟩
def s_word_Right_r : Sig := ⟨[4], [.ptr 0 0 0], [.cell WordT]⟩
def p_word_Right : Pol := ⟨fun i => none, fun i => none, some [(4, (.own WordT))], [.keep], []⟩
def e_word_Right : List EK := [.agg WordT, .ty (.int .i64)]
def h_word_Right : List HK := []
noncomputable def cf_word_Right : CallF := mkCF [] []
noncomputable def ls_word_Right (n : Nat) : Loops := fun i =>  none
theorem m_word_Right (n : Nat) (a0 : WordS) (a1 : Int) : runFT Try.prog cf_word_Right p_word_Right (ls_word_Right n) Try.f72 (bodyOf Try.f72) (EK.encs e_word_Right ((a0, (a1, ())), ()).1) (HK.encs h_word_Right ((a0, (a1, ())), ()).2) = M_word_Right n a0 a1 := by kernel_rfl
theorem g_word_Right (n : Nat) (a0 : WordS) (a1 : Int) {r : Res} (h : M_word_Right n a0 a1 = some r) : runF Try.prog cf_word_Right n p_word_Right 72 (EK.encs e_word_Right ((a0, (a1, ())), ()).1) (HK.encs h_word_Right ((a0, (a1, ())), ()).2) = some r := by
  have hb : LOk Try.prog cf_word_Right Try.f72.ntmps 0 n p_word_Right (ls_word_Right n) (bodyOf Try.f72) := ⟨trivial, ⟨⟨trivial, ⟨⟨trivial, trivial⟩, ⟨trivial, ⟨⟨trivial, trivial⟩, trivial⟩⟩⟩⟩, ⟨trivial, trivial⟩⟩⟩
  exact runFT_some Try.prog (c := bodyOf Try.f72) Try.func72 (show Try.f72.body = some (bodyOf Try.f72) from rfl) (show (2 : Nat) ≤ 33 by decide) hb ((m_word_Right n a0 a1).trans h) rfl (by kernel_rfl)
noncomputable def c_word_Right : Spec := specQ e_word_Right h_word_Right ro_word_Right rh_word_Right fun a b => Q_word_Right a.1 a.2.1
theorem k_word_Right (hm : Try.prog.follows .mixedOrders = true) : SpecOk Try.prog 72 c_word_Right := specQ_ok (pol := p_word_Right) hm (cf := cf_word_Right) (tab_ok specs_nil) fun a b r h => ⟨FUEL, g_word_Right FUEL a.1 a.2.1 (decRes_some h)⟩
def s_word_Mask_r : Sig := ⟨[2], [.ptr 0 0 0], [.cell WordT]⟩
def p_word_Mask : Pol := ⟨fun i => none, fun i => none, some [(2, (.own WordT))], [.keep], []⟩
def e_word_Mask : List EK := [.ty (.int .i64)]
def h_word_Mask : List HK := []
noncomputable def cf_word_Mask : CallF := mkCF [(90, c_word_Not), (72, c_word_Right)] [(90, [WordT]), (72, [WordT, (.int .i64)])]
noncomputable def ls_word_Mask (n : Nat) : Loops := fun i =>  none
theorem m_word_Mask (n : Nat) (a0 : Int) : runFT Try.prog cf_word_Mask p_word_Mask (ls_word_Mask n) Try.f74 (bodyOf Try.f74) (EK.encs e_word_Mask ((a0, ()), ()).1) (HK.encs h_word_Mask ((a0, ()), ()).2) = M_word_Mask n a0 := by kernel_rfl
theorem g_word_Mask (n : Nat) (a0 : Int) {r : Res} (h : M_word_Mask n a0 = some r) : runF Try.prog cf_word_Mask n p_word_Mask 74 (EK.encs e_word_Mask ((a0, ()), ()).1) (HK.encs h_word_Mask ((a0, ()), ()).2) = some r := by
  have hb : LOk Try.prog cf_word_Mask Try.f74.ntmps 0 n p_word_Mask (ls_word_Mask n) (bodyOf Try.f74) := ⟨trivial, ⟨trivial, trivial⟩⟩
  exact runFT_some Try.prog (c := bodyOf Try.f74) Try.func74 (show Try.f74.body = some (bodyOf Try.f74) from rfl) (show (1 : Nat) ≤ 10 by decide) hb ((m_word_Mask n a0).trans h) rfl (by kernel_rfl)
noncomputable def c_word_Mask : Spec := specQ e_word_Mask h_word_Mask ro_word_Mask rh_word_Mask fun a b => Q_word_Mask a.1
theorem k_word_Mask (hm : Try.prog.follows .mixedOrders = true) : SpecOk Try.prog 74 c_word_Mask := specQ_ok (pol := p_word_Mask) hm (cf := cf_word_Mask) (tab_ok (specs_cons (k_word_Not hm) (specs_cons (k_word_Right hm) specs_nil))) fun a b r h => ⟨FUEL, g_word_Mask FUEL a.1 (decRes_some h)⟩
def s_word_And_r : Sig := ⟨[4], [.ptr 0 0 0], [.cell WordT]⟩
def p_word_And : Pol := ⟨fun i => none, fun i => none, some [(4, (.own WordT))], [.keep], []⟩
def e_word_And : List EK := [.agg WordT, .agg WordT]
def h_word_And : List HK := []
noncomputable def cf_word_And : CallF := mkCF [] []
noncomputable def ls_word_And (n : Nat) : Loops := fun i =>  none
theorem m_word_And (n : Nat) (a0 : WordS) (a1 : WordS) : runFT Try.prog cf_word_And p_word_And (ls_word_And n) Try.f73 (bodyOf Try.f73) (EK.encs e_word_And ((a0, (a1, ())), ()).1) (HK.encs h_word_And ((a0, (a1, ())), ()).2) = M_word_And n a0 a1 := by kernel_rfl
theorem g_word_And (n : Nat) (a0 : WordS) (a1 : WordS) {r : Res} (h : M_word_And n a0 a1 = some r) : runF Try.prog cf_word_And n p_word_And 73 (EK.encs e_word_And ((a0, (a1, ())), ()).1) (HK.encs h_word_And ((a0, (a1, ())), ()).2) = some r := by
  have hb : LOk Try.prog cf_word_And Try.f73.ntmps 0 n p_word_And (ls_word_And n) (bodyOf Try.f73) := ⟨trivial, ⟨trivial, trivial⟩⟩
  exact runFT_some Try.prog (c := bodyOf Try.f73) Try.func73 (show Try.f73.body = some (bodyOf Try.f73) from rfl) (show (2 : Nat) ≤ 16 by decide) hb ((m_word_And n a0 a1).trans h) rfl (by kernel_rfl)
noncomputable def c_word_And : Spec := specQ e_word_And h_word_And ro_word_And rh_word_And fun a b => Q_word_And a.1 a.2.1
theorem k_word_And (hm : Try.prog.follows .mixedOrders = true) : SpecOk Try.prog 73 c_word_And := specQ_ok (pol := p_word_And) hm (cf := cf_word_And) (tab_ok specs_nil) fun a b r h => ⟨FUEL, g_word_And FUEL a.1 a.2.1 (decRes_some h)⟩
def s_word_Cut_r : Sig := ⟨[4], [.ptr 0 0 0], [.cell WordT]⟩
def p_word_Cut : Pol := ⟨fun i => none, fun i => none, some [(4, (.own WordT))], [.keep], []⟩
def e_word_Cut : List EK := [.agg WordT, .ty (.int .i64)]
def h_word_Cut : List HK := []
noncomputable def cf_word_Cut : CallF := mkCF [(74, c_word_Mask), (73, c_word_And)] [(74, [(.int .i64)]), (73, [WordT, WordT])]
noncomputable def ls_word_Cut (n : Nat) : Loops := fun i =>  none
theorem m_word_Cut (n : Nat) (a0 : WordS) (a1 : Int) : runFT Try.prog cf_word_Cut p_word_Cut (ls_word_Cut n) Try.f57 (bodyOf Try.f57) (EK.encs e_word_Cut ((a0, (a1, ())), ()).1) (HK.encs h_word_Cut ((a0, (a1, ())), ()).2) = M_word_Cut n a0 a1 := by kernel_rfl
theorem g_word_Cut (n : Nat) (a0 : WordS) (a1 : Int) {r : Res} (h : M_word_Cut n a0 a1 = some r) : runF Try.prog cf_word_Cut n p_word_Cut 57 (EK.encs e_word_Cut ((a0, (a1, ())), ()).1) (HK.encs h_word_Cut ((a0, (a1, ())), ()).2) = some r := by
  have hb : LOk Try.prog cf_word_Cut Try.f57.ntmps 0 n p_word_Cut (ls_word_Cut n) (bodyOf Try.f57) := ⟨trivial, ⟨trivial, trivial⟩⟩
  exact runFT_some Try.prog (c := bodyOf Try.f57) Try.func57 (show Try.f57.body = some (bodyOf Try.f57) from rfl) (show (2 : Nat) ≤ 9 by decide) hb ((m_word_Cut n a0 a1).trans h) rfl (by kernel_rfl)
noncomputable def c_word_Cut : Spec := specQ e_word_Cut h_word_Cut ro_word_Cut rh_word_Cut fun a b => Q_word_Cut a.1 a.2.1
theorem k_word_Cut (hm : Try.prog.follows .mixedOrders = true) : SpecOk Try.prog 57 c_word_Cut := specQ_ok (pol := p_word_Cut) hm (cf := cf_word_Cut) (tab_ok (specs_cons (k_word_Mask hm) (specs_cons (k_word_And hm) specs_nil))) fun a b r h => ⟨FUEL, g_word_Cut FUEL a.1 a.2.1 (decRes_some h)⟩
def s_field_Get_r : Sig := ⟨[6, 7], [.ptr 0 0 0, .ty (.int .i64)], [.cell WordT]⟩
def s_field_Get_h0 : Sig := ⟨[0, 1, 2, 6, 9, 10, 11, 33, 34], [.ty .str, .ty (.int .i64), .ty (.int .i64), .ptr 0 0 0, .ty (.int .i64), .ty (.int .i64), .ptr 1 0 0, .ty (.int .i64), .ty (.int .i64)], [.cell WordT, .cell WordT]⟩
def s_field_Get_t0 : Sig := ⟨[0, 1, 2, 6, 10, 11], [.ty .str, .ty (.int .i64), .ty (.int .i64), .ptr 0 0 0, .ty (.int .i64), .ptr 1 0 0], [.cell WordT, .cell WordT]⟩
def p_field_Get : Pol := ⟨fun i => if i = 0 then some [(0, .keep), (1, .keep), (2, .keep), (6, (.own WordT)), (9, .keep), (10, .keep), (11, (.own WordT)), (33, .keep), (34, .keep)] else none, fun i => if i = 0 then some [(0, .keep), (1, .keep), (2, .keep), (6, (.own WordT)), (10, .keep), (11, (.own WordT))] else none, some [(6, (.own WordT)), (7, .keep)], [.keep, .keep], []⟩
def e_field_Get : List EK := [.ty .str, .ty (.int .i64), .ty (.int .i64)]
def h_field_Get : List HK := []
noncomputable def cf_field_Get : CallF := mkCF [(86, c_field_may), (88, c_word_Left), (89, c_word_New), (87, c_word_Or), (57, c_word_Cut)] [(86, [.str, (.int .i64), (.int .i64)]), (88, [WordT, (.int .i64)]), (89, [(.int .u64)]), (87, [WordT, WordT]), (57, [WordT, (.int .i64)])]
noncomputable def ls_field_Get (n : Nat) : Loops := fun i => if i = 0 then some (loopT 0 (p_field_Get.head 0) s_field_Get_h0 fun K v => L_field_Get_0 n (fun z5 => K (.ex 0) (s_field_Get_t0.enc ((v.1.1, (v.1.2.1, (v.1.2.2.1, ((), (v.1.2.2.2.2.2.1, ((), ())))))), (v.2.1, (z5, ()))))) v.1.1 v.1.2.1 v.1.2.2.1 v.1.2.2.2.2.1 v.1.2.2.2.2.2.1 v.1.2.2.2.2.2.2.2.1 v.2.1 n v.1.2.2.2.2.2.2.2.2.1 v.2.2.1)
  else  none
noncomputable def b_field_Get_0 : Code := partOf (bodyOf Try.f71) [1, 1, 1, 1, 0, 1, 0, 0]
theorem t_field_Get_0 (n : Nat) (K : Cont) (rec : Sig.sem s_field_Get_h0 → Option Res) (v : Sig.sem s_field_Get_h0) : runT Try.prog cf_field_Get Try.f71.ntmps 0 p_field_Get (ls_field_Get n) b_field_Get_0 (s_field_Get_h0.enc v) (turnK 0 (p_field_Get.head 0) s_field_Get_h0 rec K) = F_field_Get_0 n (fun z5 => K (.ex 0) (s_field_Get_t0.enc ((v.1.1, (v.1.2.1, (v.1.2.2.1, ((), (v.1.2.2.2.2.2.1, ((), ())))))), (v.2.1, (z5, ()))))) v.1.1 v.1.2.1 v.1.2.2.1 v.1.2.2.2.2.1 v.1.2.2.2.2.2.1 v.1.2.2.2.2.2.2.2.1 v.2.1 (fun z6 z8 => rec ((v.1.1, (v.1.2.1, (v.1.2.2.1, ((), (v.1.2.2.2.2.1, (v.1.2.2.2.2.2.1, ((), (v.1.2.2.2.2.2.2.2.1, (z6, ()))))))))), (v.2.1, (z8, ())))) v.1.2.2.2.2.2.2.2.2.1 v.2.2.1 := by kernel_rfl
noncomputable def V_field_Get_0 (n : Nat) (K : Cont) (rec : Sig.sem s_field_Get_h0 → Option Res) (v : Sig.sem s_field_Get_h0) : Option Res := F_field_Get_0 n (fun z5 => K (.ex 0) (s_field_Get_t0.enc ((v.1.1, (v.1.2.1, (v.1.2.2.1, ((), (v.1.2.2.2.2.2.1, ((), ())))))), (v.2.1, (z5, ()))))) v.1.1 v.1.2.1 v.1.2.2.1 v.1.2.2.2.2.1 v.1.2.2.2.2.2.1 v.1.2.2.2.2.2.2.2.1 v.2.1 (fun z6 z8 => rec ((v.1.1, (v.1.2.1, (v.1.2.2.1, ((), (v.1.2.2.2.2.1, (v.1.2.2.2.2.2.1, ((), (v.1.2.2.2.2.2.2.2.1, (z6, ()))))))))), (v.2.1, (z8, ())))) v.1.2.2.2.2.2.2.2.2.1 v.2.2.1
noncomputable def W_field_Get_0 (n : Nat) (K : Cont) (m : Nat) (v : Sig.sem s_field_Get_h0) : Option Res := L_field_Get_0 n (fun z5 => K (.ex 0) (s_field_Get_t0.enc ((v.1.1, (v.1.2.1, (v.1.2.2.1, ((), (v.1.2.2.2.2.2.1, ((), ())))))), (v.2.1, (z5, ()))))) v.1.1 v.1.2.1 v.1.2.2.1 v.1.2.2.2.2.1 v.1.2.2.2.2.2.1 v.1.2.2.2.2.2.2.2.1 v.2.1 m v.1.2.2.2.2.2.2.2.2.1 v.2.2.1
theorem i_field_Get_0 (n : Nat) (K : Cont) : ∀ m v, iter (V_field_Get_0 n K) m v = W_field_Get_0 n K m v := by
  intro m
  induction m with
  | zero => intro v; rfl
  | succ m ih =>
    intro v
    show V_field_Get_0 n K (iter (V_field_Get_0 n K) m) v = V_field_Get_0 n K (W_field_Get_0 n K m) v
    rw [show iter (V_field_Get_0 n K) m = W_field_Get_0 n K m from funext ih]
theorem o_field_Get_0 (n : Nat) : ∀ L, ls_field_Get n 0 = some L → ∀ s K r, L s K = some r → ∃ x s', loopN (run Try.prog cf_field_Get Try.f71.ntmps 0 n p_field_Get none b_field_Get_0) (gc 0 (p_field_Get.head 0)) n s = some (x, s') ∧ K x s' = some r := by
  intro L hL s K r h
  have hL : some (loopT 0 (p_field_Get.head 0) s_field_Get_h0 fun K v => W_field_Get_0 n K n v) = some L := hL
  cases hL
  have hb : LOk Try.prog cf_field_Get Try.f71.ntmps 0 n p_field_Get (ls_field_Get n) b_field_Get_0 := ⟨trivial, ⟨⟨trivial, trivial⟩, ⟨⟨trivial, trivial⟩, trivial⟩⟩⟩
  refine loopT_ok hb (V_field_Get_0 n) (t_field_Get_0 n) n s K r ?_
  rw [← h]
  unfold loopT
  simp only [i_field_Get_0]
theorem m_field_Get (n : Nat) (a0 : ByteArray) (a1 : Int) (a2 : Int) : runFT Try.prog cf_field_Get p_field_Get (ls_field_Get n) Try.f71 (bodyOf Try.f71) (EK.encs e_field_Get ((a0, (a1, (a2, ()))), ()).1) (HK.encs h_field_Get ((a0, (a1, (a2, ()))), ()).2) = M_field_Get n a0 a1 a2 := by kernel_rfl
theorem g_field_Get (n : Nat) (a0 : ByteArray) (a1 : Int) (a2 : Int) {r : Res} (h : M_field_Get n a0 a1 a2 = some r) : runF Try.prog cf_field_Get n p_field_Get 71 (EK.encs e_field_Get ((a0, (a1, (a2, ()))), ()).1) (HK.encs h_field_Get ((a0, (a1, (a2, ()))), ()).2) = some r := by
  have hb : LOk Try.prog cf_field_Get Try.f71.ntmps 0 n p_field_Get (ls_field_Get n) (bodyOf Try.f71) := ⟨trivial, ⟨⟨trivial, ⟨trivial, ⟨⟨trivial, trivial⟩, trivial⟩⟩⟩, ⟨trivial, ⟨trivial, ⟨⟨trivial, (o_field_Get_0 n)⟩, ⟨trivial, ⟨trivial, ⟨trivial, trivial⟩⟩⟩⟩⟩⟩⟩⟩
  exact runFT_some Try.prog (c := bodyOf Try.f71) Try.func71 (show Try.f71.body = some (bodyOf Try.f71) from rfl) (show (3 : Nat) ≤ 70 by decide) hb ((m_field_Get n a0 a1 a2).trans h) rfl (by kernel_rfl)
noncomputable def c_field_Get : Spec := specQ e_field_Get h_field_Get ro_field_Get rh_field_Get fun a b => Q_field_Get a.1 a.2.1 a.2.2.1
theorem k_field_Get (hm : Try.prog.follows .mixedOrders = true) : SpecOk Try.prog 71 c_field_Get := specQ_ok (pol := p_field_Get) hm (cf := cf_field_Get) (tab_ok (specs_cons (k_field_may hm) (specs_cons (k_word_Left hm) (specs_cons (k_word_New hm) (specs_cons (k_word_Or hm) (specs_cons (k_word_Cut hm) specs_nil)))))) fun a b r h => ⟨FUEL, g_field_Get FUEL a.1 a.2.1 a.2.2.1 (decRes_some h)⟩
def s_buf_Buf_Getx37e_r : Sig := ⟨[6, 7], [.ptr 2 0 0, .ty (.int .i64)], [.one false [.hs 1 0], .row (.int .u8), .cell WordT]⟩
def p_buf_Buf_Getx37e : Pol := ⟨fun i => none, fun i => none, some [(6, (.own WordT)), (7, .keep)], [.keep, .keep], []⟩
def e_buf_Buf_Getx37e : List EK := [.ptr 0 0 0, .ty (.int .i64), .ty (.int .i64)]
def h_buf_Buf_Getx37e : List HK := [.one false [.hs 1 0], .row (.int .u8)]
noncomputable def cf_buf_Buf_Getx37e : CallF := mkCF [(70, c_buf_Buf_windowx37e), (71, c_field_Get)] [(71, [.str, (.int .i64), (.int .i64)])]
noncomputable def ls_buf_Buf_Getx37e (n : Nat) : Loops := fun i =>  none
theorem m_buf_Buf_Getx37e (n : Nat) (a0 : Int) (a1 : Int) (a2 : Nat) (a3 : (List Int)) : runFT Try.prog cf_buf_Buf_Getx37e p_buf_Buf_Getx37e (ls_buf_Buf_Getx37e n) Try.f54 (bodyOf Try.f54) (EK.encs e_buf_Buf_Getx37e (((), (a0, (a1, ()))), ((a2, ()), (a3, ()))).1) (HK.encs h_buf_Buf_Getx37e (((), (a0, (a1, ()))), ((a2, ()), (a3, ()))).2) = M_buf_Buf_Getx37e n a0 a1 a2 a3 := by kernel_rfl
theorem g_buf_Buf_Getx37e (n : Nat) (a0 : Int) (a1 : Int) (a2 : Nat) (a3 : (List Int)) {r : Res} (h : M_buf_Buf_Getx37e n a0 a1 a2 a3 = some r) : runF Try.prog cf_buf_Buf_Getx37e n p_buf_Buf_Getx37e 54 (EK.encs e_buf_Buf_Getx37e (((), (a0, (a1, ()))), ((a2, ()), (a3, ()))).1) (HK.encs h_buf_Buf_Getx37e (((), (a0, (a1, ()))), ((a2, ()), (a3, ()))).2) = some r := by
  have hb : LOk Try.prog cf_buf_Buf_Getx37e Try.f54.ntmps 2 n p_buf_Buf_Getx37e (ls_buf_Buf_Getx37e n) (bodyOf Try.f54) := ⟨trivial, ⟨⟨trivial, ⟨⟨trivial, trivial⟩, trivial⟩⟩, ⟨trivial, ⟨trivial, trivial⟩⟩⟩⟩
  exact runFT_some Try.prog (c := bodyOf Try.f54) Try.func54 (show Try.f54.body = some (bodyOf Try.f54) from rfl) (show (3 : Nat) ≤ 30 by decide) hb ((m_buf_Buf_Getx37e n a0 a1 a2 a3).trans h) rfl (by kernel_rfl)
noncomputable def c_buf_Buf_Getx37e : Spec := specQ e_buf_Buf_Getx37e h_buf_Buf_Getx37e ro_buf_Buf_Getx37e rh_buf_Buf_Getx37e fun a b => Q_buf_Buf_Getx37e a.2.1 a.2.2.1 b.1.1 b.2.1
theorem k_buf_Buf_Getx37e (hm : Try.prog.follows .mixedOrders = true) : SpecOk Try.prog 54 c_buf_Buf_Getx37e := specQ_ok (pol := p_buf_Buf_Getx37e) hm (cf := cf_buf_Buf_Getx37e) (tab_ok (specs_cons (k_buf_Buf_windowx37e hm) (specs_cons (k_field_Get hm) specs_nil))) fun a b r h => ⟨FUEL, g_buf_Buf_Getx37e FUEL a.2.1 a.2.2.1 b.1.1 b.2.1 (decRes_some h)⟩
def s_pack_Packet_Getxe04_r : Sig := ⟨[4, 5], [.ptr 5 0 0, .ty (.int .i64)], [.one false [.ptr 1 0 0, .nul 4, .ptr 3 0 0, .ty (.int .i64)], .one false [.hs 2 0], .row (.int .u8), .one false [.hs 4 0], .row (.int .u8), .cell WordT]⟩
def p_pack_Packet_Getxe04 : Pol := ⟨fun i => none, fun i => none, some [(4, (.own WordT)), (5, .keep)], [.keep, .keep], []⟩
def e_pack_Packet_Getxe04 : List EK := [.ptr 0 0 0, .agg FieldT]
def h_pack_Packet_Getxe04 : List HK := [.one false [.ptr 1 0 0, .nul 4, .ptr 3 0 0, .ty (.int .i64)], .one false [.hs 2 0], .row (.int .u8), .one false [.hs 4 0], .row (.int .u8)]
noncomputable def cf_pack_Packet_Getxe04 : CallF := mkCF [(53, c_pack_Packet_placexe04), (55, c_pack_bit), (54, (orSpec c_buf_Buf_Getx845 c_buf_Buf_Getx37e))] [(55, [(.int .i64), (.int .i64)])]
noncomputable def ls_pack_Packet_Getxe04 (n : Nat) : Loops := fun i =>  none
theorem m_pack_Packet_Getxe04 (n : Nat) (a0 : FieldS) (a1 : Int) (a2 : Nat) (a3 : (List Int)) (a4 : Nat) (a5 : (List Int)) : runFT Try.prog cf_pack_Packet_Getxe04 p_pack_Packet_Getxe04 (ls_pack_Packet_Getxe04 n) Try.f31 (bodyOf Try.f31) (EK.encs e_pack_Packet_Getxe04 (((), (a0, ())), (((), ((), ((), (a1, ())))), ((a2, ()), (a3, ((a4, ()), (a5, ())))))).1) (HK.encs h_pack_Packet_Getxe04 (((), (a0, ())), (((), ((), ((), (a1, ())))), ((a2, ()), (a3, ((a4, ()), (a5, ())))))).2) = M_pack_Packet_Getxe04 n a0 a1 a2 a3 a4 a5 := by kernel_rfl
theorem g_pack_Packet_Getxe04 (n : Nat) (a0 : FieldS) (a1 : Int) (a2 : Nat) (a3 : (List Int)) (a4 : Nat) (a5 : (List Int)) {r : Res} (h : M_pack_Packet_Getxe04 n a0 a1 a2 a3 a4 a5 = some r) : runF Try.prog cf_pack_Packet_Getxe04 n p_pack_Packet_Getxe04 31 (EK.encs e_pack_Packet_Getxe04 (((), (a0, ())), (((), ((), ((), (a1, ())))), ((a2, ()), (a3, ((a4, ()), (a5, ())))))).1) (HK.encs h_pack_Packet_Getxe04 (((), (a0, ())), (((), ((), ((), (a1, ())))), ((a2, ()), (a3, ((a4, ()), (a5, ())))))).2) = some r := by
  have hb : LOk Try.prog cf_pack_Packet_Getxe04 Try.f31.ntmps 5 n p_pack_Packet_Getxe04 (ls_pack_Packet_Getxe04 n) (bodyOf Try.f31) := ⟨trivial, ⟨trivial, ⟨⟨trivial, ⟨⟨trivial, trivial⟩, trivial⟩⟩, ⟨trivial, ⟨⟨trivial, ⟨⟨trivial, trivial⟩, trivial⟩⟩, ⟨trivial, trivial⟩⟩⟩⟩⟩⟩
  exact runFT_some Try.prog (c := bodyOf Try.f31) Try.func31 (show Try.f31.body = some (bodyOf Try.f31) from rfl) (show (2 : Nat) ≤ 37 by decide) hb ((m_pack_Packet_Getxe04 n a0 a1 a2 a3 a4 a5).trans h) rfl (by kernel_rfl)
noncomputable def c_pack_Packet_Getxe04 : Spec := specQ e_pack_Packet_Getxe04 h_pack_Packet_Getxe04 ro_pack_Packet_Getxe04 rh_pack_Packet_Getxe04 fun a b => Q_pack_Packet_Getxe04 a.2.1 b.1.2.2.2.1 b.2.1.1 b.2.2.1 b.2.2.2.1.1 b.2.2.2.2.1
theorem k_pack_Packet_Getxe04 (hm : Try.prog.follows .mixedOrders = true) : SpecOk Try.prog 31 c_pack_Packet_Getxe04 := specQ_ok (pol := p_pack_Packet_Getxe04) hm (cf := cf_pack_Packet_Getxe04) (tab_ok (specs_cons (k_pack_Packet_placexe04 hm) (specs_cons (k_pack_bit hm) (specs_cons (orSpec_ok (k_buf_Buf_Getx845 hm) (k_buf_Buf_Getx37e hm)) specs_nil)))) fun a b r h => ⟨FUEL, g_pack_Packet_Getxe04 FUEL a.2.1 b.1.2.2.2.1 b.2.1.1 b.2.2.1 b.2.2.2.1.1 b.2.2.2.2.1 (decRes_some h)⟩
def s_field_Bytes_r : Sig := ⟨[2], [.ty (.int .i64)], []⟩
def p_field_Bytes : Pol := ⟨fun i => none, fun i => none, some [(2, .keep)], [.keep], []⟩
def e_field_Bytes : List EK := [.ty (.int .i64)]
def h_field_Bytes : List HK := []
noncomputable def cf_field_Bytes : CallF := mkCF [] []
noncomputable def ls_field_Bytes (n : Nat) : Loops := fun i =>  none
theorem m_field_Bytes (n : Nat) (a0 : Int) : runFT Try.prog cf_field_Bytes p_field_Bytes (ls_field_Bytes n) Try.f43 (bodyOf Try.f43) (EK.encs e_field_Bytes ((a0, ()), ()).1) (HK.encs h_field_Bytes ((a0, ()), ()).2) = M_field_Bytes n a0 := by kernel_rfl
theorem g_field_Bytes (n : Nat) (a0 : Int) {r : Res} (h : M_field_Bytes n a0 = some r) : runF Try.prog cf_field_Bytes n p_field_Bytes 43 (EK.encs e_field_Bytes ((a0, ()), ()).1) (HK.encs h_field_Bytes ((a0, ()), ()).2) = some r := by
  have hb : LOk Try.prog cf_field_Bytes Try.f43.ntmps 0 n p_field_Bytes (ls_field_Bytes n) (bodyOf Try.f43) := ⟨trivial, ⟨⟨trivial, ⟨⟨trivial, trivial⟩, trivial⟩⟩, ⟨trivial, trivial⟩⟩⟩
  exact runFT_some Try.prog (c := bodyOf Try.f43) Try.func43 (show Try.f43.body = some (bodyOf Try.f43) from rfl) (show (1 : Nat) ≤ 13 by decide) hb ((m_field_Bytes n a0).trans h) rfl (by kernel_rfl)
noncomputable def c_field_Bytes : Spec := specQ e_field_Bytes h_field_Bytes ro_field_Bytes rh_field_Bytes fun a b => Q_field_Bytes a.1
theorem k_field_Bytes (hm : Try.prog.follows .mixedOrders = true) : SpecOk Try.prog 43 c_field_Bytes := specQ_ok (pol := p_field_Bytes) hm (cf := cf_field_Bytes) (tab_ok specs_nil) fun a b r h => ⟨FUEL, g_field_Bytes FUEL a.1 (decRes_some h)⟩
def s_word_Text_h0 : Sig := ⟨[1, 3, 5], [.ptr 0 0 0, .ptr 1 0 0, .ty (.int .i64)], [.cell WordT, .row (.int .u8)]⟩
def s_word_Text_t0 : Sig := ⟨[3], [.ptr 0 0 0], [.row (.int .u8)]⟩
def s_word_Text_r : Sig := ⟨[2], [.ty .str], []⟩
def p_word_Text : Pol := ⟨fun i => if i = 0 then some [(1, (.own WordT)), (3, (.own (.int .u8))), (5, .keep)] else none, fun i => if i = 0 then some [(3, (.own (.int .u8)))] else none, some [(2, .keep)], [.keep], []⟩
def e_word_Text : List EK := [.agg WordT]
def h_word_Text : List HK := []
noncomputable def cf_word_Text : CallF := { (mkCF [(72, c_word_Right)] [(72, [WordT, (.int .i64)])]) with arr := [138] }
noncomputable def ls_word_Text (n : Nat) : Loops := fun i => if i = 0 then some (loopT 0 (p_word_Text.head 0) s_word_Text_h0 fun K v => L_word_Text_0 n (fun z0 => K (.ex 0) (s_word_Text_t0.enc (((), ()), (z0, ())))) v.2.1 n v.1.2.2.1 v.2.2.1)
  else  none
noncomputable def b_word_Text_0 : Code := partOf (bodyOf Try.f56) [1, 1, 0, 1, 0, 0]
theorem t_word_Text_0 (n : Nat) (K : Cont) (rec : Sig.sem s_word_Text_h0 → Option Res) (v : Sig.sem s_word_Text_h0) : runT Try.prog cf_word_Text Try.f56.ntmps 0 p_word_Text (ls_word_Text n) b_word_Text_0 (s_word_Text_h0.enc v) (turnK 0 (p_word_Text.head 0) s_word_Text_h0 rec K) = F_word_Text_0 n (fun z0 => K (.ex 0) (s_word_Text_t0.enc (((), ()), (z0, ())))) v.2.1 (fun z0 z2 => rec (((), ((), (z0, ()))), (v.2.1, (z2, ())))) v.1.2.2.1 v.2.2.1 := by kernel_rfl
noncomputable def V_word_Text_0 (n : Nat) (K : Cont) (rec : Sig.sem s_word_Text_h0 → Option Res) (v : Sig.sem s_word_Text_h0) : Option Res := F_word_Text_0 n (fun z0 => K (.ex 0) (s_word_Text_t0.enc (((), ()), (z0, ())))) v.2.1 (fun z0 z2 => rec (((), ((), (z0, ()))), (v.2.1, (z2, ())))) v.1.2.2.1 v.2.2.1
noncomputable def W_word_Text_0 (n : Nat) (K : Cont) (m : Nat) (v : Sig.sem s_word_Text_h0) : Option Res := L_word_Text_0 n (fun z0 => K (.ex 0) (s_word_Text_t0.enc (((), ()), (z0, ())))) v.2.1 m v.1.2.2.1 v.2.2.1
theorem i_word_Text_0 (n : Nat) (K : Cont) : ∀ m v, iter (V_word_Text_0 n K) m v = W_word_Text_0 n K m v := by
  intro m
  induction m with
  | zero => intro v; rfl
  | succ m ih =>
    intro v
    show V_word_Text_0 n K (iter (V_word_Text_0 n K) m) v = V_word_Text_0 n K (W_word_Text_0 n K m) v
    rw [show iter (V_word_Text_0 n K) m = W_word_Text_0 n K m from funext ih]
theorem o_word_Text_0 (n : Nat) : ∀ L, ls_word_Text n 0 = some L → ∀ s K r, L s K = some r → ∃ x s', loopN (run Try.prog cf_word_Text Try.f56.ntmps 0 n p_word_Text none b_word_Text_0) (gc 0 (p_word_Text.head 0)) n s = some (x, s') ∧ K x s' = some r := by
  intro L hL s K r h
  have hL : some (loopT 0 (p_word_Text.head 0) s_word_Text_h0 fun K v => W_word_Text_0 n K n v) = some L := hL
  cases hL
  have hb : LOk Try.prog cf_word_Text Try.f56.ntmps 0 n p_word_Text (ls_word_Text n) b_word_Text_0 := ⟨trivial, ⟨⟨trivial, trivial⟩, ⟨⟨trivial, trivial⟩, trivial⟩⟩⟩
  refine loopT_ok hb (V_word_Text_0 n) (t_word_Text_0 n) n s K r ?_
  rw [← h]
  unfold loopT
  simp only [i_word_Text_0]
theorem m_word_Text (n : Nat) (a0 : WordS) : runFT Try.prog cf_word_Text p_word_Text (ls_word_Text n) Try.f56 (bodyOf Try.f56) (EK.encs e_word_Text ((a0, ()), ()).1) (HK.encs h_word_Text ((a0, ()), ()).2) = M_word_Text n a0 := by kernel_rfl
theorem g_word_Text (n : Nat) (a0 : WordS) {r : Res} (h : M_word_Text n a0 = some r) : runF Try.prog cf_word_Text n p_word_Text 56 (EK.encs e_word_Text ((a0, ()), ()).1) (HK.encs h_word_Text ((a0, ()), ()).2) = some r := by
  have hb : LOk Try.prog cf_word_Text Try.f56.ntmps 0 n p_word_Text (ls_word_Text n) (bodyOf Try.f56) := ⟨trivial, ⟨trivial, ⟨⟨trivial, (o_word_Text_0 n)⟩, ⟨trivial, trivial⟩⟩⟩⟩
  exact runFT_some Try.prog (c := bodyOf Try.f56) Try.func56 (show Try.f56.body = some (bodyOf Try.f56) from rfl) (show (1 : Nat) ≤ 21 by decide) hb ((m_word_Text n a0).trans h) rfl (by kernel_rfl)
noncomputable def c_word_Text : Spec := specQ e_word_Text h_word_Text ro_word_Text rh_word_Text fun a b => Q_word_Text a.1
theorem k_word_Text (hm : Try.prog.follows .mixedOrders = true) : SpecOk Try.prog 56 c_word_Text := specQ_ok (pol := p_word_Text) hm (cf := cf_word_Text) (CallSound.arr <| tab_ok (specs_cons (k_word_Right hm) specs_nil)) fun a b r h => ⟨FUEL, g_word_Text FUEL a.1 (decRes_some h)⟩
def s_field_Text_r : Sig := ⟨[4, 5], [.ty .str, .ty (.int .i64)], []⟩
def p_field_Text : Pol := ⟨fun i => none, fun i => none, some [(4, .keep), (5, .keep)], [.keep, .keep], []⟩
def e_field_Text : List EK := [.agg WordT, .ty (.int .i64)]
def h_field_Text : List HK := []
noncomputable def cf_field_Text : CallF := mkCF [(43, c_field_Bytes), (57, c_word_Cut), (56, c_word_Text)] [(43, [(.int .i64)]), (57, [WordT, (.int .i64)]), (56, [WordT])]
noncomputable def ls_field_Text (n : Nat) : Loops := fun i =>  none
theorem m_field_Text (n : Nat) (a0 : WordS) (a1 : Int) : runFT Try.prog cf_field_Text p_field_Text (ls_field_Text n) Try.f32 (bodyOf Try.f32) (EK.encs e_field_Text ((a0, (a1, ())), ()).1) (HK.encs h_field_Text ((a0, (a1, ())), ()).2) = M_field_Text n a0 a1 := by kernel_rfl
theorem g_field_Text (n : Nat) (a0 : WordS) (a1 : Int) {r : Res} (h : M_field_Text n a0 a1 = some r) : runF Try.prog cf_field_Text n p_field_Text 32 (EK.encs e_field_Text ((a0, (a1, ())), ()).1) (HK.encs h_field_Text ((a0, (a1, ())), ()).2) = some r := by
  have hb : LOk Try.prog cf_field_Text Try.f32.ntmps 0 n p_field_Text (ls_field_Text n) (bodyOf Try.f32) := ⟨trivial, ⟨trivial, ⟨⟨trivial, ⟨⟨trivial, trivial⟩, trivial⟩⟩, ⟨trivial, ⟨trivial, trivial⟩⟩⟩⟩⟩
  exact runFT_some Try.prog (c := bodyOf Try.f32) Try.func32 (show Try.f32.body = some (bodyOf Try.f32) from rfl) (show (2 : Nat) ≤ 22 by decide) hb ((m_field_Text n a0 a1).trans h) rfl (by kernel_rfl)
noncomputable def c_field_Text : Spec := specQ e_field_Text h_field_Text ro_field_Text rh_field_Text fun a b => Q_field_Text a.1 a.2.1
theorem k_field_Text (hm : Try.prog.follows .mixedOrders = true) : SpecOk Try.prog 32 c_field_Text := specQ_ok (pol := p_field_Text) hm (cf := cf_field_Text) (tab_ok (specs_cons (k_field_Bytes hm) (specs_cons (k_word_Cut hm) (specs_cons (k_word_Text hm) specs_nil)))) fun a b r h => ⟨FUEL, g_field_Text FUEL a.1 a.2.1 (decRes_some h)⟩
def s_key_textxac0_r : Sig := ⟨[4, 5], [.ty .str, .ty (.int .i64)], [.one false [.ptr 1 0 0, .nul 4, .ptr 3 0 0, .ty (.int .i64)], .one false [.hs 2 0], .row (.int .u8), .one false [.hs 4 0], .row (.int .u8)]⟩
def p_key_textxac0 : Pol := ⟨fun i => none, fun i => none, some [(4, .keep), (5, .keep)], [.keep, .keep], []⟩
def e_key_textxac0 : List EK := [.mv 31 [(0, 0, 0)], .agg FieldT]
def h_key_textxac0 : List HK := [.one false [.ptr 1 0 0, .nul 4, .ptr 3 0 0, .ty (.int .i64)], .one false [.hs 2 0], .row (.int .u8), .one false [.hs 4 0], .row (.int .u8)]
noncomputable def cf_key_textxac0 : CallF := mkCF [(31, c_pack_Packet_Getxe04), (32, c_field_Text)] [(32, [WordT, (.int .i64)])]
noncomputable def ls_key_textxac0 (n : Nat) : Loops := fun i =>  none
theorem m_key_textxac0 (n : Nat) (a0 : FieldS) (a1 : Int) (a2 : Nat) (a3 : (List Int)) (a4 : Nat) (a5 : (List Int)) : runFT Try.prog cf_key_textxac0 p_key_textxac0 (ls_key_textxac0 n) Try.f40 (bodyOf Try.f40) (EK.encs e_key_textxac0 (((), (a0, ())), (((), ((), ((), (a1, ())))), ((a2, ()), (a3, ((a4, ()), (a5, ())))))).1) (HK.encs h_key_textxac0 (((), (a0, ())), (((), ((), ((), (a1, ())))), ((a2, ()), (a3, ((a4, ()), (a5, ())))))).2) = M_key_textxac0 n a0 a1 a2 a3 a4 a5 := by kernel_rfl
theorem g_key_textxac0 (n : Nat) (a0 : FieldS) (a1 : Int) (a2 : Nat) (a3 : (List Int)) (a4 : Nat) (a5 : (List Int)) {r : Res} (h : M_key_textxac0 n a0 a1 a2 a3 a4 a5 = some r) : runF Try.prog cf_key_textxac0 n p_key_textxac0 40 (EK.encs e_key_textxac0 (((), (a0, ())), (((), ((), ((), (a1, ())))), ((a2, ()), (a3, ((a4, ()), (a5, ())))))).1) (HK.encs h_key_textxac0 (((), (a0, ())), (((), ((), ((), (a1, ())))), ((a2, ()), (a3, ((a4, ()), (a5, ())))))).2) = some r := by
  have hb : LOk Try.prog cf_key_textxac0 Try.f40.ntmps 5 n p_key_textxac0 (ls_key_textxac0 n) (bodyOf Try.f40) := ⟨trivial, ⟨trivial, ⟨⟨trivial, ⟨⟨trivial, trivial⟩, trivial⟩⟩, ⟨trivial, ⟨trivial, trivial⟩⟩⟩⟩⟩
  exact runFT_some Try.prog (c := bodyOf Try.f40) Try.func40 (show Try.f40.body = some (bodyOf Try.f40) from rfl) (show (2 : Nat) ≤ 27 by decide) hb ((m_key_textxac0 n a0 a1 a2 a3 a4 a5).trans h) rfl (by kernel_rfl)
noncomputable def c_key_textxac0 : Spec := specQ e_key_textxac0 h_key_textxac0 ro_key_textxac0 rh_key_textxac0 fun a b => Q_key_textxac0 a.2.1 b.1.2.2.2.1 b.2.1.1 b.2.2.1 b.2.2.2.1.1 b.2.2.2.2.1
theorem k_key_textxac0 (hm : Try.prog.follows .mixedOrders = true) : SpecOk Try.prog 40 c_key_textxac0 := specQ_ok (pol := p_key_textxac0) hm (cf := cf_key_textxac0) (tab_ok (specs_cons (k_pack_Packet_Getxe04 hm) (specs_cons (k_field_Text hm) specs_nil))) fun a b r h => ⟨FUEL, g_key_textxac0 FUEL a.2.1 b.1.2.2.2.1 b.2.1.1 b.2.2.1 b.2.2.2.1.1 b.2.2.2.2.1 (decRes_some h)⟩
def e_key_Ofxf63 : List EK := [.ptr 0 0 0, .ty (.slice FieldT)]
def h_key_Ofxf63 : List HK := [.one false [.ptr 1 0 0, .nul 4, .ptr 3 0 0, .ty (.int .i64)], .one false [.hs 2 0], .row (.int .u8), .one false [.hs 4 0], .row (.int .u8)]
noncomputable def c_key_Ofxf63 : Spec := specQ e_key_Ofxf63 h_key_Ofxf63 ro_key_Ofxf63 rh_key_Ofxf63 fun a b => Q_key_Ofxf63 a.2.1 b.1.2.2.2.1 b.2.1.1 b.2.2.1 b.2.2.2.1.1 b.2.2.2.2.1
theorem k_key_Ofxf63 (hm : Try.prog.follows .mixedOrders = true) : SpecOk Try.prog 20 c_key_Ofxf63 := H18.of_ok (e0 := (.ptr 0 0 0)) (cap := (0, 0, 0)) (fun s => rfl) (hs := h_key_Ofxf63) (fun b => rfl) (by rfl) (by rfl) (fun f b => Q_key_textxac0 f b.1.2.2.2.1 b.2.1.1 b.2.2.1 b.2.2.2.1.1 b.2.2.2.2.1) (k_key_textxac0 hm)
def s_key_Widths_h0 : Sig := ⟨[3, 6, 7, 8], [.hs 0 0, .ty (.slice FieldT), .ty (.int .i64), .ty (.int .i64)], [.row (.int .i64)]⟩
def s_key_Widths_t0 : Sig := ⟨[3], [.hs 0 0], [.row (.int .i64)]⟩
def s_key_Widths_r : Sig := ⟨[2], [.hs 0 0], [.row (.int .i64)]⟩
def p_key_Widths : Pol := ⟨fun i => if i = 0 then some [(3, (.own (.int .i64))), (6, .keep), (7, .keep), (8, .keep)] else none, fun i => if i = 0 then some [(3, (.own (.int .i64)))] else none, some [(2, (.own (.int .i64)))], [(.own (.int .i64))], []⟩
def e_key_Widths : List EK := [.ty (.slice FieldT)]
def h_key_Widths : List HK := []
noncomputable def cf_key_Widths : CallF := mkCF [(43, c_field_Bytes)] [(43, [(.int .i64)])]
noncomputable def ls_key_Widths (n : Nat) : Loops := fun i => if i = 0 then some (loopT 0 (p_key_Widths.head 0) s_key_Widths_h0 fun K v => L_key_Widths_0 n (fun z0 z1 => K (.ex 0) (s_key_Widths_t0.enc ((z0, ()), (z1, ())))) v.1.2.1 v.1.2.2.1 n v.1.1 v.1.2.2.2.1 v.2.1)
  else  none
noncomputable def b_key_Widths_0 : Code := partOf (bodyOf Try.f23) [1, 1, 0, 1, 0, 0]
theorem t_key_Widths_0 (n : Nat) (K : Cont) (rec : Sig.sem s_key_Widths_h0 → Option Res) (v : Sig.sem s_key_Widths_h0) : runT Try.prog cf_key_Widths Try.f23.ntmps 0 p_key_Widths (ls_key_Widths n) b_key_Widths_0 (s_key_Widths_h0.enc v) (turnK 0 (p_key_Widths.head 0) s_key_Widths_h0 rec K) = F_key_Widths_0 n (fun z0 z1 => K (.ex 0) (s_key_Widths_t0.enc ((z0, ()), (z1, ())))) v.1.2.1 v.1.2.2.1 (fun z0 z3 z4 => rec ((z0, (v.1.2.1, (v.1.2.2.1, (z3, ())))), (z4, ()))) v.1.1 v.1.2.2.2.1 v.2.1 := by kernel_rfl
noncomputable def V_key_Widths_0 (n : Nat) (K : Cont) (rec : Sig.sem s_key_Widths_h0 → Option Res) (v : Sig.sem s_key_Widths_h0) : Option Res := F_key_Widths_0 n (fun z0 z1 => K (.ex 0) (s_key_Widths_t0.enc ((z0, ()), (z1, ())))) v.1.2.1 v.1.2.2.1 (fun z0 z3 z4 => rec ((z0, (v.1.2.1, (v.1.2.2.1, (z3, ())))), (z4, ()))) v.1.1 v.1.2.2.2.1 v.2.1
noncomputable def W_key_Widths_0 (n : Nat) (K : Cont) (m : Nat) (v : Sig.sem s_key_Widths_h0) : Option Res := L_key_Widths_0 n (fun z0 z1 => K (.ex 0) (s_key_Widths_t0.enc ((z0, ()), (z1, ())))) v.1.2.1 v.1.2.2.1 m v.1.1 v.1.2.2.2.1 v.2.1
theorem i_key_Widths_0 (n : Nat) (K : Cont) : ∀ m v, iter (V_key_Widths_0 n K) m v = W_key_Widths_0 n K m v := by
  intro m
  induction m with
  | zero => intro v; rfl
  | succ m ih =>
    intro v
    show V_key_Widths_0 n K (iter (V_key_Widths_0 n K) m) v = V_key_Widths_0 n K (W_key_Widths_0 n K m) v
    rw [show iter (V_key_Widths_0 n K) m = W_key_Widths_0 n K m from funext ih]
theorem o_key_Widths_0 (n : Nat) : ∀ L, ls_key_Widths n 0 = some L → ∀ s K r, L s K = some r → ∃ x s', loopN (run Try.prog cf_key_Widths Try.f23.ntmps 0 n p_key_Widths none b_key_Widths_0) (gc 0 (p_key_Widths.head 0)) n s = some (x, s') ∧ K x s' = some r := by
  intro L hL s K r h
  have hL : some (loopT 0 (p_key_Widths.head 0) s_key_Widths_h0 fun K v => W_key_Widths_0 n K n v) = some L := hL
  cases hL
  have hb : LOk Try.prog cf_key_Widths Try.f23.ntmps 0 n p_key_Widths (ls_key_Widths n) b_key_Widths_0 := ⟨trivial, ⟨⟨trivial, trivial⟩, ⟨⟨trivial, trivial⟩, trivial⟩⟩⟩
  refine loopT_ok hb (V_key_Widths_0 n) (t_key_Widths_0 n) n s K r ?_
  rw [← h]
  unfold loopT
  simp only [i_key_Widths_0]
theorem m_key_Widths (n : Nat) (a0 : (List FieldS)) : runFT Try.prog cf_key_Widths p_key_Widths (ls_key_Widths n) Try.f23 (bodyOf Try.f23) (EK.encs e_key_Widths ((a0, ()), ()).1) (HK.encs h_key_Widths ((a0, ()), ()).2) = M_key_Widths n a0 := by kernel_rfl
theorem g_key_Widths (n : Nat) (a0 : (List FieldS)) {r : Res} (h : M_key_Widths n a0 = some r) : runF Try.prog cf_key_Widths n p_key_Widths 23 (EK.encs e_key_Widths ((a0, ()), ()).1) (HK.encs h_key_Widths ((a0, ()), ()).2) = some r := by
  have hb : LOk Try.prog cf_key_Widths Try.f23.ntmps 0 n p_key_Widths (ls_key_Widths n) (bodyOf Try.f23) := ⟨trivial, ⟨trivial, ⟨⟨trivial, (o_key_Widths_0 n)⟩, ⟨trivial, trivial⟩⟩⟩⟩
  exact runFT_some Try.prog (c := bodyOf Try.f23) Try.func23 (show Try.f23.body = some (bodyOf Try.f23) from rfl) (show (1 : Nat) ≤ 20 by decide) hb ((m_key_Widths n a0).trans h) rfl (by kernel_rfl)
noncomputable def c_key_Widths : Spec := specQ e_key_Widths h_key_Widths ro_key_Widths rh_key_Widths fun a b => Q_key_Widths a.1
theorem k_key_Widths (hm : Try.prog.follows .mixedOrders = true) : SpecOk Try.prog 23 c_key_Widths := specQ_ok (pol := p_key_Widths) hm (cf := cf_key_Widths) (tab_ok (specs_cons (k_field_Bytes hm) specs_nil)) fun a b r h => ⟨FUEL, g_key_Widths FUEL a.1 (decRes_some h)⟩
def s_key_Segments_h0 : Sig := ⟨[0, 1, 6, 12, 13, 14], [.ty .str, .ty (.slice (.int .i64)), .ty (.int .i64), .ty (.slice (.int .i64)), .ty (.int .i64), .ty (.int .i64)], []⟩
def s_key_Segments_r : Sig := ⟨[4, 5], [.hs 0 0, .ty (.int .i64)], [.row .str]⟩
def s_key_Segments_t0 : Sig := ⟨[0, 1, 6], [.ty .str, .ty (.slice (.int .i64)), .ty (.int .i64)], []⟩
def s_key_Segments_h3 : Sig := ⟨[0, 9, 38, 39, 40], [.ty .str, .hs 0 0, .ty (.slice (.int .i64)), .ty (.int .i64), .ty (.int .i64)], [.row .str]⟩
def s_key_Segments_t3 : Sig := ⟨[9], [.hs 0 0], [.row .str]⟩
def p_key_Segments : Pol := ⟨fun i => if i = 0 then some [(0, .keep), (1, .keep), (6, .keep), (12, .keep), (13, .keep), (14, .keep)] else if i = 3 then some [(0, .keep), (9, (.own .str)), (38, .keep), (39, .keep), (40, .keep)] else none, fun i => if i = 0 then some [(0, .keep), (1, .keep), (6, .keep)] else if i = 3 then some [(9, (.own .str))] else none, some [(4, (.own .str)), (5, .keep)], [(.own .str), .keep], []⟩
def e_key_Segments : List EK := [.ty .str, .ty (.slice (.int .i64))]
def h_key_Segments : List HK := []
noncomputable def cf_key_Segments : CallF := mkCF [] []
noncomputable def ls_key_Segments (n : Nat) : Loops := fun i => if i = 0 then some (loopT 0 (p_key_Segments.head 0) s_key_Segments_h0 fun K v => L_key_Segments_0 n (fun z0 z1 z2 => K .rt (s_key_Segments_r.enc ((z0, (z1, ())), (z2, ())))) (fun z2 => K (.ex 0) (s_key_Segments_t0.enc ((v.1.1, (v.1.2.1, (z2, ()))), ()))) v.1.2.2.2.1 v.1.2.2.2.2.1 n v.1.2.2.1 v.1.2.2.2.2.2.1)
  else if i = 3 then some (loopT 0 (p_key_Segments.head 3) s_key_Segments_h3 fun K v => L_key_Segments_3 n (fun z0 z1 => K (.ex 3) (s_key_Segments_t3.enc ((z0, ()), (z1, ())))) v.1.2.2.1 v.1.2.2.2.1 n v.1.1 v.1.2.1 v.1.2.2.2.2.1 v.2.1)
  else  none
noncomputable def b_key_Segments_0 : Code := partOf (bodyOf Try.f12) [1, 1, 0, 1, 0, 0]
theorem t_key_Segments_0 (n : Nat) (K : Cont) (rec : Sig.sem s_key_Segments_h0 → Option Res) (v : Sig.sem s_key_Segments_h0) : runT Try.prog cf_key_Segments Try.f12.ntmps 0 p_key_Segments (ls_key_Segments n) b_key_Segments_0 (s_key_Segments_h0.enc v) (turnK 0 (p_key_Segments.head 0) s_key_Segments_h0 rec K) = F_key_Segments_0 n (fun z0 z1 z2 => K .rt (s_key_Segments_r.enc ((z0, (z1, ())), (z2, ())))) (fun z2 => K (.ex 0) (s_key_Segments_t0.enc ((v.1.1, (v.1.2.1, (z2, ()))), ()))) v.1.2.2.2.1 v.1.2.2.2.2.1 (fun z2 z5 => rec ((v.1.1, (v.1.2.1, (z2, (v.1.2.2.2.1, (v.1.2.2.2.2.1, (z5, ())))))), ())) v.1.2.2.1 v.1.2.2.2.2.2.1 := by kernel_rfl
noncomputable def V_key_Segments_0 (n : Nat) (K : Cont) (rec : Sig.sem s_key_Segments_h0 → Option Res) (v : Sig.sem s_key_Segments_h0) : Option Res := F_key_Segments_0 n (fun z0 z1 z2 => K .rt (s_key_Segments_r.enc ((z0, (z1, ())), (z2, ())))) (fun z2 => K (.ex 0) (s_key_Segments_t0.enc ((v.1.1, (v.1.2.1, (z2, ()))), ()))) v.1.2.2.2.1 v.1.2.2.2.2.1 (fun z2 z5 => rec ((v.1.1, (v.1.2.1, (z2, (v.1.2.2.2.1, (v.1.2.2.2.2.1, (z5, ())))))), ())) v.1.2.2.1 v.1.2.2.2.2.2.1
noncomputable def W_key_Segments_0 (n : Nat) (K : Cont) (m : Nat) (v : Sig.sem s_key_Segments_h0) : Option Res := L_key_Segments_0 n (fun z0 z1 z2 => K .rt (s_key_Segments_r.enc ((z0, (z1, ())), (z2, ())))) (fun z2 => K (.ex 0) (s_key_Segments_t0.enc ((v.1.1, (v.1.2.1, (z2, ()))), ()))) v.1.2.2.2.1 v.1.2.2.2.2.1 m v.1.2.2.1 v.1.2.2.2.2.2.1
theorem i_key_Segments_0 (n : Nat) (K : Cont) : ∀ m v, iter (V_key_Segments_0 n K) m v = W_key_Segments_0 n K m v := by
  intro m
  induction m with
  | zero => intro v; rfl
  | succ m ih =>
    intro v
    show V_key_Segments_0 n K (iter (V_key_Segments_0 n K) m) v = V_key_Segments_0 n K (W_key_Segments_0 n K m) v
    rw [show iter (V_key_Segments_0 n K) m = W_key_Segments_0 n K m from funext ih]
theorem o_key_Segments_0 (n : Nat) : ∀ L, ls_key_Segments n 0 = some L → ∀ s K r, L s K = some r → ∃ x s', loopN (run Try.prog cf_key_Segments Try.f12.ntmps 0 n p_key_Segments none b_key_Segments_0) (gc 0 (p_key_Segments.head 0)) n s = some (x, s') ∧ K x s' = some r := by
  intro L hL s K r h
  have hL : some (loopT 0 (p_key_Segments.head 0) s_key_Segments_h0 fun K v => W_key_Segments_0 n K n v) = some L := hL
  cases hL
  have hb : LOk Try.prog cf_key_Segments Try.f12.ntmps 0 n p_key_Segments (ls_key_Segments n) b_key_Segments_0 := ⟨trivial, ⟨⟨trivial, trivial⟩, ⟨⟨trivial, ⟨⟨trivial, ⟨⟨trivial, trivial⟩, trivial⟩⟩, trivial⟩⟩, trivial⟩⟩⟩
  refine loopT_ok hb (V_key_Segments_0 n) (t_key_Segments_0 n) n s K r ?_
  rw [← h]
  unfold loopT
  simp only [i_key_Segments_0]
noncomputable def b_key_Segments_3 : Code := partOf (bodyOf Try.f12) [1, 1, 1, 1, 1, 0, 1, 0, 0]
theorem t_key_Segments_3 (n : Nat) (K : Cont) (rec : Sig.sem s_key_Segments_h3 → Option Res) (v : Sig.sem s_key_Segments_h3) : runT Try.prog cf_key_Segments Try.f12.ntmps 0 p_key_Segments (ls_key_Segments n) b_key_Segments_3 (s_key_Segments_h3.enc v) (turnK 0 (p_key_Segments.head 3) s_key_Segments_h3 rec K) = F_key_Segments_3 n (fun z0 z1 => K (.ex 3) (s_key_Segments_t3.enc ((z0, ()), (z1, ())))) v.1.2.2.1 v.1.2.2.2.1 (fun z0 z1 z4 z5 => rec ((z0, (z1, (v.1.2.2.1, (v.1.2.2.2.1, (z4, ()))))), (z5, ()))) v.1.1 v.1.2.1 v.1.2.2.2.2.1 v.2.1 := by kernel_rfl
noncomputable def V_key_Segments_3 (n : Nat) (K : Cont) (rec : Sig.sem s_key_Segments_h3 → Option Res) (v : Sig.sem s_key_Segments_h3) : Option Res := F_key_Segments_3 n (fun z0 z1 => K (.ex 3) (s_key_Segments_t3.enc ((z0, ()), (z1, ())))) v.1.2.2.1 v.1.2.2.2.1 (fun z0 z1 z4 z5 => rec ((z0, (z1, (v.1.2.2.1, (v.1.2.2.2.1, (z4, ()))))), (z5, ()))) v.1.1 v.1.2.1 v.1.2.2.2.2.1 v.2.1
noncomputable def W_key_Segments_3 (n : Nat) (K : Cont) (m : Nat) (v : Sig.sem s_key_Segments_h3) : Option Res := L_key_Segments_3 n (fun z0 z1 => K (.ex 3) (s_key_Segments_t3.enc ((z0, ()), (z1, ())))) v.1.2.2.1 v.1.2.2.2.1 m v.1.1 v.1.2.1 v.1.2.2.2.2.1 v.2.1
theorem i_key_Segments_3 (n : Nat) (K : Cont) : ∀ m v, iter (V_key_Segments_3 n K) m v = W_key_Segments_3 n K m v := by
  intro m
  induction m with
  | zero => intro v; rfl
  | succ m ih =>
    intro v
    show V_key_Segments_3 n K (iter (V_key_Segments_3 n K) m) v = V_key_Segments_3 n K (W_key_Segments_3 n K m) v
    rw [show iter (V_key_Segments_3 n K) m = W_key_Segments_3 n K m from funext ih]
theorem o_key_Segments_3 (n : Nat) : ∀ L, ls_key_Segments n 3 = some L → ∀ s K r, L s K = some r → ∃ x s', loopN (run Try.prog cf_key_Segments Try.f12.ntmps 0 n p_key_Segments none b_key_Segments_3) (gc 0 (p_key_Segments.head 3)) n s = some (x, s') ∧ K x s' = some r := by
  intro L hL s K r h
  have hL : some (loopT 0 (p_key_Segments.head 3) s_key_Segments_h3 fun K v => W_key_Segments_3 n K n v) = some L := hL
  cases hL
  have hb : LOk Try.prog cf_key_Segments Try.f12.ntmps 0 n p_key_Segments (ls_key_Segments n) b_key_Segments_3 := ⟨trivial, ⟨⟨trivial, trivial⟩, ⟨⟨trivial, ⟨trivial, trivial⟩⟩, trivial⟩⟩⟩
  refine loopT_ok hb (V_key_Segments_3 n) (t_key_Segments_3 n) n s K r ?_
  rw [← h]
  unfold loopT
  simp only [i_key_Segments_3]
theorem m_key_Segments (n : Nat) (a0 : ByteArray) (a1 : (List Int)) : runFT Try.prog cf_key_Segments p_key_Segments (ls_key_Segments n) Try.f12 (bodyOf Try.f12) (EK.encs e_key_Segments ((a0, (a1, ())), ()).1) (HK.encs h_key_Segments ((a0, (a1, ())), ()).2) = M_key_Segments n a0 a1 := by kernel_rfl
theorem g_key_Segments (n : Nat) (a0 : ByteArray) (a1 : (List Int)) {r : Res} (h : M_key_Segments n a0 a1 = some r) : runF Try.prog cf_key_Segments n p_key_Segments 12 (EK.encs e_key_Segments ((a0, (a1, ())), ()).1) (HK.encs h_key_Segments ((a0, (a1, ())), ()).2) = some r := by
  have hb : LOk Try.prog cf_key_Segments Try.f12.ntmps 0 n p_key_Segments (ls_key_Segments n) (bodyOf Try.f12) := ⟨trivial, ⟨trivial, ⟨⟨trivial, (o_key_Segments_0 n)⟩, ⟨⟨trivial, ⟨⟨trivial, trivial⟩, ⟨trivial, ⟨⟨trivial, trivial⟩, trivial⟩⟩⟩⟩, ⟨trivial, ⟨⟨trivial, (o_key_Segments_3 n)⟩, ⟨trivial, trivial⟩⟩⟩⟩⟩⟩⟩
  exact runFT_some Try.prog (c := bodyOf Try.f12) Try.func12 (show Try.f12.body = some (bodyOf Try.f12) from rfl) (show (2 : Nat) ≤ 55 by decide) hb ((m_key_Segments n a0 a1).trans h) rfl (by kernel_rfl)
noncomputable def c_key_Segments : Spec := specQ e_key_Segments h_key_Segments ro_key_Segments rh_key_Segments fun a b => Q_key_Segments a.1 a.2.1
theorem k_key_Segments (hm : Try.prog.follows .mixedOrders = true) : SpecOk Try.prog 12 c_key_Segments := specQ_ok (pol := p_key_Segments) hm (cf := cf_key_Segments) (tab_ok specs_nil) fun a b r h => ⟨FUEL, g_key_Segments FUEL a.1 a.2.1 (decRes_some h)⟩
def s_hash_More_h0 : Sig := ⟨[0, 1, 7, 8], [.ty (.int .u32), .ty .str, .ty (.int .i64), .ty (.int .i64)], []⟩
def s_hash_More_t0 : Sig := ⟨[0], [.ty (.int .u32)], []⟩
def s_hash_More_r : Sig := ⟨[4], [.ty (.int .u32)], []⟩
def p_hash_More : Pol := ⟨fun i => if i = 0 then some [(0, .keep), (1, .keep), (7, .keep), (8, .keep)] else none, fun i => if i = 0 then some [(0, .keep)] else none, some [(4, .keep)], [.keep], []⟩
def e_hash_More : List EK := [.ty (.int .u32), .ty .str]
def h_hash_More : List HK := []
noncomputable def cf_hash_More : CallF := mkCF [] []
noncomputable def ls_hash_More (n : Nat) : Loops := fun i => if i = 0 then some (loopT 0 (p_hash_More.head 0) s_hash_More_h0 fun K v => L_hash_More_0 n (fun z0 => K (.ex 0) (s_hash_More_t0.enc ((z0, ()), ()))) v.1.2.1 v.1.2.2.1 n v.1.1 v.1.2.2.2.1)
  else  none
noncomputable def b_hash_More_0 : Code := partOf (bodyOf Try.f59) [1, 0, 1, 0, 0]
theorem t_hash_More_0 (n : Nat) (K : Cont) (rec : Sig.sem s_hash_More_h0 → Option Res) (v : Sig.sem s_hash_More_h0) : runT Try.prog cf_hash_More Try.f59.ntmps 0 p_hash_More (ls_hash_More n) b_hash_More_0 (s_hash_More_h0.enc v) (turnK 0 (p_hash_More.head 0) s_hash_More_h0 rec K) = F_hash_More_0 n (fun z0 => K (.ex 0) (s_hash_More_t0.enc ((z0, ()), ()))) v.1.2.1 v.1.2.2.1 (fun z0 z3 => rec ((z0, (v.1.2.1, (v.1.2.2.1, (z3, ())))), ())) v.1.1 v.1.2.2.2.1 := by kernel_rfl
noncomputable def V_hash_More_0 (n : Nat) (K : Cont) (rec : Sig.sem s_hash_More_h0 → Option Res) (v : Sig.sem s_hash_More_h0) : Option Res := F_hash_More_0 n (fun z0 => K (.ex 0) (s_hash_More_t0.enc ((z0, ()), ()))) v.1.2.1 v.1.2.2.1 (fun z0 z3 => rec ((z0, (v.1.2.1, (v.1.2.2.1, (z3, ())))), ())) v.1.1 v.1.2.2.2.1
noncomputable def W_hash_More_0 (n : Nat) (K : Cont) (m : Nat) (v : Sig.sem s_hash_More_h0) : Option Res := L_hash_More_0 n (fun z0 => K (.ex 0) (s_hash_More_t0.enc ((z0, ()), ()))) v.1.2.1 v.1.2.2.1 m v.1.1 v.1.2.2.2.1
theorem i_hash_More_0 (n : Nat) (K : Cont) : ∀ m v, iter (V_hash_More_0 n K) m v = W_hash_More_0 n K m v := by
  intro m
  induction m with
  | zero => intro v; rfl
  | succ m ih =>
    intro v
    show V_hash_More_0 n K (iter (V_hash_More_0 n K) m) v = V_hash_More_0 n K (W_hash_More_0 n K m) v
    rw [show iter (V_hash_More_0 n K) m = W_hash_More_0 n K m from funext ih]
theorem o_hash_More_0 (n : Nat) : ∀ L, ls_hash_More n 0 = some L → ∀ s K r, L s K = some r → ∃ x s', loopN (run Try.prog cf_hash_More Try.f59.ntmps 0 n p_hash_More none b_hash_More_0) (gc 0 (p_hash_More.head 0)) n s = some (x, s') ∧ K x s' = some r := by
  intro L hL s K r h
  have hL : some (loopT 0 (p_hash_More.head 0) s_hash_More_h0 fun K v => W_hash_More_0 n K n v) = some L := hL
  cases hL
  have hb : LOk Try.prog cf_hash_More Try.f59.ntmps 0 n p_hash_More (ls_hash_More n) b_hash_More_0 := ⟨trivial, ⟨⟨trivial, trivial⟩, ⟨⟨trivial, ⟨trivial, trivial⟩⟩, trivial⟩⟩⟩
  refine loopT_ok hb (V_hash_More_0 n) (t_hash_More_0 n) n s K r ?_
  rw [← h]
  unfold loopT
  simp only [i_hash_More_0]
theorem m_hash_More (n : Nat) (a0 : Int) (a1 : ByteArray) : runFT Try.prog cf_hash_More p_hash_More (ls_hash_More n) Try.f59 (bodyOf Try.f59) (EK.encs e_hash_More ((a0, (a1, ())), ()).1) (HK.encs h_hash_More ((a0, (a1, ())), ()).2) = M_hash_More n a0 a1 := by kernel_rfl
theorem g_hash_More (n : Nat) (a0 : Int) (a1 : ByteArray) {r : Res} (h : M_hash_More n a0 a1 = some r) : runF Try.prog cf_hash_More n p_hash_More 59 (EK.encs e_hash_More ((a0, (a1, ())), ()).1) (HK.encs h_hash_More ((a0, (a1, ())), ()).2) = some r := by
  have hb : LOk Try.prog cf_hash_More Try.f59.ntmps 0 n p_hash_More (ls_hash_More n) (bodyOf Try.f59) := ⟨trivial, ⟨⟨trivial, (o_hash_More_0 n)⟩, ⟨trivial, trivial⟩⟩⟩
  exact runFT_some Try.prog (c := bodyOf Try.f59) Try.func59 (show Try.f59.body = some (bodyOf Try.f59) from rfl) (show (2 : Nat) ≤ 21 by decide) hb ((m_hash_More n a0 a1).trans h) rfl (by kernel_rfl)
noncomputable def c_hash_More : Spec := specQ e_hash_More h_hash_More ro_hash_More rh_hash_More fun a b => Q_hash_More a.1 a.2.1
theorem k_hash_More (hm : Try.prog.follows .mixedOrders = true) : SpecOk Try.prog 59 c_hash_More := specQ_ok (pol := p_hash_More) hm (cf := cf_hash_More) (tab_ok specs_nil) fun a b r h => ⟨FUEL, g_hash_More FUEL a.1 a.2.1 (decRes_some h)⟩
def s_hash_Of_h0 : Sig := ⟨[3, 6, 7, 8], [.ty (.int .u32), .ty (.slice .str), .ty (.int .i64), .ty (.int .i64)], []⟩
def s_hash_Of_t0 : Sig := ⟨[3], [.ty (.int .u32)], []⟩
def s_hash_Of_r : Sig := ⟨[2], [.ty (.int .u32)], []⟩
def p_hash_Of : Pol := ⟨fun i => if i = 0 then some [(3, .keep), (6, .keep), (7, .keep), (8, .keep)] else none, fun i => if i = 0 then some [(3, .keep)] else none, some [(2, .keep)], [.keep], []⟩
def e_hash_Of : List EK := [.ty (.slice .str)]
def h_hash_Of : List HK := []
noncomputable def cf_hash_Of : CallF := mkCF [(59, c_hash_More)] [(59, [(.int .u32), .str])]
noncomputable def ls_hash_Of (n : Nat) : Loops := fun i => if i = 0 then some (loopT 0 (p_hash_Of.head 0) s_hash_Of_h0 fun K v => L_hash_Of_0 n (fun z0 => K (.ex 0) (s_hash_Of_t0.enc ((z0, ()), ()))) v.1.2.1 v.1.2.2.1 n v.1.1 v.1.2.2.2.1)
  else  none
noncomputable def b_hash_Of_0 : Code := partOf (bodyOf Try.f35) [1, 1, 0, 1, 0, 0]
theorem t_hash_Of_0 (n : Nat) (K : Cont) (rec : Sig.sem s_hash_Of_h0 → Option Res) (v : Sig.sem s_hash_Of_h0) : runT Try.prog cf_hash_Of Try.f35.ntmps 0 p_hash_Of (ls_hash_Of n) b_hash_Of_0 (s_hash_Of_h0.enc v) (turnK 0 (p_hash_Of.head 0) s_hash_Of_h0 rec K) = F_hash_Of_0 n (fun z0 => K (.ex 0) (s_hash_Of_t0.enc ((z0, ()), ()))) v.1.2.1 v.1.2.2.1 (fun z0 z3 => rec ((z0, (v.1.2.1, (v.1.2.2.1, (z3, ())))), ())) v.1.1 v.1.2.2.2.1 := by kernel_rfl
noncomputable def V_hash_Of_0 (n : Nat) (K : Cont) (rec : Sig.sem s_hash_Of_h0 → Option Res) (v : Sig.sem s_hash_Of_h0) : Option Res := F_hash_Of_0 n (fun z0 => K (.ex 0) (s_hash_Of_t0.enc ((z0, ()), ()))) v.1.2.1 v.1.2.2.1 (fun z0 z3 => rec ((z0, (v.1.2.1, (v.1.2.2.1, (z3, ())))), ())) v.1.1 v.1.2.2.2.1
noncomputable def W_hash_Of_0 (n : Nat) (K : Cont) (m : Nat) (v : Sig.sem s_hash_Of_h0) : Option Res := L_hash_Of_0 n (fun z0 => K (.ex 0) (s_hash_Of_t0.enc ((z0, ()), ()))) v.1.2.1 v.1.2.2.1 m v.1.1 v.1.2.2.2.1
theorem i_hash_Of_0 (n : Nat) (K : Cont) : ∀ m v, iter (V_hash_Of_0 n K) m v = W_hash_Of_0 n K m v := by
  intro m
  induction m with
  | zero => intro v; rfl
  | succ m ih =>
    intro v
    show V_hash_Of_0 n K (iter (V_hash_Of_0 n K) m) v = V_hash_Of_0 n K (W_hash_Of_0 n K m) v
    rw [show iter (V_hash_Of_0 n K) m = W_hash_Of_0 n K m from funext ih]
theorem o_hash_Of_0 (n : Nat) : ∀ L, ls_hash_Of n 0 = some L → ∀ s K r, L s K = some r → ∃ x s', loopN (run Try.prog cf_hash_Of Try.f35.ntmps 0 n p_hash_Of none b_hash_Of_0) (gc 0 (p_hash_Of.head 0)) n s = some (x, s') ∧ K x s' = some r := by
  intro L hL s K r h
  have hL : some (loopT 0 (p_hash_Of.head 0) s_hash_Of_h0 fun K v => W_hash_Of_0 n K n v) = some L := hL
  cases hL
  have hb : LOk Try.prog cf_hash_Of Try.f35.ntmps 0 n p_hash_Of (ls_hash_Of n) b_hash_Of_0 := ⟨trivial, ⟨⟨trivial, trivial⟩, ⟨⟨trivial, trivial⟩, trivial⟩⟩⟩
  refine loopT_ok hb (V_hash_Of_0 n) (t_hash_Of_0 n) n s K r ?_
  rw [← h]
  unfold loopT
  simp only [i_hash_Of_0]
theorem m_hash_Of (n : Nat) (a0 : (List ByteArray)) : runFT Try.prog cf_hash_Of p_hash_Of (ls_hash_Of n) Try.f35 (bodyOf Try.f35) (EK.encs e_hash_Of ((a0, ()), ()).1) (HK.encs h_hash_Of ((a0, ()), ()).2) = M_hash_Of n a0 := by kernel_rfl
theorem g_hash_Of (n : Nat) (a0 : (List ByteArray)) {r : Res} (h : M_hash_Of n a0 = some r) : runF Try.prog cf_hash_Of n p_hash_Of 35 (EK.encs e_hash_Of ((a0, ()), ()).1) (HK.encs h_hash_Of ((a0, ()), ()).2) = some r := by
  have hb : LOk Try.prog cf_hash_Of Try.f35.ntmps 0 n p_hash_Of (ls_hash_Of n) (bodyOf Try.f35) := ⟨trivial, ⟨trivial, ⟨⟨trivial, (o_hash_Of_0 n)⟩, ⟨trivial, trivial⟩⟩⟩⟩
  exact runFT_some Try.prog (c := bodyOf Try.f35) Try.func35 (show Try.f35.body = some (bodyOf Try.f35) from rfl) (show (1 : Nat) ≤ 17 by decide) hb ((m_hash_Of n a0).trans h) rfl (by kernel_rfl)
noncomputable def c_hash_Of : Spec := specQ e_hash_Of h_hash_Of ro_hash_Of rh_hash_Of fun a b => Q_hash_Of a.1
theorem k_hash_Of (hm : Try.prog.follows .mixedOrders = true) : SpecOk Try.prog 35 c_hash_Of := specQ_ok (pol := p_hash_Of) hm (cf := cf_hash_Of) (tab_ok (specs_cons (k_hash_More hm) specs_nil)) fun a b r h => ⟨FUEL, g_hash_Of FUEL a.1 (decRes_some h)⟩
def s_hash_Mix_r : Sig := ⟨[2], [.ty (.int .u32)], []⟩
def p_hash_Mix : Pol := ⟨fun i => none, fun i => none, some [(2, .keep)], [.keep], []⟩
def e_hash_Mix : List EK := [.ty (.int .u32)]
def h_hash_Mix : List HK := []
noncomputable def cf_hash_Mix : CallF := mkCF [] []
noncomputable def ls_hash_Mix (n : Nat) : Loops := fun i =>  none
theorem m_hash_Mix (n : Nat) (a0 : Int) : runFT Try.prog cf_hash_Mix p_hash_Mix (ls_hash_Mix n) Try.f34 (bodyOf Try.f34) (EK.encs e_hash_Mix ((a0, ()), ()).1) (HK.encs h_hash_Mix ((a0, ()), ()).2) = M_hash_Mix n a0 := by kernel_rfl
theorem g_hash_Mix (n : Nat) (a0 : Int) {r : Res} (h : M_hash_Mix n a0 = some r) : runF Try.prog cf_hash_Mix n p_hash_Mix 34 (EK.encs e_hash_Mix ((a0, ()), ()).1) (HK.encs h_hash_Mix ((a0, ()), ()).2) = some r := by
  have hb : LOk Try.prog cf_hash_Mix Try.f34.ntmps 0 n p_hash_Mix (ls_hash_Mix n) (bodyOf Try.f34) := ⟨trivial, ⟨trivial, ⟨trivial, ⟨trivial, ⟨trivial, ⟨trivial, trivial⟩⟩⟩⟩⟩⟩
  exact runFT_some Try.prog (c := bodyOf Try.f34) Try.func34 (show Try.f34.body = some (bodyOf Try.f34) from rfl) (show (1 : Nat) ≤ 19 by decide) hb ((m_hash_Mix n a0).trans h) rfl (by kernel_rfl)
noncomputable def c_hash_Mix : Spec := specQ e_hash_Mix h_hash_Mix ro_hash_Mix rh_hash_Mix fun a b => Q_hash_Mix a.1
theorem k_hash_Mix (hm : Try.prog.follows .mixedOrders = true) : SpecOk Try.prog 34 c_hash_Mix := specQ_ok (pol := p_hash_Mix) hm (cf := cf_hash_Mix) (tab_ok specs_nil) fun a b r h => ⟨FUEL, g_hash_Mix FUEL a.1 (decRes_some h)⟩
def s_key_Numberxe04_r : Sig := ⟨[4, 5], [.ty (.int .u32), .ty (.int .i64)], [.one false [.ptr 1 0 0, .nul 4, .ptr 3 0 0, .ty (.int .i64)], .one false [.hs 2 0], .row (.int .u8), .one false [.hs 4 0], .row (.int .u8)]⟩
def p_key_Numberxe04 : Pol := ⟨fun i => none, fun i => none, some [(4, .keep), (5, .keep)], [.keep, .keep], []⟩
def e_key_Numberxe04 : List EK := [.ptr 0 0 0, .agg FieldT]
def h_key_Numberxe04 : List HK := [.one false [.ptr 1 0 0, .nul 4, .ptr 3 0 0, .ty (.int .i64)], .one false [.hs 2 0], .row (.int .u8), .one false [.hs 4 0], .row (.int .u8)]
noncomputable def cf_key_Numberxe04 : CallF := mkCF [(40, c_key_textxac0), (35, c_hash_Of), (34, c_hash_Mix)] [(35, [(.slice .str)]), (34, [(.int .u32)])]
noncomputable def ls_key_Numberxe04 (n : Nat) : Loops := fun i =>  none
theorem m_key_Numberxe04 (n : Nat) (a0 : FieldS) (a1 : Int) (a2 : Nat) (a3 : (List Int)) (a4 : Nat) (a5 : (List Int)) : runFT Try.prog cf_key_Numberxe04 p_key_Numberxe04 (ls_key_Numberxe04 n) Try.f22 (bodyOf Try.f22) (EK.encs e_key_Numberxe04 (((), (a0, ())), (((), ((), ((), (a1, ())))), ((a2, ()), (a3, ((a4, ()), (a5, ())))))).1) (HK.encs h_key_Numberxe04 (((), (a0, ())), (((), ((), ((), (a1, ())))), ((a2, ()), (a3, ((a4, ()), (a5, ())))))).2) = M_key_Numberxe04 n a0 a1 a2 a3 a4 a5 := by kernel_rfl
theorem g_key_Numberxe04 (n : Nat) (a0 : FieldS) (a1 : Int) (a2 : Nat) (a3 : (List Int)) (a4 : Nat) (a5 : (List Int)) {r : Res} (h : M_key_Numberxe04 n a0 a1 a2 a3 a4 a5 = some r) : runF Try.prog cf_key_Numberxe04 n p_key_Numberxe04 22 (EK.encs e_key_Numberxe04 (((), (a0, ())), (((), ((), ((), (a1, ())))), ((a2, ()), (a3, ((a4, ()), (a5, ())))))).1) (HK.encs h_key_Numberxe04 (((), (a0, ())), (((), ((), ((), (a1, ())))), ((a2, ()), (a3, ((a4, ()), (a5, ())))))).2) = some r := by
  have hb : LOk Try.prog cf_key_Numberxe04 Try.f22.ntmps 5 n p_key_Numberxe04 (ls_key_Numberxe04 n) (bodyOf Try.f22) := ⟨trivial, ⟨trivial, ⟨⟨trivial, ⟨⟨trivial, trivial⟩, trivial⟩⟩, ⟨trivial, trivial⟩⟩⟩⟩
  exact runFT_some Try.prog (c := bodyOf Try.f22) Try.func22 (show Try.f22.body = some (bodyOf Try.f22) from rfl) (show (2 : Nat) ≤ 22 by decide) hb ((m_key_Numberxe04 n a0 a1 a2 a3 a4 a5).trans h) rfl (by kernel_rfl)
noncomputable def c_key_Numberxe04 : Spec := specQ e_key_Numberxe04 h_key_Numberxe04 ro_key_Numberxe04 rh_key_Numberxe04 fun a b => Q_key_Numberxe04 a.2.1 b.1.2.2.2.1 b.2.1.1 b.2.2.1 b.2.2.2.1.1 b.2.2.2.2.1
theorem k_key_Numberxe04 (hm : Try.prog.follows .mixedOrders = true) : SpecOk Try.prog 22 c_key_Numberxe04 := specQ_ok (pol := p_key_Numberxe04) hm (cf := cf_key_Numberxe04) (tab_ok (specs_cons (k_key_textxac0 hm) (specs_cons (k_hash_Of hm) (specs_cons (k_hash_Mix hm) specs_nil)))) fun a b r h => ⟨FUEL, g_key_Numberxe04 FUEL a.2.1 b.1.2.2.2.1 b.2.1.1 b.2.2.1 b.2.2.2.1.1 b.2.2.2.2.1 (decRes_some h)⟩
def s_turnoutref06_Texts_r : Sig := ⟨[4], [.ty .bool], []⟩
def s_turnoutref06_Texts_h0 : Sig := ⟨[0, 1, 5], [.ty (.slice .str), .ty (.slice .str), .ty (.int .i64)], []⟩
def s_turnoutref06_Texts_t0 : Sig := ⟨[], [], []⟩
def p_turnoutref06_Texts : Pol := ⟨fun i => if i = 0 then some [(0, .keep), (1, .keep), (5, .keep)] else none, fun i => if i = 0 then some [] else none, some [(4, .keep)], [.keep], []⟩
def e_turnoutref06_Texts : List EK := [.ty (.slice .str), .ty (.slice .str)]
def h_turnoutref06_Texts : List HK := []
noncomputable def cf_turnoutref06_Texts : CallF := mkCF [] []
noncomputable def ls_turnoutref06_Texts (n : Nat) : Loops := fun i => if i = 0 then some (loopT 0 (p_turnoutref06_Texts.head 0) s_turnoutref06_Texts_h0 fun K v => L_turnoutref06_Texts_0 n (fun z0 => K .rt (s_turnoutref06_Texts_r.enc ((z0, ()), ()))) (fun _ => K (.ex 0) (s_turnoutref06_Texts_t0.enc ((), ()))) v.1.1 v.1.2.1 n v.1.2.2.1)
  else  none
noncomputable def b_turnoutref06_Texts_0 : Code := partOf (bodyOf Try.f14) [1, 1, 0, 1, 0, 0]
theorem t_turnoutref06_Texts_0 (n : Nat) (K : Cont) (rec : Sig.sem s_turnoutref06_Texts_h0 → Option Res) (v : Sig.sem s_turnoutref06_Texts_h0) : runT Try.prog cf_turnoutref06_Texts Try.f14.ntmps 0 p_turnoutref06_Texts (ls_turnoutref06_Texts n) b_turnoutref06_Texts_0 (s_turnoutref06_Texts_h0.enc v) (turnK 0 (p_turnoutref06_Texts.head 0) s_turnoutref06_Texts_h0 rec K) = F_turnoutref06_Texts_0 n (fun z0 => K .rt (s_turnoutref06_Texts_r.enc ((z0, ()), ()))) (fun _ => K (.ex 0) (s_turnoutref06_Texts_t0.enc ((), ()))) v.1.1 v.1.2.1 (fun z2 => rec ((v.1.1, (v.1.2.1, (z2, ()))), ())) v.1.2.2.1 := by kernel_rfl
noncomputable def V_turnoutref06_Texts_0 (n : Nat) (K : Cont) (rec : Sig.sem s_turnoutref06_Texts_h0 → Option Res) (v : Sig.sem s_turnoutref06_Texts_h0) : Option Res := F_turnoutref06_Texts_0 n (fun z0 => K .rt (s_turnoutref06_Texts_r.enc ((z0, ()), ()))) (fun _ => K (.ex 0) (s_turnoutref06_Texts_t0.enc ((), ()))) v.1.1 v.1.2.1 (fun z2 => rec ((v.1.1, (v.1.2.1, (z2, ()))), ())) v.1.2.2.1
noncomputable def W_turnoutref06_Texts_0 (n : Nat) (K : Cont) (m : Nat) (v : Sig.sem s_turnoutref06_Texts_h0) : Option Res := L_turnoutref06_Texts_0 n (fun z0 => K .rt (s_turnoutref06_Texts_r.enc ((z0, ()), ()))) (fun _ => K (.ex 0) (s_turnoutref06_Texts_t0.enc ((), ()))) v.1.1 v.1.2.1 m v.1.2.2.1
theorem i_turnoutref06_Texts_0 (n : Nat) (K : Cont) : ∀ m v, iter (V_turnoutref06_Texts_0 n K) m v = W_turnoutref06_Texts_0 n K m v := by
  intro m
  induction m with
  | zero => intro v; rfl
  | succ m ih =>
    intro v
    show V_turnoutref06_Texts_0 n K (iter (V_turnoutref06_Texts_0 n K) m) v = V_turnoutref06_Texts_0 n K (W_turnoutref06_Texts_0 n K m) v
    rw [show iter (V_turnoutref06_Texts_0 n K) m = W_turnoutref06_Texts_0 n K m from funext ih]
theorem o_turnoutref06_Texts_0 (n : Nat) : ∀ L, ls_turnoutref06_Texts n 0 = some L → ∀ s K r, L s K = some r → ∃ x s', loopN (run Try.prog cf_turnoutref06_Texts Try.f14.ntmps 0 n p_turnoutref06_Texts none b_turnoutref06_Texts_0) (gc 0 (p_turnoutref06_Texts.head 0)) n s = some (x, s') ∧ K x s' = some r := by
  intro L hL s K r h
  have hL : some (loopT 0 (p_turnoutref06_Texts.head 0) s_turnoutref06_Texts_h0 fun K v => W_turnoutref06_Texts_0 n K n v) = some L := hL
  cases hL
  have hb : LOk Try.prog cf_turnoutref06_Texts Try.f14.ntmps 0 n p_turnoutref06_Texts (ls_turnoutref06_Texts n) b_turnoutref06_Texts_0 := ⟨⟨trivial, ⟨trivial, trivial⟩⟩, ⟨⟨trivial, ⟨⟨trivial, trivial⟩, trivial⟩⟩, trivial⟩⟩
  refine loopT_ok hb (V_turnoutref06_Texts_0 n) (t_turnoutref06_Texts_0 n) n s K r ?_
  rw [← h]
  unfold loopT
  simp only [i_turnoutref06_Texts_0]
theorem m_turnoutref06_Texts (n : Nat) (a0 : (List ByteArray)) (a1 : (List ByteArray)) : runFT Try.prog cf_turnoutref06_Texts p_turnoutref06_Texts (ls_turnoutref06_Texts n) Try.f14 (bodyOf Try.f14) (EK.encs e_turnoutref06_Texts ((a0, (a1, ())), ()).1) (HK.encs h_turnoutref06_Texts ((a0, (a1, ())), ()).2) = M_turnoutref06_Texts n a0 a1 := by kernel_rfl
theorem g_turnoutref06_Texts (n : Nat) (a0 : (List ByteArray)) (a1 : (List ByteArray)) {r : Res} (h : M_turnoutref06_Texts n a0 a1 = some r) : runF Try.prog cf_turnoutref06_Texts n p_turnoutref06_Texts 14 (EK.encs e_turnoutref06_Texts ((a0, (a1, ())), ()).1) (HK.encs h_turnoutref06_Texts ((a0, (a1, ())), ()).2) = some r := by
  have hb : LOk Try.prog cf_turnoutref06_Texts Try.f14.ntmps 0 n p_turnoutref06_Texts (ls_turnoutref06_Texts n) (bodyOf Try.f14) := ⟨trivial, ⟨⟨trivial, ⟨⟨trivial, trivial⟩, trivial⟩⟩, ⟨⟨trivial, (o_turnoutref06_Texts_0 n)⟩, ⟨trivial, trivial⟩⟩⟩⟩
  exact runFT_some Try.prog (c := bodyOf Try.f14) Try.func14 (show Try.f14.body = some (bodyOf Try.f14) from rfl) (show (2 : Nat) ≤ 26 by decide) hb ((m_turnoutref06_Texts n a0 a1).trans h) rfl (by kernel_rfl)
noncomputable def c_turnoutref06_Texts : Spec := specQ e_turnoutref06_Texts h_turnoutref06_Texts ro_turnoutref06_Texts rh_turnoutref06_Texts fun a b => Q_turnoutref06_Texts a.1 a.2.1
theorem k_turnoutref06_Texts (hm : Try.prog.follows .mixedOrders = true) : SpecOk Try.prog 14 c_turnoutref06_Texts := specQ_ok (pol := p_turnoutref06_Texts) hm (cf := cf_turnoutref06_Texts) (tab_ok specs_nil) fun a b r h => ⟨FUEL, g_turnoutref06_Texts FUEL a.1 a.2.1 (decRes_some h)⟩
def s_turnoutlaw18_awake_r : Sig := ⟨[0], [.ty .bool], []⟩
def p_turnoutlaw18_awake : Pol := ⟨fun i => none, fun i => none, some [(0, .keep)], [.keep], []⟩
def e_turnoutlaw18_awake : List EK := []
def h_turnoutlaw18_awake : List HK := []
noncomputable def cf_turnoutlaw18_awake : CallF := { (mkCF [(19, c_pack_New), (21, c_turnoutlaw18_bits), (20, c_key_Ofxf63), (23, c_key_Widths), (12, c_key_Segments), (22, c_key_Numberxe04), (14, c_turnoutref06_Texts), (35, c_hash_Of), (34, c_hash_Mix)] [(19, [(.int .i64), .str]), (21, [(.int .i64), (.int .i64)]), (23, [(.slice FieldT)]), (12, [.str, (.slice (.int .i64))]), (14, [(.slice .str), (.slice .str)]), (35, [(.slice .str)]), (34, [(.int .u32)])]) with mix := mixes [(20, [none, some ((.slice FieldT))])] }
noncomputable def ls_turnoutlaw18_awake (n : Nat) : Loops := fun i =>  none
theorem m_turnoutlaw18_awake (n : Nat) : runFT Try.prog cf_turnoutlaw18_awake p_turnoutlaw18_awake (ls_turnoutlaw18_awake n) Try.f11 (bodyOf Try.f11) (EK.encs e_turnoutlaw18_awake ((), ()).1) (HK.encs h_turnoutlaw18_awake ((), ()).2) = M_turnoutlaw18_awake n := by kernel_rfl
theorem g_turnoutlaw18_awake (n : Nat) {r : Res} (h : M_turnoutlaw18_awake n = some r) : runF Try.prog cf_turnoutlaw18_awake n p_turnoutlaw18_awake 11 (EK.encs e_turnoutlaw18_awake ((), ()).1) (HK.encs h_turnoutlaw18_awake ((), ()).2) = some r := by
  have hb : LOk Try.prog cf_turnoutlaw18_awake Try.f11.ntmps 0 n p_turnoutlaw18_awake (ls_turnoutlaw18_awake n) (bodyOf Try.f11) := ⟨trivial, ⟨trivial, ⟨trivial, ⟨⟨trivial, ⟨⟨trivial, trivial⟩, trivial⟩⟩, ⟨trivial, ⟨trivial, ⟨trivial, ⟨trivial, ⟨trivial, ⟨trivial, ⟨trivial, trivial⟩⟩⟩⟩⟩⟩⟩⟩⟩⟩⟩
  exact runFT_some Try.prog (c := bodyOf Try.f11) Try.func11 (show Try.f11.body = some (bodyOf Try.f11) from rfl) (show (0 : Nat) ≤ 119 by decide) hb ((m_turnoutlaw18_awake n).trans h) rfl (by kernel_rfl)
noncomputable def c_turnoutlaw18_awake : Spec := specQ e_turnoutlaw18_awake h_turnoutlaw18_awake ro_turnoutlaw18_awake rh_turnoutlaw18_awake fun a b => Q_turnoutlaw18_awake
theorem k_turnoutlaw18_awake (hm : Try.prog.follows .mixedOrders = true) : SpecOk Try.prog 11 c_turnoutlaw18_awake := specQ_ok (pol := p_turnoutlaw18_awake) hm (cf := cf_turnoutlaw18_awake) (CallSound.mix <| tab_ok (specs_cons (k_pack_New hm) (specs_cons (k_turnoutlaw18_bits hm) (specs_cons (k_key_Ofxf63 hm) (specs_cons (k_key_Widths hm) (specs_cons (k_key_Segments hm) (specs_cons (k_key_Numberxe04 hm) (specs_cons (k_turnoutref06_Texts hm) (specs_cons (k_hash_Of hm) (specs_cons (k_hash_Mix hm) specs_nil)))))))))) fun a b r h => ⟨FUEL, g_turnoutlaw18_awake FUEL (decRes_some h)⟩
noncomputable def c_strings_Join : Spec := specQ [.ty (.slice .str), .ty .str] [] ro_strings_Join rh_strings_Join fun a b => Q_strings_Join a.1 a.2.1
theorem k_strings_Join (hm : Try.prog.follows .mixedOrders = true) : SpecOk Try.prog 36 c_strings_Join := H18.join_ok
def s_key_Join_r : Sig := ⟨[2], [.ty .str], []⟩
def p_key_Join : Pol := ⟨fun i => none, fun i => none, some [(2, .keep)], [.keep], []⟩
def e_key_Join : List EK := [.ty (.slice .str)]
def h_key_Join : List HK := []
noncomputable def cf_key_Join : CallF := mkCF [(36, c_strings_Join)] [(36, [(.slice .str), .str])]
noncomputable def ls_key_Join (n : Nat) : Loops := fun i =>  none
theorem m_key_Join (n : Nat) (a0 : (List ByteArray)) : runFT Try.prog cf_key_Join p_key_Join (ls_key_Join n) Try.f13 (bodyOf Try.f13) (EK.encs e_key_Join ((a0, ()), ()).1) (HK.encs h_key_Join ((a0, ()), ()).2) = M_key_Join n a0 := by kernel_rfl
theorem g_key_Join (n : Nat) (a0 : (List ByteArray)) {r : Res} (h : M_key_Join n a0 = some r) : runF Try.prog cf_key_Join n p_key_Join 13 (EK.encs e_key_Join ((a0, ()), ()).1) (HK.encs h_key_Join ((a0, ()), ()).2) = some r := by
  have hb : LOk Try.prog cf_key_Join Try.f13.ntmps 0 n p_key_Join (ls_key_Join n) (bodyOf Try.f13) := ⟨trivial, ⟨trivial, trivial⟩⟩
  exact runFT_some Try.prog (c := bodyOf Try.f13) Try.func13 (show Try.f13.body = some (bodyOf Try.f13) from rfl) (show (1 : Nat) ≤ 5 by decide) hb ((m_key_Join n a0).trans h) rfl (by kernel_rfl)
noncomputable def c_key_Join : Spec := specQ e_key_Join h_key_Join ro_key_Join rh_key_Join fun a b => Q_key_Join a.1
theorem k_key_Join (hm : Try.prog.follows .mixedOrders = true) : SpecOk Try.prog 13 c_key_Join := specQ_ok (pol := p_key_Join) hm (cf := cf_key_Join) (tab_ok (specs_cons (k_strings_Join hm) specs_nil)) fun a b r h => ⟨FUEL, g_key_Join FUEL a.1 (decRes_some h)⟩
def s_turnoutlaw18_KeyBack_r : Sig := ⟨[6], [.ty .bool], []⟩
def s_turnoutlaw18_KeyBack_h0 : Sig := ⟨[0, 1, 2, 7, 8], [.ty (.slice .str), .ty .str, .ty (.slice (.int .i64)), .hs 0 0, .ty (.int .i64)], [.row (.int .i64)]⟩
def s_turnoutlaw18_KeyBack_t0 : Sig := ⟨[0, 1, 2, 7], [.ty (.slice .str), .ty .str, .ty (.slice (.int .i64)), .hs 0 0], [.row (.int .i64)]⟩
def p_turnoutlaw18_KeyBack : Pol := ⟨fun i => if i = 0 then some [(0, .keep), (1, .keep), (2, .keep), (7, (.own (.int .i64))), (8, .keep)] else none, fun i => if i = 0 then some [(0, .keep), (1, .keep), (2, .keep), (7, (.own (.int .i64)))] else none, some [(6, .keep)], [.keep], []⟩
def e_turnoutlaw18_KeyBack : List EK := [.ty (.slice .str), .ty .str, .ty (.slice (.int .i64))]
def h_turnoutlaw18_KeyBack : List HK := []
noncomputable def cf_turnoutlaw18_KeyBack : CallF := mkCF [(11, c_turnoutlaw18_awake), (13, c_key_Join), (12, c_key_Segments), (14, c_turnoutref06_Texts)] [(11, []), (13, [(.slice .str)]), (12, [.str, (.slice (.int .i64))]), (14, [(.slice .str), (.slice .str)])]
noncomputable def ls_turnoutlaw18_KeyBack (n : Nat) : Loops := fun i => if i = 0 then some (loopT 0 (p_turnoutlaw18_KeyBack.head 0) s_turnoutlaw18_KeyBack_h0 fun K v => L_turnoutlaw18_KeyBack_0 n (fun z0 => K .rt (s_turnoutlaw18_KeyBack_r.enc ((z0, ()), ()))) (fun z3 z4 => K (.ex 0) (s_turnoutlaw18_KeyBack_t0.enc ((v.1.1, (v.1.2.1, (v.1.2.2.1, (z3, ())))), (z4, ())))) v.1.1 n v.1.2.2.2.1 v.1.2.2.2.2.1 v.2.1)
  else  none
noncomputable def b_turnoutlaw18_KeyBack_0 : Code := partOf (bodyOf Try.f3) [1, 1, 1, 0, 1, 0, 0]
theorem t_turnoutlaw18_KeyBack_0 (n : Nat) (K : Cont) (rec : Sig.sem s_turnoutlaw18_KeyBack_h0 → Option Res) (v : Sig.sem s_turnoutlaw18_KeyBack_h0) : runT Try.prog cf_turnoutlaw18_KeyBack Try.f3.ntmps 0 p_turnoutlaw18_KeyBack (ls_turnoutlaw18_KeyBack n) b_turnoutlaw18_KeyBack_0 (s_turnoutlaw18_KeyBack_h0.enc v) (turnK 0 (p_turnoutlaw18_KeyBack.head 0) s_turnoutlaw18_KeyBack_h0 rec K) = F_turnoutlaw18_KeyBack_0 n (fun z0 => K .rt (s_turnoutlaw18_KeyBack_r.enc ((z0, ()), ()))) (fun z3 z4 => K (.ex 0) (s_turnoutlaw18_KeyBack_t0.enc ((v.1.1, (v.1.2.1, (v.1.2.2.1, (z3, ())))), (z4, ())))) v.1.1 (fun z3 z4 z5 => rec ((v.1.1, (v.1.2.1, (v.1.2.2.1, (z3, (z4, ()))))), (z5, ()))) v.1.2.2.2.1 v.1.2.2.2.2.1 v.2.1 := by kernel_rfl
noncomputable def V_turnoutlaw18_KeyBack_0 (n : Nat) (K : Cont) (rec : Sig.sem s_turnoutlaw18_KeyBack_h0 → Option Res) (v : Sig.sem s_turnoutlaw18_KeyBack_h0) : Option Res := F_turnoutlaw18_KeyBack_0 n (fun z0 => K .rt (s_turnoutlaw18_KeyBack_r.enc ((z0, ()), ()))) (fun z3 z4 => K (.ex 0) (s_turnoutlaw18_KeyBack_t0.enc ((v.1.1, (v.1.2.1, (v.1.2.2.1, (z3, ())))), (z4, ())))) v.1.1 (fun z3 z4 z5 => rec ((v.1.1, (v.1.2.1, (v.1.2.2.1, (z3, (z4, ()))))), (z5, ()))) v.1.2.2.2.1 v.1.2.2.2.2.1 v.2.1
noncomputable def W_turnoutlaw18_KeyBack_0 (n : Nat) (K : Cont) (m : Nat) (v : Sig.sem s_turnoutlaw18_KeyBack_h0) : Option Res := L_turnoutlaw18_KeyBack_0 n (fun z0 => K .rt (s_turnoutlaw18_KeyBack_r.enc ((z0, ()), ()))) (fun z3 z4 => K (.ex 0) (s_turnoutlaw18_KeyBack_t0.enc ((v.1.1, (v.1.2.1, (v.1.2.2.1, (z3, ())))), (z4, ())))) v.1.1 m v.1.2.2.2.1 v.1.2.2.2.2.1 v.2.1
theorem i_turnoutlaw18_KeyBack_0 (n : Nat) (K : Cont) : ∀ m v, iter (V_turnoutlaw18_KeyBack_0 n K) m v = W_turnoutlaw18_KeyBack_0 n K m v := by
  intro m
  induction m with
  | zero => intro v; rfl
  | succ m ih =>
    intro v
    show V_turnoutlaw18_KeyBack_0 n K (iter (V_turnoutlaw18_KeyBack_0 n K) m) v = V_turnoutlaw18_KeyBack_0 n K (W_turnoutlaw18_KeyBack_0 n K m) v
    rw [show iter (V_turnoutlaw18_KeyBack_0 n K) m = W_turnoutlaw18_KeyBack_0 n K m from funext ih]
theorem o_turnoutlaw18_KeyBack_0 (n : Nat) : ∀ L, ls_turnoutlaw18_KeyBack n 0 = some L → ∀ s K r, L s K = some r → ∃ x s', loopN (run Try.prog cf_turnoutlaw18_KeyBack Try.f3.ntmps 0 n p_turnoutlaw18_KeyBack none b_turnoutlaw18_KeyBack_0) (gc 0 (p_turnoutlaw18_KeyBack.head 0)) n s = some (x, s') ∧ K x s' = some r := by
  intro L hL s K r h
  have hL : some (loopT 0 (p_turnoutlaw18_KeyBack.head 0) s_turnoutlaw18_KeyBack_h0 fun K v => W_turnoutlaw18_KeyBack_0 n K n v) = some L := hL
  cases hL
  have hb : LOk Try.prog cf_turnoutlaw18_KeyBack Try.f3.ntmps 0 n p_turnoutlaw18_KeyBack (ls_turnoutlaw18_KeyBack n) b_turnoutlaw18_KeyBack_0 := ⟨⟨trivial, ⟨trivial, trivial⟩⟩, ⟨⟨⟨trivial, ⟨⟨trivial, trivial⟩, trivial⟩⟩, trivial⟩, trivial⟩⟩
  refine loopT_ok hb (V_turnoutlaw18_KeyBack_0 n) (t_turnoutlaw18_KeyBack_0 n) n s K r ?_
  rw [← h]
  unfold loopT
  simp only [i_turnoutlaw18_KeyBack_0]
theorem m_turnoutlaw18_KeyBack (n : Nat) (a0 : (List ByteArray)) (a1 : ByteArray) (a2 : (List Int)) : runFT Try.prog cf_turnoutlaw18_KeyBack p_turnoutlaw18_KeyBack (ls_turnoutlaw18_KeyBack n) Try.f3 (bodyOf Try.f3) (EK.encs e_turnoutlaw18_KeyBack ((a0, (a1, (a2, ()))), ()).1) (HK.encs h_turnoutlaw18_KeyBack ((a0, (a1, (a2, ()))), ()).2) = M_turnoutlaw18_KeyBack n a0 a1 a2 := by kernel_rfl
theorem g_turnoutlaw18_KeyBack (n : Nat) (a0 : (List ByteArray)) (a1 : ByteArray) (a2 : (List Int)) {r : Res} (h : M_turnoutlaw18_KeyBack n a0 a1 a2 = some r) : runF Try.prog cf_turnoutlaw18_KeyBack n p_turnoutlaw18_KeyBack 3 (EK.encs e_turnoutlaw18_KeyBack ((a0, (a1, (a2, ()))), ()).1) (HK.encs h_turnoutlaw18_KeyBack ((a0, (a1, (a2, ()))), ()).2) = some r := by
  have hb : LOk Try.prog cf_turnoutlaw18_KeyBack Try.f3.ntmps 0 n p_turnoutlaw18_KeyBack (ls_turnoutlaw18_KeyBack n) (bodyOf Try.f3) := ⟨trivial, ⟨⟨trivial, ⟨⟨trivial, trivial⟩, trivial⟩⟩, ⟨trivial, ⟨⟨trivial, (o_turnoutlaw18_KeyBack_0 n)⟩, ⟨trivial, ⟨⟨trivial, ⟨⟨trivial, trivial⟩, trivial⟩⟩, ⟨trivial, ⟨trivial, trivial⟩⟩⟩⟩⟩⟩⟩⟩
  exact runFT_some Try.prog (c := bodyOf Try.f3) Try.func3 (show Try.f3.body = some (bodyOf Try.f3) from rfl) (show (3 : Nat) ≤ 94 by decide) hb ((m_turnoutlaw18_KeyBack n a0 a1 a2).trans h) rfl (by kernel_rfl)
noncomputable def c_turnoutlaw18_KeyBack : Spec := specQ e_turnoutlaw18_KeyBack h_turnoutlaw18_KeyBack ro_turnoutlaw18_KeyBack rh_turnoutlaw18_KeyBack fun a b => Q_turnoutlaw18_KeyBack a.1 a.2.1 a.2.2.1
theorem k_turnoutlaw18_KeyBack (hm : Try.prog.follows .mixedOrders = true) : SpecOk Try.prog 3 c_turnoutlaw18_KeyBack := specQ_ok (pol := p_turnoutlaw18_KeyBack) hm (cf := cf_turnoutlaw18_KeyBack) (tab_ok (specs_cons (k_turnoutlaw18_awake hm) (specs_cons (k_key_Join hm) (specs_cons (k_key_Segments hm) (specs_cons (k_turnoutref06_Texts hm) specs_nil))))) fun a b r h => ⟨FUEL, g_turnoutlaw18_KeyBack FUEL a.1 a.2.1 a.2.2.1 (decRes_some h)⟩
def s_turnoutlaw18_large_h0 : Sig := ⟨[0, 3, 4], [.ty (.slice NodeT), .ty (.int .i64), .ty (.int .i64)], []⟩
def s_turnoutlaw18_large_t0 : Sig := ⟨[3], [.ty (.int .i64)], []⟩
def s_turnoutlaw18_large_r : Sig := ⟨[2], [.ty .bool], []⟩
def p_turnoutlaw18_large : Pol := ⟨fun i => if i = 0 then some [(0, .keep), (3, .keep), (4, .keep)] else none, fun i => if i = 0 then some [(3, .keep)] else none, some [(2, .keep)], [.keep], []⟩
def e_turnoutlaw18_large : List EK := [.ty (.slice NodeT)]
def h_turnoutlaw18_large : List HK := []
noncomputable def cf_turnoutlaw18_large : CallF := mkCF [] []
noncomputable def ls_turnoutlaw18_large (n : Nat) : Loops := fun i => if i = 0 then some (loopT 0 (p_turnoutlaw18_large.head 0) s_turnoutlaw18_large_h0 fun K v => L_turnoutlaw18_large_0 n (fun z0 => K (.ex 0) (s_turnoutlaw18_large_t0.enc ((z0, ()), ()))) v.1.1 n v.1.2.1 v.1.2.2.1)
  else  none
noncomputable def b_turnoutlaw18_large_0 : Code := partOf (bodyOf Try.f24) [1, 1, 0, 1, 0, 0]
theorem t_turnoutlaw18_large_0 (n : Nat) (K : Cont) (rec : Sig.sem s_turnoutlaw18_large_h0 → Option Res) (v : Sig.sem s_turnoutlaw18_large_h0) : runT Try.prog cf_turnoutlaw18_large Try.f24.ntmps 0 p_turnoutlaw18_large (ls_turnoutlaw18_large n) b_turnoutlaw18_large_0 (s_turnoutlaw18_large_h0.enc v) (turnK 0 (p_turnoutlaw18_large.head 0) s_turnoutlaw18_large_h0 rec K) = F_turnoutlaw18_large_0 n (fun z0 => K (.ex 0) (s_turnoutlaw18_large_t0.enc ((z0, ()), ()))) v.1.1 (fun z1 z2 => rec ((v.1.1, (z1, (z2, ()))), ())) v.1.2.1 v.1.2.2.1 := by kernel_rfl
noncomputable def V_turnoutlaw18_large_0 (n : Nat) (K : Cont) (rec : Sig.sem s_turnoutlaw18_large_h0 → Option Res) (v : Sig.sem s_turnoutlaw18_large_h0) : Option Res := F_turnoutlaw18_large_0 n (fun z0 => K (.ex 0) (s_turnoutlaw18_large_t0.enc ((z0, ()), ()))) v.1.1 (fun z1 z2 => rec ((v.1.1, (z1, (z2, ()))), ())) v.1.2.1 v.1.2.2.1
noncomputable def W_turnoutlaw18_large_0 (n : Nat) (K : Cont) (m : Nat) (v : Sig.sem s_turnoutlaw18_large_h0) : Option Res := L_turnoutlaw18_large_0 n (fun z0 => K (.ex 0) (s_turnoutlaw18_large_t0.enc ((z0, ()), ()))) v.1.1 m v.1.2.1 v.1.2.2.1
theorem i_turnoutlaw18_large_0 (n : Nat) (K : Cont) : ∀ m v, iter (V_turnoutlaw18_large_0 n K) m v = W_turnoutlaw18_large_0 n K m v := by
  intro m
  induction m with
  | zero => intro v; rfl
  | succ m ih =>
    intro v
    show V_turnoutlaw18_large_0 n K (iter (V_turnoutlaw18_large_0 n K) m) v = V_turnoutlaw18_large_0 n K (W_turnoutlaw18_large_0 n K m) v
    rw [show iter (V_turnoutlaw18_large_0 n K) m = W_turnoutlaw18_large_0 n K m from funext ih]
theorem o_turnoutlaw18_large_0 (n : Nat) : ∀ L, ls_turnoutlaw18_large n 0 = some L → ∀ s K r, L s K = some r → ∃ x s', loopN (run Try.prog cf_turnoutlaw18_large Try.f24.ntmps 0 n p_turnoutlaw18_large none b_turnoutlaw18_large_0) (gc 0 (p_turnoutlaw18_large.head 0)) n s = some (x, s') ∧ K x s' = some r := by
  intro L hL s K r h
  have hL : some (loopT 0 (p_turnoutlaw18_large.head 0) s_turnoutlaw18_large_h0 fun K v => W_turnoutlaw18_large_0 n K n v) = some L := hL
  cases hL
  have hb : LOk Try.prog cf_turnoutlaw18_large Try.f24.ntmps 0 n p_turnoutlaw18_large (ls_turnoutlaw18_large n) b_turnoutlaw18_large_0 := ⟨⟨trivial, ⟨trivial, trivial⟩⟩, ⟨trivial, trivial⟩⟩
  refine loopT_ok hb (V_turnoutlaw18_large_0 n) (t_turnoutlaw18_large_0 n) n s K r ?_
  rw [← h]
  unfold loopT
  simp only [i_turnoutlaw18_large_0]
theorem m_turnoutlaw18_large (n : Nat) (a0 : (List NodeS)) : runFT Try.prog cf_turnoutlaw18_large p_turnoutlaw18_large (ls_turnoutlaw18_large n) Try.f24 (bodyOf Try.f24) (EK.encs e_turnoutlaw18_large ((a0, ()), ()).1) (HK.encs h_turnoutlaw18_large ((a0, ()), ()).2) = M_turnoutlaw18_large n a0 := by kernel_rfl
theorem g_turnoutlaw18_large (n : Nat) (a0 : (List NodeS)) {r : Res} (h : M_turnoutlaw18_large n a0 = some r) : runF Try.prog cf_turnoutlaw18_large n p_turnoutlaw18_large 24 (EK.encs e_turnoutlaw18_large ((a0, ()), ()).1) (HK.encs h_turnoutlaw18_large ((a0, ()), ()).2) = some r := by
  have hb : LOk Try.prog cf_turnoutlaw18_large Try.f24.ntmps 0 n p_turnoutlaw18_large (ls_turnoutlaw18_large n) (bodyOf Try.f24) := ⟨trivial, ⟨trivial, ⟨⟨trivial, (o_turnoutlaw18_large_0 n)⟩, ⟨trivial, trivial⟩⟩⟩⟩
  exact runFT_some Try.prog (c := bodyOf Try.f24) Try.func24 (show Try.f24.body = some (bodyOf Try.f24) from rfl) (show (1 : Nat) ≤ 27 by decide) hb ((m_turnoutlaw18_large n a0).trans h) rfl (by kernel_rfl)
noncomputable def c_turnoutlaw18_large : Spec := specQ e_turnoutlaw18_large h_turnoutlaw18_large ro_turnoutlaw18_large rh_turnoutlaw18_large fun a b => Q_turnoutlaw18_large a.1
theorem k_turnoutlaw18_large (hm : Try.prog.follows .mixedOrders = true) : SpecOk Try.prog 24 c_turnoutlaw18_large := specQ_ok (pol := p_turnoutlaw18_large) hm (cf := cf_turnoutlaw18_large) (tab_ok specs_nil) fun a b r h => ⟨FUEL, g_turnoutlaw18_large FUEL a.1 (decRes_some h)⟩
def s_buf_Buf_Textx455_r : Sig := ⟨[2], [.ty .str], [.one false [.hs 1 0], .row (.int .u8)]⟩
def p_buf_Buf_Textx455 : Pol := ⟨fun i => none, fun i => none, some [(2, .keep)], [.keep], []⟩
def e_buf_Buf_Textx455 : List EK := [.ptr 0 0 0]
def h_buf_Buf_Textx455 : List HK := [.one false [.hs 1 0], .row (.int .u8)]
noncomputable def cf_buf_Buf_Textx455 : CallF := mkCF [] []
noncomputable def ls_buf_Buf_Textx455 (n : Nat) : Loops := fun i =>  none
theorem m_buf_Buf_Textx455 (n : Nat) (a0 : Nat) (a1 : (List Int)) : runFT Try.prog cf_buf_Buf_Textx455 p_buf_Buf_Textx455 (ls_buf_Buf_Textx455 n) Try.f52 (bodyOf Try.f52) (EK.encs e_buf_Buf_Textx455 (((), ()), ((a0, ()), (a1, ()))).1) (HK.encs h_buf_Buf_Textx455 (((), ()), ((a0, ()), (a1, ()))).2) = M_buf_Buf_Textx455 n a0 a1 := by kernel_rfl
theorem g_buf_Buf_Textx455 (n : Nat) (a0 : Nat) (a1 : (List Int)) {r : Res} (h : M_buf_Buf_Textx455 n a0 a1 = some r) : runF Try.prog cf_buf_Buf_Textx455 n p_buf_Buf_Textx455 52 (EK.encs e_buf_Buf_Textx455 (((), ()), ((a0, ()), (a1, ()))).1) (HK.encs h_buf_Buf_Textx455 (((), ()), ((a0, ()), (a1, ()))).2) = some r := by
  have hb : LOk Try.prog cf_buf_Buf_Textx455 Try.f52.ntmps 2 n p_buf_Buf_Textx455 (ls_buf_Buf_Textx455 n) (bodyOf Try.f52) := ⟨trivial, ⟨⟨trivial, ⟨⟨trivial, trivial⟩, trivial⟩⟩, ⟨trivial, trivial⟩⟩⟩
  exact runFT_some Try.prog (c := bodyOf Try.f52) Try.func52 (show Try.f52.body = some (bodyOf Try.f52) from rfl) (show (1 : Nat) ≤ 10 by decide) hb ((m_buf_Buf_Textx455 n a0 a1).trans h) rfl (by kernel_rfl)
noncomputable def c_buf_Buf_Textx455 : Spec := specQ e_buf_Buf_Textx455 h_buf_Buf_Textx455 ro_buf_Buf_Textx455 rh_buf_Buf_Textx455 fun a b => Q_buf_Buf_Textx455 b.1.1 b.2.1
theorem k_buf_Buf_Textx455 (hm : Try.prog.follows .mixedOrders = true) : SpecOk Try.prog 52 c_buf_Buf_Textx455 := specQ_ok (pol := p_buf_Buf_Textx455) hm (cf := cf_buf_Buf_Textx455) (tab_ok specs_nil) fun a b r h => ⟨FUEL, g_buf_Buf_Textx455 FUEL b.1.1 b.2.1 (decRes_some h)⟩
def s_pack_Packet_Textx626_r : Sig := ⟨[2], [.ty .str], [.one false [.ptr 1 0 0, .nul 4, .ptr 3 0 0, .ty (.int .i64)], .one false [.hs 2 0], .row (.int .u8), .one false [.hs 4 0], .row (.int .u8)]⟩
def p_pack_Packet_Textx626 : Pol := ⟨fun i => none, fun i => none, some [(2, .keep)], [.keep], []⟩
def e_pack_Packet_Textx626 : List EK := [.ptr 0 0 0]
def h_pack_Packet_Textx626 : List HK := [.one false [.ptr 1 0 0, .nul 4, .ptr 3 0 0, .ty (.int .i64)], .one false [.hs 2 0], .row (.int .u8), .one false [.hs 4 0], .row (.int .u8)]
noncomputable def cf_pack_Packet_Textx626 : CallF := mkCF [(52, c_buf_Buf_Textx455)] []
noncomputable def ls_pack_Packet_Textx626 (n : Nat) : Loops := fun i =>  none
theorem m_pack_Packet_Textx626 (n : Nat) (a0 : Int) (a1 : Nat) (a2 : (List Int)) (a3 : Nat) (a4 : (List Int)) : runFT Try.prog cf_pack_Packet_Textx626 p_pack_Packet_Textx626 (ls_pack_Packet_Textx626 n) Try.f29 (bodyOf Try.f29) (EK.encs e_pack_Packet_Textx626 (((), ()), (((), ((), ((), (a0, ())))), ((a1, ()), (a2, ((a3, ()), (a4, ())))))).1) (HK.encs h_pack_Packet_Textx626 (((), ()), (((), ((), ((), (a0, ())))), ((a1, ()), (a2, ((a3, ()), (a4, ())))))).2) = M_pack_Packet_Textx626 n a0 a1 a2 a3 a4 := by kernel_rfl
theorem g_pack_Packet_Textx626 (n : Nat) (a0 : Int) (a1 : Nat) (a2 : (List Int)) (a3 : Nat) (a4 : (List Int)) {r : Res} (h : M_pack_Packet_Textx626 n a0 a1 a2 a3 a4 = some r) : runF Try.prog cf_pack_Packet_Textx626 n p_pack_Packet_Textx626 29 (EK.encs e_pack_Packet_Textx626 (((), ()), (((), ((), ((), (a0, ())))), ((a1, ()), (a2, ((a3, ()), (a4, ())))))).1) (HK.encs h_pack_Packet_Textx626 (((), ()), (((), ((), ((), (a0, ())))), ((a1, ()), (a2, ((a3, ()), (a4, ())))))).2) = some r := by
  have hb : LOk Try.prog cf_pack_Packet_Textx626 Try.f29.ntmps 5 n p_pack_Packet_Textx626 (ls_pack_Packet_Textx626 n) (bodyOf Try.f29) := ⟨trivial, ⟨⟨trivial, ⟨⟨trivial, trivial⟩, trivial⟩⟩, ⟨trivial, trivial⟩⟩⟩
  exact runFT_some Try.prog (c := bodyOf Try.f29) Try.func29 (show Try.f29.body = some (bodyOf Try.f29) from rfl) (show (1 : Nat) ≤ 11 by decide) hb ((m_pack_Packet_Textx626 n a0 a1 a2 a3 a4).trans h) rfl (by kernel_rfl)
noncomputable def c_pack_Packet_Textx626 : Spec := specQ e_pack_Packet_Textx626 h_pack_Packet_Textx626 ro_pack_Packet_Textx626 rh_pack_Packet_Textx626 fun a b => Q_pack_Packet_Textx626 b.1.2.2.2.1 b.2.1.1 b.2.2.1 b.2.2.2.1.1 b.2.2.2.2.1
theorem k_pack_Packet_Textx626 (hm : Try.prog.follows .mixedOrders = true) : SpecOk Try.prog 29 c_pack_Packet_Textx626 := specQ_ok (pol := p_pack_Packet_Textx626) hm (cf := cf_pack_Packet_Textx626) (tab_ok (specs_cons (k_buf_Buf_Textx455 hm) specs_nil)) fun a b r h => ⟨FUEL, g_pack_Packet_Textx626 FUEL b.1.2.2.2.1 b.2.1.1 b.2.2.1 b.2.2.2.1.1 b.2.2.2.2.1 (decRes_some h)⟩
def s_graph_to_r : Sig := ⟨[2], [.ty .bool], []⟩
def p_graph_to : Pol := ⟨fun i => none, fun i => none, some [(2, .keep)], [.keep], []⟩
def e_graph_to : List EK := [.ty (.int .i64)]
def h_graph_to : List HK := []
noncomputable def cf_graph_to : CallF := mkCF [] []
noncomputable def ls_graph_to (n : Nat) : Loops := fun i =>  none
theorem m_graph_to (n : Nat) (a0 : Int) : runFT Try.prog cf_graph_to p_graph_to (ls_graph_to n) Try.f110 (bodyOf Try.f110) (EK.encs e_graph_to ((a0, ()), ()).1) (HK.encs h_graph_to ((a0, ()), ()).2) = M_graph_to n a0 := by kernel_rfl
theorem g_graph_to (n : Nat) (a0 : Int) {r : Res} (h : M_graph_to n a0 = some r) : runF Try.prog cf_graph_to n p_graph_to 110 (EK.encs e_graph_to ((a0, ()), ()).1) (HK.encs h_graph_to ((a0, ()), ()).2) = some r := by
  have hb : LOk Try.prog cf_graph_to Try.f110.ntmps 0 n p_graph_to (ls_graph_to n) (bodyOf Try.f110) := ⟨trivial, ⟨trivial, trivial⟩⟩
  exact runFT_some Try.prog (c := bodyOf Try.f110) Try.func110 (show Try.f110.body = some (bodyOf Try.f110) from rfl) (show (1 : Nat) ≤ 9 by decide) hb ((m_graph_to n a0).trans h) rfl (by kernel_rfl)
noncomputable def c_graph_to : Spec := specQ e_graph_to h_graph_to ro_graph_to rh_graph_to fun a b => Q_graph_to a.1
theorem k_graph_to (hm : Try.prog.follows .mixedOrders = true) : SpecOk Try.prog 110 c_graph_to := specQ_ok (pol := p_graph_to) hm (cf := cf_graph_to) (tab_ok specs_nil) fun a b r h => ⟨FUEL, g_graph_to FUEL a.1 (decRes_some h)⟩
def s_graph_span_may_r : Sig := ⟨[2], [.ty .bool], []⟩
def p_graph_span_may : Pol := ⟨fun i => none, fun i => none, some [(2, .keep)], [.keep], []⟩
def e_graph_span_may : List EK := [.agg SpanT]
def h_graph_span_may : List HK := []
noncomputable def cf_graph_span_may : CallF := mkCF [] []
noncomputable def ls_graph_span_may (n : Nat) : Loops := fun i =>  none
theorem m_graph_span_may (n : Nat) (a0 : SpanS) : runFT Try.prog cf_graph_span_may p_graph_span_may (ls_graph_span_may n) Try.f111 (bodyOf Try.f111) (EK.encs e_graph_span_may ((a0, ()), ()).1) (HK.encs h_graph_span_may ((a0, ()), ()).2) = M_graph_span_may n a0 := by kernel_rfl
theorem g_graph_span_may (n : Nat) (a0 : SpanS) {r : Res} (h : M_graph_span_may n a0 = some r) : runF Try.prog cf_graph_span_may n p_graph_span_may 111 (EK.encs e_graph_span_may ((a0, ()), ()).1) (HK.encs h_graph_span_may ((a0, ()), ()).2) = some r := by
  have hb : LOk Try.prog cf_graph_span_may Try.f111.ntmps 0 n p_graph_span_may (ls_graph_span_may n) (bodyOf Try.f111) := ⟨trivial, ⟨⟨trivial, ⟨⟨trivial, trivial⟩, trivial⟩⟩, ⟨trivial, trivial⟩⟩⟩
  exact runFT_some Try.prog (c := bodyOf Try.f111) Try.func111 (show Try.f111.body = some (bodyOf Try.f111) from rfl) (show (1 : Nat) ≤ 29 by decide) hb ((m_graph_span_may n a0).trans h) rfl (by kernel_rfl)
noncomputable def c_graph_span_may : Spec := specQ e_graph_span_may h_graph_span_may ro_graph_span_may rh_graph_span_may fun a b => Q_graph_span_may a.1
theorem k_graph_span_may (hm : Try.prog.follows .mixedOrders = true) : SpecOk Try.prog 111 c_graph_span_may := specQ_ok (pol := p_graph_span_may) hm (cf := cf_graph_span_may) (tab_ok specs_nil) fun a b r h => ⟨FUEL, g_graph_span_may FUEL a.1 (decRes_some h)⟩
def s_graph_unit_r : Sig := ⟨[2], [.ty .bool], []⟩
def p_graph_unit : Pol := ⟨fun i => none, fun i => none, some [(2, .keep)], [.keep], []⟩
def e_graph_unit : List EK := [.agg NodeT]
def h_graph_unit : List HK := []
noncomputable def cf_graph_unit : CallF := mkCF [] []
noncomputable def ls_graph_unit (n : Nat) : Loops := fun i =>  none
theorem m_graph_unit (n : Nat) (a0 : NodeS) : runFT Try.prog cf_graph_unit p_graph_unit (ls_graph_unit n) Try.f112 (bodyOf Try.f112) (EK.encs e_graph_unit ((a0, ()), ()).1) (HK.encs h_graph_unit ((a0, ()), ()).2) = M_graph_unit n a0 := by kernel_rfl
theorem g_graph_unit (n : Nat) (a0 : NodeS) {r : Res} (h : M_graph_unit n a0 = some r) : runF Try.prog cf_graph_unit n p_graph_unit 112 (EK.encs e_graph_unit ((a0, ()), ()).1) (HK.encs h_graph_unit ((a0, ()), ()).2) = some r := by
  have hb : LOk Try.prog cf_graph_unit Try.f112.ntmps 0 n p_graph_unit (ls_graph_unit n) (bodyOf Try.f112) := ⟨trivial, ⟨⟨trivial, ⟨⟨trivial, trivial⟩, trivial⟩⟩, ⟨trivial, trivial⟩⟩⟩
  exact runFT_some Try.prog (c := bodyOf Try.f112) Try.func112 (show Try.f112.body = some (bodyOf Try.f112) from rfl) (show (1 : Nat) ≤ 17 by decide) hb ((m_graph_unit n a0).trans h) rfl (by kernel_rfl)
noncomputable def c_graph_unit : Spec := specQ e_graph_unit h_graph_unit ro_graph_unit rh_graph_unit fun a b => Q_graph_unit a.1
theorem k_graph_unit (hm : Try.prog.follows .mixedOrders = true) : SpecOk Try.prog 112 c_graph_unit := specQ_ok (pol := p_graph_unit) hm (cf := cf_graph_unit) (tab_ok specs_nil) fun a b r h => ⟨FUEL, g_graph_unit FUEL a.1 (decRes_some h)⟩
def s_graph_Form_r : Sig := ⟨[2], [.ty .bool], []⟩
def s_graph_Form_h0 : Sig := ⟨[1, 57, 58, 59], [.ptr 0 0 0, .ty (.slice ArmT), .ty (.int .i64), .ty (.int .i64)], [.cell NodeT]⟩
def s_graph_Form_t0 : Sig := ⟨[], [], []⟩
def p_graph_Form : Pol := ⟨fun i => if i = 0 then some [(1, (.own NodeT)), (57, .keep), (58, .keep), (59, .keep)] else none, fun i => if i = 0 then some [] else none, some [(2, .keep)], [.keep], []⟩
def e_graph_Form : List EK := [.agg NodeT]
def h_graph_Form : List HK := []
noncomputable def cf_graph_Form : CallF := mkCF [(110, c_graph_to), (111, c_graph_span_may), (112, c_graph_unit)] [(110, [(.int .i64)]), (111, [SpanT]), (112, [NodeT])]
noncomputable def ls_graph_Form (n : Nat) : Loops := fun i => if i = 0 then some (loopT 0 (p_graph_Form.head 0) s_graph_Form_h0 fun K v => L_graph_Form_0 n (fun z0 => K .rt (s_graph_Form_r.enc ((z0, ()), ()))) (fun _ => K (.ex 0) (s_graph_Form_t0.enc ((), ()))) v.1.2.1 v.1.2.2.1 v.2.1 n v.1.2.2.2.1)
  else  none
noncomputable def b_graph_Form_0 : Code := partOf (bodyOf Try.f104) [1, 1, 1, 0, 1, 0, 0]
theorem t_graph_Form_0 (n : Nat) (K : Cont) (rec : Sig.sem s_graph_Form_h0 → Option Res) (v : Sig.sem s_graph_Form_h0) : runT Try.prog cf_graph_Form Try.f104.ntmps 0 p_graph_Form (ls_graph_Form n) b_graph_Form_0 (s_graph_Form_h0.enc v) (turnK 0 (p_graph_Form.head 0) s_graph_Form_h0 rec K) = F_graph_Form_0 n (fun z0 => K .rt (s_graph_Form_r.enc ((z0, ()), ()))) (fun _ => K (.ex 0) (s_graph_Form_t0.enc ((), ()))) v.1.2.1 v.1.2.2.1 v.2.1 (fun z2 => rec (((), (v.1.2.1, (v.1.2.2.1, (z2, ())))), (v.2.1, ()))) v.1.2.2.2.1 := by kernel_rfl
noncomputable def V_graph_Form_0 (n : Nat) (K : Cont) (rec : Sig.sem s_graph_Form_h0 → Option Res) (v : Sig.sem s_graph_Form_h0) : Option Res := F_graph_Form_0 n (fun z0 => K .rt (s_graph_Form_r.enc ((z0, ()), ()))) (fun _ => K (.ex 0) (s_graph_Form_t0.enc ((), ()))) v.1.2.1 v.1.2.2.1 v.2.1 (fun z2 => rec (((), (v.1.2.1, (v.1.2.2.1, (z2, ())))), (v.2.1, ()))) v.1.2.2.2.1
noncomputable def W_graph_Form_0 (n : Nat) (K : Cont) (m : Nat) (v : Sig.sem s_graph_Form_h0) : Option Res := L_graph_Form_0 n (fun z0 => K .rt (s_graph_Form_r.enc ((z0, ()), ()))) (fun _ => K (.ex 0) (s_graph_Form_t0.enc ((), ()))) v.1.2.1 v.1.2.2.1 v.2.1 m v.1.2.2.2.1
theorem i_graph_Form_0 (n : Nat) (K : Cont) : ∀ m v, iter (V_graph_Form_0 n K) m v = W_graph_Form_0 n K m v := by
  intro m
  induction m with
  | zero => intro v; rfl
  | succ m ih =>
    intro v
    show V_graph_Form_0 n K (iter (V_graph_Form_0 n K) m) v = V_graph_Form_0 n K (W_graph_Form_0 n K m) v
    rw [show iter (V_graph_Form_0 n K) m = W_graph_Form_0 n K m from funext ih]
theorem o_graph_Form_0 (n : Nat) : ∀ L, ls_graph_Form n 0 = some L → ∀ s K r, L s K = some r → ∃ x s', loopN (run Try.prog cf_graph_Form Try.f104.ntmps 0 n p_graph_Form none b_graph_Form_0) (gc 0 (p_graph_Form.head 0)) n s = some (x, s') ∧ K x s' = some r := by
  intro L hL s K r h
  have hL : some (loopT 0 (p_graph_Form.head 0) s_graph_Form_h0 fun K v => W_graph_Form_0 n K n v) = some L := hL
  cases hL
  have hb : LOk Try.prog cf_graph_Form Try.f104.ntmps 0 n p_graph_Form (ls_graph_Form n) b_graph_Form_0 := ⟨trivial, ⟨⟨trivial, trivial⟩, ⟨⟨trivial, ⟨trivial, ⟨⟨trivial, trivial⟩, trivial⟩⟩⟩, trivial⟩⟩⟩
  refine loopT_ok hb (V_graph_Form_0 n) (t_graph_Form_0 n) n s K r ?_
  rw [← h]
  unfold loopT
  simp only [i_graph_Form_0]
theorem m_graph_Form (n : Nat) (a0 : NodeS) : runFT Try.prog cf_graph_Form p_graph_Form (ls_graph_Form n) Try.f104 (bodyOf Try.f104) (EK.encs e_graph_Form ((a0, ()), ()).1) (HK.encs h_graph_Form ((a0, ()), ()).2) = M_graph_Form n a0 := by kernel_rfl
theorem g_graph_Form (n : Nat) (a0 : NodeS) {r : Res} (h : M_graph_Form n a0 = some r) : runF Try.prog cf_graph_Form n p_graph_Form 104 (EK.encs e_graph_Form ((a0, ()), ()).1) (HK.encs h_graph_Form ((a0, ()), ()).2) = some r := by
  have hb : LOk Try.prog cf_graph_Form Try.f104.ntmps 0 n p_graph_Form (ls_graph_Form n) (bodyOf Try.f104) := ⟨trivial, ⟨⟨trivial, ⟨⟨trivial, trivial⟩, trivial⟩⟩, ⟨⟨trivial, ⟨⟨trivial, trivial⟩, trivial⟩⟩, ⟨⟨trivial, (o_graph_Form_0 n)⟩, ⟨trivial, trivial⟩⟩⟩⟩⟩
  exact runFT_some Try.prog (c := bodyOf Try.f104) Try.func104 (show Try.f104.body = some (bodyOf Try.f104) from rfl) (show (1 : Nat) ≤ 99 by decide) hb ((m_graph_Form n a0).trans h) rfl (by kernel_rfl)
noncomputable def c_graph_Form : Spec := specQ e_graph_Form h_graph_Form ro_graph_Form rh_graph_Form fun a b => Q_graph_Form a.1
theorem k_graph_Form (hm : Try.prog.follows .mixedOrders = true) : SpecOk Try.prog 104 c_graph_Form := specQ_ok (pol := p_graph_Form) hm (cf := cf_graph_Form) (tab_ok (specs_cons (k_graph_to hm) (specs_cons (k_graph_span_may hm) (specs_cons (k_graph_unit hm) specs_nil)))) fun a b r h => ⟨FUEL, g_graph_Form FUEL a.1 (decRes_some h)⟩
def s_graph_form_h0 : Sig := ⟨[0, 5, 6, 7], [.ty (.slice NodeT), .ty (.slice NodeT), .ty (.int .i64), .ty (.int .i64)], []⟩
def s_graph_form_r : Sig := ⟨[2], [.ty .bool], []⟩
def s_graph_form_t0 : Sig := ⟨[], [], []⟩
def p_graph_form : Pol := ⟨fun i => if i = 0 then some [(0, .keep), (5, .keep), (6, .keep), (7, .keep)] else none, fun i => if i = 0 then some [] else none, some [(2, .keep)], [.keep], []⟩
def e_graph_form : List EK := [.ty (.slice NodeT)]
def h_graph_form : List HK := []
noncomputable def cf_graph_form : CallF := mkCF [(104, c_graph_Form)] [(104, [NodeT])]
noncomputable def ls_graph_form (n : Nat) : Loops := fun i => if i = 0 then some (loopT 0 (p_graph_form.head 0) s_graph_form_h0 fun K v => L_graph_form_0 n (fun z0 => K .rt (s_graph_form_r.enc ((z0, ()), ()))) (fun _ => K (.ex 0) (s_graph_form_t0.enc ((), ()))) v.1.1 v.1.2.1 v.1.2.2.1 n v.1.2.2.2.1)
  else  none
noncomputable def b_graph_form_0 : Code := partOf (bodyOf Try.f92) [1, 0, 1, 0, 0]
theorem t_graph_form_0 (n : Nat) (K : Cont) (rec : Sig.sem s_graph_form_h0 → Option Res) (v : Sig.sem s_graph_form_h0) : runT Try.prog cf_graph_form Try.f92.ntmps 0 p_graph_form (ls_graph_form n) b_graph_form_0 (s_graph_form_h0.enc v) (turnK 0 (p_graph_form.head 0) s_graph_form_h0 rec K) = F_graph_form_0 n (fun z0 => K .rt (s_graph_form_r.enc ((z0, ()), ()))) (fun _ => K (.ex 0) (s_graph_form_t0.enc ((), ()))) v.1.1 v.1.2.1 v.1.2.2.1 (fun z3 => rec ((v.1.1, (v.1.2.1, (v.1.2.2.1, (z3, ())))), ())) v.1.2.2.2.1 := by kernel_rfl
noncomputable def V_graph_form_0 (n : Nat) (K : Cont) (rec : Sig.sem s_graph_form_h0 → Option Res) (v : Sig.sem s_graph_form_h0) : Option Res := F_graph_form_0 n (fun z0 => K .rt (s_graph_form_r.enc ((z0, ()), ()))) (fun _ => K (.ex 0) (s_graph_form_t0.enc ((), ()))) v.1.1 v.1.2.1 v.1.2.2.1 (fun z3 => rec ((v.1.1, (v.1.2.1, (v.1.2.2.1, (z3, ())))), ())) v.1.2.2.2.1
noncomputable def W_graph_form_0 (n : Nat) (K : Cont) (m : Nat) (v : Sig.sem s_graph_form_h0) : Option Res := L_graph_form_0 n (fun z0 => K .rt (s_graph_form_r.enc ((z0, ()), ()))) (fun _ => K (.ex 0) (s_graph_form_t0.enc ((), ()))) v.1.1 v.1.2.1 v.1.2.2.1 m v.1.2.2.2.1
theorem i_graph_form_0 (n : Nat) (K : Cont) : ∀ m v, iter (V_graph_form_0 n K) m v = W_graph_form_0 n K m v := by
  intro m
  induction m with
  | zero => intro v; rfl
  | succ m ih =>
    intro v
    show V_graph_form_0 n K (iter (V_graph_form_0 n K) m) v = V_graph_form_0 n K (W_graph_form_0 n K m) v
    rw [show iter (V_graph_form_0 n K) m = W_graph_form_0 n K m from funext ih]
theorem o_graph_form_0 (n : Nat) : ∀ L, ls_graph_form n 0 = some L → ∀ s K r, L s K = some r → ∃ x s', loopN (run Try.prog cf_graph_form Try.f92.ntmps 0 n p_graph_form none b_graph_form_0) (gc 0 (p_graph_form.head 0)) n s = some (x, s') ∧ K x s' = some r := by
  intro L hL s K r h
  have hL : some (loopT 0 (p_graph_form.head 0) s_graph_form_h0 fun K v => W_graph_form_0 n K n v) = some L := hL
  cases hL
  have hb : LOk Try.prog cf_graph_form Try.f92.ntmps 0 n p_graph_form (ls_graph_form n) b_graph_form_0 := ⟨trivial, ⟨⟨trivial, trivial⟩, ⟨⟨trivial, ⟨trivial, ⟨⟨trivial, trivial⟩, trivial⟩⟩⟩, trivial⟩⟩⟩
  refine loopT_ok hb (V_graph_form_0 n) (t_graph_form_0 n) n s K r ?_
  rw [← h]
  unfold loopT
  simp only [i_graph_form_0]
theorem m_graph_form (n : Nat) (a0 : (List NodeS)) : runFT Try.prog cf_graph_form p_graph_form (ls_graph_form n) Try.f92 (bodyOf Try.f92) (EK.encs e_graph_form ((a0, ()), ()).1) (HK.encs h_graph_form ((a0, ()), ()).2) = M_graph_form n a0 := by kernel_rfl
theorem g_graph_form (n : Nat) (a0 : (List NodeS)) {r : Res} (h : M_graph_form n a0 = some r) : runF Try.prog cf_graph_form n p_graph_form 92 (EK.encs e_graph_form ((a0, ()), ()).1) (HK.encs h_graph_form ((a0, ()), ()).2) = some r := by
  have hb : LOk Try.prog cf_graph_form Try.f92.ntmps 0 n p_graph_form (ls_graph_form n) (bodyOf Try.f92) := ⟨trivial, ⟨⟨trivial, (o_graph_form_0 n)⟩, ⟨trivial, trivial⟩⟩⟩
  exact runFT_some Try.prog (c := bodyOf Try.f92) Try.func92 (show Try.f92.body = some (bodyOf Try.f92) from rfl) (show (1 : Nat) ≤ 31 by decide) hb ((m_graph_form n a0).trans h) rfl (by kernel_rfl)
noncomputable def c_graph_form : Spec := specQ e_graph_form h_graph_form ro_graph_form rh_graph_form fun a b => Q_graph_form a.1
theorem k_graph_form (hm : Try.prog.follows .mixedOrders = true) : SpecOk Try.prog 92 c_graph_form := specQ_ok (pol := p_graph_form) hm (cf := cf_graph_form) (tab_ok (specs_cons (k_graph_Form hm) specs_nil)) fun a b r h => ⟨FUEL, g_graph_form FUEL a.1 (decRes_some h)⟩
def s_graph_goes_h0 : Sig := ⟨[3, 10, 11, 12], [.hs 0 0, .ty (.slice ArmT), .ty (.int .i64), .ty (.int .i64)], [.row (.int .i64)]⟩
def s_graph_goes_t0 : Sig := ⟨[3], [.hs 0 0], [.row (.int .i64)]⟩
def s_graph_goes_r : Sig := ⟨[2], [.hs 0 0], [.row (.int .i64)]⟩
def p_graph_goes : Pol := ⟨fun i => if i = 0 then some [(3, (.own (.int .i64))), (10, .keep), (11, .keep), (12, .keep)] else none, fun i => if i = 0 then some [(3, (.own (.int .i64)))] else none, some [(2, (.own (.int .i64)))], [(.own (.int .i64))], []⟩
def e_graph_goes : List EK := [.agg NodeT]
def h_graph_goes : List HK := []
noncomputable def cf_graph_goes : CallF := mkCF [] []
noncomputable def ls_graph_goes (n : Nat) : Loops := fun i => if i = 0 then some (loopT 0 (p_graph_goes.head 0) s_graph_goes_h0 fun K v => L_graph_goes_0 n (fun z0 z1 => K (.ex 0) (s_graph_goes_t0.enc ((z0, ()), (z1, ())))) v.1.2.1 v.1.2.2.1 n v.1.1 v.1.2.2.2.1 v.2.1)
  else  none
noncomputable def b_graph_goes_0 : Code := partOf (bodyOf Try.f105) [1, 1, 0, 1, 0, 0]
theorem t_graph_goes_0 (n : Nat) (K : Cont) (rec : Sig.sem s_graph_goes_h0 → Option Res) (v : Sig.sem s_graph_goes_h0) : runT Try.prog cf_graph_goes Try.f105.ntmps 0 p_graph_goes (ls_graph_goes n) b_graph_goes_0 (s_graph_goes_h0.enc v) (turnK 0 (p_graph_goes.head 0) s_graph_goes_h0 rec K) = F_graph_goes_0 n (fun z0 z1 => K (.ex 0) (s_graph_goes_t0.enc ((z0, ()), (z1, ())))) v.1.2.1 v.1.2.2.1 (fun z0 z3 z4 => rec ((z0, (v.1.2.1, (v.1.2.2.1, (z3, ())))), (z4, ()))) v.1.1 v.1.2.2.2.1 v.2.1 := by kernel_rfl
noncomputable def V_graph_goes_0 (n : Nat) (K : Cont) (rec : Sig.sem s_graph_goes_h0 → Option Res) (v : Sig.sem s_graph_goes_h0) : Option Res := F_graph_goes_0 n (fun z0 z1 => K (.ex 0) (s_graph_goes_t0.enc ((z0, ()), (z1, ())))) v.1.2.1 v.1.2.2.1 (fun z0 z3 z4 => rec ((z0, (v.1.2.1, (v.1.2.2.1, (z3, ())))), (z4, ()))) v.1.1 v.1.2.2.2.1 v.2.1
noncomputable def W_graph_goes_0 (n : Nat) (K : Cont) (m : Nat) (v : Sig.sem s_graph_goes_h0) : Option Res := L_graph_goes_0 n (fun z0 z1 => K (.ex 0) (s_graph_goes_t0.enc ((z0, ()), (z1, ())))) v.1.2.1 v.1.2.2.1 m v.1.1 v.1.2.2.2.1 v.2.1
theorem i_graph_goes_0 (n : Nat) (K : Cont) : ∀ m v, iter (V_graph_goes_0 n K) m v = W_graph_goes_0 n K m v := by
  intro m
  induction m with
  | zero => intro v; rfl
  | succ m ih =>
    intro v
    show V_graph_goes_0 n K (iter (V_graph_goes_0 n K) m) v = V_graph_goes_0 n K (W_graph_goes_0 n K m) v
    rw [show iter (V_graph_goes_0 n K) m = W_graph_goes_0 n K m from funext ih]
theorem o_graph_goes_0 (n : Nat) : ∀ L, ls_graph_goes n 0 = some L → ∀ s K r, L s K = some r → ∃ x s', loopN (run Try.prog cf_graph_goes Try.f105.ntmps 0 n p_graph_goes none b_graph_goes_0) (gc 0 (p_graph_goes.head 0)) n s = some (x, s') ∧ K x s' = some r := by
  intro L hL s K r h
  have hL : some (loopT 0 (p_graph_goes.head 0) s_graph_goes_h0 fun K v => W_graph_goes_0 n K n v) = some L := hL
  cases hL
  have hb : LOk Try.prog cf_graph_goes Try.f105.ntmps 0 n p_graph_goes (ls_graph_goes n) b_graph_goes_0 := ⟨trivial, ⟨⟨trivial, trivial⟩, ⟨⟨trivial, trivial⟩, trivial⟩⟩⟩
  refine loopT_ok hb (V_graph_goes_0 n) (t_graph_goes_0 n) n s K r ?_
  rw [← h]
  unfold loopT
  simp only [i_graph_goes_0]
theorem m_graph_goes (n : Nat) (a0 : NodeS) : runFT Try.prog cf_graph_goes p_graph_goes (ls_graph_goes n) Try.f105 (bodyOf Try.f105) (EK.encs e_graph_goes ((a0, ()), ()).1) (HK.encs h_graph_goes ((a0, ()), ()).2) = M_graph_goes n a0 := by kernel_rfl
theorem g_graph_goes (n : Nat) (a0 : NodeS) {r : Res} (h : M_graph_goes n a0 = some r) : runF Try.prog cf_graph_goes n p_graph_goes 105 (EK.encs e_graph_goes ((a0, ()), ()).1) (HK.encs h_graph_goes ((a0, ()), ()).2) = some r := by
  have hb : LOk Try.prog cf_graph_goes Try.f105.ntmps 0 n p_graph_goes (ls_graph_goes n) (bodyOf Try.f105) := ⟨trivial, ⟨trivial, ⟨⟨trivial, (o_graph_goes_0 n)⟩, ⟨trivial, trivial⟩⟩⟩⟩
  exact runFT_some Try.prog (c := bodyOf Try.f105) Try.func105 (show Try.f105.body = some (bodyOf Try.f105) from rfl) (show (1 : Nat) ≤ 23 by decide) hb ((m_graph_goes n a0).trans h) rfl (by kernel_rfl)
noncomputable def c_graph_goes : Spec := specQ e_graph_goes h_graph_goes ro_graph_goes rh_graph_goes fun a b => Q_graph_goes a.1
theorem k_graph_goes (hm : Try.prog.follows .mixedOrders = true) : SpecOk Try.prog 105 c_graph_goes := specQ_ok (pol := p_graph_goes) hm (cf := cf_graph_goes) (tab_ok specs_nil) fun a b r h => ⟨FUEL, g_graph_goes FUEL a.1 (decRes_some h)⟩
def s_graph_Find_h0 : Sig := ⟨[1, 4, 8, 9, 10], [.ty (.int .i64), .ptr 0 0 0, .ty (.slice NodeT), .ty (.int .i64), .ty (.int .i64)], [.cell NodeT]⟩
def s_graph_Find_r : Sig := ⟨[4, 5], [.ptr 0 0 0, .ty .bool], [.cell NodeT]⟩
def s_graph_Find_t0 : Sig := ⟨[4], [.ptr 0 0 0], [.cell NodeT]⟩
def p_graph_Find : Pol := ⟨fun i => if i = 0 then some [(1, .keep), (4, (.own NodeT)), (8, .keep), (9, .keep), (10, .keep)] else none, fun i => if i = 0 then some [(4, (.own NodeT))] else none, some [(4, (.own NodeT)), (5, .keep)], [.keep, .keep], []⟩
def e_graph_Find : List EK := [.ty (.slice NodeT), .ty (.int .i64)]
def h_graph_Find : List HK := []
noncomputable def cf_graph_Find : CallF := mkCF [] []
noncomputable def ls_graph_Find (n : Nat) : Loops := fun i => if i = 0 then some (loopT 0 (p_graph_Find.head 0) s_graph_Find_h0 fun K v => L_graph_Find_0 n (fun z0 z1 => K .rt (s_graph_Find_r.enc (((), (z0, ())), (z1, ())))) (fun _ => K (.ex 0) (s_graph_Find_t0.enc (((), ()), (v.2.1, ())))) v.1.1 v.1.2.2.1 v.1.2.2.2.1 v.2.1 n v.1.2.2.2.2.1)
  else  none
noncomputable def b_graph_Find_0 : Code := partOf (bodyOf Try.f96) [1, 0, 1, 0, 0]
theorem t_graph_Find_0 (n : Nat) (K : Cont) (rec : Sig.sem s_graph_Find_h0 → Option Res) (v : Sig.sem s_graph_Find_h0) : runT Try.prog cf_graph_Find Try.f96.ntmps 0 p_graph_Find (ls_graph_Find n) b_graph_Find_0 (s_graph_Find_h0.enc v) (turnK 0 (p_graph_Find.head 0) s_graph_Find_h0 rec K) = F_graph_Find_0 n (fun z0 z1 => K .rt (s_graph_Find_r.enc (((), (z0, ())), (z1, ())))) (fun _ => K (.ex 0) (s_graph_Find_t0.enc (((), ()), (v.2.1, ())))) v.1.1 v.1.2.2.1 v.1.2.2.2.1 v.2.1 (fun z3 => rec ((v.1.1, ((), (v.1.2.2.1, (v.1.2.2.2.1, (z3, ()))))), (v.2.1, ()))) v.1.2.2.2.2.1 := by kernel_rfl
noncomputable def V_graph_Find_0 (n : Nat) (K : Cont) (rec : Sig.sem s_graph_Find_h0 → Option Res) (v : Sig.sem s_graph_Find_h0) : Option Res := F_graph_Find_0 n (fun z0 z1 => K .rt (s_graph_Find_r.enc (((), (z0, ())), (z1, ())))) (fun _ => K (.ex 0) (s_graph_Find_t0.enc (((), ()), (v.2.1, ())))) v.1.1 v.1.2.2.1 v.1.2.2.2.1 v.2.1 (fun z3 => rec ((v.1.1, ((), (v.1.2.2.1, (v.1.2.2.2.1, (z3, ()))))), (v.2.1, ()))) v.1.2.2.2.2.1
noncomputable def W_graph_Find_0 (n : Nat) (K : Cont) (m : Nat) (v : Sig.sem s_graph_Find_h0) : Option Res := L_graph_Find_0 n (fun z0 z1 => K .rt (s_graph_Find_r.enc (((), (z0, ())), (z1, ())))) (fun _ => K (.ex 0) (s_graph_Find_t0.enc (((), ()), (v.2.1, ())))) v.1.1 v.1.2.2.1 v.1.2.2.2.1 v.2.1 m v.1.2.2.2.2.1
theorem i_graph_Find_0 (n : Nat) (K : Cont) : ∀ m v, iter (V_graph_Find_0 n K) m v = W_graph_Find_0 n K m v := by
  intro m
  induction m with
  | zero => intro v; rfl
  | succ m ih =>
    intro v
    show V_graph_Find_0 n K (iter (V_graph_Find_0 n K) m) v = V_graph_Find_0 n K (W_graph_Find_0 n K m) v
    rw [show iter (V_graph_Find_0 n K) m = W_graph_Find_0 n K m from funext ih]
theorem o_graph_Find_0 (n : Nat) : ∀ L, ls_graph_Find n 0 = some L → ∀ s K r, L s K = some r → ∃ x s', loopN (run Try.prog cf_graph_Find Try.f96.ntmps 0 n p_graph_Find none b_graph_Find_0) (gc 0 (p_graph_Find.head 0)) n s = some (x, s') ∧ K x s' = some r := by
  intro L hL s K r h
  have hL : some (loopT 0 (p_graph_Find.head 0) s_graph_Find_h0 fun K v => W_graph_Find_0 n K n v) = some L := hL
  cases hL
  have hb : LOk Try.prog cf_graph_Find Try.f96.ntmps 0 n p_graph_Find (ls_graph_Find n) b_graph_Find_0 := ⟨trivial, ⟨⟨trivial, trivial⟩, ⟨⟨trivial, ⟨trivial, ⟨⟨trivial, trivial⟩, trivial⟩⟩⟩, trivial⟩⟩⟩
  refine loopT_ok hb (V_graph_Find_0 n) (t_graph_Find_0 n) n s K r ?_
  rw [← h]
  unfold loopT
  simp only [i_graph_Find_0]
theorem m_graph_Find (n : Nat) (a0 : (List NodeS)) (a1 : Int) : runFT Try.prog cf_graph_Find p_graph_Find (ls_graph_Find n) Try.f96 (bodyOf Try.f96) (EK.encs e_graph_Find ((a0, (a1, ())), ()).1) (HK.encs h_graph_Find ((a0, (a1, ())), ()).2) = M_graph_Find n a0 a1 := by kernel_rfl
theorem g_graph_Find (n : Nat) (a0 : (List NodeS)) (a1 : Int) {r : Res} (h : M_graph_Find n a0 a1 = some r) : runF Try.prog cf_graph_Find n p_graph_Find 96 (EK.encs e_graph_Find ((a0, (a1, ())), ()).1) (HK.encs h_graph_Find ((a0, (a1, ())), ()).2) = some r := by
  have hb : LOk Try.prog cf_graph_Find Try.f96.ntmps 0 n p_graph_Find (ls_graph_Find n) (bodyOf Try.f96) := ⟨trivial, ⟨⟨trivial, (o_graph_Find_0 n)⟩, ⟨trivial, trivial⟩⟩⟩
  exact runFT_some Try.prog (c := bodyOf Try.f96) Try.func96 (show Try.f96.body = some (bodyOf Try.f96) from rfl) (show (2 : Nat) ≤ 21 by decide) hb ((m_graph_Find n a0 a1).trans h) rfl (by kernel_rfl)
noncomputable def c_graph_Find : Spec := specQ e_graph_Find h_graph_Find ro_graph_Find rh_graph_Find fun a b => Q_graph_Find a.1 a.2.1
theorem k_graph_Find (hm : Try.prog.follows .mixedOrders = true) : SpecOk Try.prog 96 c_graph_Find := specQ_ok (pol := p_graph_Find) hm (cf := cf_graph_Find) (tab_ok specs_nil) fun a b r h => ⟨FUEL, g_graph_Find FUEL a.1 a.2.1 (decRes_some h)⟩
def s_graph_refs_h0 : Sig := ⟨[0, 9, 10, 11], [.ty (.slice NodeT), .ty (.slice NodeT), .ty (.int .i64), .ty (.int .i64)], []⟩
def s_graph_refs_h2 : Sig := ⟨[0, 9, 10, 11, 16, 17, 18], [.ty (.slice NodeT), .ty (.slice NodeT), .ty (.int .i64), .ty (.int .i64), .hs 0 0, .ty (.int .i64), .ty (.int .i64)], [.row (.int .i64)]⟩
def s_graph_refs_r : Sig := ⟨[2], [.ty .bool], []⟩
def s_graph_refs_t2 : Sig := ⟨[0, 9, 10, 11], [.ty (.slice NodeT), .ty (.slice NodeT), .ty (.int .i64), .ty (.int .i64)], []⟩
def s_graph_refs_t0 : Sig := ⟨[], [], []⟩
def p_graph_refs : Pol := ⟨fun i => if i = 0 then some [(0, .keep), (9, .keep), (10, .keep), (11, .keep)] else if i = 2 then some [(0, .keep), (9, .keep), (10, .keep), (11, .keep), (16, (.own (.int .i64))), (17, .keep), (18, .keep)] else none, fun i => if i = 2 then some [(0, .keep), (9, .keep), (10, .keep), (11, .keep)] else if i = 0 then some [] else none, some [(2, .keep)], [.keep], []⟩
def e_graph_refs : List EK := [.ty (.slice NodeT)]
def h_graph_refs : List HK := []
noncomputable def cf_graph_refs : CallF := mkCF [(105, c_graph_goes), (96, c_graph_Find)] [(105, [NodeT]), (96, [(.slice NodeT), (.int .i64)])]
noncomputable def ls_graph_refs (n : Nat) : Loops := fun i => if i = 2 then some (loopT 0 (p_graph_refs.head 2) s_graph_refs_h2 fun K v => L_graph_refs_2 n (fun z0 => K .rt (s_graph_refs_r.enc ((z0, ()), ()))) (fun _ => K (.ex 2) (s_graph_refs_t2.enc ((v.1.1, (v.1.2.1, (v.1.2.2.1, (v.1.2.2.2.1, ())))), ()))) v.1.1 v.1.2.1 v.1.2.2.1 v.1.2.2.2.1 v.1.2.2.2.2.1 v.1.2.2.2.2.2.1 v.2.1 n v.1.2.2.2.2.2.2.1)
  else if i = 0 then some (loopT 0 (p_graph_refs.head 0) s_graph_refs_h0 fun K v => L_graph_refs_0 n (fun z0 => K .rt (s_graph_refs_r.enc ((z0, ()), ()))) (fun _ => K (.ex 0) (s_graph_refs_t0.enc ((), ()))) v.1.1 v.1.2.1 v.1.2.2.1 n v.1.2.2.2.1)
  else  none
noncomputable def b_graph_refs_2 : Code := partOf (bodyOf Try.f93) [1, 0, 1, 0, 0, 1, 1, 0, 0, 1, 1, 0, 0]
theorem t_graph_refs_2 (n : Nat) (K : Cont) (rec : Sig.sem s_graph_refs_h2 → Option Res) (v : Sig.sem s_graph_refs_h2) : runT Try.prog cf_graph_refs Try.f93.ntmps 0 p_graph_refs (ls_graph_refs n) b_graph_refs_2 (s_graph_refs_h2.enc v) (turnK 0 (p_graph_refs.head 2) s_graph_refs_h2 rec K) = F_graph_refs_2 n (fun z0 => K .rt (s_graph_refs_r.enc ((z0, ()), ()))) (fun _ => K (.ex 2) (s_graph_refs_t2.enc ((v.1.1, (v.1.2.1, (v.1.2.2.1, (v.1.2.2.2.1, ())))), ()))) v.1.1 v.1.2.1 v.1.2.2.1 v.1.2.2.2.1 v.1.2.2.2.2.1 v.1.2.2.2.2.2.1 v.2.1 (fun z6 => rec ((v.1.1, (v.1.2.1, (v.1.2.2.1, (v.1.2.2.2.1, (v.1.2.2.2.2.1, (v.1.2.2.2.2.2.1, (z6, ()))))))), (v.2.1, ()))) v.1.2.2.2.2.2.2.1 := by kernel_rfl
noncomputable def V_graph_refs_2 (n : Nat) (K : Cont) (rec : Sig.sem s_graph_refs_h2 → Option Res) (v : Sig.sem s_graph_refs_h2) : Option Res := F_graph_refs_2 n (fun z0 => K .rt (s_graph_refs_r.enc ((z0, ()), ()))) (fun _ => K (.ex 2) (s_graph_refs_t2.enc ((v.1.1, (v.1.2.1, (v.1.2.2.1, (v.1.2.2.2.1, ())))), ()))) v.1.1 v.1.2.1 v.1.2.2.1 v.1.2.2.2.1 v.1.2.2.2.2.1 v.1.2.2.2.2.2.1 v.2.1 (fun z6 => rec ((v.1.1, (v.1.2.1, (v.1.2.2.1, (v.1.2.2.2.1, (v.1.2.2.2.2.1, (v.1.2.2.2.2.2.1, (z6, ()))))))), (v.2.1, ()))) v.1.2.2.2.2.2.2.1
noncomputable def W_graph_refs_2 (n : Nat) (K : Cont) (m : Nat) (v : Sig.sem s_graph_refs_h2) : Option Res := L_graph_refs_2 n (fun z0 => K .rt (s_graph_refs_r.enc ((z0, ()), ()))) (fun _ => K (.ex 2) (s_graph_refs_t2.enc ((v.1.1, (v.1.2.1, (v.1.2.2.1, (v.1.2.2.2.1, ())))), ()))) v.1.1 v.1.2.1 v.1.2.2.1 v.1.2.2.2.1 v.1.2.2.2.2.1 v.1.2.2.2.2.2.1 v.2.1 m v.1.2.2.2.2.2.2.1
theorem i_graph_refs_2 (n : Nat) (K : Cont) : ∀ m v, iter (V_graph_refs_2 n K) m v = W_graph_refs_2 n K m v := by
  intro m
  induction m with
  | zero => intro v; rfl
  | succ m ih =>
    intro v
    show V_graph_refs_2 n K (iter (V_graph_refs_2 n K) m) v = V_graph_refs_2 n K (W_graph_refs_2 n K m) v
    rw [show iter (V_graph_refs_2 n K) m = W_graph_refs_2 n K m from funext ih]
theorem o_graph_refs_2 (n : Nat) : ∀ L, ls_graph_refs n 2 = some L → ∀ s K r, L s K = some r → ∃ x s', loopN (run Try.prog cf_graph_refs Try.f93.ntmps 0 n p_graph_refs none b_graph_refs_2) (gc 0 (p_graph_refs.head 2)) n s = some (x, s') ∧ K x s' = some r := by
  intro L hL s K r h
  have hL : some (loopT 0 (p_graph_refs.head 2) s_graph_refs_h2 fun K v => W_graph_refs_2 n K n v) = some L := hL
  cases hL
  have hb : LOk Try.prog cf_graph_refs Try.f93.ntmps 0 n p_graph_refs (ls_graph_refs n) b_graph_refs_2 := ⟨trivial, ⟨⟨trivial, trivial⟩, ⟨⟨trivial, ⟨trivial, ⟨trivial, ⟨⟨trivial, trivial⟩, trivial⟩⟩⟩⟩, trivial⟩⟩⟩
  refine loopT_ok hb (V_graph_refs_2 n) (t_graph_refs_2 n) n s K r ?_
  rw [← h]
  unfold loopT
  simp only [i_graph_refs_2]
noncomputable def b_graph_refs_0 : Code := partOf (bodyOf Try.f93) [1, 0, 1, 0, 0]
theorem t_graph_refs_0 (n : Nat) (K : Cont) (rec : Sig.sem s_graph_refs_h0 → Option Res) (v : Sig.sem s_graph_refs_h0) : runT Try.prog cf_graph_refs Try.f93.ntmps 0 p_graph_refs (ls_graph_refs n) b_graph_refs_0 (s_graph_refs_h0.enc v) (turnK 0 (p_graph_refs.head 0) s_graph_refs_h0 rec K) = F_graph_refs_0 n (fun z0 => K .rt (s_graph_refs_r.enc ((z0, ()), ()))) (fun _ => K (.ex 0) (s_graph_refs_t0.enc ((), ()))) v.1.1 v.1.2.1 v.1.2.2.1 (fun z3 => rec ((v.1.1, (v.1.2.1, (v.1.2.2.1, (z3, ())))), ())) v.1.2.2.2.1 := by kernel_rfl
noncomputable def V_graph_refs_0 (n : Nat) (K : Cont) (rec : Sig.sem s_graph_refs_h0 → Option Res) (v : Sig.sem s_graph_refs_h0) : Option Res := F_graph_refs_0 n (fun z0 => K .rt (s_graph_refs_r.enc ((z0, ()), ()))) (fun _ => K (.ex 0) (s_graph_refs_t0.enc ((), ()))) v.1.1 v.1.2.1 v.1.2.2.1 (fun z3 => rec ((v.1.1, (v.1.2.1, (v.1.2.2.1, (z3, ())))), ())) v.1.2.2.2.1
noncomputable def W_graph_refs_0 (n : Nat) (K : Cont) (m : Nat) (v : Sig.sem s_graph_refs_h0) : Option Res := L_graph_refs_0 n (fun z0 => K .rt (s_graph_refs_r.enc ((z0, ()), ()))) (fun _ => K (.ex 0) (s_graph_refs_t0.enc ((), ()))) v.1.1 v.1.2.1 v.1.2.2.1 m v.1.2.2.2.1
theorem i_graph_refs_0 (n : Nat) (K : Cont) : ∀ m v, iter (V_graph_refs_0 n K) m v = W_graph_refs_0 n K m v := by
  intro m
  induction m with
  | zero => intro v; rfl
  | succ m ih =>
    intro v
    show V_graph_refs_0 n K (iter (V_graph_refs_0 n K) m) v = V_graph_refs_0 n K (W_graph_refs_0 n K m) v
    rw [show iter (V_graph_refs_0 n K) m = W_graph_refs_0 n K m from funext ih]
theorem o_graph_refs_0 (n : Nat) : ∀ L, ls_graph_refs n 0 = some L → ∀ s K r, L s K = some r → ∃ x s', loopN (run Try.prog cf_graph_refs Try.f93.ntmps 0 n p_graph_refs none b_graph_refs_0) (gc 0 (p_graph_refs.head 0)) n s = some (x, s') ∧ K x s' = some r := by
  intro L hL s K r h
  have hL : some (loopT 0 (p_graph_refs.head 0) s_graph_refs_h0 fun K v => W_graph_refs_0 n K n v) = some L := hL
  cases hL
  have hb : LOk Try.prog cf_graph_refs Try.f93.ntmps 0 n p_graph_refs (ls_graph_refs n) b_graph_refs_0 := ⟨trivial, ⟨⟨trivial, trivial⟩, ⟨⟨trivial, ⟨trivial, (o_graph_refs_2 n)⟩⟩, trivial⟩⟩⟩
  refine loopT_ok hb (V_graph_refs_0 n) (t_graph_refs_0 n) n s K r ?_
  rw [← h]
  unfold loopT
  simp only [i_graph_refs_0]
theorem m_graph_refs (n : Nat) (a0 : (List NodeS)) : runFT Try.prog cf_graph_refs p_graph_refs (ls_graph_refs n) Try.f93 (bodyOf Try.f93) (EK.encs e_graph_refs ((a0, ()), ()).1) (HK.encs h_graph_refs ((a0, ()), ()).2) = M_graph_refs n a0 := by kernel_rfl
theorem g_graph_refs (n : Nat) (a0 : (List NodeS)) {r : Res} (h : M_graph_refs n a0 = some r) : runF Try.prog cf_graph_refs n p_graph_refs 93 (EK.encs e_graph_refs ((a0, ()), ()).1) (HK.encs h_graph_refs ((a0, ()), ()).2) = some r := by
  have hb : LOk Try.prog cf_graph_refs Try.f93.ntmps 0 n p_graph_refs (ls_graph_refs n) (bodyOf Try.f93) := ⟨trivial, ⟨⟨trivial, (o_graph_refs_0 n)⟩, ⟨trivial, trivial⟩⟩⟩
  exact runFT_some Try.prog (c := bodyOf Try.f93) Try.func93 (show Try.f93.body = some (bodyOf Try.f93) from rfl) (show (1 : Nat) ≤ 40 by decide) hb ((m_graph_refs n a0).trans h) rfl (by kernel_rfl)
noncomputable def c_graph_refs : Spec := specQ e_graph_refs h_graph_refs ro_graph_refs rh_graph_refs fun a b => Q_graph_refs a.1
theorem k_graph_refs (hm : Try.prog.follows .mixedOrders = true) : SpecOk Try.prog 93 c_graph_refs := specQ_ok (pol := p_graph_refs) hm (cf := cf_graph_refs) (tab_ok (specs_cons (k_graph_goes hm) (specs_cons (k_graph_Find hm) specs_nil))) fun a b r h => ⟨FUEL, g_graph_refs FUEL a.1 (decRes_some h)⟩
def s_graph_longest_walk_r : Sig := ⟨[7], [.ty (.int .i64)], [.one true [.ty (.slice NodeT)], .one false [.mp 2], .mf (.int .i64) (.int .i64), .one true [.ty .bool], .one false [.mp 5], .mf (.int .i64) (.int .i64), .one false [.fn 106 [(0, 0, 0), (1, 0, 0), (3, 0, 0), (4, 0, 0), (6, 0, 0)]]]⟩
def s_graph_longest_walk_h1 : Sig := ⟨[0, 2, 4, 5, 10, 40, 41, 42], [.ty (.int .i64), .ptr 1 0 0, .ptr 4 0 0, .ptr 6 0 0, .ty (.int .i64), .hs 7 0, .ty (.int .i64), .ty (.int .i64)], [.one true [.ty (.slice NodeT)], .one false [.mp 2], .mf (.int .i64) (.int .i64), .one true [.ty .bool], .one false [.mp 5], .mf (.int .i64) (.int .i64), .one false [.fn 106 [(0, 0, 0), (1, 0, 0), (3, 0, 0), (4, 0, 0), (6, 0, 0)]], .row (.int .i64)]⟩
def s_graph_longest_walk_t1 : Sig := ⟨[0, 2, 4, 10], [.ty (.int .i64), .ptr 1 0 0, .ptr 4 0 0, .ty (.int .i64)], [.one true [.ty (.slice NodeT)], .one false [.mp 2], .mf (.int .i64) (.int .i64), .one true [.ty .bool], .one false [.mp 5], .mf (.int .i64) (.int .i64), .one false [.fn 106 [(0, 0, 0), (1, 0, 0), (3, 0, 0), (4, 0, 0), (6, 0, 0)]]]⟩
def p_graph_longest_walk : Pol := ⟨fun i => if i = 1 then some [(0, .keep), (2, .keep), (4, .keep), (5, .keep), (10, .keep), (40, (.own (.int .i64))), (41, .keep), (42, .keep)] else none, fun i => if i = 1 then some [(0, .keep), (2, .keep), (4, .keep), (10, .keep)] else none, some [(7, .keep)], [.keep], []⟩
def e_graph_longest_walk : List EK := [.ty (.int .i64), .ptr 0 0 0, .ptr 1 0 0, .ptr 3 0 0, .ptr 4 0 0, .ptr 6 0 0]
def h_graph_longest_walk : List HK := [.one true [.ty (.slice NodeT)], .one false [.mp 2], .mf (.int .i64) (.int .i64), .one true [.ty .bool], .one false [.mp 5], .mf (.int .i64) (.int .i64), .one false [.fn 106 [(0, 0, 0), (1, 0, 0), (3, 0, 0), (4, 0, 0), (6, 0, 0)]]]
noncomputable def cf_graph_longest_walk (qr_graph_longest_walk : Int → (List NodeS) → (Int → Option (Int)) → Bool → (Int → Option (Int)) → Option (RS ro_graph_longest_walk rh_graph_longest_walk)) : CallF := mkCF [(96, c_graph_Find), (105, c_graph_goes), (106, (specQ e_graph_longest_walk h_graph_longest_walk ro_graph_longest_walk rh_graph_longest_walk fun a b => qr_graph_longest_walk a.1 b.1.1 b.2.2.1 b.2.2.2.1.1 b.2.2.2.2.2.1))] [(96, [(.slice NodeT), (.int .i64)]), (105, [NodeT])]
noncomputable def ls_graph_longest_walk (n : Nat) (qr_graph_longest_walk : Int → (List NodeS) → (Int → Option (Int)) → Bool → (Int → Option (Int)) → Option (RS ro_graph_longest_walk rh_graph_longest_walk)) : Loops := fun i => if i = 1 then some (loopT 7 (p_graph_longest_walk.head 1) s_graph_longest_walk_h1 fun K v => L_graph_longest_walk_1 n qr_graph_longest_walk (fun z1 z2 z3 z4 z5 => K (.ex 1) (s_graph_longest_walk_t1.enc ((v.1.1, ((), ((), (z1, ())))), ((z2, ()), (((), ()), (z3, ((z4, ()), (((), ()), (z5, (((), ()), ())))))))))) v.1.1 v.1.2.2.2.2.2.1 v.1.2.2.2.2.2.2.1 v.2.2.2.2.2.2.2.2.1 n v.1.2.2.2.2.1 v.1.2.2.2.2.2.2.2.1 v.2.1.1 v.2.2.2.1 v.2.2.2.2.1.1 v.2.2.2.2.2.2.1)
  else  none
noncomputable def b_graph_longest_walk_1 : Code := partOf (bodyOf Try.f106) [1, 1, 1, 1, 1, 0, 1, 0, 0]
theorem t_graph_longest_walk_1 (qr_graph_longest_walk : Int → (List NodeS) → (Int → Option (Int)) → Bool → (Int → Option (Int)) → Option (RS ro_graph_longest_walk rh_graph_longest_walk)) (n : Nat) (K : Cont) (rec : Sig.sem s_graph_longest_walk_h1 → Option Res) (v : Sig.sem s_graph_longest_walk_h1) : runT Try.prog (cf_graph_longest_walk qr_graph_longest_walk) Try.f106.ntmps 7 p_graph_longest_walk (ls_graph_longest_walk n qr_graph_longest_walk) b_graph_longest_walk_1 (s_graph_longest_walk_h1.enc v) (turnK 7 (p_graph_longest_walk.head 1) s_graph_longest_walk_h1 rec K) = F_graph_longest_walk_1 n qr_graph_longest_walk (fun z1 z2 z3 z4 z5 => K (.ex 1) (s_graph_longest_walk_t1.enc ((v.1.1, ((), ((), (z1, ())))), ((z2, ()), (((), ()), (z3, ((z4, ()), (((), ()), (z5, (((), ()), ())))))))))) v.1.1 v.1.2.2.2.2.2.1 v.1.2.2.2.2.2.2.1 v.2.2.2.2.2.2.2.2.1 (fun z1 z4 z5 z6 z7 z8 => rec ((v.1.1, ((), ((), ((), (z1, (v.1.2.2.2.2.2.1, (v.1.2.2.2.2.2.2.1, (z4, ())))))))), ((z5, ()), (((), ()), (z6, ((z7, ()), (((), ()), (z8, (((), ()), (v.2.2.2.2.2.2.2.2.1, ())))))))))) v.1.2.2.2.2.1 v.1.2.2.2.2.2.2.2.1 v.2.1.1 v.2.2.2.1 v.2.2.2.2.1.1 v.2.2.2.2.2.2.1 := by kernel_rfl
noncomputable def V_graph_longest_walk_1 (qr_graph_longest_walk : Int → (List NodeS) → (Int → Option (Int)) → Bool → (Int → Option (Int)) → Option (RS ro_graph_longest_walk rh_graph_longest_walk)) (n : Nat) (K : Cont) (rec : Sig.sem s_graph_longest_walk_h1 → Option Res) (v : Sig.sem s_graph_longest_walk_h1) : Option Res := F_graph_longest_walk_1 n qr_graph_longest_walk (fun z1 z2 z3 z4 z5 => K (.ex 1) (s_graph_longest_walk_t1.enc ((v.1.1, ((), ((), (z1, ())))), ((z2, ()), (((), ()), (z3, ((z4, ()), (((), ()), (z5, (((), ()), ())))))))))) v.1.1 v.1.2.2.2.2.2.1 v.1.2.2.2.2.2.2.1 v.2.2.2.2.2.2.2.2.1 (fun z1 z4 z5 z6 z7 z8 => rec ((v.1.1, ((), ((), ((), (z1, (v.1.2.2.2.2.2.1, (v.1.2.2.2.2.2.2.1, (z4, ())))))))), ((z5, ()), (((), ()), (z6, ((z7, ()), (((), ()), (z8, (((), ()), (v.2.2.2.2.2.2.2.2.1, ())))))))))) v.1.2.2.2.2.1 v.1.2.2.2.2.2.2.2.1 v.2.1.1 v.2.2.2.1 v.2.2.2.2.1.1 v.2.2.2.2.2.2.1
noncomputable def W_graph_longest_walk_1 (qr_graph_longest_walk : Int → (List NodeS) → (Int → Option (Int)) → Bool → (Int → Option (Int)) → Option (RS ro_graph_longest_walk rh_graph_longest_walk)) (n : Nat) (K : Cont) (m : Nat) (v : Sig.sem s_graph_longest_walk_h1) : Option Res := L_graph_longest_walk_1 n qr_graph_longest_walk (fun z1 z2 z3 z4 z5 => K (.ex 1) (s_graph_longest_walk_t1.enc ((v.1.1, ((), ((), (z1, ())))), ((z2, ()), (((), ()), (z3, ((z4, ()), (((), ()), (z5, (((), ()), ())))))))))) v.1.1 v.1.2.2.2.2.2.1 v.1.2.2.2.2.2.2.1 v.2.2.2.2.2.2.2.2.1 m v.1.2.2.2.2.1 v.1.2.2.2.2.2.2.2.1 v.2.1.1 v.2.2.2.1 v.2.2.2.2.1.1 v.2.2.2.2.2.2.1
theorem i_graph_longest_walk_1 (qr_graph_longest_walk : Int → (List NodeS) → (Int → Option (Int)) → Bool → (Int → Option (Int)) → Option (RS ro_graph_longest_walk rh_graph_longest_walk)) (n : Nat) (K : Cont) : ∀ m v, iter (V_graph_longest_walk_1 qr_graph_longest_walk n K) m v = W_graph_longest_walk_1 qr_graph_longest_walk n K m v := by
  intro m
  induction m with
  | zero => intro v; rfl
  | succ m ih =>
    intro v
    show V_graph_longest_walk_1 qr_graph_longest_walk n K (iter (V_graph_longest_walk_1 qr_graph_longest_walk n K) m) v = V_graph_longest_walk_1 qr_graph_longest_walk n K (W_graph_longest_walk_1 qr_graph_longest_walk n K m) v
    rw [show iter (V_graph_longest_walk_1 qr_graph_longest_walk n K) m = W_graph_longest_walk_1 qr_graph_longest_walk n K m from funext ih]
theorem o_graph_longest_walk_1 (qr_graph_longest_walk : Int → (List NodeS) → (Int → Option (Int)) → Bool → (Int → Option (Int)) → Option (RS ro_graph_longest_walk rh_graph_longest_walk)) (n : Nat) : ∀ L, ls_graph_longest_walk n qr_graph_longest_walk 1 = some L → ∀ s K r, L s K = some r → ∃ x s', loopN (run Try.prog (cf_graph_longest_walk qr_graph_longest_walk) Try.f106.ntmps 7 n p_graph_longest_walk none b_graph_longest_walk_1) (gc 7 (p_graph_longest_walk.head 1)) n s = some (x, s') ∧ K x s' = some r := by
  intro L hL s K r h
  have hL : some (loopT 7 (p_graph_longest_walk.head 1) s_graph_longest_walk_h1 fun K v => W_graph_longest_walk_1 qr_graph_longest_walk n K n v) = some L := hL
  cases hL
  have hb : LOk Try.prog (cf_graph_longest_walk qr_graph_longest_walk) Try.f106.ntmps 7 n p_graph_longest_walk (ls_graph_longest_walk n qr_graph_longest_walk) b_graph_longest_walk_1 := ⟨trivial, ⟨⟨trivial, trivial⟩, ⟨⟨trivial, trivial⟩, trivial⟩⟩⟩
  refine loopT_ok hb (V_graph_longest_walk_1 qr_graph_longest_walk n) (t_graph_longest_walk_1 qr_graph_longest_walk n) n s K r ?_
  rw [← h]
  unfold loopT
  simp only [i_graph_longest_walk_1]
theorem m_graph_longest_walk (n : Nat) (qr_graph_longest_walk : Int → (List NodeS) → (Int → Option (Int)) → Bool → (Int → Option (Int)) → Option (RS ro_graph_longest_walk rh_graph_longest_walk)) (a0 : Int) (a1 : (List NodeS)) (a2 : (Int → Option (Int))) (a3 : Bool) (a4 : (Int → Option (Int))) : runFT Try.prog (cf_graph_longest_walk qr_graph_longest_walk) p_graph_longest_walk (ls_graph_longest_walk n qr_graph_longest_walk) Try.f106 (bodyOf Try.f106) (EK.encs e_graph_longest_walk ((a0, ((), ((), ((), ((), ((), ())))))), ((a1, ()), (((), ()), (a2, ((a3, ()), (((), ()), (a4, (((), ()), ())))))))).1) (HK.encs h_graph_longest_walk ((a0, ((), ((), ((), ((), ((), ())))))), ((a1, ()), (((), ()), (a2, ((a3, ()), (((), ()), (a4, (((), ()), ())))))))).2) = M_graph_longest_walk n qr_graph_longest_walk a0 a1 a2 a3 a4 := by kernel_rfl
theorem g_graph_longest_walk (n : Nat) (qr_graph_longest_walk : Int → (List NodeS) → (Int → Option (Int)) → Bool → (Int → Option (Int)) → Option (RS ro_graph_longest_walk rh_graph_longest_walk)) (a0 : Int) (a1 : (List NodeS)) (a2 : (Int → Option (Int))) (a3 : Bool) (a4 : (Int → Option (Int))) {r : Res} (h : M_graph_longest_walk n qr_graph_longest_walk a0 a1 a2 a3 a4 = some r) : runF Try.prog (cf_graph_longest_walk qr_graph_longest_walk) n p_graph_longest_walk 106 (EK.encs e_graph_longest_walk ((a0, ((), ((), ((), ((), ((), ())))))), ((a1, ()), (((), ()), (a2, ((a3, ()), (((), ()), (a4, (((), ()), ())))))))).1) (HK.encs h_graph_longest_walk ((a0, ((), ((), ((), ((), ((), ())))))), ((a1, ()), (((), ()), (a2, ((a3, ()), (((), ()), (a4, (((), ()), ())))))))).2) = some r := by
  have hb : LOk Try.prog (cf_graph_longest_walk qr_graph_longest_walk) Try.f106.ntmps 7 n p_graph_longest_walk (ls_graph_longest_walk n qr_graph_longest_walk) (bodyOf Try.f106) := ⟨trivial, ⟨trivial, ⟨⟨trivial, ⟨⟨trivial, trivial⟩, ⟨trivial, ⟨⟨trivial, ⟨trivial, trivial⟩⟩, ⟨trivial, ⟨⟨trivial, trivial⟩, trivial⟩⟩⟩⟩⟩⟩, ⟨trivial, ⟨trivial, ⟨⟨trivial, (o_graph_longest_walk_1 qr_graph_longest_walk n)⟩, ⟨trivial, ⟨trivial, ⟨trivial, trivial⟩⟩⟩⟩⟩⟩⟩⟩⟩
  exact runFT_some Try.prog (c := bodyOf Try.f106) Try.func106 (show Try.f106.body = some (bodyOf Try.f106) from rfl) (show (6 : Nat) ≤ 62 by decide) hb ((m_graph_longest_walk n qr_graph_longest_walk a0 a1 a2 a3 a4).trans h) rfl (by kernel_rfl)
noncomputable def c_graph_longest_walk : Spec := specQ e_graph_longest_walk h_graph_longest_walk ro_graph_longest_walk rh_graph_longest_walk fun a b => Q_graph_longest_walk a.1 b.1.1 b.2.2.1 b.2.2.2.1.1 b.2.2.2.2.2.1
theorem kr_graph_longest_walk (hm : Try.prog.follows .mixedOrders = true) (qr_graph_longest_walk : Int → (List NodeS) → (Int → Option (Int)) → Bool → (Int → Option (Int)) → Option (RS ro_graph_longest_walk rh_graph_longest_walk)) (hr : SpecOk Try.prog 106 (specQ e_graph_longest_walk h_graph_longest_walk ro_graph_longest_walk rh_graph_longest_walk fun a b => qr_graph_longest_walk a.1 b.1.1 b.2.2.1 b.2.2.2.1.1 b.2.2.2.2.2.1)) : CallSound Try.prog (cf_graph_longest_walk qr_graph_longest_walk) := tab_ok (specs_cons (k_graph_Find hm) (specs_cons (k_graph_goes hm) (specs_cons (hr) specs_nil)))
theorem kd_graph_longest_walk (hm : Try.prog.follows .mixedOrders = true) : ∀ dp, SpecOk Try.prog 106 (specQ e_graph_longest_walk h_graph_longest_walk ro_graph_longest_walk rh_graph_longest_walk fun a b => Qd_graph_longest_walk dp a.1 b.1.1 b.2.2.1 b.2.2.2.1.1 b.2.2.2.2.2.1)
  | 0 => specQ_ok (pol := p_graph_longest_walk) hm (cf := mkCF [] []) (tab_ok specs_nil) fun a b r h => by cases h
  | dp + 1 => specQ_ok (pol := p_graph_longest_walk) hm (kr_graph_longest_walk hm (Qd_graph_longest_walk dp) (kd_graph_longest_walk hm dp)) fun a b r h => ⟨FUEL, g_graph_longest_walk FUEL (Qd_graph_longest_walk dp) a.1 b.1.1 b.2.2.1 b.2.2.2.1.1 b.2.2.2.2.2.1 (decRes_some h)⟩
theorem k_graph_longest_walk (hm : Try.prog.follows .mixedOrders = true) : SpecOk Try.prog 106 c_graph_longest_walk := kd_graph_longest_walk hm FUEL
def s_graph_longest_h0 : Sig := ⟨[6, 7, 13, 14, 15], [.ptr 0 0 0, .ptr 1 0 0, .ty (.slice NodeT), .ty (.int .i64), .ty (.int .i64)], [.one true [.ty .bool], .one false [.fn 106 [(2, 0, 0), (3, 0, 0), (0, 0, 0), (5, 0, 0), (1, 0, 0)]], .one true [.ty (.slice NodeT)], .one false [.mp 4], .mf (.int .i64) (.int .i64), .one false [.mp 6], .mf (.int .i64) (.int .i64)]⟩
def s_graph_longest_t0 : Sig := ⟨[6, 7], [.ptr 0 0 0, .ptr 1 0 0], [.one true [.ty .bool], .one false [.fn 106 [(2, 0, 0), (3, 0, 0), (0, 0, 0), (5, 0, 0), (1, 0, 0)]], .one true [.ty (.slice NodeT)], .one false [.mp 4], .mf (.int .i64) (.int .i64), .one false [.mp 6], .mf (.int .i64) (.int .i64)]⟩
def s_graph_longest_r : Sig := ⟨[2, 3], [.fn 106 [(0, 0, 0), (1, 0, 0), (3, 0, 0), (4, 0, 0), (6, 0, 0)], .ty .bool], [.one true [.ty (.slice NodeT)], .one false [.mp 2], .mf (.int .i64) (.int .i64), .one true [.ty .bool], .one false [.mp 5], .mf (.int .i64) (.int .i64), .one false [.fn 106 [(0, 0, 0), (1, 0, 0), (3, 0, 0), (4, 0, 0), (6, 0, 0)]]]⟩
def p_graph_longest : Pol := ⟨fun i => if i = 0 then some [(6, .keep), (7, .keep), (13, .keep), (14, .keep), (15, .keep)] else none, fun i => if i = 0 then some [(6, .keep), (7, .keep)] else none, some [(2, .keep), (3, .keep)], [.keep, .keep], []⟩
def e_graph_longest : List EK := [.ty (.slice NodeT)]
def h_graph_longest : List HK := []
noncomputable def cf_graph_longest : CallF := mkCF [(106, c_graph_longest_walk)] []
noncomputable def ls_graph_longest (n : Nat) : Loops := fun i => if i = 0 then some (loopT 0 (p_graph_longest.head 0) s_graph_longest_h0 fun K v => L_graph_longest_0 n (fun z0 z1 z2 z3 => K (.ex 0) (s_graph_longest_t0.enc (((), ((), ())), ((z0, ()), (((), ()), ((z1, ()), (((), ()), (z2, (((), ()), (z3, ())))))))))) v.1.2.2.1 v.1.2.2.2.1 n v.1.2.2.2.2.1 v.2.1.1 v.2.2.2.1.1 v.2.2.2.2.2.1 v.2.2.2.2.2.2.2.1)
  else  none
noncomputable def b_graph_longest_0 : Code := partOf (bodyOf Try.f94) [1, 1, 1, 1, 1, 0, 1, 0, 0]
theorem t_graph_longest_0 (n : Nat) (K : Cont) (rec : Sig.sem s_graph_longest_h0 → Option Res) (v : Sig.sem s_graph_longest_h0) : runT Try.prog cf_graph_longest Try.f94.ntmps 0 p_graph_longest (ls_graph_longest n) b_graph_longest_0 (s_graph_longest_h0.enc v) (turnK 0 (p_graph_longest.head 0) s_graph_longest_h0 rec K) = F_graph_longest_0 n (fun z0 z1 z2 z3 => K (.ex 0) (s_graph_longest_t0.enc (((), ((), ())), ((z0, ()), (((), ()), ((z1, ()), (((), ()), (z2, (((), ()), (z3, ())))))))))) v.1.2.2.1 v.1.2.2.2.1 (fun z2 z3 z4 z5 z6 => rec (((), ((), (v.1.2.2.1, (v.1.2.2.2.1, (z2, ()))))), ((z3, ()), (((), ()), ((z4, ()), (((), ()), (z5, (((), ()), (z6, ()))))))))) v.1.2.2.2.2.1 v.2.1.1 v.2.2.2.1.1 v.2.2.2.2.2.1 v.2.2.2.2.2.2.2.1 := by kernel_rfl
noncomputable def V_graph_longest_0 (n : Nat) (K : Cont) (rec : Sig.sem s_graph_longest_h0 → Option Res) (v : Sig.sem s_graph_longest_h0) : Option Res := F_graph_longest_0 n (fun z0 z1 z2 z3 => K (.ex 0) (s_graph_longest_t0.enc (((), ((), ())), ((z0, ()), (((), ()), ((z1, ()), (((), ()), (z2, (((), ()), (z3, ())))))))))) v.1.2.2.1 v.1.2.2.2.1 (fun z2 z3 z4 z5 z6 => rec (((), ((), (v.1.2.2.1, (v.1.2.2.2.1, (z2, ()))))), ((z3, ()), (((), ()), ((z4, ()), (((), ()), (z5, (((), ()), (z6, ()))))))))) v.1.2.2.2.2.1 v.2.1.1 v.2.2.2.1.1 v.2.2.2.2.2.1 v.2.2.2.2.2.2.2.1
noncomputable def W_graph_longest_0 (n : Nat) (K : Cont) (m : Nat) (v : Sig.sem s_graph_longest_h0) : Option Res := L_graph_longest_0 n (fun z0 z1 z2 z3 => K (.ex 0) (s_graph_longest_t0.enc (((), ((), ())), ((z0, ()), (((), ()), ((z1, ()), (((), ()), (z2, (((), ()), (z3, ())))))))))) v.1.2.2.1 v.1.2.2.2.1 m v.1.2.2.2.2.1 v.2.1.1 v.2.2.2.1.1 v.2.2.2.2.2.1 v.2.2.2.2.2.2.2.1
theorem i_graph_longest_0 (n : Nat) (K : Cont) : ∀ m v, iter (V_graph_longest_0 n K) m v = W_graph_longest_0 n K m v := by
  intro m
  induction m with
  | zero => intro v; rfl
  | succ m ih =>
    intro v
    show V_graph_longest_0 n K (iter (V_graph_longest_0 n K) m) v = V_graph_longest_0 n K (W_graph_longest_0 n K m) v
    rw [show iter (V_graph_longest_0 n K) m = W_graph_longest_0 n K m from funext ih]
theorem o_graph_longest_0 (n : Nat) : ∀ L, ls_graph_longest n 0 = some L → ∀ s K r, L s K = some r → ∃ x s', loopN (run Try.prog cf_graph_longest Try.f94.ntmps 0 n p_graph_longest none b_graph_longest_0) (gc 0 (p_graph_longest.head 0)) n s = some (x, s') ∧ K x s' = some r := by
  intro L hL s K r h
  have hL : some (loopT 0 (p_graph_longest.head 0) s_graph_longest_h0 fun K v => W_graph_longest_0 n K n v) = some L := hL
  cases hL
  have hb : LOk Try.prog cf_graph_longest Try.f94.ntmps 0 n p_graph_longest (ls_graph_longest n) b_graph_longest_0 := ⟨trivial, ⟨⟨trivial, trivial⟩, ⟨⟨trivial, trivial⟩, trivial⟩⟩⟩
  refine loopT_ok hb (V_graph_longest_0 n) (t_graph_longest_0 n) n s K r ?_
  rw [← h]
  unfold loopT
  simp only [i_graph_longest_0]
theorem m_graph_longest (n : Nat) (a0 : (List NodeS)) : runFT Try.prog cf_graph_longest p_graph_longest (ls_graph_longest n) Try.f94 (bodyOf Try.f94) (EK.encs e_graph_longest ((a0, ()), ()).1) (HK.encs h_graph_longest ((a0, ()), ()).2) = M_graph_longest n a0 := by kernel_rfl
theorem g_graph_longest (n : Nat) (a0 : (List NodeS)) {r : Res} (h : M_graph_longest n a0 = some r) : runF Try.prog cf_graph_longest n p_graph_longest 94 (EK.encs e_graph_longest ((a0, ()), ()).1) (HK.encs h_graph_longest ((a0, ()), ()).2) = some r := by
  have hb : LOk Try.prog cf_graph_longest Try.f94.ntmps 0 n p_graph_longest (ls_graph_longest n) (bodyOf Try.f94) := ⟨trivial, ⟨trivial, ⟨trivial, ⟨trivial, ⟨trivial, ⟨⟨trivial, (o_graph_longest_0 n)⟩, ⟨trivial, trivial⟩⟩⟩⟩⟩⟩⟩
  exact runFT_some Try.prog (c := bodyOf Try.f94) Try.func94 (show Try.f94.body = some (bodyOf Try.f94) from rfl) (show (1 : Nat) ≤ 26 by decide) hb ((m_graph_longest n a0).trans h) rfl (by kernel_rfl)
noncomputable def c_graph_longest : Spec := specQ e_graph_longest h_graph_longest ro_graph_longest rh_graph_longest fun a b => Q_graph_longest a.1
theorem k_graph_longest (hm : Try.prog.follows .mixedOrders = true) : SpecOk Try.prog 94 c_graph_longest := specQ_ok (pol := p_graph_longest) hm (cf := cf_graph_longest) (tab_ok (specs_cons (k_graph_longest_walk hm) specs_nil)) fun a b r h => ⟨FUEL, g_graph_longest FUEL a.1 (decRes_some h)⟩
def s_graph_May_r : Sig := ⟨[2], [.ty (.int .i64)], []⟩
def p_graph_May : Pol := ⟨fun i => none, fun i => none, some [(2, .keep)], [.keep], []⟩
def e_graph_May : List EK := [.ty (.slice NodeT)]
def h_graph_May : List HK := []
noncomputable def cf_graph_May : CallF := mkCF [(92, c_graph_form), (93, c_graph_refs), (94, c_graph_longest)] [(92, [(.slice NodeT)]), (93, [(.slice NodeT)]), (94, [(.slice NodeT)])]
noncomputable def ls_graph_May (n : Nat) : Loops := fun i =>  none
theorem m_graph_May (n : Nat) (a0 : (List NodeS)) : runFT Try.prog cf_graph_May p_graph_May (ls_graph_May n) Try.f78 (bodyOf Try.f78) (EK.encs e_graph_May ((a0, ()), ()).1) (HK.encs h_graph_May ((a0, ()), ()).2) = M_graph_May n a0 := by kernel_rfl
theorem g_graph_May (n : Nat) (a0 : (List NodeS)) {r : Res} (h : M_graph_May n a0 = some r) : runF Try.prog cf_graph_May n p_graph_May 78 (EK.encs e_graph_May ((a0, ()), ()).1) (HK.encs h_graph_May ((a0, ()), ()).2) = some r := by
  have hb : LOk Try.prog cf_graph_May Try.f78.ntmps 0 n p_graph_May (ls_graph_May n) (bodyOf Try.f78) := ⟨trivial, ⟨⟨trivial, ⟨⟨trivial, trivial⟩, ⟨trivial, ⟨⟨trivial, trivial⟩, ⟨trivial, ⟨⟨trivial, trivial⟩, trivial⟩⟩⟩⟩⟩⟩, ⟨⟨trivial, ⟨trivial, ⟨⟨trivial, trivial⟩, trivial⟩⟩⟩, ⟨trivial, trivial⟩⟩⟩⟩
  exact runFT_some Try.prog (c := bodyOf Try.f78) Try.func78 (show Try.f78.body = some (bodyOf Try.f78) from rfl) (show (1 : Nat) ≤ 24 by decide) hb ((m_graph_May n a0).trans h) rfl (by kernel_rfl)
noncomputable def c_graph_May : Spec := specQ e_graph_May h_graph_May ro_graph_May rh_graph_May fun a b => Q_graph_May a.1
theorem k_graph_May (hm : Try.prog.follows .mixedOrders = true) : SpecOk Try.prog 78 c_graph_May := specQ_ok (pol := p_graph_May) hm (cf := cf_graph_May) (tab_ok (specs_cons (k_graph_form hm) (specs_cons (k_graph_refs hm) (specs_cons (k_graph_longest hm) specs_nil)))) fun a b r h => ⟨FUEL, g_graph_May FUEL a.1 (decRes_some h)⟩
def s_walk_steps_r : Sig := ⟨[4], [.fn 95 [(0, 0, 0), (1, 0, 0)]], [.one true [.ty (.slice NodeT)], .one true [.ty .str]]⟩
def p_walk_steps : Pol := ⟨fun i => none, fun i => none, some [(4, .keep)], [.keep], []⟩
def e_walk_steps : List EK := [.ty (.slice NodeT), .ty .str]
def h_walk_steps : List HK := []
noncomputable def cf_walk_steps : CallF := mkCF [] []
noncomputable def ls_walk_steps (n : Nat) : Loops := fun i =>  none
theorem m_walk_steps (n : Nat) (a0 : (List NodeS)) (a1 : ByteArray) : runFT Try.prog cf_walk_steps p_walk_steps (ls_walk_steps n) Try.f79 (bodyOf Try.f79) (EK.encs e_walk_steps ((a0, (a1, ())), ()).1) (HK.encs h_walk_steps ((a0, (a1, ())), ()).2) = M_walk_steps n a0 a1 := by kernel_rfl
theorem g_walk_steps (n : Nat) (a0 : (List NodeS)) (a1 : ByteArray) {r : Res} (h : M_walk_steps n a0 a1 = some r) : runF Try.prog cf_walk_steps n p_walk_steps 79 (EK.encs e_walk_steps ((a0, (a1, ())), ()).1) (HK.encs h_walk_steps ((a0, (a1, ())), ()).2) = some r := by
  have hb : LOk Try.prog cf_walk_steps Try.f79.ntmps 0 n p_walk_steps (ls_walk_steps n) (bodyOf Try.f79) := ⟨trivial, ⟨trivial, trivial⟩⟩
  exact runFT_some Try.prog (c := bodyOf Try.f79) Try.func79 (show Try.f79.body = some (bodyOf Try.f79) from rfl) (show (2 : Nat) ≤ 6 by decide) hb ((m_walk_steps n a0 a1).trans h) rfl (by kernel_rfl)
noncomputable def c_walk_steps : Spec := specQ e_walk_steps h_walk_steps ro_walk_steps rh_walk_steps fun a b => Q_walk_steps a.1 a.2.1
theorem k_walk_steps (hm : Try.prog.follows .mixedOrders = true) : SpecOk Try.prog 79 c_walk_steps := specQ_ok (pol := p_walk_steps) hm (cf := cf_walk_steps) (tab_ok specs_nil) fun a b r h => ⟨FUEL, g_walk_steps FUEL a.1 a.2.1 (decRes_some h)⟩
def s_walk_may_r : Sig := ⟨[2], [.ty .bool], []⟩
def p_walk_may : Pol := ⟨fun i => none, fun i => none, some [(2, .keep)], [.keep], []⟩
def e_walk_may : List EK := [.agg NodeT]
def h_walk_may : List HK := []
noncomputable def cf_walk_may : CallF := mkCF [] []
noncomputable def ls_walk_may (n : Nat) : Loops := fun i =>  none
theorem m_walk_may (n : Nat) (a0 : NodeS) : runFT Try.prog cf_walk_may p_walk_may (ls_walk_may n) Try.f107 (bodyOf Try.f107) (EK.encs e_walk_may ((a0, ()), ()).1) (HK.encs h_walk_may ((a0, ()), ()).2) = M_walk_may n a0 := by kernel_rfl
theorem g_walk_may (n : Nat) (a0 : NodeS) {r : Res} (h : M_walk_may n a0 = some r) : runF Try.prog cf_walk_may n p_walk_may 107 (EK.encs e_walk_may ((a0, ()), ()).1) (HK.encs h_walk_may ((a0, ()), ()).2) = some r := by
  have hb : LOk Try.prog cf_walk_may Try.f107.ntmps 0 n p_walk_may (ls_walk_may n) (bodyOf Try.f107) := ⟨trivial, ⟨⟨trivial, ⟨⟨trivial, trivial⟩, trivial⟩⟩, ⟨⟨trivial, ⟨⟨trivial, trivial⟩, trivial⟩⟩, ⟨trivial, trivial⟩⟩⟩⟩
  exact runFT_some Try.prog (c := bodyOf Try.f107) Try.func107 (show Try.f107.body = some (bodyOf Try.f107) from rfl) (show (1 : Nat) ≤ 50 by decide) hb ((m_walk_may n a0).trans h) rfl (by kernel_rfl)
noncomputable def c_walk_may : Spec := specQ e_walk_may h_walk_may ro_walk_may rh_walk_may fun a b => Q_walk_may a.1
theorem k_walk_may (hm : Try.prog.follows .mixedOrders = true) : SpecOk Try.prog 107 c_walk_may := specQ_ok (pol := p_walk_may) hm (cf := cf_walk_may) (tab_ok specs_nil) fun a b r h => ⟨FUEL, g_walk_may FUEL a.1 (decRes_some h)⟩
def s_walk_number_r : Sig := ⟨[8, 9], [.ty (.int .i64), .ty .bool], []⟩
def p_walk_number : Pol := ⟨fun i => none, fun i => none, some [(8, .keep), (9, .keep)], [.keep, .keep], []⟩
def e_walk_number : List EK := [.ty .str, .ty (.int .i64), .ty (.int .i64), .ty (.int .i64)]
def h_walk_number : List HK := []
noncomputable def cf_walk_number : CallF := mkCF [(71, c_field_Get)] [(71, [.str, (.int .i64), (.int .i64)])]
noncomputable def ls_walk_number (n : Nat) : Loops := fun i =>  none
theorem m_walk_number (n : Nat) (a0 : ByteArray) (a1 : Int) (a2 : Int) (a3 : Int) : runFT Try.prog cf_walk_number p_walk_number (ls_walk_number n) Try.f108 (bodyOf Try.f108) (EK.encs e_walk_number ((a0, (a1, (a2, (a3, ())))), ()).1) (HK.encs h_walk_number ((a0, (a1, (a2, (a3, ())))), ()).2) = M_walk_number n a0 a1 a2 a3 := by kernel_rfl
theorem g_walk_number (n : Nat) (a0 : ByteArray) (a1 : Int) (a2 : Int) (a3 : Int) {r : Res} (h : M_walk_number n a0 a1 a2 a3 = some r) : runF Try.prog cf_walk_number n p_walk_number 108 (EK.encs e_walk_number ((a0, (a1, (a2, (a3, ())))), ()).1) (HK.encs h_walk_number ((a0, (a1, (a2, (a3, ())))), ()).2) = some r := by
  have hb : LOk Try.prog cf_walk_number Try.f108.ntmps 0 n p_walk_number (ls_walk_number n) (bodyOf Try.f108) := ⟨trivial, ⟨⟨trivial, ⟨⟨trivial, trivial⟩, trivial⟩⟩, ⟨trivial, ⟨trivial, trivial⟩⟩⟩⟩
  exact runFT_some Try.prog (c := bodyOf Try.f108) Try.func108 (show Try.f108.body = some (bodyOf Try.f108) from rfl) (show (4 : Nat) ≤ 34 by decide) hb ((m_walk_number n a0 a1 a2 a3).trans h) rfl (by kernel_rfl)
noncomputable def c_walk_number : Spec := specQ e_walk_number h_walk_number ro_walk_number rh_walk_number fun a b => Q_walk_number a.1 a.2.1 a.2.2.1 a.2.2.2.1
theorem k_walk_number (hm : Try.prog.follows .mixedOrders = true) : SpecOk Try.prog 108 c_walk_number := specQ_ok (pol := p_walk_number) hm (cf := cf_walk_number) (tab_ok (specs_cons (k_field_Get hm) specs_nil)) fun a b r h => ⟨FUEL, g_walk_number FUEL a.1 a.2.1 a.2.2.1 a.2.2.2.1 (decRes_some h)⟩
def s_walk_Size_r : Sig := ⟨[6, 7], [.ty (.int .i64), .ty (.int .i64)], []⟩
def p_walk_Size : Pol := ⟨fun i => none, fun i => none, some [(6, .keep), (7, .keep)], [.keep, .keep], []⟩
def e_walk_Size : List EK := [.agg NodeT, .ty .str, .ty (.int .i64)]
def h_walk_Size : List HK := []
noncomputable def cf_walk_Size : CallF := mkCF [(107, c_walk_may), (108, c_walk_number)] [(107, [NodeT]), (108, [.str, (.int .i64), (.int .i64), (.int .i64)])]
noncomputable def ls_walk_Size (n : Nat) : Loops := fun i =>  none
theorem m_walk_Size (n : Nat) (a0 : NodeS) (a1 : ByteArray) (a2 : Int) : runFT Try.prog cf_walk_Size p_walk_Size (ls_walk_Size n) Try.f97 (bodyOf Try.f97) (EK.encs e_walk_Size ((a0, (a1, (a2, ()))), ()).1) (HK.encs h_walk_Size ((a0, (a1, (a2, ()))), ()).2) = M_walk_Size n a0 a1 a2 := by kernel_rfl
theorem g_walk_Size (n : Nat) (a0 : NodeS) (a1 : ByteArray) (a2 : Int) {r : Res} (h : M_walk_Size n a0 a1 a2 = some r) : runF Try.prog cf_walk_Size n p_walk_Size 97 (EK.encs e_walk_Size ((a0, (a1, (a2, ()))), ()).1) (HK.encs h_walk_Size ((a0, (a1, (a2, ()))), ()).2) = some r := by
  have hb : LOk Try.prog cf_walk_Size Try.f97.ntmps 0 n p_walk_Size (ls_walk_Size n) (bodyOf Try.f97) := ⟨trivial, ⟨⟨trivial, ⟨⟨trivial, trivial⟩, trivial⟩⟩, ⟨trivial, ⟨⟨trivial, ⟨⟨trivial, ⟨⟨trivial, ⟨⟨trivial, trivial⟩, trivial⟩⟩, trivial⟩⟩, trivial⟩⟩, ⟨⟨trivial, ⟨⟨trivial, trivial⟩, ⟨trivial, ⟨⟨trivial, trivial⟩, trivial⟩⟩⟩⟩, ⟨trivial, trivial⟩⟩⟩⟩⟩⟩
  exact runFT_some Try.prog (c := bodyOf Try.f97) Try.func97 (show Try.f97.body = some (bodyOf Try.f97) from rfl) (show (3 : Nat) ≤ 58 by decide) hb ((m_walk_Size n a0 a1 a2).trans h) rfl (by kernel_rfl)
noncomputable def c_walk_Size : Spec := specQ e_walk_Size h_walk_Size ro_walk_Size rh_walk_Size fun a b => Q_walk_Size a.1 a.2.1 a.2.2.1
theorem k_walk_Size (hm : Try.prog.follows .mixedOrders = true) : SpecOk Try.prog 97 c_walk_Size := specQ_ok (pol := p_walk_Size) hm (cf := cf_walk_Size) (tab_ok (specs_cons (k_walk_may hm) (specs_cons (k_walk_number hm) specs_nil))) fun a b r h => ⟨FUEL, g_walk_Size FUEL a.1 a.2.1 a.2.2.1 (decRes_some h)⟩
def s_graph_Next_h0 : Sig := ⟨[2, 7, 18, 19, 20], [.ty (.int .u32), .ptr 0 0 0, .ty (.slice ArmT), .ty (.int .i64), .ty (.int .i64)], [.cell NodeT]⟩
def s_graph_Next_r : Sig := ⟨[6], [.ty (.int .i64)], []⟩
def s_graph_Next_t0 : Sig := ⟨[7], [.ptr 0 0 0], [.cell NodeT]⟩
def p_graph_Next : Pol := ⟨fun i => if i = 0 then some [(2, .keep), (7, (.own NodeT)), (18, .keep), (19, .keep), (20, .keep)] else none, fun i => if i = 0 then some [(7, (.own NodeT))] else none, some [(6, .keep)], [.keep], []⟩
def e_graph_Next : List EK := [.ty (.slice NodeT), .ty (.int .i64), .ty (.int .u32)]
def h_graph_Next : List HK := []
noncomputable def cf_graph_Next : CallF := mkCF [(96, c_graph_Find)] [(96, [(.slice NodeT), (.int .i64)])]
noncomputable def ls_graph_Next (n : Nat) : Loops := fun i => if i = 0 then some (loopT 0 (p_graph_Next.head 0) s_graph_Next_h0 fun K v => L_graph_Next_0 n (fun z0 => K .rt (s_graph_Next_r.enc ((z0, ()), ()))) (fun _ => K (.ex 0) (s_graph_Next_t0.enc (((), ()), (v.2.1, ())))) v.1.1 v.1.2.2.1 v.1.2.2.2.1 v.2.1 n v.1.2.2.2.2.1)
  else  none
noncomputable def b_graph_Next_0 : Code := partOf (bodyOf Try.f109) [1, 1, 0, 1, 0, 0]
theorem t_graph_Next_0 (n : Nat) (K : Cont) (rec : Sig.sem s_graph_Next_h0 → Option Res) (v : Sig.sem s_graph_Next_h0) : runT Try.prog cf_graph_Next Try.f109.ntmps 0 p_graph_Next (ls_graph_Next n) b_graph_Next_0 (s_graph_Next_h0.enc v) (turnK 0 (p_graph_Next.head 0) s_graph_Next_h0 rec K) = F_graph_Next_0 n (fun z0 => K .rt (s_graph_Next_r.enc ((z0, ()), ()))) (fun _ => K (.ex 0) (s_graph_Next_t0.enc (((), ()), (v.2.1, ())))) v.1.1 v.1.2.2.1 v.1.2.2.2.1 v.2.1 (fun z3 => rec ((v.1.1, ((), (v.1.2.2.1, (v.1.2.2.2.1, (z3, ()))))), (v.2.1, ()))) v.1.2.2.2.2.1 := by kernel_rfl
noncomputable def V_graph_Next_0 (n : Nat) (K : Cont) (rec : Sig.sem s_graph_Next_h0 → Option Res) (v : Sig.sem s_graph_Next_h0) : Option Res := F_graph_Next_0 n (fun z0 => K .rt (s_graph_Next_r.enc ((z0, ()), ()))) (fun _ => K (.ex 0) (s_graph_Next_t0.enc (((), ()), (v.2.1, ())))) v.1.1 v.1.2.2.1 v.1.2.2.2.1 v.2.1 (fun z3 => rec ((v.1.1, ((), (v.1.2.2.1, (v.1.2.2.2.1, (z3, ()))))), (v.2.1, ()))) v.1.2.2.2.2.1
noncomputable def W_graph_Next_0 (n : Nat) (K : Cont) (m : Nat) (v : Sig.sem s_graph_Next_h0) : Option Res := L_graph_Next_0 n (fun z0 => K .rt (s_graph_Next_r.enc ((z0, ()), ()))) (fun _ => K (.ex 0) (s_graph_Next_t0.enc (((), ()), (v.2.1, ())))) v.1.1 v.1.2.2.1 v.1.2.2.2.1 v.2.1 m v.1.2.2.2.2.1
theorem i_graph_Next_0 (n : Nat) (K : Cont) : ∀ m v, iter (V_graph_Next_0 n K) m v = W_graph_Next_0 n K m v := by
  intro m
  induction m with
  | zero => intro v; rfl
  | succ m ih =>
    intro v
    show V_graph_Next_0 n K (iter (V_graph_Next_0 n K) m) v = V_graph_Next_0 n K (W_graph_Next_0 n K m) v
    rw [show iter (V_graph_Next_0 n K) m = W_graph_Next_0 n K m from funext ih]
theorem o_graph_Next_0 (n : Nat) : ∀ L, ls_graph_Next n 0 = some L → ∀ s K r, L s K = some r → ∃ x s', loopN (run Try.prog cf_graph_Next Try.f109.ntmps 0 n p_graph_Next none b_graph_Next_0) (gc 0 (p_graph_Next.head 0)) n s = some (x, s') ∧ K x s' = some r := by
  intro L hL s K r h
  have hL : some (loopT 0 (p_graph_Next.head 0) s_graph_Next_h0 fun K v => W_graph_Next_0 n K n v) = some L := hL
  cases hL
  have hb : LOk Try.prog cf_graph_Next Try.f109.ntmps 0 n p_graph_Next (ls_graph_Next n) b_graph_Next_0 := ⟨trivial, ⟨⟨trivial, trivial⟩, ⟨⟨trivial, ⟨trivial, ⟨⟨trivial, trivial⟩, trivial⟩⟩⟩, trivial⟩⟩⟩
  refine loopT_ok hb (V_graph_Next_0 n) (t_graph_Next_0 n) n s K r ?_
  rw [← h]
  unfold loopT
  simp only [i_graph_Next_0]
theorem m_graph_Next (n : Nat) (a0 : (List NodeS)) (a1 : Int) (a2 : Int) : runFT Try.prog cf_graph_Next p_graph_Next (ls_graph_Next n) Try.f109 (bodyOf Try.f109) (EK.encs e_graph_Next ((a0, (a1, (a2, ()))), ()).1) (HK.encs h_graph_Next ((a0, (a1, (a2, ()))), ()).2) = M_graph_Next n a0 a1 a2 := by kernel_rfl
theorem g_graph_Next (n : Nat) (a0 : (List NodeS)) (a1 : Int) (a2 : Int) {r : Res} (h : M_graph_Next n a0 a1 a2 = some r) : runF Try.prog cf_graph_Next n p_graph_Next 109 (EK.encs e_graph_Next ((a0, (a1, (a2, ()))), ()).1) (HK.encs h_graph_Next ((a0, (a1, (a2, ()))), ()).2) = some r := by
  have hb : LOk Try.prog cf_graph_Next Try.f109.ntmps 0 n p_graph_Next (ls_graph_Next n) (bodyOf Try.f109) := ⟨trivial, ⟨trivial, ⟨⟨trivial, (o_graph_Next_0 n)⟩, ⟨trivial, trivial⟩⟩⟩⟩
  exact runFT_some Try.prog (c := bodyOf Try.f109) Try.func109 (show Try.f109.body = some (bodyOf Try.f109) from rfl) (show (3 : Nat) ≤ 33 by decide) hb ((m_graph_Next n a0 a1 a2).trans h) rfl (by kernel_rfl)
noncomputable def c_graph_Next : Spec := specQ e_graph_Next h_graph_Next ro_graph_Next rh_graph_Next fun a b => Q_graph_Next a.1 a.2.1 a.2.2.1
theorem k_graph_Next (hm : Try.prog.follows .mixedOrders = true) : SpecOk Try.prog 109 c_graph_Next := specQ_ok (pol := p_graph_Next) hm (cf := cf_graph_Next) (tab_ok (specs_cons (k_graph_Find hm) specs_nil)) fun a b r h => ⟨FUEL, g_graph_Next FUEL a.1 a.2.1 a.2.2.1 (decRes_some h)⟩
def s_walk_next_r : Sig := ⟨[8, 9], [.ty (.int .i64), .ty (.int .i64)], []⟩
def p_walk_next : Pol := ⟨fun i => none, fun i => none, some [(8, .keep), (9, .keep)], [.keep, .keep], []⟩
def e_walk_next : List EK := [.ty (.slice NodeT), .agg NodeT, .ty .str, .ty (.int .i64)]
def h_walk_next : List HK := []
noncomputable def cf_walk_next : CallF := mkCF [(108, c_walk_number), (109, c_graph_Next)] [(108, [.str, (.int .i64), (.int .i64), (.int .i64)]), (109, [(.slice NodeT), (.int .i64), (.int .u32)])]
noncomputable def ls_walk_next (n : Nat) : Loops := fun i =>  none
theorem m_walk_next (n : Nat) (a0 : (List NodeS)) (a1 : NodeS) (a2 : ByteArray) (a3 : Int) : runFT Try.prog cf_walk_next p_walk_next (ls_walk_next n) Try.f98 (bodyOf Try.f98) (EK.encs e_walk_next ((a0, (a1, (a2, (a3, ())))), ()).1) (HK.encs h_walk_next ((a0, (a1, (a2, (a3, ())))), ()).2) = M_walk_next n a0 a1 a2 a3 := by kernel_rfl
theorem g_walk_next (n : Nat) (a0 : (List NodeS)) (a1 : NodeS) (a2 : ByteArray) (a3 : Int) {r : Res} (h : M_walk_next n a0 a1 a2 a3 = some r) : runF Try.prog cf_walk_next n p_walk_next 98 (EK.encs e_walk_next ((a0, (a1, (a2, (a3, ())))), ()).1) (HK.encs h_walk_next ((a0, (a1, (a2, (a3, ())))), ()).2) = some r := by
  have hb : LOk Try.prog cf_walk_next Try.f98.ntmps 0 n p_walk_next (ls_walk_next n) (bodyOf Try.f98) := ⟨trivial, ⟨trivial, ⟨⟨trivial, ⟨⟨trivial, ⟨trivial, ⟨trivial, ⟨⟨trivial, trivial⟩, trivial⟩⟩⟩⟩, trivial⟩⟩, ⟨trivial, ⟨⟨trivial, ⟨⟨trivial, trivial⟩, trivial⟩⟩, ⟨trivial, trivial⟩⟩⟩⟩⟩⟩
  exact runFT_some Try.prog (c := bodyOf Try.f98) Try.func98 (show Try.f98.body = some (bodyOf Try.f98) from rfl) (show (4 : Nat) ≤ 37 by decide) hb ((m_walk_next n a0 a1 a2 a3).trans h) rfl (by kernel_rfl)
noncomputable def c_walk_next : Spec := specQ e_walk_next h_walk_next ro_walk_next rh_walk_next fun a b => Q_walk_next a.1 a.2.1 a.2.2.1 a.2.2.2.1
theorem k_walk_next (hm : Try.prog.follows .mixedOrders = true) : SpecOk Try.prog 98 c_walk_next := specQ_ok (pol := p_walk_next) hm (cf := cf_walk_next) (tab_ok (specs_cons (k_walk_number hm) (specs_cons (k_graph_Next hm) specs_nil))) fun a b r h => ⟨FUEL, g_walk_next FUEL a.1 a.2.1 a.2.2.1 a.2.2.2.1 (decRes_some h)⟩
def s_walk_steps_1_h0 : Sig := ⟨[0, 1, 2, 4, 5, 6], [.yl 0, .ptr 5 0 0, .ptr 6 0 0, .ty (.int .i64), .ptr 8 0 0, .ty .bool], [.lp 0 [.junk, .junk, .junk, .junk, .junk, .junk, .junk, .ptr 1 0 0, .ptr 3 0 0, .ptr 4 0 0, .junk, .junk, .junk, .junk, .junk, .junk, .junk, .junk, .junk, .junk, .junk, .junk, .junk, .junk, .junk, .junk, .junk, .junk, .junk, .junk, .junk, .junk], .one false [.hs 7 0], .gone, .one true [.ty (.int .i64)], .one true [.ty (.int .i64)], .one true [.ty (.slice NodeT)], .one true [.ty .str], .row HeadT, .cell NodeT]⟩
def s_walk_steps_1_r : Sig := ⟨[], [], [.lp 0 [.junk, .junk, .junk, .junk, .junk, .junk, .junk, .ptr 1 0 0, .ptr 3 0 0, .ptr 4 0 0, .junk, .junk, .junk, .junk, .junk, .junk, .junk, .junk, .junk, .junk, .junk, .junk, .junk, .junk, .junk, .junk, .junk, .junk, .junk, .junk, .junk, .junk], .one false [.hs 7 0], .gone, .one true [.ty (.int .i64)], .one true [.ty (.int .i64)], .one true [.ty (.slice NodeT)], .one true [.ty .str], .row HeadT]⟩
def s_walk_steps_1_t0 : Sig := ⟨[], [], [.lp 0 [.junk, .junk, .junk, .junk, .junk, .junk, .junk, .ptr 1 0 0, .ptr 3 0 0, .ptr 4 0 0, .junk, .junk, .junk, .junk, .junk, .junk, .junk, .junk, .junk, .junk, .junk, .junk, .junk, .junk, .junk, .junk, .junk, .junk, .junk, .junk, .junk, .junk], .one false [.hs 7 0], .gone, .one true [.ty (.int .i64)], .one true [.ty (.int .i64)], .one true [.ty (.slice NodeT)], .one true [.ty .str], .row HeadT]⟩
def p_walk_steps_1 : Pol := ⟨fun i => if i = 0 then some [(0, .keep), (1, .keep), (2, .keep), (4, .keep), (5, (.own NodeT)), (6, .keep)] else none, fun i => if i = 0 then some [] else none, some [], [], [2]⟩
def e_walk_steps_1 : List EK := [.yl 0, .ptr 5 0 0, .ptr 6 0 0]
def h_walk_steps_1 : List HK := [.lp 0 [.junk, .junk, .junk, .junk, .junk, .junk, .junk, .ptr 1 0 0, .ptr 3 0 0, .ptr 4 0 0, .junk, .junk, .junk, .junk, .junk, .junk, .junk, .junk, .junk, .junk, .junk, .junk, .junk, .junk, .junk, .junk, .junk, .junk, .junk, .junk, .junk, .junk], .one false [.hs 2 0], .row HeadT, .one true [.ty (.int .i64)], .one true [.ty (.int .i64)], .one true [.ty (.slice NodeT)], .one true [.ty .str]]
noncomputable def cf_walk_steps_1 : CallF := mkCF [(96, c_graph_Find), (97, c_walk_Size), (98, c_walk_next)] [(96, [(.slice NodeT), (.int .i64)]), (97, [NodeT, .str, (.int .i64)]), (98, [(.slice NodeT), NodeT, .str, (.int .i64)])]
noncomputable def ls_walk_steps_1 (n : Nat) : Loops := fun i => if i = 0 then some (loopT 7 (p_walk_steps_1.head 0) s_walk_steps_1_h0 fun K v => L_walk_steps_1_0 n (fun z0 z1 z2 z5 => K .rt (s_walk_steps_1_r.enc ((), (((), ((), ((), ((), ((), ((), ((), ((), ((), ((), ((), ((), ((), ((), ((), ((), ((), ((), ((), ((), ((), ((), ((), ((), ((), ((), ((), ((), ((), ((), ((), ((), ())))))))))))))))))))))))))))))))), ((z0, ()), ((), ((z1, ()), ((z2, ()), ((v.2.2.2.2.2.2.1.1, ()), ((v.2.2.2.2.2.2.2.1.1, ()), (z5, ()))))))))))) (fun z0 z1 z2 z5 => K (.ex 0) (s_walk_steps_1_t0.enc ((), (((), ((), ((), ((), ((), ((), ((), ((), ((), ((), ((), ((), ((), ((), ((), ((), ((), ((), ((), ((), ((), ((), ((), ((), ((), ((), ((), ((), ((), ((), ((), ((), ())))))))))))))))))))))))))))))))), ((z0, ()), ((), ((z1, ()), ((z2, ()), ((v.2.2.2.2.2.2.1.1, ()), ((v.2.2.2.2.2.2.2.1.1, ()), (z5, ()))))))))))) v.2.2.2.2.2.2.1.1 v.2.2.2.2.2.2.2.1.1 n v.1.2.2.2.1 v.1.2.2.2.2.2.1 v.2.2.1.1 v.2.2.2.2.1.1 v.2.2.2.2.2.1.1 v.2.2.2.2.2.2.2.2.1 v.2.2.2.2.2.2.2.2.2.1)
  else  none
noncomputable def b_walk_steps_1_0 : Code := partOf (bodyOf Try.f95) [1, 1, 0, 0]
theorem t_walk_steps_1_0 (n : Nat) (K : Cont) (rec : Sig.sem s_walk_steps_1_h0 → Option Res) (v : Sig.sem s_walk_steps_1_h0) : runT Try.prog cf_walk_steps_1 Try.f95.ntmps 7 p_walk_steps_1 (ls_walk_steps_1 n) b_walk_steps_1_0 (s_walk_steps_1_h0.enc v) (turnK 7 (p_walk_steps_1.head 0) s_walk_steps_1_h0 rec K) = F_walk_steps_1_0 n (fun z0 z1 z2 z5 => K .rt (s_walk_steps_1_r.enc ((), (((), ((), ((), ((), ((), ((), ((), ((), ((), ((), ((), ((), ((), ((), ((), ((), ((), ((), ((), ((), ((), ((), ((), ((), ((), ((), ((), ((), ((), ((), ((), ((), ())))))))))))))))))))))))))))))))), ((z0, ()), ((), ((z1, ()), ((z2, ()), ((v.2.2.2.2.2.2.1.1, ()), ((v.2.2.2.2.2.2.2.1.1, ()), (z5, ()))))))))))) (fun z0 z1 z2 z5 => K (.ex 0) (s_walk_steps_1_t0.enc ((), (((), ((), ((), ((), ((), ((), ((), ((), ((), ((), ((), ((), ((), ((), ((), ((), ((), ((), ((), ((), ((), ((), ((), ((), ((), ((), ((), ((), ((), ((), ((), ((), ())))))))))))))))))))))))))))))))), ((z0, ()), ((), ((z1, ()), ((z2, ()), ((v.2.2.2.2.2.2.1.1, ()), ((v.2.2.2.2.2.2.2.1.1, ()), (z5, ()))))))))))) v.2.2.2.2.2.2.1.1 v.2.2.2.2.2.2.2.1.1 (fun z0 z1 z2 z3 z4 z7 z8 => rec (((), ((), ((), (z0, ((), (z1, ())))))), (((), ((), ((), ((), ((), ((), ((), ((), ((), ((), ((), ((), ((), ((), ((), ((), ((), ((), ((), ((), ((), ((), ((), ((), ((), ((), ((), ((), ((), ((), ((), ((), ())))))))))))))))))))))))))))))))), ((z2, ()), ((), ((z3, ()), ((z4, ()), ((v.2.2.2.2.2.2.1.1, ()), ((v.2.2.2.2.2.2.2.1.1, ()), (z7, (z8, ()))))))))))) v.1.2.2.2.1 v.1.2.2.2.2.2.1 v.2.2.1.1 v.2.2.2.2.1.1 v.2.2.2.2.2.1.1 v.2.2.2.2.2.2.2.2.1 v.2.2.2.2.2.2.2.2.2.1 := by kernel_rfl
noncomputable def V_walk_steps_1_0 (n : Nat) (K : Cont) (rec : Sig.sem s_walk_steps_1_h0 → Option Res) (v : Sig.sem s_walk_steps_1_h0) : Option Res := F_walk_steps_1_0 n (fun z0 z1 z2 z5 => K .rt (s_walk_steps_1_r.enc ((), (((), ((), ((), ((), ((), ((), ((), ((), ((), ((), ((), ((), ((), ((), ((), ((), ((), ((), ((), ((), ((), ((), ((), ((), ((), ((), ((), ((), ((), ((), ((), ((), ())))))))))))))))))))))))))))))))), ((z0, ()), ((), ((z1, ()), ((z2, ()), ((v.2.2.2.2.2.2.1.1, ()), ((v.2.2.2.2.2.2.2.1.1, ()), (z5, ()))))))))))) (fun z0 z1 z2 z5 => K (.ex 0) (s_walk_steps_1_t0.enc ((), (((), ((), ((), ((), ((), ((), ((), ((), ((), ((), ((), ((), ((), ((), ((), ((), ((), ((), ((), ((), ((), ((), ((), ((), ((), ((), ((), ((), ((), ((), ((), ((), ())))))))))))))))))))))))))))))))), ((z0, ()), ((), ((z1, ()), ((z2, ()), ((v.2.2.2.2.2.2.1.1, ()), ((v.2.2.2.2.2.2.2.1.1, ()), (z5, ()))))))))))) v.2.2.2.2.2.2.1.1 v.2.2.2.2.2.2.2.1.1 (fun z0 z1 z2 z3 z4 z7 z8 => rec (((), ((), ((), (z0, ((), (z1, ())))))), (((), ((), ((), ((), ((), ((), ((), ((), ((), ((), ((), ((), ((), ((), ((), ((), ((), ((), ((), ((), ((), ((), ((), ((), ((), ((), ((), ((), ((), ((), ((), ((), ())))))))))))))))))))))))))))))))), ((z2, ()), ((), ((z3, ()), ((z4, ()), ((v.2.2.2.2.2.2.1.1, ()), ((v.2.2.2.2.2.2.2.1.1, ()), (z7, (z8, ()))))))))))) v.1.2.2.2.1 v.1.2.2.2.2.2.1 v.2.2.1.1 v.2.2.2.2.1.1 v.2.2.2.2.2.1.1 v.2.2.2.2.2.2.2.2.1 v.2.2.2.2.2.2.2.2.2.1
noncomputable def W_walk_steps_1_0 (n : Nat) (K : Cont) (m : Nat) (v : Sig.sem s_walk_steps_1_h0) : Option Res := L_walk_steps_1_0 n (fun z0 z1 z2 z5 => K .rt (s_walk_steps_1_r.enc ((), (((), ((), ((), ((), ((), ((), ((), ((), ((), ((), ((), ((), ((), ((), ((), ((), ((), ((), ((), ((), ((), ((), ((), ((), ((), ((), ((), ((), ((), ((), ((), ((), ())))))))))))))))))))))))))))))))), ((z0, ()), ((), ((z1, ()), ((z2, ()), ((v.2.2.2.2.2.2.1.1, ()), ((v.2.2.2.2.2.2.2.1.1, ()), (z5, ()))))))))))) (fun z0 z1 z2 z5 => K (.ex 0) (s_walk_steps_1_t0.enc ((), (((), ((), ((), ((), ((), ((), ((), ((), ((), ((), ((), ((), ((), ((), ((), ((), ((), ((), ((), ((), ((), ((), ((), ((), ((), ((), ((), ((), ((), ((), ((), ((), ())))))))))))))))))))))))))))))))), ((z0, ()), ((), ((z1, ()), ((z2, ()), ((v.2.2.2.2.2.2.1.1, ()), ((v.2.2.2.2.2.2.2.1.1, ()), (z5, ()))))))))))) v.2.2.2.2.2.2.1.1 v.2.2.2.2.2.2.2.1.1 m v.1.2.2.2.1 v.1.2.2.2.2.2.1 v.2.2.1.1 v.2.2.2.2.1.1 v.2.2.2.2.2.1.1 v.2.2.2.2.2.2.2.2.1 v.2.2.2.2.2.2.2.2.2.1
theorem i_walk_steps_1_0 (n : Nat) (K : Cont) : ∀ m v, iter (V_walk_steps_1_0 n K) m v = W_walk_steps_1_0 n K m v := by
  intro m
  induction m with
  | zero => intro v; rfl
  | succ m ih =>
    intro v
    show V_walk_steps_1_0 n K (iter (V_walk_steps_1_0 n K) m) v = V_walk_steps_1_0 n K (W_walk_steps_1_0 n K m) v
    rw [show iter (V_walk_steps_1_0 n K) m = W_walk_steps_1_0 n K m from funext ih]
theorem o_walk_steps_1_0 (n : Nat) : ∀ L, ls_walk_steps_1 n 0 = some L → ∀ s K r, L s K = some r → ∃ x s', loopN (run Try.prog cf_walk_steps_1 Try.f95.ntmps 7 n p_walk_steps_1 none b_walk_steps_1_0) (gc 7 (p_walk_steps_1.head 0)) n s = some (x, s') ∧ K x s' = some r := by
  intro L hL s K r h
  have hL : some (loopT 7 (p_walk_steps_1.head 0) s_walk_steps_1_h0 fun K v => W_walk_steps_1_0 n K n v) = some L := hL
  cases hL
  have hb : LOk Try.prog cf_walk_steps_1 Try.f95.ntmps 7 n p_walk_steps_1 (ls_walk_steps_1 n) b_walk_steps_1_0 := ⟨⟨trivial, ⟨trivial, trivial⟩⟩, ⟨trivial, ⟨⟨trivial, ⟨⟨trivial, trivial⟩, trivial⟩⟩, ⟨trivial, ⟨⟨trivial, ⟨trivial, trivial⟩⟩, ⟨trivial, trivial⟩⟩⟩⟩⟩⟩
  refine loopT_ok hb (V_walk_steps_1_0 n) (t_walk_steps_1_0 n) n s K r ?_
  rw [← h]
  unfold loopT
  simp only [i_walk_steps_1_0]
theorem m_walk_steps_1 (n : Nat) (a0 : Nat) (a1 : (List HeadS)) (a2 : Int) (a3 : Int) (a4 : (List NodeS)) (a5 : ByteArray) : runFT Try.prog cf_walk_steps_1 p_walk_steps_1 (ls_walk_steps_1 n) Try.f95 (bodyOf Try.f95) (EK.encs e_walk_steps_1 (((), ((), ((), ()))), (((), ((), ((), ((), ((), ((), ((), ((), ((), ((), ((), ((), ((), ((), ((), ((), ((), ((), ((), ((), ((), ((), ((), ((), ((), ((), ((), ((), ((), ((), ((), ((), ())))))))))))))))))))))))))))))))), ((a0, ()), (a1, ((a2, ()), ((a3, ()), ((a4, ()), ((a5, ()), ())))))))).1) (HK.encs h_walk_steps_1 (((), ((), ((), ()))), (((), ((), ((), ((), ((), ((), ((), ((), ((), ((), ((), ((), ((), ((), ((), ((), ((), ((), ((), ((), ((), ((), ((), ((), ((), ((), ((), ((), ((), ((), ((), ((), ())))))))))))))))))))))))))))))))), ((a0, ()), (a1, ((a2, ()), ((a3, ()), ((a4, ()), ((a5, ()), ())))))))).2) = M_walk_steps_1 n a0 a1 a2 a3 a4 a5 := by kernel_rfl
theorem g_walk_steps_1 (n : Nat) (a0 : Nat) (a1 : (List HeadS)) (a2 : Int) (a3 : Int) (a4 : (List NodeS)) (a5 : ByteArray) {r : Res} (h : M_walk_steps_1 n a0 a1 a2 a3 a4 a5 = some r) : runF Try.prog cf_walk_steps_1 n p_walk_steps_1 95 (EK.encs e_walk_steps_1 (((), ((), ((), ()))), (((), ((), ((), ((), ((), ((), ((), ((), ((), ((), ((), ((), ((), ((), ((), ((), ((), ((), ((), ((), ((), ((), ((), ((), ((), ((), ((), ((), ((), ((), ((), ((), ())))))))))))))))))))))))))))))))), ((a0, ()), (a1, ((a2, ()), ((a3, ()), ((a4, ()), ((a5, ()), ())))))))).1) (HK.encs h_walk_steps_1 (((), ((), ((), ()))), (((), ((), ((), ((), ((), ((), ((), ((), ((), ((), ((), ((), ((), ((), ((), ((), ((), ((), ((), ((), ((), ((), ((), ((), ((), ((), ((), ((), ((), ((), ((), ((), ())))))))))))))))))))))))))))))))), ((a0, ()), (a1, ((a2, ()), ((a3, ()), ((a4, ()), ((a5, ()), ())))))))).2) = some r := by
  have hb : LOk Try.prog cf_walk_steps_1 Try.f95.ntmps 7 n p_walk_steps_1 (ls_walk_steps_1 n) (bodyOf Try.f95) := ⟨trivial, ⟨trivial, (o_walk_steps_1_0 n)⟩⟩
  exact runFT_some Try.prog (c := bodyOf Try.f95) Try.func95 (show Try.f95.body = some (bodyOf Try.f95) from rfl) (show (3 : Nat) ≤ 59 by decide) hb ((m_walk_steps_1 n a0 a1 a2 a3 a4 a5).trans h) rfl (by kernel_rfl)
noncomputable def c_walk_steps_1 : Spec := specQ e_walk_steps_1 h_walk_steps_1 ro_walk_steps_1 rh_walk_steps_1 fun a b => Q_walk_steps_1 b.2.1.1 b.2.2.1 b.2.2.2.1.1 b.2.2.2.2.1.1 b.2.2.2.2.2.1.1 b.2.2.2.2.2.2.1.1
theorem k_walk_steps_1 (hm : Try.prog.follows .mixedOrders = true) : SpecOk Try.prog 95 c_walk_steps_1 := specQ_ok (pol := p_walk_steps_1) hm (cf := cf_walk_steps_1) (tab_ok (specs_cons (k_graph_Find hm) (specs_cons (k_walk_Size hm) (specs_cons (k_walk_next hm) specs_nil)))) fun a b r h => ⟨FUEL, g_walk_steps_1 FUEL b.2.1.1 b.2.2.1 b.2.2.2.1.1 b.2.2.2.2.1.1 b.2.2.2.2.2.1.1 b.2.2.2.2.2.2.1.1 (decRes_some h)⟩
def s_walk_Walk_r : Sig := ⟨[4, 5, 6], [.hs 0 0, .ty (.int .i64), .ty (.int .i64)], [.row HeadT]⟩
def p_walk_Walk : Pol := ⟨fun i => none, fun i => none, some [(4, (.own HeadT)), (5, .keep), (6, .keep)], [(.own HeadT), .keep, .keep], []⟩
def e_walk_Walk : List EK := [.ty (.slice NodeT), .ty .str]
def h_walk_Walk : List HK := []
noncomputable def cf_walk_Walk : CallF := { (mkCFs [(78, c_graph_May), (79, c_walk_steps), (95, c_walk_steps_1)] [(78, [(.slice NodeT)]), (79, [(.slice NodeT), .str])] 62 0 [7, 8, 9]) with grow := [88] }
noncomputable def ls_walk_Walk (n : Nat) : Loops := fun i =>  none
theorem m_walk_Walk (n : Nat) (a0 : (List NodeS)) (a1 : ByteArray) : runFT Try.prog cf_walk_Walk p_walk_Walk (ls_walk_Walk n) Try.f62 (bodyOf Try.f62) (EK.encs e_walk_Walk ((a0, (a1, ())), ()).1) (HK.encs h_walk_Walk ((a0, (a1, ())), ()).2) = M_walk_Walk n a0 a1 := by kernel_rfl
theorem g_walk_Walk (n : Nat) (a0 : (List NodeS)) (a1 : ByteArray) {r : Res} (h : M_walk_Walk n a0 a1 = some r) : runF Try.prog cf_walk_Walk n p_walk_Walk 62 (EK.encs e_walk_Walk ((a0, (a1, ())), ()).1) (HK.encs h_walk_Walk ((a0, (a1, ())), ()).2) = some r := by
  have hb : LOk Try.prog cf_walk_Walk Try.f62.ntmps 0 n p_walk_Walk (ls_walk_Walk n) (bodyOf Try.f62) := ⟨trivial, ⟨⟨trivial, ⟨⟨trivial, trivial⟩, trivial⟩⟩, ⟨trivial, ⟨trivial, ⟨⟨trivial, trivial⟩, ⟨trivial, trivial⟩⟩⟩⟩⟩⟩
  exact runFT_some Try.prog (c := bodyOf Try.f62) Try.func62 (show Try.f62.body = some (bodyOf Try.f62) from rfl) (show (2 : Nat) ≤ 32 by decide) hb ((m_walk_Walk n a0 a1).trans h) rfl (by kernel_rfl)
noncomputable def c_walk_Walk : Spec := specQ e_walk_Walk h_walk_Walk ro_walk_Walk rh_walk_Walk fun a b => Q_walk_Walk a.1 a.2.1
theorem k_walk_Walk (hm : Try.prog.follows .mixedOrders = true) : SpecOk Try.prog 62 c_walk_Walk := specQ_ok (pol := p_walk_Walk) hm (cf := cf_walk_Walk) (CallSound.grow <| tabs_ok Try.func62 (show Try.f62.body = some (bodyOf Try.f62) from rfl) (RfOk.seq trivial (RfOk.seq (RfOk.seq trivial (RfOk.cond (RfOk.seq trivial trivial) trivial)) (RfOk.seq trivial (RfOk.seq trivial (RfOk.seq (RfOk.seq trivial (RfOk.block (RfOk.range (by kernel_rfl)))) (RfOk.seq trivial trivial)))))) (specs_cons (k_graph_May hm) (specs_cons (k_walk_steps hm) (specs_cons (k_walk_steps_1 hm) specs_nil)))) fun a b r h => ⟨FUEL, g_walk_Walk FUEL a.1 a.2.1 (decRes_some h)⟩
def s_pack_Packet_Walkx81b_r : Sig := ⟨[4, 5], [.ty (.int .i64), .ty (.int .i64)], [.one false [.ptr 1 0 0, .hs 5 0, .ptr 3 0 0, .ty (.int .i64)], .one false [.hs 2 0], .row (.int .u8), .one false [.hs 4 0], .row (.int .u8), .row HeadT]⟩
def p_pack_Packet_Walkx81b : Pol := ⟨fun i => none, fun i => none, some [(4, .keep), (5, .keep)], [.keep, .keep], []⟩
def e_pack_Packet_Walkx81b : List EK := [.ptr 0 0 0, .ty (.slice NodeT)]
def h_pack_Packet_Walkx81b : List HK := [.one false [.ptr 1 0 0, .nul 4, .ptr 3 0 0, .ty (.int .i64)], .one false [.hs 2 0], .row (.int .u8), .one false [.hs 4 0], .row (.int .u8)]
noncomputable def cf_pack_Packet_Walkx81b : CallF := mkCF [(29, c_pack_Packet_Textx626), (62, c_walk_Walk)] [(62, [(.slice NodeT), .str])]
noncomputable def ls_pack_Packet_Walkx81b (n : Nat) : Loops := fun i =>  none
theorem m_pack_Packet_Walkx81b (n : Nat) (a0 : (List NodeS)) (a1 : Int) (a2 : Nat) (a3 : (List Int)) (a4 : Nat) (a5 : (List Int)) : runFT Try.prog cf_pack_Packet_Walkx81b p_pack_Packet_Walkx81b (ls_pack_Packet_Walkx81b n) Try.f45 (bodyOf Try.f45) (EK.encs e_pack_Packet_Walkx81b (((), (a0, ())), (((), ((), ((), (a1, ())))), ((a2, ()), (a3, ((a4, ()), (a5, ())))))).1) (HK.encs h_pack_Packet_Walkx81b (((), (a0, ())), (((), ((), ((), (a1, ())))), ((a2, ()), (a3, ((a4, ()), (a5, ())))))).2) = M_pack_Packet_Walkx81b n a0 a1 a2 a3 a4 a5 := by kernel_rfl
theorem g_pack_Packet_Walkx81b (n : Nat) (a0 : (List NodeS)) (a1 : Int) (a2 : Nat) (a3 : (List Int)) (a4 : Nat) (a5 : (List Int)) {r : Res} (h : M_pack_Packet_Walkx81b n a0 a1 a2 a3 a4 a5 = some r) : runF Try.prog cf_pack_Packet_Walkx81b n p_pack_Packet_Walkx81b 45 (EK.encs e_pack_Packet_Walkx81b (((), (a0, ())), (((), ((), ((), (a1, ())))), ((a2, ()), (a3, ((a4, ()), (a5, ())))))).1) (HK.encs h_pack_Packet_Walkx81b (((), (a0, ())), (((), ((), ((), (a1, ())))), ((a2, ()), (a3, ((a4, ()), (a5, ())))))).2) = some r := by
  have hb : LOk Try.prog cf_pack_Packet_Walkx81b Try.f45.ntmps 5 n p_pack_Packet_Walkx81b (ls_pack_Packet_Walkx81b n) (bodyOf Try.f45) := ⟨trivial, ⟨⟨trivial, ⟨⟨trivial, trivial⟩, trivial⟩⟩, ⟨trivial, ⟨trivial, ⟨trivial, trivial⟩⟩⟩⟩⟩
  exact runFT_some Try.prog (c := bodyOf Try.f45) Try.func45 (show Try.f45.body = some (bodyOf Try.f45) from rfl) (show (2 : Nat) ≤ 26 by decide) hb ((m_pack_Packet_Walkx81b n a0 a1 a2 a3 a4 a5).trans h) rfl (by kernel_rfl)
noncomputable def c_pack_Packet_Walkx81b : Spec := specQ e_pack_Packet_Walkx81b h_pack_Packet_Walkx81b ro_pack_Packet_Walkx81b rh_pack_Packet_Walkx81b fun a b => Q_pack_Packet_Walkx81b a.2.1 b.1.2.2.2.1 b.2.1.1 b.2.2.1 b.2.2.2.1.1 b.2.2.2.2.1
theorem k_pack_Packet_Walkx81b (hm : Try.prog.follows .mixedOrders = true) : SpecOk Try.prog 45 c_pack_Packet_Walkx81b := specQ_ok (pol := p_pack_Packet_Walkx81b) hm (cf := cf_pack_Packet_Walkx81b) (tab_ok (specs_cons (k_pack_Packet_Textx626 hm) (specs_cons (k_walk_Walk hm) specs_nil))) fun a b r h => ⟨FUEL, g_pack_Packet_Walkx81b FUEL a.2.1 b.1.2.2.2.1 b.2.1.1 b.2.2.1 b.2.2.2.1.1 b.2.2.2.2.1 (decRes_some h)⟩
def s_turnoutref15_Form_r : Sig := ⟨[2], [.ty .bool], []⟩
def s_turnoutref15_Form_h0 : Sig := ⟨[1, 3, 4], [.ptr 0 0 0, .ty (.int .u64), .ty (.int .i64)], [.cell NodeT]⟩
def s_turnoutref15_Form_t0 : Sig := ⟨[1, 3], [.ptr 0 0 0, .ty (.int .u64)], [.cell NodeT]⟩
def s_turnoutref15_Form_h2 : Sig := ⟨[1, 3, 5], [.ptr 0 0 0, .ty (.int .u64), .ty (.int .i64)], [.cell NodeT]⟩
def s_turnoutref15_Form_t2 : Sig := ⟨[], [], []⟩
def p_turnoutref15_Form : Pol := ⟨fun i => if i = 0 then some [(1, (.own NodeT)), (3, .keep), (4, .keep)] else if i = 2 then some [(1, (.own NodeT)), (3, .keep), (5, .keep)] else none, fun i => if i = 0 then some [(1, (.own NodeT)), (3, .keep)] else if i = 2 then some [] else none, some [(2, .keep)], [.keep], []⟩
def e_turnoutref15_Form : List EK := [.agg NodeT]
def h_turnoutref15_Form : List HK := []
noncomputable def cf_turnoutref15_Form : CallF := mkCF [] []
noncomputable def ls_turnoutref15_Form (n : Nat) : Loops := fun i => if i = 0 then some (loopT 0 (p_turnoutref15_Form.head 0) s_turnoutref15_Form_h0 fun K v => L_turnoutref15_Form_0 n (fun z0 => K (.ex 0) (s_turnoutref15_Form_t0.enc (((), (z0, ())), (v.2.1, ())))) v.2.1 n v.1.2.1 v.1.2.2.1)
  else if i = 2 then some (loopT 0 (p_turnoutref15_Form.head 2) s_turnoutref15_Form_h2 fun K v => L_turnoutref15_Form_2 n (fun z0 => K .rt (s_turnoutref15_Form_r.enc ((z0, ()), ()))) (fun _ => K (.ex 2) (s_turnoutref15_Form_t2.enc ((), ()))) v.1.2.1 v.2.1 n v.1.2.2.1)
  else  none
noncomputable def b_turnoutref15_Form_0 : Code := partOf (bodyOf Try.f99) [1, 1, 1, 1, 1, 0, 1, 0, 0]
theorem t_turnoutref15_Form_0 (n : Nat) (K : Cont) (rec : Sig.sem s_turnoutref15_Form_h0 → Option Res) (v : Sig.sem s_turnoutref15_Form_h0) : runT Try.prog cf_turnoutref15_Form Try.f99.ntmps 0 p_turnoutref15_Form (ls_turnoutref15_Form n) b_turnoutref15_Form_0 (s_turnoutref15_Form_h0.enc v) (turnK 0 (p_turnoutref15_Form.head 0) s_turnoutref15_Form_h0 rec K) = F_turnoutref15_Form_0 n (fun z0 => K (.ex 0) (s_turnoutref15_Form_t0.enc (((), (z0, ())), (v.2.1, ())))) v.2.1 (fun z0 z1 => rec (((), (z0, (z1, ()))), (v.2.1, ()))) v.1.2.1 v.1.2.2.1 := by kernel_rfl
noncomputable def V_turnoutref15_Form_0 (n : Nat) (K : Cont) (rec : Sig.sem s_turnoutref15_Form_h0 → Option Res) (v : Sig.sem s_turnoutref15_Form_h0) : Option Res := F_turnoutref15_Form_0 n (fun z0 => K (.ex 0) (s_turnoutref15_Form_t0.enc (((), (z0, ())), (v.2.1, ())))) v.2.1 (fun z0 z1 => rec (((), (z0, (z1, ()))), (v.2.1, ()))) v.1.2.1 v.1.2.2.1
noncomputable def W_turnoutref15_Form_0 (n : Nat) (K : Cont) (m : Nat) (v : Sig.sem s_turnoutref15_Form_h0) : Option Res := L_turnoutref15_Form_0 n (fun z0 => K (.ex 0) (s_turnoutref15_Form_t0.enc (((), (z0, ())), (v.2.1, ())))) v.2.1 m v.1.2.1 v.1.2.2.1
theorem i_turnoutref15_Form_0 (n : Nat) (K : Cont) : ∀ m v, iter (V_turnoutref15_Form_0 n K) m v = W_turnoutref15_Form_0 n K m v := by
  intro m
  induction m with
  | zero => intro v; rfl
  | succ m ih =>
    intro v
    show V_turnoutref15_Form_0 n K (iter (V_turnoutref15_Form_0 n K) m) v = V_turnoutref15_Form_0 n K (W_turnoutref15_Form_0 n K m) v
    rw [show iter (V_turnoutref15_Form_0 n K) m = W_turnoutref15_Form_0 n K m from funext ih]
theorem o_turnoutref15_Form_0 (n : Nat) : ∀ L, ls_turnoutref15_Form n 0 = some L → ∀ s K r, L s K = some r → ∃ x s', loopN (run Try.prog cf_turnoutref15_Form Try.f99.ntmps 0 n p_turnoutref15_Form none b_turnoutref15_Form_0) (gc 0 (p_turnoutref15_Form.head 0)) n s = some (x, s') ∧ K x s' = some r := by
  intro L hL s K r h
  have hL : some (loopT 0 (p_turnoutref15_Form.head 0) s_turnoutref15_Form_h0 fun K v => W_turnoutref15_Form_0 n K n v) = some L := hL
  cases hL
  have hb : LOk Try.prog cf_turnoutref15_Form Try.f99.ntmps 0 n p_turnoutref15_Form (ls_turnoutref15_Form n) b_turnoutref15_Form_0 := ⟨⟨trivial, ⟨trivial, trivial⟩⟩, ⟨trivial, trivial⟩⟩
  refine loopT_ok hb (V_turnoutref15_Form_0 n) (t_turnoutref15_Form_0 n) n s K r ?_
  rw [← h]
  unfold loopT
  simp only [i_turnoutref15_Form_0]
noncomputable def b_turnoutref15_Form_2 : Code := partOf (bodyOf Try.f99) [1, 1, 1, 1, 1, 1, 0, 1, 0, 0]
theorem t_turnoutref15_Form_2 (n : Nat) (K : Cont) (rec : Sig.sem s_turnoutref15_Form_h2 → Option Res) (v : Sig.sem s_turnoutref15_Form_h2) : runT Try.prog cf_turnoutref15_Form Try.f99.ntmps 0 p_turnoutref15_Form (ls_turnoutref15_Form n) b_turnoutref15_Form_2 (s_turnoutref15_Form_h2.enc v) (turnK 0 (p_turnoutref15_Form.head 2) s_turnoutref15_Form_h2 rec K) = F_turnoutref15_Form_2 n (fun z0 => K .rt (s_turnoutref15_Form_r.enc ((z0, ()), ()))) (fun _ => K (.ex 2) (s_turnoutref15_Form_t2.enc ((), ()))) v.1.2.1 v.2.1 (fun z1 => rec (((), (v.1.2.1, (z1, ()))), (v.2.1, ()))) v.1.2.2.1 := by kernel_rfl
noncomputable def V_turnoutref15_Form_2 (n : Nat) (K : Cont) (rec : Sig.sem s_turnoutref15_Form_h2 → Option Res) (v : Sig.sem s_turnoutref15_Form_h2) : Option Res := F_turnoutref15_Form_2 n (fun z0 => K .rt (s_turnoutref15_Form_r.enc ((z0, ()), ()))) (fun _ => K (.ex 2) (s_turnoutref15_Form_t2.enc ((), ()))) v.1.2.1 v.2.1 (fun z1 => rec (((), (v.1.2.1, (z1, ()))), (v.2.1, ()))) v.1.2.2.1
noncomputable def W_turnoutref15_Form_2 (n : Nat) (K : Cont) (m : Nat) (v : Sig.sem s_turnoutref15_Form_h2) : Option Res := L_turnoutref15_Form_2 n (fun z0 => K .rt (s_turnoutref15_Form_r.enc ((z0, ()), ()))) (fun _ => K (.ex 2) (s_turnoutref15_Form_t2.enc ((), ()))) v.1.2.1 v.2.1 m v.1.2.2.1
theorem i_turnoutref15_Form_2 (n : Nat) (K : Cont) : ∀ m v, iter (V_turnoutref15_Form_2 n K) m v = W_turnoutref15_Form_2 n K m v := by
  intro m
  induction m with
  | zero => intro v; rfl
  | succ m ih =>
    intro v
    show V_turnoutref15_Form_2 n K (iter (V_turnoutref15_Form_2 n K) m) v = V_turnoutref15_Form_2 n K (W_turnoutref15_Form_2 n K m) v
    rw [show iter (V_turnoutref15_Form_2 n K) m = W_turnoutref15_Form_2 n K m from funext ih]
theorem o_turnoutref15_Form_2 (n : Nat) : ∀ L, ls_turnoutref15_Form n 2 = some L → ∀ s K r, L s K = some r → ∃ x s', loopN (run Try.prog cf_turnoutref15_Form Try.f99.ntmps 0 n p_turnoutref15_Form none b_turnoutref15_Form_2) (gc 0 (p_turnoutref15_Form.head 2)) n s = some (x, s') ∧ K x s' = some r := by
  intro L hL s K r h
  have hL : some (loopT 0 (p_turnoutref15_Form.head 2) s_turnoutref15_Form_h2 fun K v => W_turnoutref15_Form_2 n K n v) = some L := hL
  cases hL
  have hb : LOk Try.prog cf_turnoutref15_Form Try.f99.ntmps 0 n p_turnoutref15_Form (ls_turnoutref15_Form n) b_turnoutref15_Form_2 := ⟨⟨trivial, ⟨trivial, trivial⟩⟩, ⟨⟨trivial, ⟨trivial, ⟨⟨trivial, trivial⟩, trivial⟩⟩⟩, trivial⟩⟩
  refine loopT_ok hb (V_turnoutref15_Form_2 n) (t_turnoutref15_Form_2 n) n s K r ?_
  rw [← h]
  unfold loopT
  simp only [i_turnoutref15_Form_2]
theorem m_turnoutref15_Form (n : Nat) (a0 : NodeS) : runFT Try.prog cf_turnoutref15_Form p_turnoutref15_Form (ls_turnoutref15_Form n) Try.f99 (bodyOf Try.f99) (EK.encs e_turnoutref15_Form ((a0, ()), ()).1) (HK.encs h_turnoutref15_Form ((a0, ()), ()).2) = M_turnoutref15_Form n a0 := by kernel_rfl
theorem g_turnoutref15_Form (n : Nat) (a0 : NodeS) {r : Res} (h : M_turnoutref15_Form n a0 = some r) : runF Try.prog cf_turnoutref15_Form n p_turnoutref15_Form 99 (EK.encs e_turnoutref15_Form ((a0, ()), ()).1) (HK.encs h_turnoutref15_Form ((a0, ()), ()).2) = some r := by
  have hb : LOk Try.prog cf_turnoutref15_Form Try.f99.ntmps 0 n p_turnoutref15_Form (ls_turnoutref15_Form n) (bodyOf Try.f99) := ⟨trivial, ⟨⟨trivial, ⟨⟨trivial, trivial⟩, trivial⟩⟩, ⟨⟨trivial, ⟨⟨trivial, trivial⟩, trivial⟩⟩, ⟨⟨trivial, ⟨⟨trivial, trivial⟩, trivial⟩⟩, ⟨trivial, ⟨⟨trivial, (o_turnoutref15_Form_0 n)⟩, ⟨⟨trivial, (o_turnoutref15_Form_2 n)⟩, ⟨trivial, trivial⟩⟩⟩⟩⟩⟩⟩⟩
  exact runFT_some Try.prog (c := bodyOf Try.f99) Try.func99 (show Try.f99.body = some (bodyOf Try.f99) from rfl) (show (1 : Nat) ≤ 179 by decide) hb ((m_turnoutref15_Form n a0).trans h) rfl (by kernel_rfl)
noncomputable def c_turnoutref15_Form : Spec := specQ e_turnoutref15_Form h_turnoutref15_Form ro_turnoutref15_Form rh_turnoutref15_Form fun a b => Q_turnoutref15_Form a.1
theorem k_turnoutref15_Form (hm : Try.prog.follows .mixedOrders = true) : SpecOk Try.prog 99 c_turnoutref15_Form := specQ_ok (pol := p_turnoutref15_Form) hm (cf := cf_turnoutref15_Form) (tab_ok specs_nil) fun a b r h => ⟨FUEL, g_turnoutref15_Form FUEL a.1 (decRes_some h)⟩
def s_turnoutref15_Goes_h0 : Sig := ⟨[1, 3, 4], [.ptr 0 0 0, .hs 1 0, .ty (.int .i64)], [.cell NodeT, .row (.int .i64)]⟩
def s_turnoutref15_Goes_t0 : Sig := ⟨[1, 3], [.ptr 0 0 0, .hs 1 0], [.cell NodeT, .row (.int .i64)]⟩
def s_turnoutref15_Goes_r : Sig := ⟨[2], [.hs 0 0], [.row (.int .i64)]⟩
def p_turnoutref15_Goes : Pol := ⟨fun i => if i = 0 then some [(1, (.own NodeT)), (3, (.own (.int .i64))), (4, .keep)] else none, fun i => if i = 0 then some [(1, (.own NodeT)), (3, (.own (.int .i64)))] else none, some [(2, (.own (.int .i64)))], [(.own (.int .i64))], []⟩
def e_turnoutref15_Goes : List EK := [.agg NodeT]
def h_turnoutref15_Goes : List HK := []
noncomputable def cf_turnoutref15_Goes : CallF := mkCF [] []
noncomputable def ls_turnoutref15_Goes (n : Nat) : Loops := fun i => if i = 0 then some (loopT 0 (p_turnoutref15_Goes.head 0) s_turnoutref15_Goes_h0 fun K v => L_turnoutref15_Goes_0 n (fun z0 z2 => K (.ex 0) (s_turnoutref15_Goes_t0.enc (((), (z0, ())), (v.2.1, (z2, ()))))) v.2.1 n v.1.2.1 v.1.2.2.1 v.2.2.1)
  else  none
noncomputable def b_turnoutref15_Goes_0 : Code := partOf (bodyOf Try.f100) [1, 1, 0, 1, 0, 0]
theorem t_turnoutref15_Goes_0 (n : Nat) (K : Cont) (rec : Sig.sem s_turnoutref15_Goes_h0 → Option Res) (v : Sig.sem s_turnoutref15_Goes_h0) : runT Try.prog cf_turnoutref15_Goes Try.f100.ntmps 0 p_turnoutref15_Goes (ls_turnoutref15_Goes n) b_turnoutref15_Goes_0 (s_turnoutref15_Goes_h0.enc v) (turnK 0 (p_turnoutref15_Goes.head 0) s_turnoutref15_Goes_h0 rec K) = F_turnoutref15_Goes_0 n (fun z0 z2 => K (.ex 0) (s_turnoutref15_Goes_t0.enc (((), (z0, ())), (v.2.1, (z2, ()))))) v.2.1 (fun z0 z1 z3 => rec (((), (z0, (z1, ()))), (v.2.1, (z3, ())))) v.1.2.1 v.1.2.2.1 v.2.2.1 := by kernel_rfl
noncomputable def V_turnoutref15_Goes_0 (n : Nat) (K : Cont) (rec : Sig.sem s_turnoutref15_Goes_h0 → Option Res) (v : Sig.sem s_turnoutref15_Goes_h0) : Option Res := F_turnoutref15_Goes_0 n (fun z0 z2 => K (.ex 0) (s_turnoutref15_Goes_t0.enc (((), (z0, ())), (v.2.1, (z2, ()))))) v.2.1 (fun z0 z1 z3 => rec (((), (z0, (z1, ()))), (v.2.1, (z3, ())))) v.1.2.1 v.1.2.2.1 v.2.2.1
noncomputable def W_turnoutref15_Goes_0 (n : Nat) (K : Cont) (m : Nat) (v : Sig.sem s_turnoutref15_Goes_h0) : Option Res := L_turnoutref15_Goes_0 n (fun z0 z2 => K (.ex 0) (s_turnoutref15_Goes_t0.enc (((), (z0, ())), (v.2.1, (z2, ()))))) v.2.1 m v.1.2.1 v.1.2.2.1 v.2.2.1
theorem i_turnoutref15_Goes_0 (n : Nat) (K : Cont) : ∀ m v, iter (V_turnoutref15_Goes_0 n K) m v = W_turnoutref15_Goes_0 n K m v := by
  intro m
  induction m with
  | zero => intro v; rfl
  | succ m ih =>
    intro v
    show V_turnoutref15_Goes_0 n K (iter (V_turnoutref15_Goes_0 n K) m) v = V_turnoutref15_Goes_0 n K (W_turnoutref15_Goes_0 n K m) v
    rw [show iter (V_turnoutref15_Goes_0 n K) m = W_turnoutref15_Goes_0 n K m from funext ih]
theorem o_turnoutref15_Goes_0 (n : Nat) : ∀ L, ls_turnoutref15_Goes n 0 = some L → ∀ s K r, L s K = some r → ∃ x s', loopN (run Try.prog cf_turnoutref15_Goes Try.f100.ntmps 0 n p_turnoutref15_Goes none b_turnoutref15_Goes_0) (gc 0 (p_turnoutref15_Goes.head 0)) n s = some (x, s') ∧ K x s' = some r := by
  intro L hL s K r h
  have hL : some (loopT 0 (p_turnoutref15_Goes.head 0) s_turnoutref15_Goes_h0 fun K v => W_turnoutref15_Goes_0 n K n v) = some L := hL
  cases hL
  have hb : LOk Try.prog cf_turnoutref15_Goes Try.f100.ntmps 0 n p_turnoutref15_Goes (ls_turnoutref15_Goes n) b_turnoutref15_Goes_0 := ⟨⟨trivial, ⟨trivial, trivial⟩⟩, ⟨trivial, trivial⟩⟩
  refine loopT_ok hb (V_turnoutref15_Goes_0 n) (t_turnoutref15_Goes_0 n) n s K r ?_
  rw [← h]
  unfold loopT
  simp only [i_turnoutref15_Goes_0]
theorem m_turnoutref15_Goes (n : Nat) (a0 : NodeS) : runFT Try.prog cf_turnoutref15_Goes p_turnoutref15_Goes (ls_turnoutref15_Goes n) Try.f100 (bodyOf Try.f100) (EK.encs e_turnoutref15_Goes ((a0, ()), ()).1) (HK.encs h_turnoutref15_Goes ((a0, ()), ()).2) = M_turnoutref15_Goes n a0 := by kernel_rfl
theorem g_turnoutref15_Goes (n : Nat) (a0 : NodeS) {r : Res} (h : M_turnoutref15_Goes n a0 = some r) : runF Try.prog cf_turnoutref15_Goes n p_turnoutref15_Goes 100 (EK.encs e_turnoutref15_Goes ((a0, ()), ()).1) (HK.encs h_turnoutref15_Goes ((a0, ()), ()).2) = some r := by
  have hb : LOk Try.prog cf_turnoutref15_Goes Try.f100.ntmps 0 n p_turnoutref15_Goes (ls_turnoutref15_Goes n) (bodyOf Try.f100) := ⟨trivial, ⟨trivial, ⟨⟨trivial, (o_turnoutref15_Goes_0 n)⟩, ⟨trivial, trivial⟩⟩⟩⟩
  exact runFT_some Try.prog (c := bodyOf Try.f100) Try.func100 (show Try.f100.body = some (bodyOf Try.f100) from rfl) (show (1 : Nat) ≤ 26 by decide) hb ((m_turnoutref15_Goes n a0).trans h) rfl (by kernel_rfl)
noncomputable def c_turnoutref15_Goes : Spec := specQ e_turnoutref15_Goes h_turnoutref15_Goes ro_turnoutref15_Goes rh_turnoutref15_Goes fun a b => Q_turnoutref15_Goes a.1
theorem k_turnoutref15_Goes (hm : Try.prog.follows .mixedOrders = true) : SpecOk Try.prog 100 c_turnoutref15_Goes := specQ_ok (pol := p_turnoutref15_Goes) hm (cf := cf_turnoutref15_Goes) (tab_ok specs_nil) fun a b r h => ⟨FUEL, g_turnoutref15_Goes FUEL a.1 (decRes_some h)⟩
def s_pack_Packet_placexc4b_r : Sig := ⟨[4, 5, 6], [.ptr 1 0 0, .ty (.int .i64), .ty (.int .i64)], [.one false [.ptr 1 0 0, .hs 3 0, .ptr 4 0 0, .ty (.int .i64)], .one false [.hs 2 0], .row (.int .u8), .row HeadT, .one false [.hs 5 0], .row (.int .u8)]⟩
def s_pack_Packet_placexc4b_r1 : Sig := ⟨[4, 5, 6], [.ptr 4 0 0, .ty (.int .i64), .ty (.int .i64)], [.one false [.ptr 1 0 0, .hs 3 0, .ptr 4 0 0, .ty (.int .i64)], .one false [.hs 2 0], .row (.int .u8), .row HeadT, .one false [.hs 5 0], .row (.int .u8)]⟩
def s_pack_Packet_placexc4b_h1 : Sig := ⟨[0, 3, 32, 33, 34], [.ptr 0 0 0, .ptr 6 0 0, .hs 3 0, .ty (.int .i64), .ty (.int .i64)], [.one false [.ptr 1 0 0, .hs 3 0, .ptr 4 0 0, .ty (.int .i64)], .one false [.hs 2 0], .row (.int .u8), .row HeadT, .one false [.hs 5 0], .row (.int .u8), .cell FieldT]⟩
def s_pack_Packet_placexc4b_t1 : Sig := ⟨[], [], [.one false [.ptr 1 0 0, .hs 3 0, .ptr 4 0 0, .ty (.int .i64)], .one false [.hs 2 0], .row (.int .u8), .row HeadT, .one false [.hs 5 0], .row (.int .u8)]⟩
def s_pack_Packet_placexc4b_r2 : Sig := ⟨[4, 5, 6], [.nul 0, .ty (.int .i64), .ty (.int .i64)], [.one false [.ptr 1 0 0, .hs 3 0, .ptr 4 0 0, .ty (.int .i64)], .one false [.hs 2 0], .row (.int .u8), .row HeadT, .one false [.hs 5 0], .row (.int .u8)]⟩
def p_pack_Packet_placexc4b : Pol := ⟨fun i => if i = 1 then some [(0, .keep), (3, (.own FieldT)), (32, (.own HeadT)), (33, .keep), (34, .keep)] else none, fun i => if i = 1 then some [] else none, some [(4, .keep), (5, .keep), (6, .keep)], [.keep, .keep, .keep], []⟩
def e_pack_Packet_placexc4b : List EK := [.ptr 0 0 0, .agg FieldT]
def h_pack_Packet_placexc4b : List HK := [.one false [.ptr 1 0 0, .hs 3 0, .ptr 4 0 0, .ty (.int .i64)], .one false [.hs 2 0], .row (.int .u8), .row HeadT, .one false [.hs 5 0], .row (.int .u8)]
noncomputable def cf_pack_Packet_placexc4b : CallF := mkCF [] []
noncomputable def ls_pack_Packet_placexc4b (n : Nat) : Loops := fun i => if i = 1 then some (loopT 6 (p_pack_Packet_placexc4b.head 1) s_pack_Packet_placexc4b_h1 fun K v => L_pack_Packet_placexc4b_1 n (fun z0 z1 => K .rt (s_pack_Packet_placexc4b_r.enc (((), (z0, (z1, ()))), (((), (v.2.1.2.1, ((), (v.2.1.2.2.2.1, ())))), ((v.2.2.1.1, ()), (v.2.2.2.1, (v.2.2.2.2.1, ((v.2.2.2.2.2.1.1, ()), (v.2.2.2.2.2.2.1, ()))))))))) (fun _ => K (.ex 1) (s_pack_Packet_placexc4b_t1.enc ((), (((), (v.2.1.2.1, ((), (v.2.1.2.2.2.1, ())))), ((v.2.2.1.1, ()), (v.2.2.2.1, (v.2.2.2.2.1, ((v.2.2.2.2.2.1.1, ()), (v.2.2.2.2.2.2.1, ()))))))))) v.1.2.2.1 v.1.2.2.2.1 v.2.2.2.2.1 v.2.2.2.2.2.2.2.1 n v.1.2.2.2.2.1)
  else  none
noncomputable def b_pack_Packet_placexc4b_1 : Code := partOf (bodyOf Try.f53) [1, 1, 0, 1, 0, 1, 1, 1, 1, 1, 0, 1, 0, 0]
theorem t_pack_Packet_placexc4b_1 (n : Nat) (K : Cont) (rec : Sig.sem s_pack_Packet_placexc4b_h1 → Option Res) (v : Sig.sem s_pack_Packet_placexc4b_h1) : runT Try.prog cf_pack_Packet_placexc4b Try.f53.ntmps 6 p_pack_Packet_placexc4b (ls_pack_Packet_placexc4b n) b_pack_Packet_placexc4b_1 (s_pack_Packet_placexc4b_h1.enc v) (turnK 6 (p_pack_Packet_placexc4b.head 1) s_pack_Packet_placexc4b_h1 rec K) = F_pack_Packet_placexc4b_1 n (fun z0 z1 => K .rt (s_pack_Packet_placexc4b_r.enc (((), (z0, (z1, ()))), (((), (v.2.1.2.1, ((), (v.2.1.2.2.2.1, ())))), ((v.2.2.1.1, ()), (v.2.2.2.1, (v.2.2.2.2.1, ((v.2.2.2.2.2.1.1, ()), (v.2.2.2.2.2.2.1, ()))))))))) (fun _ => K (.ex 1) (s_pack_Packet_placexc4b_t1.enc ((), (((), (v.2.1.2.1, ((), (v.2.1.2.2.2.1, ())))), ((v.2.2.1.1, ()), (v.2.2.2.1, (v.2.2.2.2.1, ((v.2.2.2.2.2.1.1, ()), (v.2.2.2.2.2.2.1, ()))))))))) v.1.2.2.1 v.1.2.2.2.1 v.2.2.2.2.1 v.2.2.2.2.2.2.2.1 (fun z2 => rec (((), ((), (v.1.2.2.1, (v.1.2.2.2.1, (z2, ()))))), (((), (v.2.1.2.1, ((), (v.2.1.2.2.2.1, ())))), ((v.2.2.1.1, ()), (v.2.2.2.1, (v.2.2.2.2.1, ((v.2.2.2.2.2.1.1, ()), (v.2.2.2.2.2.2.1, (v.2.2.2.2.2.2.2.1, ()))))))))) v.1.2.2.2.2.1 := by kernel_rfl
noncomputable def V_pack_Packet_placexc4b_1 (n : Nat) (K : Cont) (rec : Sig.sem s_pack_Packet_placexc4b_h1 → Option Res) (v : Sig.sem s_pack_Packet_placexc4b_h1) : Option Res := F_pack_Packet_placexc4b_1 n (fun z0 z1 => K .rt (s_pack_Packet_placexc4b_r.enc (((), (z0, (z1, ()))), (((), (v.2.1.2.1, ((), (v.2.1.2.2.2.1, ())))), ((v.2.2.1.1, ()), (v.2.2.2.1, (v.2.2.2.2.1, ((v.2.2.2.2.2.1.1, ()), (v.2.2.2.2.2.2.1, ()))))))))) (fun _ => K (.ex 1) (s_pack_Packet_placexc4b_t1.enc ((), (((), (v.2.1.2.1, ((), (v.2.1.2.2.2.1, ())))), ((v.2.2.1.1, ()), (v.2.2.2.1, (v.2.2.2.2.1, ((v.2.2.2.2.2.1.1, ()), (v.2.2.2.2.2.2.1, ()))))))))) v.1.2.2.1 v.1.2.2.2.1 v.2.2.2.2.1 v.2.2.2.2.2.2.2.1 (fun z2 => rec (((), ((), (v.1.2.2.1, (v.1.2.2.2.1, (z2, ()))))), (((), (v.2.1.2.1, ((), (v.2.1.2.2.2.1, ())))), ((v.2.2.1.1, ()), (v.2.2.2.1, (v.2.2.2.2.1, ((v.2.2.2.2.2.1.1, ()), (v.2.2.2.2.2.2.1, (v.2.2.2.2.2.2.2.1, ()))))))))) v.1.2.2.2.2.1
noncomputable def W_pack_Packet_placexc4b_1 (n : Nat) (K : Cont) (m : Nat) (v : Sig.sem s_pack_Packet_placexc4b_h1) : Option Res := L_pack_Packet_placexc4b_1 n (fun z0 z1 => K .rt (s_pack_Packet_placexc4b_r.enc (((), (z0, (z1, ()))), (((), (v.2.1.2.1, ((), (v.2.1.2.2.2.1, ())))), ((v.2.2.1.1, ()), (v.2.2.2.1, (v.2.2.2.2.1, ((v.2.2.2.2.2.1.1, ()), (v.2.2.2.2.2.2.1, ()))))))))) (fun _ => K (.ex 1) (s_pack_Packet_placexc4b_t1.enc ((), (((), (v.2.1.2.1, ((), (v.2.1.2.2.2.1, ())))), ((v.2.2.1.1, ()), (v.2.2.2.1, (v.2.2.2.2.1, ((v.2.2.2.2.2.1.1, ()), (v.2.2.2.2.2.2.1, ()))))))))) v.1.2.2.1 v.1.2.2.2.1 v.2.2.2.2.1 v.2.2.2.2.2.2.2.1 m v.1.2.2.2.2.1
theorem i_pack_Packet_placexc4b_1 (n : Nat) (K : Cont) : ∀ m v, iter (V_pack_Packet_placexc4b_1 n K) m v = W_pack_Packet_placexc4b_1 n K m v := by
  intro m
  induction m with
  | zero => intro v; rfl
  | succ m ih =>
    intro v
    show V_pack_Packet_placexc4b_1 n K (iter (V_pack_Packet_placexc4b_1 n K) m) v = V_pack_Packet_placexc4b_1 n K (W_pack_Packet_placexc4b_1 n K m) v
    rw [show iter (V_pack_Packet_placexc4b_1 n K) m = W_pack_Packet_placexc4b_1 n K m from funext ih]
theorem o_pack_Packet_placexc4b_1 (n : Nat) : ∀ L, ls_pack_Packet_placexc4b n 1 = some L → ∀ s K r, L s K = some r → ∃ x s', loopN (run Try.prog cf_pack_Packet_placexc4b Try.f53.ntmps 6 n p_pack_Packet_placexc4b none b_pack_Packet_placexc4b_1) (gc 6 (p_pack_Packet_placexc4b.head 1)) n s = some (x, s') ∧ K x s' = some r := by
  intro L hL s K r h
  have hL : some (loopT 6 (p_pack_Packet_placexc4b.head 1) s_pack_Packet_placexc4b_h1 fun K v => W_pack_Packet_placexc4b_1 n K n v) = some L := hL
  cases hL
  have hb : LOk Try.prog cf_pack_Packet_placexc4b Try.f53.ntmps 6 n p_pack_Packet_placexc4b (ls_pack_Packet_placexc4b n) b_pack_Packet_placexc4b_1 := ⟨trivial, ⟨⟨trivial, trivial⟩, ⟨⟨trivial, ⟨trivial, ⟨⟨trivial, trivial⟩, trivial⟩⟩⟩, trivial⟩⟩⟩
  refine loopT_ok hb (V_pack_Packet_placexc4b_1 n) (t_pack_Packet_placexc4b_1 n) n s K r ?_
  rw [← h]
  unfold loopT
  simp only [i_pack_Packet_placexc4b_1]
theorem m_pack_Packet_placexc4b (n : Nat) (a0 : FieldS) (a1 : Nat) (a2 : Int) (a3 : Nat) (a4 : (List Int)) (a5 : (List HeadS)) (a6 : Nat) (a7 : (List Int)) : runFT Try.prog cf_pack_Packet_placexc4b p_pack_Packet_placexc4b (ls_pack_Packet_placexc4b n) Try.f53 (bodyOf Try.f53) (EK.encs e_pack_Packet_placexc4b (((), (a0, ())), (((), (a1, ((), (a2, ())))), ((a3, ()), (a4, (a5, ((a6, ()), (a7, ()))))))).1) (HK.encs h_pack_Packet_placexc4b (((), (a0, ())), (((), (a1, ((), (a2, ())))), ((a3, ()), (a4, (a5, ((a6, ()), (a7, ()))))))).2) = M_pack_Packet_placexc4b n a0 a1 a2 a3 a4 a5 a6 a7 := by kernel_rfl
theorem g_pack_Packet_placexc4b (n : Nat) (a0 : FieldS) (a1 : Nat) (a2 : Int) (a3 : Nat) (a4 : (List Int)) (a5 : (List HeadS)) (a6 : Nat) (a7 : (List Int)) {r : Res} (h : M_pack_Packet_placexc4b n a0 a1 a2 a3 a4 a5 a6 a7 = some r) : runF Try.prog cf_pack_Packet_placexc4b n p_pack_Packet_placexc4b 53 (EK.encs e_pack_Packet_placexc4b (((), (a0, ())), (((), (a1, ((), (a2, ())))), ((a3, ()), (a4, (a5, ((a6, ()), (a7, ()))))))).1) (HK.encs h_pack_Packet_placexc4b (((), (a0, ())), (((), (a1, ((), (a2, ())))), ((a3, ()), (a4, (a5, ((a6, ()), (a7, ()))))))).2) = some r := by
  have hb : LOk Try.prog cf_pack_Packet_placexc4b Try.f53.ntmps 6 n p_pack_Packet_placexc4b (ls_pack_Packet_placexc4b n) (bodyOf Try.f53) := ⟨trivial, ⟨⟨trivial, ⟨⟨trivial, trivial⟩, trivial⟩⟩, ⟨⟨trivial, ⟨trivial, ⟨⟨trivial, trivial⟩, ⟨trivial, ⟨⟨trivial, trivial⟩, ⟨trivial, ⟨⟨trivial, (o_pack_Packet_placexc4b_1 n)⟩, trivial⟩⟩⟩⟩⟩⟩⟩, ⟨trivial, trivial⟩⟩⟩⟩
  exact runFT_some Try.prog (c := bodyOf Try.f53) Try.func53 (show Try.f53.body = some (bodyOf Try.f53) from rfl) (show (2 : Nat) ≤ 51 by decide) hb ((m_pack_Packet_placexc4b n a0 a1 a2 a3 a4 a5 a6 a7).trans h) rfl (by kernel_rfl)
noncomputable def c_pack_Packet_placexc4b : Spec := specTr e_pack_Packet_placexc4b h_pack_Packet_placexc4b fun a b => (altTr ro_pack_Packet_placexc4b rh_pack_Packet_placexc4b (Q_pack_Packet_placexc4b a.2.1 b.1.2.1 b.1.2.2.2.1 b.2.1.1 b.2.2.1 b.2.2.2.1 b.2.2.2.2.1.1 b.2.2.2.2.2.1) (altTr ro_pack_Packet_placexc4b_1 rh_pack_Packet_placexc4b_1 (Q_pack_Packet_placexc4b_1 a.2.1 b.1.2.1 b.1.2.2.2.1 b.2.1.1 b.2.2.1 b.2.2.2.1 b.2.2.2.2.1.1 b.2.2.2.2.2.1) (altTr ro_pack_Packet_placexc4b_2 rh_pack_Packet_placexc4b_2 (Q_pack_Packet_placexc4b_2 a.2.1 b.1.2.1 b.1.2.2.2.1 b.2.1.1 b.2.2.1 b.2.2.2.1 b.2.2.2.2.1.1 b.2.2.2.2.2.1) .no)))
theorem k_pack_Packet_placexc4b (hm : Try.prog.follows .mixedOrders = true) : SpecOk Try.prog 53 c_pack_Packet_placexc4b := specTr_ok (pol := p_pack_Packet_placexc4b) hm (cf := cf_pack_Packet_placexc4b) (tab_ok specs_nil) fun a b r => (fun h => (altTr_val h).elim (fun ⟨x, hx, e⟩ => ⟨FUEL, e ▸ g_pack_Packet_placexc4b FUEL a.2.1 b.1.2.1 b.1.2.2.2.1 b.2.1.1 b.2.2.1 b.2.2.2.1 b.2.2.2.2.1.1 b.2.2.2.2.2.1 (decRes_some hx)⟩) (fun h => (altTr_val h).elim (fun ⟨x, hx, e⟩ => ⟨FUEL, e ▸ g_pack_Packet_placexc4b FUEL a.2.1 b.1.2.1 b.1.2.2.2.1 b.2.1.1 b.2.2.1 b.2.2.2.1 b.2.2.2.2.1.1 b.2.2.2.2.2.1 (decRes_some hx)⟩) (fun h => (altTr_val h).elim (fun ⟨x, hx, e⟩ => ⟨FUEL, e ▸ g_pack_Packet_placexc4b FUEL a.2.1 b.1.2.1 b.1.2.2.2.1 b.2.1.1 b.2.2.1 b.2.2.2.1 b.2.2.2.2.1.1 b.2.2.2.2.2.1 (decRes_some hx)⟩) (fun h => by cases h))))
def s_pack_Packet_Getxc4b_r : Sig := ⟨[4, 5], [.ptr 6 0 0, .ty (.int .i64)], [.one false [.ptr 1 0 0, .hs 3 0, .ptr 4 0 0, .ty (.int .i64)], .one false [.hs 2 0], .row (.int .u8), .row HeadT, .one false [.hs 5 0], .row (.int .u8), .cell WordT]⟩
def p_pack_Packet_Getxc4b : Pol := ⟨fun i => none, fun i => none, some [(4, (.own WordT)), (5, .keep)], [.keep, .keep], []⟩
def e_pack_Packet_Getxc4b : List EK := [.ptr 0 0 0, .agg FieldT]
def h_pack_Packet_Getxc4b : List HK := [.one false [.ptr 1 0 0, .hs 3 0, .ptr 4 0 0, .ty (.int .i64)], .one false [.hs 2 0], .row (.int .u8), .row HeadT, .one false [.hs 5 0], .row (.int .u8)]
noncomputable def cf_pack_Packet_Getxc4b : CallF := mkCF [(53, c_pack_Packet_placexc4b), (55, c_pack_bit), (54, (orSpec c_buf_Buf_Getx845 c_buf_Buf_Getx37e))] [(55, [(.int .i64), (.int .i64)])]
noncomputable def ls_pack_Packet_Getxc4b (n : Nat) : Loops := fun i =>  none
theorem m_pack_Packet_Getxc4b (n : Nat) (a0 : FieldS) (a1 : Nat) (a2 : Int) (a3 : Nat) (a4 : (List Int)) (a5 : (List HeadS)) (a6 : Nat) (a7 : (List Int)) : runFT Try.prog cf_pack_Packet_Getxc4b p_pack_Packet_Getxc4b (ls_pack_Packet_Getxc4b n) Try.f31 (bodyOf Try.f31) (EK.encs e_pack_Packet_Getxc4b (((), (a0, ())), (((), (a1, ((), (a2, ())))), ((a3, ()), (a4, (a5, ((a6, ()), (a7, ()))))))).1) (HK.encs h_pack_Packet_Getxc4b (((), (a0, ())), (((), (a1, ((), (a2, ())))), ((a3, ()), (a4, (a5, ((a6, ()), (a7, ()))))))).2) = M_pack_Packet_Getxc4b n a0 a1 a2 a3 a4 a5 a6 a7 := by kernel_rfl
theorem g_pack_Packet_Getxc4b (n : Nat) (a0 : FieldS) (a1 : Nat) (a2 : Int) (a3 : Nat) (a4 : (List Int)) (a5 : (List HeadS)) (a6 : Nat) (a7 : (List Int)) {r : Res} (h : M_pack_Packet_Getxc4b n a0 a1 a2 a3 a4 a5 a6 a7 = some r) : runF Try.prog cf_pack_Packet_Getxc4b n p_pack_Packet_Getxc4b 31 (EK.encs e_pack_Packet_Getxc4b (((), (a0, ())), (((), (a1, ((), (a2, ())))), ((a3, ()), (a4, (a5, ((a6, ()), (a7, ()))))))).1) (HK.encs h_pack_Packet_Getxc4b (((), (a0, ())), (((), (a1, ((), (a2, ())))), ((a3, ()), (a4, (a5, ((a6, ()), (a7, ()))))))).2) = some r := by
  have hb : LOk Try.prog cf_pack_Packet_Getxc4b Try.f31.ntmps 6 n p_pack_Packet_Getxc4b (ls_pack_Packet_Getxc4b n) (bodyOf Try.f31) := ⟨trivial, ⟨trivial, ⟨⟨trivial, ⟨⟨trivial, trivial⟩, trivial⟩⟩, ⟨trivial, ⟨⟨trivial, ⟨⟨trivial, trivial⟩, trivial⟩⟩, ⟨trivial, trivial⟩⟩⟩⟩⟩⟩
  exact runFT_some Try.prog (c := bodyOf Try.f31) Try.func31 (show Try.f31.body = some (bodyOf Try.f31) from rfl) (show (2 : Nat) ≤ 37 by decide) hb ((m_pack_Packet_Getxc4b n a0 a1 a2 a3 a4 a5 a6 a7).trans h) rfl (by kernel_rfl)
noncomputable def c_pack_Packet_Getxc4b : Spec := specQ e_pack_Packet_Getxc4b h_pack_Packet_Getxc4b ro_pack_Packet_Getxc4b rh_pack_Packet_Getxc4b fun a b => Q_pack_Packet_Getxc4b a.2.1 b.1.2.1 b.1.2.2.2.1 b.2.1.1 b.2.2.1 b.2.2.2.1 b.2.2.2.2.1.1 b.2.2.2.2.2.1
theorem k_pack_Packet_Getxc4b (hm : Try.prog.follows .mixedOrders = true) : SpecOk Try.prog 31 c_pack_Packet_Getxc4b := specQ_ok (pol := p_pack_Packet_Getxc4b) hm (cf := cf_pack_Packet_Getxc4b) (tab_ok (specs_cons (k_pack_Packet_placexc4b hm) (specs_cons (k_pack_bit hm) (specs_cons (orSpec_ok (k_buf_Buf_Getx845 hm) (k_buf_Buf_Getx37e hm)) specs_nil)))) fun a b r h => ⟨FUEL, g_pack_Packet_Getxc4b FUEL a.2.1 b.1.2.1 b.1.2.2.2.1 b.2.1.1 b.2.2.1 b.2.2.2.1 b.2.2.2.2.1.1 b.2.2.2.2.2.1 (decRes_some h)⟩
def s_key_textxb09_r : Sig := ⟨[4, 5], [.ty .str, .ty (.int .i64)], [.one false [.ptr 1 0 0, .hs 3 0, .ptr 4 0 0, .ty (.int .i64)], .one false [.hs 2 0], .row (.int .u8), .row HeadT, .one false [.hs 5 0], .row (.int .u8)]⟩
def p_key_textxb09 : Pol := ⟨fun i => none, fun i => none, some [(4, .keep), (5, .keep)], [.keep, .keep], []⟩
def e_key_textxb09 : List EK := [.mv 31 [(0, 0, 0)], .agg FieldT]
def h_key_textxb09 : List HK := [.one false [.ptr 1 0 0, .hs 3 0, .ptr 4 0 0, .ty (.int .i64)], .one false [.hs 2 0], .row (.int .u8), .row HeadT, .one false [.hs 5 0], .row (.int .u8)]
noncomputable def cf_key_textxb09 : CallF := mkCF [(31, c_pack_Packet_Getxc4b), (32, c_field_Text)] [(32, [WordT, (.int .i64)])]
noncomputable def ls_key_textxb09 (n : Nat) : Loops := fun i =>  none
theorem m_key_textxb09 (n : Nat) (a0 : FieldS) (a1 : Nat) (a2 : Int) (a3 : Nat) (a4 : (List Int)) (a5 : (List HeadS)) (a6 : Nat) (a7 : (List Int)) : runFT Try.prog cf_key_textxb09 p_key_textxb09 (ls_key_textxb09 n) Try.f40 (bodyOf Try.f40) (EK.encs e_key_textxb09 (((), (a0, ())), (((), (a1, ((), (a2, ())))), ((a3, ()), (a4, (a5, ((a6, ()), (a7, ()))))))).1) (HK.encs h_key_textxb09 (((), (a0, ())), (((), (a1, ((), (a2, ())))), ((a3, ()), (a4, (a5, ((a6, ()), (a7, ()))))))).2) = M_key_textxb09 n a0 a1 a2 a3 a4 a5 a6 a7 := by kernel_rfl
theorem g_key_textxb09 (n : Nat) (a0 : FieldS) (a1 : Nat) (a2 : Int) (a3 : Nat) (a4 : (List Int)) (a5 : (List HeadS)) (a6 : Nat) (a7 : (List Int)) {r : Res} (h : M_key_textxb09 n a0 a1 a2 a3 a4 a5 a6 a7 = some r) : runF Try.prog cf_key_textxb09 n p_key_textxb09 40 (EK.encs e_key_textxb09 (((), (a0, ())), (((), (a1, ((), (a2, ())))), ((a3, ()), (a4, (a5, ((a6, ()), (a7, ()))))))).1) (HK.encs h_key_textxb09 (((), (a0, ())), (((), (a1, ((), (a2, ())))), ((a3, ()), (a4, (a5, ((a6, ()), (a7, ()))))))).2) = some r := by
  have hb : LOk Try.prog cf_key_textxb09 Try.f40.ntmps 6 n p_key_textxb09 (ls_key_textxb09 n) (bodyOf Try.f40) := ⟨trivial, ⟨trivial, ⟨⟨trivial, ⟨⟨trivial, trivial⟩, trivial⟩⟩, ⟨trivial, ⟨trivial, trivial⟩⟩⟩⟩⟩
  exact runFT_some Try.prog (c := bodyOf Try.f40) Try.func40 (show Try.f40.body = some (bodyOf Try.f40) from rfl) (show (2 : Nat) ≤ 27 by decide) hb ((m_key_textxb09 n a0 a1 a2 a3 a4 a5 a6 a7).trans h) rfl (by kernel_rfl)
noncomputable def c_key_textxb09 : Spec := specQ e_key_textxb09 h_key_textxb09 ro_key_textxb09 rh_key_textxb09 fun a b => Q_key_textxb09 a.2.1 b.1.2.1 b.1.2.2.2.1 b.2.1.1 b.2.2.1 b.2.2.2.1 b.2.2.2.2.1.1 b.2.2.2.2.2.1
theorem k_key_textxb09 (hm : Try.prog.follows .mixedOrders = true) : SpecOk Try.prog 40 c_key_textxb09 := specQ_ok (pol := p_key_textxb09) hm (cf := cf_key_textxb09) (tab_ok (specs_cons (k_pack_Packet_Getxc4b hm) (specs_cons (k_field_Text hm) specs_nil))) fun a b r h => ⟨FUEL, g_key_textxb09 FUEL a.2.1 b.1.2.1 b.1.2.2.2.1 b.2.1.1 b.2.2.1 b.2.2.2.1 b.2.2.2.2.1.1 b.2.2.2.2.2.1 (decRes_some h)⟩
def e_key_Ofxcab : List EK := [.ptr 0 0 0, .ty (.slice FieldT)]
def h_key_Ofxcab : List HK := [.one false [.ptr 1 0 0, .hs 3 0, .ptr 4 0 0, .ty (.int .i64)], .one false [.hs 2 0], .row (.int .u8), .row HeadT, .one false [.hs 5 0], .row (.int .u8)]
noncomputable def c_key_Ofxcab : Spec := specQ e_key_Ofxcab h_key_Ofxcab ro_key_Ofxcab rh_key_Ofxcab fun a b => Q_key_Ofxcab a.2.1 b.1.2.1 b.1.2.2.2.1 b.2.1.1 b.2.2.1 b.2.2.2.1 b.2.2.2.2.1.1 b.2.2.2.2.2.1
theorem k_key_Ofxcab (hm : Try.prog.follows .mixedOrders = true) : SpecOk Try.prog 20 c_key_Ofxcab := H18.of_ok (e0 := (.ptr 0 0 0)) (cap := (0, 0, 0)) (fun s => rfl) (hs := h_key_Ofxcab) (fun b => rfl) (by rfl) (by rfl) (fun f b => Q_key_textxb09 f b.1.2.1 b.1.2.2.2.1 b.2.1.1 b.2.2.1 b.2.2.2.1 b.2.2.2.2.1.1 b.2.2.2.2.2.1) (k_key_textxb09 hm)
def s_key_Numberxc4b_r : Sig := ⟨[4, 5], [.ty (.int .u32), .ty (.int .i64)], [.one false [.ptr 1 0 0, .hs 3 0, .ptr 4 0 0, .ty (.int .i64)], .one false [.hs 2 0], .row (.int .u8), .row HeadT, .one false [.hs 5 0], .row (.int .u8)]⟩
def p_key_Numberxc4b : Pol := ⟨fun i => none, fun i => none, some [(4, .keep), (5, .keep)], [.keep, .keep], []⟩
def e_key_Numberxc4b : List EK := [.ptr 0 0 0, .agg FieldT]
def h_key_Numberxc4b : List HK := [.one false [.ptr 1 0 0, .hs 3 0, .ptr 4 0 0, .ty (.int .i64)], .one false [.hs 2 0], .row (.int .u8), .row HeadT, .one false [.hs 5 0], .row (.int .u8)]
noncomputable def cf_key_Numberxc4b : CallF := mkCF [(40, c_key_textxb09), (35, c_hash_Of), (34, c_hash_Mix)] [(35, [(.slice .str)]), (34, [(.int .u32)])]
noncomputable def ls_key_Numberxc4b (n : Nat) : Loops := fun i =>  none
theorem m_key_Numberxc4b (n : Nat) (a0 : FieldS) (a1 : Nat) (a2 : Int) (a3 : Nat) (a4 : (List Int)) (a5 : (List HeadS)) (a6 : Nat) (a7 : (List Int)) : runFT Try.prog cf_key_Numberxc4b p_key_Numberxc4b (ls_key_Numberxc4b n) Try.f22 (bodyOf Try.f22) (EK.encs e_key_Numberxc4b (((), (a0, ())), (((), (a1, ((), (a2, ())))), ((a3, ()), (a4, (a5, ((a6, ()), (a7, ()))))))).1) (HK.encs h_key_Numberxc4b (((), (a0, ())), (((), (a1, ((), (a2, ())))), ((a3, ()), (a4, (a5, ((a6, ()), (a7, ()))))))).2) = M_key_Numberxc4b n a0 a1 a2 a3 a4 a5 a6 a7 := by kernel_rfl
theorem g_key_Numberxc4b (n : Nat) (a0 : FieldS) (a1 : Nat) (a2 : Int) (a3 : Nat) (a4 : (List Int)) (a5 : (List HeadS)) (a6 : Nat) (a7 : (List Int)) {r : Res} (h : M_key_Numberxc4b n a0 a1 a2 a3 a4 a5 a6 a7 = some r) : runF Try.prog cf_key_Numberxc4b n p_key_Numberxc4b 22 (EK.encs e_key_Numberxc4b (((), (a0, ())), (((), (a1, ((), (a2, ())))), ((a3, ()), (a4, (a5, ((a6, ()), (a7, ()))))))).1) (HK.encs h_key_Numberxc4b (((), (a0, ())), (((), (a1, ((), (a2, ())))), ((a3, ()), (a4, (a5, ((a6, ()), (a7, ()))))))).2) = some r := by
  have hb : LOk Try.prog cf_key_Numberxc4b Try.f22.ntmps 6 n p_key_Numberxc4b (ls_key_Numberxc4b n) (bodyOf Try.f22) := ⟨trivial, ⟨trivial, ⟨⟨trivial, ⟨⟨trivial, trivial⟩, trivial⟩⟩, ⟨trivial, trivial⟩⟩⟩⟩
  exact runFT_some Try.prog (c := bodyOf Try.f22) Try.func22 (show Try.f22.body = some (bodyOf Try.f22) from rfl) (show (2 : Nat) ≤ 22 by decide) hb ((m_key_Numberxc4b n a0 a1 a2 a3 a4 a5 a6 a7).trans h) rfl (by kernel_rfl)
noncomputable def c_key_Numberxc4b : Spec := specQ e_key_Numberxc4b h_key_Numberxc4b ro_key_Numberxc4b rh_key_Numberxc4b fun a b => Q_key_Numberxc4b a.2.1 b.1.2.1 b.1.2.2.2.1 b.2.1.1 b.2.2.1 b.2.2.2.1 b.2.2.2.2.1.1 b.2.2.2.2.2.1
theorem k_key_Numberxc4b (hm : Try.prog.follows .mixedOrders = true) : SpecOk Try.prog 22 c_key_Numberxc4b := specQ_ok (pol := p_key_Numberxc4b) hm (cf := cf_key_Numberxc4b) (tab_ok (specs_cons (k_key_textxb09 hm) (specs_cons (k_hash_Of hm) (specs_cons (k_hash_Mix hm) specs_nil)))) fun a b r h => ⟨FUEL, g_key_Numberxc4b FUEL a.2.1 b.1.2.1 b.1.2.2.2.1 b.2.1.1 b.2.2.1 b.2.2.2.1 b.2.2.2.2.1.1 b.2.2.2.2.2.1 (decRes_some h)⟩
def s_turnoutlaw18_found_r : Sig := ⟨[4], [.nul 0], []⟩
def s_turnoutlaw18_found_r1 : Sig := ⟨[4], [.ptr 0 0 0], [.one false [.ptr 1 0 0, .hs 3 0, .ptr 4 0 0, .ty (.int .i64)], .one false [.hs 2 0], .row (.int .u8), .row HeadT, .one false [.hs 5 0], .row (.int .u8)]⟩
def p_turnoutlaw18_found : Pol := ⟨fun i => none, fun i => none, some [(4, .keep)], [.keep], []⟩
def e_turnoutlaw18_found : List EK := [.ty .str, .ty (.slice NodeT)]
def h_turnoutlaw18_found : List HK := []
noncomputable def cf_turnoutlaw18_found : CallF := { (mkCF [(19, c_pack_New), (45, c_pack_Packet_Walkx81b)] [(19, [(.int .i64), .str])]) with mix := mixes [(45, [none, some ((.slice NodeT))])] }
noncomputable def ls_turnoutlaw18_found (n : Nat) : Loops := fun i =>  none
theorem m_turnoutlaw18_found (n : Nat) (a0 : ByteArray) (a1 : (List NodeS)) : runFT Try.prog cf_turnoutlaw18_found p_turnoutlaw18_found (ls_turnoutlaw18_found n) Try.f30 (bodyOf Try.f30) (EK.encs e_turnoutlaw18_found ((a0, (a1, ())), ()).1) (HK.encs h_turnoutlaw18_found ((a0, (a1, ())), ()).2) = M_turnoutlaw18_found n a0 a1 := by kernel_rfl
theorem g_turnoutlaw18_found (n : Nat) (a0 : ByteArray) (a1 : (List NodeS)) {r : Res} (h : M_turnoutlaw18_found n a0 a1 = some r) : runF Try.prog cf_turnoutlaw18_found n p_turnoutlaw18_found 30 (EK.encs e_turnoutlaw18_found ((a0, (a1, ())), ()).1) (HK.encs h_turnoutlaw18_found ((a0, (a1, ())), ()).2) = some r := by
  have hb : LOk Try.prog cf_turnoutlaw18_found Try.f30.ntmps 0 n p_turnoutlaw18_found (ls_turnoutlaw18_found n) (bodyOf Try.f30) := ⟨trivial, ⟨trivial, ⟨⟨trivial, ⟨⟨trivial, trivial⟩, trivial⟩⟩, ⟨trivial, ⟨trivial, trivial⟩⟩⟩⟩⟩
  exact runFT_some Try.prog (c := bodyOf Try.f30) Try.func30 (show Try.f30.body = some (bodyOf Try.f30) from rfl) (show (2 : Nat) ≤ 18 by decide) hb ((m_turnoutlaw18_found n a0 a1).trans h) rfl (by kernel_rfl)
noncomputable def c_turnoutlaw18_found : Spec := specTr e_turnoutlaw18_found h_turnoutlaw18_found fun a b => (altTr ro_turnoutlaw18_found rh_turnoutlaw18_found (Q_turnoutlaw18_found a.1 a.2.1) (altTr ro_turnoutlaw18_found_1 rh_turnoutlaw18_found_1 (Q_turnoutlaw18_found_1 a.1 a.2.1) .no))
theorem k_turnoutlaw18_found (hm : Try.prog.follows .mixedOrders = true) : SpecOk Try.prog 30 c_turnoutlaw18_found := specTr_ok (pol := p_turnoutlaw18_found) hm (cf := cf_turnoutlaw18_found) (CallSound.mix <| tab_ok (specs_cons (k_pack_New hm) (specs_cons (k_pack_Packet_Walkx81b hm) specs_nil))) fun a b r => (fun h => (altTr_val h).elim (fun ⟨x, hx, e⟩ => ⟨FUEL, e ▸ g_turnoutlaw18_found FUEL a.1 a.2.1 (decRes_some hx)⟩) (fun h => (altTr_val h).elim (fun ⟨x, hx, e⟩ => ⟨FUEL, e ▸ g_turnoutlaw18_found FUEL a.1 a.2.1 (decRes_some hx)⟩) (fun h => by cases h)))
def s_turnoutlaw18_KeyWhole_r : Sig := ⟨[8], [.ty .bool], []⟩
def s_turnoutlaw18_KeyWhole_h0 : Sig := ⟨[2, 9, 16, 18], [.ty (.slice FieldT), .ptr 0 0 0, .hs 6 0, .ty (.int .i64)], [.one false [.ptr 1 0 0, .hs 3 0, .ptr 4 0 0, .ty (.int .i64)], .one false [.hs 2 0], .row (.int .u8), .row HeadT, .one false [.hs 5 0], .row (.int .u8), .row .str]⟩
def s_turnoutlaw18_KeyWhole_t0 : Sig := ⟨[], [], []⟩
def p_turnoutlaw18_KeyWhole : Pol := ⟨fun i => if i = 0 then some [(2, .keep), (9, .keep), (16, (.own .str)), (18, .keep)] else none, fun i => if i = 0 then some [] else none, some [(8, .keep)], [.keep], []⟩
def e_turnoutlaw18_KeyWhole : List EK := [.ty .str, .ty (.slice NodeT), .ty (.slice FieldT), .ty (.slice FieldT)]
def h_turnoutlaw18_KeyWhole : List HK := []
noncomputable def cf_turnoutlaw18_KeyWhole : CallF := { (mkCF [(24, c_turnoutlaw18_large), (11, c_turnoutlaw18_awake), (30, c_turnoutlaw18_found), (20, c_key_Ofxcab), (23, c_key_Widths), (12, c_key_Segments), (31, c_pack_Packet_Getxc4b), (32, c_field_Text)] [(24, [(.slice NodeT)]), (11, []), (30, [.str, (.slice NodeT)]), (23, [(.slice FieldT)]), (12, [.str, (.slice (.int .i64))]), (32, [WordT, (.int .i64)])]) with mix := mixes [(20, [none, some ((.slice FieldT))])] }
noncomputable def ls_turnoutlaw18_KeyWhole (n : Nat) : Loops := fun i => if i = 0 then some (loopT 0 (p_turnoutlaw18_KeyWhole.head 0) s_turnoutlaw18_KeyWhole_h0 fun K v => L_turnoutlaw18_KeyWhole_0 n (fun z0 => K .rt (s_turnoutlaw18_KeyWhole_r.enc ((z0, ()), ()))) (fun _ => K (.ex 0) (s_turnoutlaw18_KeyWhole_t0.enc ((), ()))) v.1.1 v.1.2.2.1 v.2.2.2.2.2.2.2.1 n v.1.2.2.2.1 v.2.1.2.1 v.2.1.2.2.2.1 v.2.2.1.1 v.2.2.2.1 v.2.2.2.2.1 v.2.2.2.2.2.1.1 v.2.2.2.2.2.2.1)
  else  none
noncomputable def b_turnoutlaw18_KeyWhole_0 : Code := partOf (bodyOf Try.f7) [1, 1, 1, 1, 1, 1, 1, 1, 1, 1, 1, 0, 1, 0, 0]
theorem t_turnoutlaw18_KeyWhole_0 (n : Nat) (K : Cont) (rec : Sig.sem s_turnoutlaw18_KeyWhole_h0 → Option Res) (v : Sig.sem s_turnoutlaw18_KeyWhole_h0) : runT Try.prog cf_turnoutlaw18_KeyWhole Try.f7.ntmps 0 p_turnoutlaw18_KeyWhole (ls_turnoutlaw18_KeyWhole n) b_turnoutlaw18_KeyWhole_0 (s_turnoutlaw18_KeyWhole_h0.enc v) (turnK 0 (p_turnoutlaw18_KeyWhole.head 0) s_turnoutlaw18_KeyWhole_h0 rec K) = F_turnoutlaw18_KeyWhole_0 n (fun z0 => K .rt (s_turnoutlaw18_KeyWhole_r.enc ((z0, ()), ()))) (fun _ => K (.ex 0) (s_turnoutlaw18_KeyWhole_t0.enc ((), ()))) v.1.1 v.1.2.2.1 v.2.2.2.2.2.2.2.1 (fun z2 z3 z4 z5 z6 z7 z8 z9 => rec ((v.1.1, ((), (v.1.2.2.1, (z2, ())))), (((), (z3, ((), (z4, ())))), ((z5, ()), (z6, (z7, ((z8, ()), (z9, (v.2.2.2.2.2.2.2.1, ()))))))))) v.1.2.2.2.1 v.2.1.2.1 v.2.1.2.2.2.1 v.2.2.1.1 v.2.2.2.1 v.2.2.2.2.1 v.2.2.2.2.2.1.1 v.2.2.2.2.2.2.1 := by kernel_rfl
noncomputable def V_turnoutlaw18_KeyWhole_0 (n : Nat) (K : Cont) (rec : Sig.sem s_turnoutlaw18_KeyWhole_h0 → Option Res) (v : Sig.sem s_turnoutlaw18_KeyWhole_h0) : Option Res := F_turnoutlaw18_KeyWhole_0 n (fun z0 => K .rt (s_turnoutlaw18_KeyWhole_r.enc ((z0, ()), ()))) (fun _ => K (.ex 0) (s_turnoutlaw18_KeyWhole_t0.enc ((), ()))) v.1.1 v.1.2.2.1 v.2.2.2.2.2.2.2.1 (fun z2 z3 z4 z5 z6 z7 z8 z9 => rec ((v.1.1, ((), (v.1.2.2.1, (z2, ())))), (((), (z3, ((), (z4, ())))), ((z5, ()), (z6, (z7, ((z8, ()), (z9, (v.2.2.2.2.2.2.2.1, ()))))))))) v.1.2.2.2.1 v.2.1.2.1 v.2.1.2.2.2.1 v.2.2.1.1 v.2.2.2.1 v.2.2.2.2.1 v.2.2.2.2.2.1.1 v.2.2.2.2.2.2.1
noncomputable def W_turnoutlaw18_KeyWhole_0 (n : Nat) (K : Cont) (m : Nat) (v : Sig.sem s_turnoutlaw18_KeyWhole_h0) : Option Res := L_turnoutlaw18_KeyWhole_0 n (fun z0 => K .rt (s_turnoutlaw18_KeyWhole_r.enc ((z0, ()), ()))) (fun _ => K (.ex 0) (s_turnoutlaw18_KeyWhole_t0.enc ((), ()))) v.1.1 v.1.2.2.1 v.2.2.2.2.2.2.2.1 m v.1.2.2.2.1 v.2.1.2.1 v.2.1.2.2.2.1 v.2.2.1.1 v.2.2.2.1 v.2.2.2.2.1 v.2.2.2.2.2.1.1 v.2.2.2.2.2.2.1
theorem i_turnoutlaw18_KeyWhole_0 (n : Nat) (K : Cont) : ∀ m v, iter (V_turnoutlaw18_KeyWhole_0 n K) m v = W_turnoutlaw18_KeyWhole_0 n K m v := by
  intro m
  induction m with
  | zero => intro v; rfl
  | succ m ih =>
    intro v
    show V_turnoutlaw18_KeyWhole_0 n K (iter (V_turnoutlaw18_KeyWhole_0 n K) m) v = V_turnoutlaw18_KeyWhole_0 n K (W_turnoutlaw18_KeyWhole_0 n K m) v
    rw [show iter (V_turnoutlaw18_KeyWhole_0 n K) m = W_turnoutlaw18_KeyWhole_0 n K m from funext ih]
theorem o_turnoutlaw18_KeyWhole_0 (n : Nat) : ∀ L, ls_turnoutlaw18_KeyWhole n 0 = some L → ∀ s K r, L s K = some r → ∃ x s', loopN (run Try.prog cf_turnoutlaw18_KeyWhole Try.f7.ntmps 0 n p_turnoutlaw18_KeyWhole none b_turnoutlaw18_KeyWhole_0) (gc 0 (p_turnoutlaw18_KeyWhole.head 0)) n s = some (x, s') ∧ K x s' = some r := by
  intro L hL s K r h
  have hL : some (loopT 0 (p_turnoutlaw18_KeyWhole.head 0) s_turnoutlaw18_KeyWhole_h0 fun K v => W_turnoutlaw18_KeyWhole_0 n K n v) = some L := hL
  cases hL
  have hb : LOk Try.prog cf_turnoutlaw18_KeyWhole Try.f7.ntmps 0 n p_turnoutlaw18_KeyWhole (ls_turnoutlaw18_KeyWhole n) b_turnoutlaw18_KeyWhole_0 := ⟨⟨trivial, ⟨trivial, trivial⟩⟩, ⟨⟨trivial, ⟨trivial, ⟨trivial, ⟨trivial, ⟨⟨trivial, trivial⟩, trivial⟩⟩⟩⟩⟩, trivial⟩⟩
  refine loopT_ok hb (V_turnoutlaw18_KeyWhole_0 n) (t_turnoutlaw18_KeyWhole_0 n) n s K r ?_
  rw [← h]
  unfold loopT
  simp only [i_turnoutlaw18_KeyWhole_0]
theorem m_turnoutlaw18_KeyWhole (n : Nat) (a0 : ByteArray) (a1 : (List NodeS)) (a2 : (List FieldS)) (a3 : (List FieldS)) : runFT Try.prog cf_turnoutlaw18_KeyWhole p_turnoutlaw18_KeyWhole (ls_turnoutlaw18_KeyWhole n) Try.f7 (bodyOf Try.f7) (EK.encs e_turnoutlaw18_KeyWhole ((a0, (a1, (a2, (a3, ())))), ()).1) (HK.encs h_turnoutlaw18_KeyWhole ((a0, (a1, (a2, (a3, ())))), ()).2) = M_turnoutlaw18_KeyWhole n a0 a1 a2 a3 := by kernel_rfl
theorem g_turnoutlaw18_KeyWhole (n : Nat) (a0 : ByteArray) (a1 : (List NodeS)) (a2 : (List FieldS)) (a3 : (List FieldS)) {r : Res} (h : M_turnoutlaw18_KeyWhole n a0 a1 a2 a3 = some r) : runF Try.prog cf_turnoutlaw18_KeyWhole n p_turnoutlaw18_KeyWhole 7 (EK.encs e_turnoutlaw18_KeyWhole ((a0, (a1, (a2, (a3, ())))), ()).1) (HK.encs h_turnoutlaw18_KeyWhole ((a0, (a1, (a2, (a3, ())))), ()).2) = some r := by
  have hb : LOk Try.prog cf_turnoutlaw18_KeyWhole Try.f7.ntmps 0 n p_turnoutlaw18_KeyWhole (ls_turnoutlaw18_KeyWhole n) (bodyOf Try.f7) := ⟨trivial, ⟨⟨trivial, ⟨⟨trivial, trivial⟩, trivial⟩⟩, ⟨trivial, ⟨⟨trivial, ⟨⟨trivial, trivial⟩, trivial⟩⟩, ⟨trivial, ⟨trivial, ⟨trivial, ⟨⟨trivial, ⟨⟨trivial, trivial⟩, trivial⟩⟩, ⟨⟨trivial, ⟨⟨trivial, trivial⟩, trivial⟩⟩, ⟨trivial, ⟨⟨trivial, ⟨⟨trivial, trivial⟩, trivial⟩⟩, ⟨⟨trivial, (o_turnoutlaw18_KeyWhole_0 n)⟩, ⟨trivial, trivial⟩⟩⟩⟩⟩⟩⟩⟩⟩⟩⟩⟩⟩
  exact runFT_some Try.prog (c := bodyOf Try.f7) Try.func7 (show Try.f7.body = some (bodyOf Try.f7) from rfl) (show (4 : Nat) ≤ 182 by decide) hb ((m_turnoutlaw18_KeyWhole n a0 a1 a2 a3).trans h) rfl (by kernel_rfl)
noncomputable def c_turnoutlaw18_KeyWhole : Spec := specQ e_turnoutlaw18_KeyWhole h_turnoutlaw18_KeyWhole ro_turnoutlaw18_KeyWhole rh_turnoutlaw18_KeyWhole fun a b => Q_turnoutlaw18_KeyWhole a.1 a.2.1 a.2.2.1 a.2.2.2.1
theorem k_turnoutlaw18_KeyWhole (hm : Try.prog.follows .mixedOrders = true) : SpecOk Try.prog 7 c_turnoutlaw18_KeyWhole := specQ_ok (pol := p_turnoutlaw18_KeyWhole) hm (cf := cf_turnoutlaw18_KeyWhole) (CallSound.mix <| tab_ok (specs_cons (k_turnoutlaw18_large hm) (specs_cons (k_turnoutlaw18_awake hm) (specs_cons (k_turnoutlaw18_found hm) (specs_cons (k_key_Ofxcab hm) (specs_cons (k_key_Widths hm) (specs_cons (k_key_Segments hm) (specs_cons (k_pack_Packet_Getxc4b hm) (specs_cons (k_field_Text hm) specs_nil))))))))) fun a b r h => ⟨FUEL, g_turnoutlaw18_KeyWhole FUEL a.1 a.2.1 a.2.2.1 a.2.2.2.1 (decRes_some h)⟩
def s_turnoutlaw18_KeyGone_r : Sig := ⟨[6], [.ty .bool], []⟩
def s_turnoutlaw18_KeyGone_h0 : Sig := ⟨[2, 7, 8, 9], [.ty (.slice FieldT), .ptr 0 0 0, .ty (.int .i64), .ty (.int .i64)], [.one false [.ptr 1 0 0, .hs 3 0, .ptr 4 0 0, .ty (.int .i64)], .one false [.hs 2 0], .row (.int .u8), .row HeadT, .one false [.hs 5 0], .row (.int .u8)]⟩
def s_turnoutlaw18_KeyGone_t0 : Sig := ⟨[2, 7, 8], [.ty (.slice FieldT), .ptr 0 0 0, .ty (.int .i64)], [.one false [.ptr 1 0 0, .hs 3 0, .ptr 4 0 0, .ty (.int .i64)], .one false [.hs 2 0], .row (.int .u8), .row HeadT, .one false [.hs 5 0], .row (.int .u8)]⟩
def p_turnoutlaw18_KeyGone : Pol := ⟨fun i => if i = 0 then some [(2, .keep), (7, .keep), (8, .keep), (9, .keep)] else none, fun i => if i = 0 then some [(2, .keep), (7, .keep), (8, .keep)] else none, some [(6, .keep)], [.keep], []⟩
def e_turnoutlaw18_KeyGone : List EK := [.ty .str, .ty (.slice NodeT), .ty (.slice FieldT)]
def h_turnoutlaw18_KeyGone : List HK := []
noncomputable def cf_turnoutlaw18_KeyGone : CallF := { (mkCF [(24, c_turnoutlaw18_large), (11, c_turnoutlaw18_awake), (30, c_turnoutlaw18_found), (31, c_pack_Packet_Getxc4b), (20, c_key_Ofxcab)] [(24, [(.slice NodeT)]), (11, []), (30, [.str, (.slice NodeT)])]) with mix := mixes [(20, [none, some ((.slice FieldT))])] }
noncomputable def ls_turnoutlaw18_KeyGone (n : Nat) : Loops := fun i => if i = 0 then some (loopT 0 (p_turnoutlaw18_KeyGone.head 0) s_turnoutlaw18_KeyGone_h0 fun K v => L_turnoutlaw18_KeyGone_0 n (fun z1 z2 z3 z4 z5 z6 z7 z8 => K (.ex 0) (s_turnoutlaw18_KeyGone_t0.enc ((v.1.1, ((), (z1, ()))), (((), (z2, ((), (z3, ())))), ((z4, ()), (z5, (z6, ((z7, ()), (z8, ()))))))))) v.1.1 n v.1.2.2.1 v.1.2.2.2.1 v.2.1.2.1 v.2.1.2.2.2.1 v.2.2.1.1 v.2.2.2.1 v.2.2.2.2.1 v.2.2.2.2.2.1.1 v.2.2.2.2.2.2.1)
  else  none
noncomputable def b_turnoutlaw18_KeyGone_0 : Code := partOf (bodyOf Try.f8) [1, 1, 1, 1, 1, 0, 1, 0, 0]
theorem t_turnoutlaw18_KeyGone_0 (n : Nat) (K : Cont) (rec : Sig.sem s_turnoutlaw18_KeyGone_h0 → Option Res) (v : Sig.sem s_turnoutlaw18_KeyGone_h0) : runT Try.prog cf_turnoutlaw18_KeyGone Try.f8.ntmps 0 p_turnoutlaw18_KeyGone (ls_turnoutlaw18_KeyGone n) b_turnoutlaw18_KeyGone_0 (s_turnoutlaw18_KeyGone_h0.enc v) (turnK 0 (p_turnoutlaw18_KeyGone.head 0) s_turnoutlaw18_KeyGone_h0 rec K) = F_turnoutlaw18_KeyGone_0 n (fun z1 z2 z3 z4 z5 z6 z7 z8 => K (.ex 0) (s_turnoutlaw18_KeyGone_t0.enc ((v.1.1, ((), (z1, ()))), (((), (z2, ((), (z3, ())))), ((z4, ()), (z5, (z6, ((z7, ()), (z8, ()))))))))) v.1.1 (fun z1 z2 z3 z4 z5 z6 z7 z8 z9 => rec ((v.1.1, ((), (z1, (z2, ())))), (((), (z3, ((), (z4, ())))), ((z5, ()), (z6, (z7, ((z8, ()), (z9, ())))))))) v.1.2.2.1 v.1.2.2.2.1 v.2.1.2.1 v.2.1.2.2.2.1 v.2.2.1.1 v.2.2.2.1 v.2.2.2.2.1 v.2.2.2.2.2.1.1 v.2.2.2.2.2.2.1 := by kernel_rfl
noncomputable def V_turnoutlaw18_KeyGone_0 (n : Nat) (K : Cont) (rec : Sig.sem s_turnoutlaw18_KeyGone_h0 → Option Res) (v : Sig.sem s_turnoutlaw18_KeyGone_h0) : Option Res := F_turnoutlaw18_KeyGone_0 n (fun z1 z2 z3 z4 z5 z6 z7 z8 => K (.ex 0) (s_turnoutlaw18_KeyGone_t0.enc ((v.1.1, ((), (z1, ()))), (((), (z2, ((), (z3, ())))), ((z4, ()), (z5, (z6, ((z7, ()), (z8, ()))))))))) v.1.1 (fun z1 z2 z3 z4 z5 z6 z7 z8 z9 => rec ((v.1.1, ((), (z1, (z2, ())))), (((), (z3, ((), (z4, ())))), ((z5, ()), (z6, (z7, ((z8, ()), (z9, ())))))))) v.1.2.2.1 v.1.2.2.2.1 v.2.1.2.1 v.2.1.2.2.2.1 v.2.2.1.1 v.2.2.2.1 v.2.2.2.2.1 v.2.2.2.2.2.1.1 v.2.2.2.2.2.2.1
noncomputable def W_turnoutlaw18_KeyGone_0 (n : Nat) (K : Cont) (m : Nat) (v : Sig.sem s_turnoutlaw18_KeyGone_h0) : Option Res := L_turnoutlaw18_KeyGone_0 n (fun z1 z2 z3 z4 z5 z6 z7 z8 => K (.ex 0) (s_turnoutlaw18_KeyGone_t0.enc ((v.1.1, ((), (z1, ()))), (((), (z2, ((), (z3, ())))), ((z4, ()), (z5, (z6, ((z7, ()), (z8, ()))))))))) v.1.1 m v.1.2.2.1 v.1.2.2.2.1 v.2.1.2.1 v.2.1.2.2.2.1 v.2.2.1.1 v.2.2.2.1 v.2.2.2.2.1 v.2.2.2.2.2.1.1 v.2.2.2.2.2.2.1
theorem i_turnoutlaw18_KeyGone_0 (n : Nat) (K : Cont) : ∀ m v, iter (V_turnoutlaw18_KeyGone_0 n K) m v = W_turnoutlaw18_KeyGone_0 n K m v := by
  intro m
  induction m with
  | zero => intro v; rfl
  | succ m ih =>
    intro v
    show V_turnoutlaw18_KeyGone_0 n K (iter (V_turnoutlaw18_KeyGone_0 n K) m) v = V_turnoutlaw18_KeyGone_0 n K (W_turnoutlaw18_KeyGone_0 n K m) v
    rw [show iter (V_turnoutlaw18_KeyGone_0 n K) m = W_turnoutlaw18_KeyGone_0 n K m from funext ih]
theorem o_turnoutlaw18_KeyGone_0 (n : Nat) : ∀ L, ls_turnoutlaw18_KeyGone n 0 = some L → ∀ s K r, L s K = some r → ∃ x s', loopN (run Try.prog cf_turnoutlaw18_KeyGone Try.f8.ntmps 0 n p_turnoutlaw18_KeyGone none b_turnoutlaw18_KeyGone_0) (gc 0 (p_turnoutlaw18_KeyGone.head 0)) n s = some (x, s') ∧ K x s' = some r := by
  intro L hL s K r h
  have hL : some (loopT 0 (p_turnoutlaw18_KeyGone.head 0) s_turnoutlaw18_KeyGone_h0 fun K v => W_turnoutlaw18_KeyGone_0 n K n v) = some L := hL
  cases hL
  have hb : LOk Try.prog cf_turnoutlaw18_KeyGone Try.f8.ntmps 0 n p_turnoutlaw18_KeyGone (ls_turnoutlaw18_KeyGone n) b_turnoutlaw18_KeyGone_0 := ⟨⟨trivial, ⟨trivial, trivial⟩⟩, ⟨⟨trivial, ⟨trivial, ⟨trivial, trivial⟩⟩⟩, trivial⟩⟩
  refine loopT_ok hb (V_turnoutlaw18_KeyGone_0 n) (t_turnoutlaw18_KeyGone_0 n) n s K r ?_
  rw [← h]
  unfold loopT
  simp only [i_turnoutlaw18_KeyGone_0]
theorem m_turnoutlaw18_KeyGone (n : Nat) (a0 : ByteArray) (a1 : (List NodeS)) (a2 : (List FieldS)) : runFT Try.prog cf_turnoutlaw18_KeyGone p_turnoutlaw18_KeyGone (ls_turnoutlaw18_KeyGone n) Try.f8 (bodyOf Try.f8) (EK.encs e_turnoutlaw18_KeyGone ((a0, (a1, (a2, ()))), ()).1) (HK.encs h_turnoutlaw18_KeyGone ((a0, (a1, (a2, ()))), ()).2) = M_turnoutlaw18_KeyGone n a0 a1 a2 := by kernel_rfl
theorem g_turnoutlaw18_KeyGone (n : Nat) (a0 : ByteArray) (a1 : (List NodeS)) (a2 : (List FieldS)) {r : Res} (h : M_turnoutlaw18_KeyGone n a0 a1 a2 = some r) : runF Try.prog cf_turnoutlaw18_KeyGone n p_turnoutlaw18_KeyGone 8 (EK.encs e_turnoutlaw18_KeyGone ((a0, (a1, (a2, ()))), ()).1) (HK.encs h_turnoutlaw18_KeyGone ((a0, (a1, (a2, ()))), ()).2) = some r := by
  have hb : LOk Try.prog cf_turnoutlaw18_KeyGone Try.f8.ntmps 0 n p_turnoutlaw18_KeyGone (ls_turnoutlaw18_KeyGone n) (bodyOf Try.f8) := ⟨trivial, ⟨⟨trivial, ⟨⟨trivial, trivial⟩, trivial⟩⟩, ⟨trivial, ⟨⟨trivial, ⟨⟨trivial, trivial⟩, trivial⟩⟩, ⟨trivial, ⟨⟨trivial, (o_turnoutlaw18_KeyGone_0 n)⟩, ⟨trivial, ⟨trivial, trivial⟩⟩⟩⟩⟩⟩⟩⟩
  exact runFT_some Try.prog (c := bodyOf Try.f8) Try.func8 (show Try.f8.body = some (bodyOf Try.f8) from rfl) (show (3 : Nat) ≤ 71 by decide) hb ((m_turnoutlaw18_KeyGone n a0 a1 a2).trans h) rfl (by kernel_rfl)
noncomputable def c_turnoutlaw18_KeyGone : Spec := specQ e_turnoutlaw18_KeyGone h_turnoutlaw18_KeyGone ro_turnoutlaw18_KeyGone rh_turnoutlaw18_KeyGone fun a b => Q_turnoutlaw18_KeyGone a.1 a.2.1 a.2.2.1
theorem k_turnoutlaw18_KeyGone (hm : Try.prog.follows .mixedOrders = true) : SpecOk Try.prog 8 c_turnoutlaw18_KeyGone := specQ_ok (pol := p_turnoutlaw18_KeyGone) hm (cf := cf_turnoutlaw18_KeyGone) (CallSound.mix <| tab_ok (specs_cons (k_turnoutlaw18_large hm) (specs_cons (k_turnoutlaw18_awake hm) (specs_cons (k_turnoutlaw18_found hm) (specs_cons (k_pack_Packet_Getxc4b hm) (specs_cons (k_key_Ofxcab hm) specs_nil)))))) fun a b r h => ⟨FUEL, g_turnoutlaw18_KeyGone FUEL a.1 a.2.1 a.2.2.1 (decRes_some h)⟩
end Go.AMach
