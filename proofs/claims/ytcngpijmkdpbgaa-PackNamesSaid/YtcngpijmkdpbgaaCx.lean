/- A part of the walk. -/
import Derived.Test.YtcngpijmkdpbgaaCxa
namespace Go.AMach
set_option linter.unusedVariables false
set_option linter.unusedSimpArgs false
set_option linter.unnecessarySimpa false
open Go Go.Proofs
set_option linter.unusedVariables false
def s_z2a_r : Sig := ⟨[4, 5], [.ty (.int .i64), .ty (.int .i64)], [.one false [.ptr 1 0 0, .nul 4, .ptr 3 0 0, .ty (.int .i64)], .one false [.hs 2 0], .row (.int .u8), .one false [.hs 4 0], .row (.int .u8)]⟩
def p_z2a : Pol := ⟨fun i => none, fun i => none, some [(4, .keep), (5, .keep)], [.keep, .keep], []⟩
def e_z2a : List EK := [.ptr 0 0 0, .agg FieldT]
def h_z2a : List HK := [.one false [.ptr 1 0 0, .nul 4, .ptr 3 0 0, .ty (.int .i64)], .one false [.hs 2 0], .row (.int .u8), .one false [.hs 4 0], .row (.int .u8)]
noncomputable def cf_z2a : CallF := mkCF [(12, c_z29)] []
noncomputable def ls_z2a (n : Nat) : Loops := fun i =>  none
theorem m_z2a (n : Nat) (a0 : FieldS) (a1 : Int) (a2 : Nat) (a3 : (List Int)) (a4 : Nat) (a5 : (List Int)) : runFT Try.prog cf_z2a p_z2a (ls_z2a n) Try.f41 (bodyOf Try.f41) (EK.encs e_z2a (((), (a0, ())), (((), ((), ((), (a1, ())))), ((a2, ()), (a3, ((a4, ()), (a5, ())))))).1) (HK.encs h_z2a (((), (a0, ())), (((), ((), ((), (a1, ())))), ((a2, ()), (a3, ((a4, ()), (a5, ())))))).2) = M_z2a n a0 a1 a2 a3 a4 a5 := by kernel_rfl
theorem g_z2a (n : Nat) (a0 : FieldS) (a1 : Int) (a2 : Nat) (a3 : (List Int)) (a4 : Nat) (a5 : (List Int)) {r : Res} (h : M_z2a n a0 a1 a2 a3 a4 a5 = some r) : runF Try.prog cf_z2a n p_z2a 41 (EK.encs e_z2a (((), (a0, ())), (((), ((), ((), (a1, ())))), ((a2, ()), (a3, ((a4, ()), (a5, ())))))).1) (HK.encs h_z2a (((), (a0, ())), (((), ((), ((), (a1, ())))), ((a2, ()), (a3, ((a4, ()), (a5, ())))))).2) = some r := by
  have hb : LOk Try.prog cf_z2a Try.f41.ntmps 5 n p_z2a (ls_z2a n) (bodyOf Try.f41) := ⟨trivial, ⟨⟨trivial, ⟨⟨trivial, trivial⟩, trivial⟩⟩, ⟨trivial, trivial⟩⟩⟩
  exact runFT_some Try.prog (c := bodyOf Try.f41) Try.func41 (show Try.f41.body = some (bodyOf Try.f41) from rfl) (show (2 : Nat) ≤ 18 by decide) hb ((m_z2a n a0 a1 a2 a3 a4 a5).trans h) rfl (by kernel_rfl)
noncomputable def c_z2a : Spec := specQ e_z2a h_z2a ro_z2a rh_z2a fun a b => Q_z2a a.2.1 b.1.2.2.2.1 b.2.1.1 b.2.2.1 b.2.2.2.1.1 b.2.2.2.2.1
theorem k_z2a (hm : Try.prog.follows .mixedOrders = true) : SpecOk Try.prog 41 c_z2a := specQ_ok (pol := p_z2a) hm (cf := cf_z2a) (tab_ok (specs_cons (k_z29 hm) specs_nil)) fun a b r h => ⟨FUEL, g_z2a FUEL a.2.1 b.1.2.2.2.1 b.2.1.1 b.2.2.1 b.2.2.2.1.1 b.2.2.2.2.1 (decRes_some h)⟩
def s_z2b_h0 : Sig := ⟨[0, 1, 2, 11, 12, 13], [.ptr 0 0 0, .ty (.int .i64), .ty (.int .i64), .hs 5 0, .ty (.int .i64), .ty (.int .i64)], [.one false [.ptr 1 0 0, .nul 4, .ptr 3 0 0, .ty (.int .i64)], .one false [.hs 2 0], .row (.int .u8), .one false [.hs 4 0], .row (.int .u8), .row HeadT]⟩
def s_z2b_t0 : Sig := ⟨[], [], [.one false [.ptr 1 0 0, .nul 4, .ptr 3 0 0, .ty (.int .i64)], .one false [.hs 2 0], .row (.int .u8), .one false [.hs 4 0], .row (.int .u8)]⟩
def p_z2b : Pol := ⟨fun i => if i = 0 then some [(0, .keep), (1, .keep), (2, .keep), (11, (.own HeadT)), (12, .keep), (13, .keep)] else none, fun i => if i = 0 then some [] else none, none, [], []⟩
def e_z2b : List EK := [.ptr 0 0 0, .ty (.int .i64), .ty (.int .i64)]
def h_z2b : List HK := [.one false [.ptr 1 0 0, .nul 4, .ptr 3 0 0, .ty (.int .i64)], .one false [.hs 2 0], .row (.int .u8), .one false [.hs 4 0], .row (.int .u8)]
noncomputable def cf_z2b : CallF := mkCF [] []
noncomputable def ls_z2b (n : Nat) : Loops := fun i => if i = 0 then some (loopT 5 (p_z2b.head 0) s_z2b_h0 fun K v => L_z2b_0 n (fun _ => K (.ex 0) (s_z2b_t0.enc ((), (((), ((), ((), (v.2.1.2.2.2.1, ())))), ((v.2.2.1.1, ()), (v.2.2.2.1, ((v.2.2.2.2.1.1, ()), (v.2.2.2.2.2.1, ())))))))) v.1.2.1 v.1.2.2.2.1 v.1.2.2.2.2.1 v.2.2.2.2.2.2.1 n v.1.2.2.2.2.2.1)
  else  none
noncomputable def b_z2b_0 : Code := partOf (bodyOf Try.f43) [1, 0, 0]
noncomputable def V_z2b_0 (n : Nat) (K : Cont) (rec : Sig.sem s_z2b_h0 → Option Res) (v : Sig.sem s_z2b_h0) : Option Res := F_z2b_0 n (fun _ => K (.ex 0) (s_z2b_t0.enc ((), (((), ((), ((), (v.2.1.2.2.2.1, ())))), ((v.2.2.1.1, ()), (v.2.2.2.1, ((v.2.2.2.2.1.1, ()), (v.2.2.2.2.2.1, ())))))))) v.1.2.1 v.1.2.2.2.1 v.1.2.2.2.2.1 v.2.2.2.2.2.2.1 (fun z4 => rec (((), (v.1.2.1, (v.1.2.2.1, (v.1.2.2.2.1, (v.1.2.2.2.2.1, (z4, ())))))), (((), ((), ((), (v.2.1.2.2.2.1, ())))), ((v.2.2.1.1, ()), (v.2.2.2.1, ((v.2.2.2.2.1.1, ()), (v.2.2.2.2.2.1, (v.2.2.2.2.2.2.1, ())))))))) v.1.2.2.2.2.2.1
theorem t_z2b_0 (n : Nat) (K : Cont) (rec : Sig.sem s_z2b_h0 → Option Res) (v : Sig.sem s_z2b_h0) : runT Try.prog cf_z2b Try.f43.ntmps 5 p_z2b (ls_z2b n) b_z2b_0 (s_z2b_h0.enc v) (turnK 5 (p_z2b.head 0) s_z2b_h0 rec K) = V_z2b_0 n K rec v := by kernel_rfl
noncomputable def W_z2b_0 (n : Nat) (K : Cont) (m : Nat) (v : Sig.sem s_z2b_h0) : Option Res := L_z2b_0 n (fun _ => K (.ex 0) (s_z2b_t0.enc ((), (((), ((), ((), (v.2.1.2.2.2.1, ())))), ((v.2.2.1.1, ()), (v.2.2.2.1, ((v.2.2.2.2.1.1, ()), (v.2.2.2.2.2.1, ())))))))) v.1.2.1 v.1.2.2.2.1 v.1.2.2.2.2.1 v.2.2.2.2.2.2.1 m v.1.2.2.2.2.2.1
theorem i_z2b_0 (n : Nat) (K : Cont) : ∀ m v, iter (V_z2b_0 n K) m v = W_z2b_0 n K m v := by
  intro m
  induction m with
  | zero => intro v; rfl
  | succ m ih =>
    intro v
    show V_z2b_0 n K (iter (V_z2b_0 n K) m) v = V_z2b_0 n K (W_z2b_0 n K m) v
    rw [show iter (V_z2b_0 n K) m = W_z2b_0 n K m from funext ih]
theorem o_z2b_0 (n : Nat) : ∀ L, ls_z2b n 0 = some L → ∀ s K r, L s K = some r → ∃ x s', loopN (run Try.prog cf_z2b Try.f43.ntmps 5 n p_z2b none b_z2b_0) (gc 5 (p_z2b.head 0)) n s = some (x, s') ∧ K x s' = some r := by
  intro L hL s K r h
  have hL : some (loopT 5 (p_z2b.head 0) s_z2b_h0 fun K v => W_z2b_0 n K n v) = some L := hL
  cases hL
  have hb : LOk Try.prog cf_z2b Try.f43.ntmps 5 n p_z2b (ls_z2b n) b_z2b_0 := ⟨trivial, ⟨⟨trivial, trivial⟩, ⟨⟨trivial, ⟨trivial, ⟨trivial, trivial⟩⟩⟩, trivial⟩⟩⟩
  refine loopT_ok hb (V_z2b_0 n) (t_z2b_0 n) n s K r ?_
  rw [← h]
  unfold loopT
  simp only [i_z2b_0]
theorem m_z2b (n : Nat) (a0 : Int) (a1 : Int) (a2 : Int) (a3 : Nat) (a4 : (List Int)) (a5 : Nat) (a6 : (List Int)) : runFT Try.prog cf_z2b p_z2b (ls_z2b n) Try.f43 (bodyOf Try.f43) (EK.encs e_z2b (((), (a0, (a1, ()))), (((), ((), ((), (a2, ())))), ((a3, ()), (a4, ((a5, ()), (a6, ())))))).1) (HK.encs h_z2b (((), (a0, (a1, ()))), (((), ((), ((), (a2, ())))), ((a3, ()), (a4, ((a5, ()), (a6, ())))))).2) = M_z2b n a0 a1 a2 a3 a4 a5 a6 := by kernel_rfl
theorem g_z2b (n : Nat) (a0 : Int) (a1 : Int) (a2 : Int) (a3 : Nat) (a4 : (List Int)) (a5 : Nat) (a6 : (List Int)) {r : Res} (h : M_z2b n a0 a1 a2 a3 a4 a5 a6 = some r) : runF Try.prog cf_z2b n p_z2b 43 (EK.encs e_z2b (((), (a0, (a1, ()))), (((), ((), ((), (a2, ())))), ((a3, ()), (a4, ((a5, ()), (a6, ())))))).1) (HK.encs h_z2b (((), (a0, (a1, ()))), (((), ((), ((), (a2, ())))), ((a3, ()), (a4, ((a5, ()), (a6, ())))))).2) = some r := by
  have hb : LOk Try.prog cf_z2b Try.f43.ntmps 5 n p_z2b (ls_z2b n) (bodyOf Try.f43) := ⟨trivial, (o_z2b_0 n)⟩
  exact runFT_some Try.prog (c := bodyOf Try.f43) Try.func43 (show Try.f43.body = some (bodyOf Try.f43) from rfl) (show (3 : Nat) ≤ 35 by decide) hb ((m_z2b n a0 a1 a2 a3 a4 a5 a6).trans h) rfl (by kernel_rfl)
noncomputable def c_z2b : Spec := specQ e_z2b h_z2b ro_z2b rh_z2b fun a b => Q_z2b a.2.1 a.2.2.1 b.1.2.2.2.1 b.2.1.1 b.2.2.1 b.2.2.2.1.1 b.2.2.2.2.1
theorem k_z2b (hm : Try.prog.follows .mixedOrders = true) : SpecOk Try.prog 43 c_z2b := specQ_ok (pol := p_z2b) hm (cf := cf_z2b) (tab_ok specs_nil) fun a b r h => ⟨FUEL, g_z2b FUEL a.2.1 a.2.2.1 b.1.2.2.2.1 b.2.1.1 b.2.2.1 b.2.2.2.1.1 b.2.2.2.2.1 (decRes_some h)⟩
def s_z2c_r : Sig := ⟨[6], [.ty (.int .i64)], [.one false [.ptr 1 0 0, .nul 4, .ptr 3 0 0, .ty (.int .i64)], .one false [.hs 2 0], .row (.int .u8), .one false [.hs 4 0], .row (.int .u8)]⟩
def s_z2c_r1 : Sig := ⟨[6], [.ty (.int .i64)], [.one false [.ptr 1 0 0, .nul 4, .ptr 3 0 0, .ty (.int .i64)], .one false [.hs 5 0], .row (.int .u8), .one false [.hs 4 0], .row (.int .u8), .row (.int .u8)]⟩
def p_z2c : Pol := ⟨fun i => none, fun i => none, some [(6, .keep)], [.keep], []⟩
def e_z2c : List EK := [.ptr 0 0 0, .agg FieldT, .ty (.int .i64)]
def h_z2c : List HK := [.one false [.ptr 1 0 0, .nul 4, .ptr 3 0 0, .ty (.int .i64)], .one false [.hs 2 0], .row (.int .u8), .one false [.hs 4 0], .row (.int .u8)]
noncomputable def cf_z2c : CallF := mkCF [(41, c_z2a), (42, c_z1k), (43, c_z2b)] []
noncomputable def ls_z2c (n : Nat) : Loops := fun i =>  none
theorem m_z2c (n : Nat) (a0 : FieldS) (a1 : Int) (a2 : Int) (a3 : Nat) (a4 : (List Int)) (a5 : Nat) (a6 : (List Int)) : runFT Try.prog cf_z2c p_z2c (ls_z2c n) Try.f15 (bodyOf Try.f15) (EK.encs e_z2c (((), (a0, (a1, ()))), (((), ((), ((), (a2, ())))), ((a3, ()), (a4, ((a5, ()), (a6, ())))))).1) (HK.encs h_z2c (((), (a0, (a1, ()))), (((), ((), ((), (a2, ())))), ((a3, ()), (a4, ((a5, ()), (a6, ())))))).2) = M_z2c n a0 a1 a2 a3 a4 a5 a6 := by kernel_rfl
theorem g_z2c (n : Nat) (a0 : FieldS) (a1 : Int) (a2 : Int) (a3 : Nat) (a4 : (List Int)) (a5 : Nat) (a6 : (List Int)) {r : Res} (h : M_z2c n a0 a1 a2 a3 a4 a5 a6 = some r) : runF Try.prog cf_z2c n p_z2c 15 (EK.encs e_z2c (((), (a0, (a1, ()))), (((), ((), ((), (a2, ())))), ((a3, ()), (a4, ((a5, ()), (a6, ())))))).1) (HK.encs h_z2c (((), (a0, (a1, ()))), (((), ((), ((), (a2, ())))), ((a3, ()), (a4, ((a5, ()), (a6, ())))))).2) = some r := by
  have hb : LOk Try.prog cf_z2c Try.f15.ntmps 5 n p_z2c (ls_z2c n) (bodyOf Try.f15) := ⟨trivial, ⟨trivial, ⟨⟨trivial, ⟨⟨trivial, trivial⟩, ⟨trivial, ⟨⟨trivial, trivial⟩, ⟨trivial, ⟨⟨trivial, trivial⟩, trivial⟩⟩⟩⟩⟩⟩, ⟨trivial, ⟨trivial, trivial⟩⟩⟩⟩⟩
  exact runFT_some Try.prog (c := bodyOf Try.f15) Try.func15 (show Try.f15.body = some (bodyOf Try.f15) from rfl) (show (3 : Nat) ≤ 38 by decide) hb ((m_z2c n a0 a1 a2 a3 a4 a5 a6).trans h) rfl (by kernel_rfl)
noncomputable def c_z2c : Spec := specTr e_z2c h_z2c fun a b => (altTr ro_z2c rh_z2c (Q_z2c a.2.1 a.2.2.1 b.1.2.2.2.1 b.2.1.1 b.2.2.1 b.2.2.2.1.1 b.2.2.2.2.1) (altTr ro_z2c_1 rh_z2c_1 (Q_z2c_1 a.2.1 a.2.2.1 b.1.2.2.2.1 b.2.1.1 b.2.2.1 b.2.2.2.1.1 b.2.2.2.2.1) .no))
theorem k_z2c (hm : Try.prog.follows .mixedOrders = true) : SpecOk Try.prog 15 c_z2c := specTr_ok (pol := p_z2c) hm (cf := cf_z2c) (tab_ok (specs_cons (k_z2a hm) (specs_cons (k_z1k hm) (specs_cons (k_z2b hm) specs_nil)))) fun a b r => (fun h => (altTr_val h).elim (fun ⟨x, hx, e⟩ => ⟨FUEL, e ▸ g_z2c FUEL a.2.1 a.2.2.1 b.1.2.2.2.1 b.2.1.1 b.2.2.1 b.2.2.2.1.1 b.2.2.2.2.1 (decRes_some hx)⟩) (fun h => (altTr_val h).elim (fun ⟨x, hx, e⟩ => ⟨FUEL, e ▸ g_z2c FUEL a.2.1 a.2.2.1 b.1.2.2.2.1 b.2.1.1 b.2.2.1 b.2.2.2.1.1 b.2.2.2.2.1 (decRes_some hx)⟩) (fun h => by cases h)))
noncomputable def c_z2c_o0 : Spec := specTr e_z2c h_z2c fun a b => (altTr ro_z2c rh_z2c (Q_z2c a.2.1 a.2.2.1 b.1.2.2.2.1 b.2.1.1 b.2.2.1 b.2.2.2.1.1 b.2.2.2.2.1) .no)
theorem k_z2c_o0 (hm : Try.prog.follows .mixedOrders = true) : SpecOk Try.prog 15 c_z2c_o0 := specTr_ok (pol := p_z2c) hm (cf := cf_z2c) (tab_ok (specs_cons (k_z2a hm) (specs_cons (k_z1k hm) (specs_cons (k_z2b hm) specs_nil)))) fun a b r => (fun h => (altTr_val h).elim (fun ⟨x, hx, e⟩ => ⟨FUEL, e ▸ g_z2c FUEL a.2.1 a.2.2.1 b.1.2.2.2.1 b.2.1.1 b.2.2.1 b.2.2.2.1.1 b.2.2.2.2.1 (decRes_some hx)⟩) (fun h => by cases h))
def s_z2d_r : Sig := ⟨[4], [.ptr 0 0 0], [.cell FieldT]⟩
def p_z2d : Pol := ⟨fun i => none, fun i => none, some [(4, (.own FieldT))], [.keep], []⟩
def e_z2d : List EK := [.ty (.int .i64), .ty (.int .i64)]
def h_z2d : List HK := []
noncomputable def cf_z2d : CallF := mkCF [] []
noncomputable def ls_z2d (n : Nat) : Loops := fun i =>  none
theorem m_z2d (n : Nat) (a0 : Int) (a1 : Int) : runFT Try.prog cf_z2d p_z2d (ls_z2d n) Try.f31 (bodyOf Try.f31) (EK.encs e_z2d ((a0, (a1, ())), ()).1) (HK.encs h_z2d ((a0, (a1, ())), ()).2) = M_z2d n a0 a1 := by kernel_rfl
theorem g_z2d (n : Nat) (a0 : Int) (a1 : Int) {r : Res} (h : M_z2d n a0 a1 = some r) : runF Try.prog cf_z2d n p_z2d 31 (EK.encs e_z2d ((a0, (a1, ())), ()).1) (HK.encs h_z2d ((a0, (a1, ())), ()).2) = some r := by
  have hb : LOk Try.prog cf_z2d Try.f31.ntmps 0 n p_z2d (ls_z2d n) (bodyOf Try.f31) := ⟨trivial, ⟨trivial, trivial⟩⟩
  exact runFT_some Try.prog (c := bodyOf Try.f31) Try.func31 (show Try.f31.body = some (bodyOf Try.f31) from rfl) (show (2 : Nat) ≤ 8 by decide) hb ((m_z2d n a0 a1).trans h) rfl (by kernel_rfl)
noncomputable def c_z2d : Spec := specQ e_z2d h_z2d ro_z2d rh_z2d fun a b => Q_z2d a.1 a.2.1
theorem k_z2d (hm : Try.prog.follows .mixedOrders = true) : SpecOk Try.prog 31 c_z2d := specQ_ok (pol := p_z2d) hm (cf := cf_z2d) (tab_ok specs_nil) fun a b r h => ⟨FUEL, g_z2d FUEL a.1 a.2.1 (decRes_some h)⟩
def s_z2e_r : Sig := ⟨[4], [.hs 2 0], [.one true [.ty (.int .i64)], .one true [.ty (.int .i64)], .row HeadT]⟩
def s_z2e_h0 : Sig := ⟨[0, 1, 5, 6], [.hs 2 0, .fn 49 [(0, 0, 0), (1, 0, 0)], .ty (.int .i64), .ty (.int .i64)], [.one true [.ty (.int .i64)], .one true [.ty (.int .i64)], .row HeadT]⟩
def s_z2e_t0 : Sig := ⟨[0, 5], [.hs 2 0, .ty (.int .i64)], [.one true [.ty (.int .i64)], .one true [.ty (.int .i64)], .row HeadT]⟩
def p_z2e : Pol := ⟨fun i => if i = 0 then some [(0, (.own HeadT)), (1, .keep), (5, .keep), (6, .keep)] else none, fun i => if i = 0 then some [(0, (.own HeadT)), (5, .keep)] else none, some [(4, (.own HeadT))], [(.own HeadT)], []⟩
def e_z2e : List EK := [.nul 4, .fn 49 [(0, 0, 0), (1, 0, 0)]]
def h_z2e : List HK := [.one true [.ty (.int .i64)], .one true [.ty (.int .i64)]]
noncomputable def cf_z2e : CallF := { (mkCF [(62, c_z1r), (49, c_z1q)] []) with mix := mixes [(62, [some ((.slice HeadT)), none])] }
noncomputable def ls_z2e (n : Nat) : Loops := fun i => if i = 0 then some (loopT 2 (p_z2e.head 0) s_z2e_h0 fun K v => L_z2e_0 n (fun z1 z2 z3 z4 => K (.ex 0) (s_z2e_t0.enc ((v.1.1, (z1, ())), ((z2, ()), ((z3, ()), (z4, ())))))) v.1.1 n v.1.2.2.1 v.1.2.2.2.1 v.2.1.1 v.2.2.1.1 v.2.2.2.1)
  else  none
noncomputable def b_z2e_0 : Code := partOf (bodyOf Try.f48) [1, 1, 1, 0, 1, 0, 0]
noncomputable def V_z2e_0 (n : Nat) (K : Cont) (rec : Sig.sem s_z2e_h0 → Option Res) (v : Sig.sem s_z2e_h0) : Option Res := F_z2e_0 n (fun z1 z2 z3 z4 => K (.ex 0) (s_z2e_t0.enc ((v.1.1, (z1, ())), ((z2, ()), ((z3, ()), (z4, ())))))) v.1.1 (fun z1 z2 z3 z4 z5 => rec ((v.1.1, ((), (z1, (z2, ())))), ((z3, ()), ((z4, ()), (z5, ()))))) v.1.2.2.1 v.1.2.2.2.1 v.2.1.1 v.2.2.1.1 v.2.2.2.1
theorem t_z2e_0 (n : Nat) (K : Cont) (rec : Sig.sem s_z2e_h0 → Option Res) (v : Sig.sem s_z2e_h0) : runT Try.prog cf_z2e Try.f48.ntmps 2 p_z2e (ls_z2e n) b_z2e_0 (s_z2e_h0.enc v) (turnK 2 (p_z2e.head 0) s_z2e_h0 rec K) = V_z2e_0 n K rec v := by kernel_rfl
noncomputable def W_z2e_0 (n : Nat) (K : Cont) (m : Nat) (v : Sig.sem s_z2e_h0) : Option Res := L_z2e_0 n (fun z1 z2 z3 z4 => K (.ex 0) (s_z2e_t0.enc ((v.1.1, (z1, ())), ((z2, ()), ((z3, ()), (z4, ())))))) v.1.1 m v.1.2.2.1 v.1.2.2.2.1 v.2.1.1 v.2.2.1.1 v.2.2.2.1
theorem i_z2e_0 (n : Nat) (K : Cont) : ∀ m v, iter (V_z2e_0 n K) m v = W_z2e_0 n K m v := by
  intro m
  induction m with
  | zero => intro v; rfl
  | succ m ih =>
    intro v
    show V_z2e_0 n K (iter (V_z2e_0 n K) m) v = V_z2e_0 n K (W_z2e_0 n K m) v
    rw [show iter (V_z2e_0 n K) m = W_z2e_0 n K m from funext ih]
theorem o_z2e_0 (n : Nat) : ∀ L, ls_z2e n 0 = some L → ∀ s K r, L s K = some r → ∃ x s', loopN (run Try.prog cf_z2e Try.f48.ntmps 2 n p_z2e none b_z2e_0) (gc 2 (p_z2e.head 0)) n s = some (x, s') ∧ K x s' = some r := by
  intro L hL s K r h
  have hL : some (loopT 2 (p_z2e.head 0) s_z2e_h0 fun K v => W_z2e_0 n K n v) = some L := hL
  cases hL
  have hb : LOk Try.prog cf_z2e Try.f48.ntmps 2 n p_z2e (ls_z2e n) b_z2e_0 := ⟨⟨trivial, ⟨trivial, trivial⟩⟩, ⟨⟨trivial, ⟨trivial, ⟨⟨trivial, trivial⟩, trivial⟩⟩⟩, trivial⟩⟩
  refine loopT_ok hb (V_z2e_0 n) (t_z2e_0 n) n s K r ?_
  rw [← h]
  unfold loopT
  simp only [i_z2e_0]
theorem m_z2e (n : Nat) (a0 : Int) (a1 : Int) : runFT Try.prog cf_z2e p_z2e (ls_z2e n) Try.f48 (bodyOf Try.f48) (EK.encs e_z2e (((), ((), ())), ((a0, ()), ((a1, ()), ()))).1) (HK.encs h_z2e (((), ((), ())), ((a0, ()), ((a1, ()), ()))).2) = M_z2e n a0 a1 := by kernel_rfl
theorem g_z2e (n : Nat) (a0 : Int) (a1 : Int) {r : Res} (h : M_z2e n a0 a1 = some r) : runF Try.prog cf_z2e n p_z2e 48 (EK.encs e_z2e (((), ((), ())), ((a0, ()), ((a1, ()), ()))).1) (HK.encs h_z2e (((), ((), ())), ((a0, ()), ((a1, ()), ()))).2) = some r := by
  have hb : LOk Try.prog cf_z2e Try.f48.ntmps 2 n p_z2e (ls_z2e n) (bodyOf Try.f48) := ⟨trivial, ⟨trivial, ⟨⟨trivial, ⟨⟨trivial, trivial⟩, trivial⟩⟩, ⟨⟨trivial, (o_z2e_0 n)⟩, ⟨trivial, ⟨trivial, trivial⟩⟩⟩⟩⟩⟩
  exact runFT_some Try.prog (c := bodyOf Try.f48) Try.func48 (show Try.f48.body = some (bodyOf Try.f48) from rfl) (show (2 : Nat) ≤ 42 by decide) hb ((m_z2e n a0 a1).trans h) rfl (by kernel_rfl)
noncomputable def c_z2e : Spec := specQ e_z2e h_z2e ro_z2e rh_z2e fun a b => Q_z2e b.1.1 b.2.1.1
theorem k_z2e (hm : Try.prog.follows .mixedOrders = true) : SpecOk Try.prog 48 c_z2e := specQ_ok (pol := p_z2e) hm (cf := cf_z2e) (CallSound.mix <| tab_ok (specs_cons (k_z1r hm) (specs_cons (k_z1q hm) specs_nil))) fun a b r h => ⟨FUEL, g_z2e FUEL b.1.1 b.2.1.1 (decRes_some h)⟩
def s_z2f_r : Sig := ⟨[6], [.ty (.int .i64)], [.one false [.ptr 1 0 0, .nul 4, .ptr 3 0 0, .ty (.int .i64)], .one false [.hs 2 0], .row (.int .u8), .one false [.hs 4 0], .row (.int .u8)]⟩
def s_z2f_r1 : Sig := ⟨[6], [.ty (.int .i64)], [.one false [.ptr 1 0 0, .hs 5 0, .ptr 3 0 0, .ty (.int .i64)], .one false [.hs 2 0], .row (.int .u8), .one false [.hs 4 0], .row (.int .u8), .row HeadT]⟩
def p_z2f : Pol := ⟨fun i => none, fun i => none, some [(6, .keep)], [.keep], []⟩
def e_z2f : List EK := [.ptr 0 0 0, .agg FieldT, .ty (.int .i64)]
def h_z2f : List HK := [.one false [.ptr 1 0 0, .nul 4, .ptr 3 0 0, .ty (.int .i64)], .one false [.hs 2 0], .row (.int .u8), .one false [.hs 4 0], .row (.int .u8)]
noncomputable def cf_z2f : CallF := mkCF [(41, c_z2a), (47, c_z1p), (48, c_z2e), (43, c_z1l)] []
noncomputable def ls_z2f (n : Nat) : Loops := fun i =>  none
theorem m_z2f (n : Nat) (a0 : FieldS) (a1 : Int) (a2 : Int) (a3 : Nat) (a4 : (List Int)) (a5 : Nat) (a6 : (List Int)) : runFT Try.prog cf_z2f p_z2f (ls_z2f n) Try.f20 (bodyOf Try.f20) (EK.encs e_z2f (((), (a0, (a1, ()))), (((), ((), ((), (a2, ())))), ((a3, ()), (a4, ((a5, ()), (a6, ())))))).1) (HK.encs h_z2f (((), (a0, (a1, ()))), (((), ((), ((), (a2, ())))), ((a3, ()), (a4, ((a5, ()), (a6, ())))))).2) = M_z2f n a0 a1 a2 a3 a4 a5 a6 := by kernel_rfl
theorem g_z2f (n : Nat) (a0 : FieldS) (a1 : Int) (a2 : Int) (a3 : Nat) (a4 : (List Int)) (a5 : Nat) (a6 : (List Int)) {r : Res} (h : M_z2f n a0 a1 a2 a3 a4 a5 a6 = some r) : runF Try.prog cf_z2f n p_z2f 20 (EK.encs e_z2f (((), (a0, (a1, ()))), (((), ((), ((), (a2, ())))), ((a3, ()), (a4, ((a5, ()), (a6, ())))))).1) (HK.encs h_z2f (((), (a0, (a1, ()))), (((), ((), ((), (a2, ())))), ((a3, ()), (a4, ((a5, ()), (a6, ())))))).2) = some r := by
  have hb : LOk Try.prog cf_z2f Try.f20.ntmps 5 n p_z2f (ls_z2f n) (bodyOf Try.f20) := ⟨trivial, ⟨trivial, ⟨⟨trivial, ⟨⟨trivial, trivial⟩, ⟨trivial, ⟨⟨trivial, trivial⟩, trivial⟩⟩⟩⟩, ⟨trivial, ⟨trivial, ⟨trivial, trivial⟩⟩⟩⟩⟩⟩
  exact runFT_some Try.prog (c := bodyOf Try.f20) Try.func20 (show Try.f20.body = some (bodyOf Try.f20) from rfl) (show (3 : Nat) ≤ 47 by decide) hb ((m_z2f n a0 a1 a2 a3 a4 a5 a6).trans h) rfl (by kernel_rfl)
noncomputable def c_z2f : Spec := specTr e_z2f h_z2f fun a b => (altTr ro_z2f rh_z2f (Q_z2f a.2.1 a.2.2.1 b.1.2.2.2.1 b.2.1.1 b.2.2.1 b.2.2.2.1.1 b.2.2.2.2.1) (altTr ro_z2f_1 rh_z2f_1 (Q_z2f_1 a.2.1 a.2.2.1 b.1.2.2.2.1 b.2.1.1 b.2.2.1 b.2.2.2.1.1 b.2.2.2.2.1) .no))
theorem k_z2f (hm : Try.prog.follows .mixedOrders = true) : SpecOk Try.prog 20 c_z2f := specTr_ok (pol := p_z2f) hm (cf := cf_z2f) (tab_ok (specs_cons (k_z2a hm) (specs_cons (k_z1p hm) (specs_cons (k_z2e hm) (specs_cons (k_z1l hm) specs_nil))))) fun a b r => (fun h => (altTr_val h).elim (fun ⟨x, hx, e⟩ => ⟨FUEL, e ▸ g_z2f FUEL a.2.1 a.2.2.1 b.1.2.2.2.1 b.2.1.1 b.2.2.1 b.2.2.2.1.1 b.2.2.2.2.1 (decRes_some hx)⟩) (fun h => (altTr_val h).elim (fun ⟨x, hx, e⟩ => ⟨FUEL, e ▸ g_z2f FUEL a.2.1 a.2.2.1 b.1.2.2.2.1 b.2.1.1 b.2.2.1 b.2.2.2.1.1 b.2.2.2.2.1 (decRes_some hx)⟩) (fun h => by cases h)))
def s_z2g_r : Sig := ⟨[4, 5, 6], [.nul 0, .ty (.int .i64), .ty (.int .i64)], []⟩
def p_z2g : Pol := ⟨fun i => none, fun i => none, some [(4, .keep), (5, .keep), (6, .keep)], [.keep, .keep, .keep], []⟩
def e_z2g : List EK := [.nul 0, .agg FieldT]
def h_z2g : List HK := []
noncomputable def cf_z2g : CallF := mkCF [] []
noncomputable def ls_z2g (n : Nat) : Loops := fun i =>  none
theorem m_z2g (n : Nat) (a0 : FieldS) : runFT Try.prog cf_z2g p_z2g (ls_z2g n) Try.f36 (bodyOf Try.f36) (EK.encs e_z2g (((), (a0, ())), ()).1) (HK.encs h_z2g (((), (a0, ())), ()).2) = M_z2g n a0 := by kernel_rfl
theorem g_z2g (n : Nat) (a0 : FieldS) {r : Res} (h : M_z2g n a0 = some r) : runF Try.prog cf_z2g n p_z2g 36 (EK.encs e_z2g (((), (a0, ())), ()).1) (HK.encs h_z2g (((), (a0, ())), ()).2) = some r := by
  have hb : LOk Try.prog cf_z2g Try.f36.ntmps 0 n p_z2g (ls_z2g n) (bodyOf Try.f36) := ⟨trivial, ⟨⟨trivial, ⟨⟨trivial, trivial⟩, trivial⟩⟩, ⟨⟨trivial, ⟨trivial, ⟨⟨trivial, trivial⟩, ⟨trivial, ⟨⟨trivial, trivial⟩, ⟨trivial, ⟨⟨trivial, (noLoop (by rfl))⟩, trivial⟩⟩⟩⟩⟩⟩⟩, ⟨trivial, trivial⟩⟩⟩⟩
  exact runFT_some Try.prog (c := bodyOf Try.f36) Try.func36 (show Try.f36.body = some (bodyOf Try.f36) from rfl) (show (2 : Nat) ≤ 51 by decide) hb ((m_z2g n a0).trans h) rfl (by kernel_rfl)
noncomputable def c_z2g : Spec := specQ e_z2g h_z2g ro_z2g rh_z2g fun a b => Q_z2g a.2.1
theorem k_z2g (hm : Try.prog.follows .mixedOrders = true) : SpecOk Try.prog 36 c_z2g := specQ_ok (pol := p_z2g) hm (cf := cf_z2g) (tab_ok specs_nil) fun a b r h => ⟨FUEL, g_z2g FUEL a.2.1 (decRes_some h)⟩
def s_z2h_r : Sig := ⟨[4, 5], [.ptr 0 0 0, .ty (.int .i64)], [.cell WordT]⟩
def p_z2h : Pol := ⟨fun i => none, fun i => none, some [(4, (.own WordT)), (5, .keep)], [.keep, .keep], []⟩
def e_z2h : List EK := [.nul 0, .agg FieldT]
def h_z2h : List HK := []
noncomputable def cf_z2h : CallF := mkCF [(36, c_z2g), (39, c_z18), (38, c_z19)] [(39, [(.int .i64), (.int .i64)])]
noncomputable def ls_z2h (n : Nat) : Loops := fun i =>  none
theorem m_z2h (n : Nat) (a0 : FieldS) : runFT Try.prog cf_z2h p_z2h (ls_z2h n) Try.f13 (bodyOf Try.f13) (EK.encs e_z2h (((), (a0, ())), ()).1) (HK.encs h_z2h (((), (a0, ())), ()).2) = M_z2h n a0 := by kernel_rfl
theorem g_z2h (n : Nat) (a0 : FieldS) {r : Res} (h : M_z2h n a0 = some r) : runF Try.prog cf_z2h n p_z2h 13 (EK.encs e_z2h (((), (a0, ())), ()).1) (HK.encs h_z2h (((), (a0, ())), ()).2) = some r := by
  have hb : LOk Try.prog cf_z2h Try.f13.ntmps 0 n p_z2h (ls_z2h n) (bodyOf Try.f13) := ⟨trivial, ⟨trivial, ⟨⟨trivial, ⟨⟨trivial, trivial⟩, trivial⟩⟩, ⟨trivial, ⟨⟨trivial, ⟨⟨trivial, trivial⟩, trivial⟩⟩, ⟨trivial, trivial⟩⟩⟩⟩⟩⟩
  exact runFT_some Try.prog (c := bodyOf Try.f13) Try.func13 (show Try.f13.body = some (bodyOf Try.f13) from rfl) (show (2 : Nat) ≤ 37 by decide) hb ((m_z2h n a0).trans h) rfl (by kernel_rfl)
noncomputable def c_z2h : Spec := specQ e_z2h h_z2h ro_z2h rh_z2h fun a b => Q_z2h a.2.1
theorem k_z2h (hm : Try.prog.follows .mixedOrders = true) : SpecOk Try.prog 13 c_z2h := specQ_ok (pol := p_z2h) hm (cf := cf_z2h) (tab_ok (specs_cons (k_z2g hm) (specs_cons (k_z18 hm) (specs_cons (k_z19 hm) specs_nil)))) fun a b r h => ⟨FUEL, g_z2h FUEL a.2.1 (decRes_some h)⟩
def s_z2i_r : Sig := ⟨[4, 5], [.ty (.int .i64), .ty (.int .i64)], []⟩
def p_z2i : Pol := ⟨fun i => none, fun i => none, some [(4, .keep), (5, .keep)], [.keep, .keep], []⟩
def e_z2i : List EK := [.nul 0, .agg FieldT]
def h_z2i : List HK := []
noncomputable def cf_z2i : CallF := mkCF [(36, c_z2g), (37, c_z1e)] []
noncomputable def ls_z2i (n : Nat) : Loops := fun i =>  none
theorem m_z2i (n : Nat) (a0 : FieldS) : runFT Try.prog cf_z2i p_z2i (ls_z2i n) Try.f12 (bodyOf Try.f12) (EK.encs e_z2i (((), (a0, ())), ()).1) (HK.encs h_z2i (((), (a0, ())), ()).2) = M_z2i n a0 := by kernel_rfl
theorem g_z2i (n : Nat) (a0 : FieldS) {r : Res} (h : M_z2i n a0 = some r) : runF Try.prog cf_z2i n p_z2i 12 (EK.encs e_z2i (((), (a0, ())), ()).1) (HK.encs h_z2i (((), (a0, ())), ()).2) = some r := by
  have hb : LOk Try.prog cf_z2i Try.f12.ntmps 0 n p_z2i (ls_z2i n) (bodyOf Try.f12) := ⟨trivial, ⟨trivial, ⟨⟨trivial, ⟨⟨trivial, trivial⟩, trivial⟩⟩, ⟨trivial, trivial⟩⟩⟩⟩
  exact runFT_some Try.prog (c := bodyOf Try.f12) Try.func12 (show Try.f12.body = some (bodyOf Try.f12) from rfl) (show (2 : Nat) ≤ 25 by decide) hb ((m_z2i n a0).trans h) rfl (by kernel_rfl)
noncomputable def c_z2i : Spec := specQ e_z2i h_z2i ro_z2i rh_z2i fun a b => Q_z2i a.2.1
theorem k_z2i (hm : Try.prog.follows .mixedOrders = true) : SpecOk Try.prog 12 c_z2i := specQ_ok (pol := p_z2i) hm (cf := cf_z2i) (tab_ok (specs_cons (k_z2g hm) (specs_cons (k_z1e hm) specs_nil))) fun a b r h => ⟨FUEL, g_z2i FUEL a.2.1 (decRes_some h)⟩
def s_z2j_r : Sig := ⟨[4, 5], [.ty (.int .i64), .ty (.int .i64)], []⟩
def p_z2j : Pol := ⟨fun i => none, fun i => none, some [(4, .keep), (5, .keep)], [.keep, .keep], []⟩
def e_z2j : List EK := [.nul 0, .ty (.slice NodeT)]
def h_z2j : List HK := []
noncomputable def cf_z2j : CallF := mkCF [] []
noncomputable def ls_z2j (n : Nat) : Loops := fun i =>  none
theorem m_z2j (n : Nat) (a0 : (List NodeS)) : runFT Try.prog cf_z2j p_z2j (ls_z2j n) Try.f32 (bodyOf Try.f32) (EK.encs e_z2j (((), (a0, ())), ()).1) (HK.encs h_z2j (((), (a0, ())), ()).2) = M_z2j n a0 := by kernel_rfl
theorem g_z2j (n : Nat) (a0 : (List NodeS)) {r : Res} (h : M_z2j n a0 = some r) : runF Try.prog cf_z2j n p_z2j 32 (EK.encs e_z2j (((), (a0, ())), ()).1) (HK.encs h_z2j (((), (a0, ())), ()).2) = some r := by
  have hb : LOk Try.prog cf_z2j Try.f32.ntmps 0 n p_z2j (ls_z2j n) (bodyOf Try.f32) := ⟨trivial, ⟨⟨trivial, ⟨⟨trivial, trivial⟩, trivial⟩⟩, ⟨trivial, ⟨trivial, ⟨trivial, trivial⟩⟩⟩⟩⟩
  exact runFT_some Try.prog (c := bodyOf Try.f32) Try.func32 (show Try.f32.body = some (bodyOf Try.f32) from rfl) (show (2 : Nat) ≤ 26 by decide) hb ((m_z2j n a0).trans h) rfl (by kernel_rfl)
noncomputable def c_z2j : Spec := specQ e_z2j h_z2j ro_z2j rh_z2j fun a b => Q_z2j a.2.1
theorem k_z2j (hm : Try.prog.follows .mixedOrders = true) : SpecOk Try.prog 32 c_z2j := specQ_ok (pol := p_z2j) hm (cf := cf_z2j) (tab_ok specs_nil) fun a b r h => ⟨FUEL, g_z2j FUEL a.2.1 (decRes_some h)⟩
def s_z2k_r : Sig := ⟨[6], [.ty (.int .i64)], []⟩
def p_z2k : Pol := ⟨fun i => none, fun i => none, some [(6, .keep)], [.keep], []⟩
def e_z2k : List EK := [.nul 0, .agg FieldT, .agg WordT]
def h_z2k : List HK := []
noncomputable def cf_z2k : CallF := mkCF [(36, c_z2g), (39, c_z18), (50, c_z1z)] [(39, [(.int .i64), (.int .i64)])]
noncomputable def ls_z2k (n : Nat) : Loops := fun i =>  none
theorem m_z2k (n : Nat) (a0 : FieldS) (a1 : WordS) : runFT Try.prog cf_z2k p_z2k (ls_z2k n) Try.f23 (bodyOf Try.f23) (EK.encs e_z2k (((), (a0, (a1, ()))), ()).1) (HK.encs h_z2k (((), (a0, (a1, ()))), ()).2) = M_z2k n a0 a1 := by kernel_rfl
theorem g_z2k (n : Nat) (a0 : FieldS) (a1 : WordS) {r : Res} (h : M_z2k n a0 a1 = some r) : runF Try.prog cf_z2k n p_z2k 23 (EK.encs e_z2k (((), (a0, (a1, ()))), ()).1) (HK.encs h_z2k (((), (a0, (a1, ()))), ()).2) = some r := by
  have hb : LOk Try.prog cf_z2k Try.f23.ntmps 0 n p_z2k (ls_z2k n) (bodyOf Try.f23) := ⟨trivial, ⟨trivial, ⟨⟨trivial, ⟨⟨trivial, trivial⟩, trivial⟩⟩, ⟨trivial, trivial⟩⟩⟩⟩
  exact runFT_some Try.prog (c := bodyOf Try.f23) Try.func23 (show Try.f23.body = some (bodyOf Try.f23) from rfl) (show (3 : Nat) ≤ 32 by decide) hb ((m_z2k n a0 a1).trans h) rfl (by kernel_rfl)
noncomputable def c_z2k : Spec := specQ e_z2k h_z2k ro_z2k rh_z2k fun a b => Q_z2k a.2.1 a.2.2.1
theorem k_z2k (hm : Try.prog.follows .mixedOrders = true) : SpecOk Try.prog 23 c_z2k := specQ_ok (pol := p_z2k) hm (cf := cf_z2k) (tab_ok (specs_cons (k_z2g hm) (specs_cons (k_z18 hm) (specs_cons (k_z1z hm) specs_nil)))) fun a b r h => ⟨FUEL, g_z2k FUEL a.2.1 a.2.2.1 (decRes_some h)⟩
def s_z2l_r : Sig := ⟨[4, 5], [.ty (.int .i64), .ty (.int .i64)], []⟩
def p_z2l : Pol := ⟨fun i => none, fun i => none, some [(4, .keep), (5, .keep)], [.keep, .keep], []⟩
def e_z2l : List EK := [.nul 0, .agg FieldT]
def h_z2l : List HK := []
noncomputable def cf_z2l : CallF := mkCF [(12, c_z2i)] []
noncomputable def ls_z2l (n : Nat) : Loops := fun i =>  none
theorem m_z2l (n : Nat) (a0 : FieldS) : runFT Try.prog cf_z2l p_z2l (ls_z2l n) Try.f41 (bodyOf Try.f41) (EK.encs e_z2l (((), (a0, ())), ()).1) (HK.encs h_z2l (((), (a0, ())), ()).2) = M_z2l n a0 := by kernel_rfl
theorem g_z2l (n : Nat) (a0 : FieldS) {r : Res} (h : M_z2l n a0 = some r) : runF Try.prog cf_z2l n p_z2l 41 (EK.encs e_z2l (((), (a0, ())), ()).1) (HK.encs h_z2l (((), (a0, ())), ()).2) = some r := by
  have hb : LOk Try.prog cf_z2l Try.f41.ntmps 0 n p_z2l (ls_z2l n) (bodyOf Try.f41) := ⟨trivial, ⟨⟨trivial, ⟨⟨trivial, trivial⟩, trivial⟩⟩, ⟨trivial, trivial⟩⟩⟩
  exact runFT_some Try.prog (c := bodyOf Try.f41) Try.func41 (show Try.f41.body = some (bodyOf Try.f41) from rfl) (show (2 : Nat) ≤ 18 by decide) hb ((m_z2l n a0).trans h) rfl (by kernel_rfl)
noncomputable def c_z2l : Spec := specQ e_z2l h_z2l ro_z2l rh_z2l fun a b => Q_z2l a.2.1
theorem k_z2l (hm : Try.prog.follows .mixedOrders = true) : SpecOk Try.prog 41 c_z2l := specQ_ok (pol := p_z2l) hm (cf := cf_z2l) (tab_ok (specs_cons (k_z2i hm) specs_nil)) fun a b r h => ⟨FUEL, g_z2l FUEL a.2.1 (decRes_some h)⟩
def s_z2m_r : Sig := ⟨[6], [.ty (.int .i64)], []⟩
def p_z2m : Pol := ⟨fun i => none, fun i => none, some [(6, .keep)], [.keep], []⟩
def e_z2m : List EK := [.nul 0, .agg FieldT, .ty (.int .i64)]
def h_z2m : List HK := []
noncomputable def cf_z2m : CallF := mkCF [(41, c_z2l)] []
noncomputable def ls_z2m (n : Nat) : Loops := fun i =>  none
theorem m_z2m (n : Nat) (a0 : FieldS) (a1 : Int) : runFT Try.prog cf_z2m p_z2m (ls_z2m n) Try.f15 (bodyOf Try.f15) (EK.encs e_z2m (((), (a0, (a1, ()))), ()).1) (HK.encs h_z2m (((), (a0, (a1, ()))), ()).2) = M_z2m n a0 a1 := by kernel_rfl
theorem g_z2m (n : Nat) (a0 : FieldS) (a1 : Int) {r : Res} (h : M_z2m n a0 a1 = some r) : runF Try.prog cf_z2m n p_z2m 15 (EK.encs e_z2m (((), (a0, (a1, ()))), ()).1) (HK.encs h_z2m (((), (a0, (a1, ()))), ()).2) = some r := by
  have hb : LOk Try.prog cf_z2m Try.f15.ntmps 0 n p_z2m (ls_z2m n) (bodyOf Try.f15) := ⟨trivial, ⟨trivial, ⟨⟨trivial, ⟨⟨trivial, trivial⟩, ⟨trivial, ⟨⟨trivial, trivial⟩, ⟨trivial, ⟨⟨trivial, trivial⟩, trivial⟩⟩⟩⟩⟩⟩, ⟨trivial, ⟨trivial, trivial⟩⟩⟩⟩⟩
  exact runFT_some Try.prog (c := bodyOf Try.f15) Try.func15 (show Try.f15.body = some (bodyOf Try.f15) from rfl) (show (3 : Nat) ≤ 38 by decide) hb ((m_z2m n a0 a1).trans h) rfl (by kernel_rfl)
noncomputable def c_z2m : Spec := specQ e_z2m h_z2m ro_z2m rh_z2m fun a b => Q_z2m a.2.1 a.2.2.1
theorem k_z2m (hm : Try.prog.follows .mixedOrders = true) : SpecOk Try.prog 15 c_z2m := specQ_ok (pol := p_z2m) hm (cf := cf_z2m) (tab_ok (specs_cons (k_z2l hm) specs_nil)) fun a b r h => ⟨FUEL, g_z2m FUEL a.2.1 a.2.2.1 (decRes_some h)⟩
def s_z2n_r : Sig := ⟨[6], [.ty (.int .i64)], []⟩
def p_z2n : Pol := ⟨fun i => none, fun i => none, some [(6, .keep)], [.keep], []⟩
def e_z2n : List EK := [.nul 0, .agg FieldT, .ty (.int .i64)]
def h_z2n : List HK := []
noncomputable def cf_z2n : CallF := mkCF [(41, c_z2l)] []
noncomputable def ls_z2n (n : Nat) : Loops := fun i =>  none
theorem m_z2n (n : Nat) (a0 : FieldS) (a1 : Int) : runFT Try.prog cf_z2n p_z2n (ls_z2n n) Try.f20 (bodyOf Try.f20) (EK.encs e_z2n (((), (a0, (a1, ()))), ()).1) (HK.encs h_z2n (((), (a0, (a1, ()))), ()).2) = M_z2n n a0 a1 := by kernel_rfl
theorem g_z2n (n : Nat) (a0 : FieldS) (a1 : Int) {r : Res} (h : M_z2n n a0 a1 = some r) : runF Try.prog cf_z2n n p_z2n 20 (EK.encs e_z2n (((), (a0, (a1, ()))), ()).1) (HK.encs h_z2n (((), (a0, (a1, ()))), ()).2) = some r := by
  have hb : LOk Try.prog cf_z2n Try.f20.ntmps 0 n p_z2n (ls_z2n n) (bodyOf Try.f20) := ⟨trivial, ⟨trivial, ⟨⟨trivial, ⟨⟨trivial, trivial⟩, ⟨trivial, ⟨⟨trivial, trivial⟩, trivial⟩⟩⟩⟩, ⟨trivial, ⟨trivial, ⟨trivial, trivial⟩⟩⟩⟩⟩⟩
  exact runFT_some Try.prog (c := bodyOf Try.f20) Try.func20 (show Try.f20.body = some (bodyOf Try.f20) from rfl) (show (3 : Nat) ≤ 47 by decide) hb ((m_z2n n a0 a1).trans h) rfl (by kernel_rfl)
noncomputable def c_z2n : Spec := specQ e_z2n h_z2n ro_z2n rh_z2n fun a b => Q_z2n a.2.1 a.2.2.1
theorem k_z2n (hm : Try.prog.follows .mixedOrders = true) : SpecOk Try.prog 20 c_z2n := specQ_ok (pol := p_z2n) hm (cf := cf_z2n) (tab_ok (specs_cons (k_z2l hm) specs_nil)) fun a b r h => ⟨FUEL, g_z2n FUEL a.2.1 a.2.2.1 (decRes_some h)⟩
def s_z2o_r : Sig := ⟨[2], [.ty (.int .i64)], []⟩
def p_z2o : Pol := ⟨fun i => none, fun i => none, some [(2, .keep)], [.keep], []⟩
def e_z2o : List EK := [.nul 0]
def h_z2o : List HK := []
noncomputable def cf_z2o : CallF := mkCF [] []
noncomputable def ls_z2o (n : Nat) : Loops := fun i =>  none
theorem m_z2o (n : Nat) : runFT Try.prog cf_z2o p_z2o (ls_z2o n) Try.f16 (bodyOf Try.f16) (EK.encs e_z2o (((), ()), ()).1) (HK.encs h_z2o (((), ()), ()).2) = M_z2o n := by kernel_rfl
theorem g_z2o (n : Nat) {r : Res} (h : M_z2o n = some r) : runF Try.prog cf_z2o n p_z2o 16 (EK.encs e_z2o (((), ()), ()).1) (HK.encs h_z2o (((), ()), ()).2) = some r := by
  have hb : LOk Try.prog cf_z2o Try.f16.ntmps 0 n p_z2o (ls_z2o n) (bodyOf Try.f16) := ⟨trivial, ⟨⟨trivial, ⟨⟨trivial, trivial⟩, trivial⟩⟩, ⟨trivial, trivial⟩⟩⟩
  exact runFT_some Try.prog (c := bodyOf Try.f16) Try.func16 (show Try.f16.body = some (bodyOf Try.f16) from rfl) (show (1 : Nat) ≤ 11 by decide) hb ((m_z2o n).trans h) rfl (by kernel_rfl)
noncomputable def c_z2o : Spec := specQ e_z2o h_z2o ro_z2o rh_z2o fun a b => Q_z2o
theorem k_z2o (hm : Try.prog.follows .mixedOrders = true) : SpecOk Try.prog 16 c_z2o := specQ_ok (pol := p_z2o) hm (cf := cf_z2o) (tab_ok specs_nil) fun a b r h => ⟨FUEL, g_z2o FUEL (decRes_some h)⟩
def s_z2p_r : Sig := ⟨[8], [.ty (.int .i64)], []⟩
def p_z2p : Pol := ⟨fun i => none, fun i => none, some [(8, .keep)], [.keep], []⟩
def e_z2p : List EK := [.nul 0, .agg FieldT, .agg FieldT, .ty (.int .i64)]
def h_z2p : List HK := []
noncomputable def cf_z2p : CallF := mkCF [(41, c_z2l), (16, c_z2o)] []
noncomputable def ls_z2p (n : Nat) : Loops := fun i =>  none
theorem m_z2p (n : Nat) (a0 : FieldS) (a1 : FieldS) (a2 : Int) : runFT Try.prog cf_z2p p_z2p (ls_z2p n) Try.f27 (bodyOf Try.f27) (EK.encs e_z2p (((), (a0, (a1, (a2, ())))), ()).1) (HK.encs h_z2p (((), (a0, (a1, (a2, ())))), ()).2) = M_z2p n a0 a1 a2 := by kernel_rfl
theorem g_z2p (n : Nat) (a0 : FieldS) (a1 : FieldS) (a2 : Int) {r : Res} (h : M_z2p n a0 a1 a2 = some r) : runF Try.prog cf_z2p n p_z2p 27 (EK.encs e_z2p (((), (a0, (a1, (a2, ())))), ()).1) (HK.encs h_z2p (((), (a0, (a1, (a2, ())))), ()).2) = some r := by
  have hb : LOk Try.prog cf_z2p Try.f27.ntmps 0 n p_z2p (ls_z2p n) (bodyOf Try.f27) := ⟨trivial, ⟨trivial, ⟨⟨trivial, ⟨⟨trivial, trivial⟩, trivial⟩⟩, ⟨⟨trivial, ⟨trivial, trivial⟩⟩, ⟨⟨trivial, ⟨trivial, ⟨⟨trivial, trivial⟩, trivial⟩⟩⟩, ⟨⟨trivial, ⟨trivial, ⟨⟨trivial, trivial⟩, trivial⟩⟩⟩, ⟨trivial, ⟨trivial, trivial⟩⟩⟩⟩⟩⟩⟩⟩
  exact runFT_some Try.prog (c := bodyOf Try.f27) Try.func27 (show Try.f27.body = some (bodyOf Try.f27) from rfl) (show (4 : Nat) ≤ 69 by decide) hb ((m_z2p n a0 a1 a2).trans h) rfl (by kernel_rfl)
noncomputable def c_z2p : Spec := specQ e_z2p h_z2p ro_z2p rh_z2p fun a b => Q_z2p a.2.1 a.2.2.1 a.2.2.2.1
theorem k_z2p (hm : Try.prog.follows .mixedOrders = true) : SpecOk Try.prog 27 c_z2p := specQ_ok (pol := p_z2p) hm (cf := cf_z2p) (tab_ok (specs_cons (k_z2l hm) (specs_cons (k_z2o hm) specs_nil))) fun a b r h => ⟨FUEL, g_z2p FUEL a.2.1 a.2.2.1 a.2.2.2.1 (decRes_some h)⟩
def s_z2q_r : Sig := ⟨[2], [.ty (.int .i64)], []⟩
def p_z2q : Pol := ⟨fun i => none, fun i => none, some [(2, .keep)], [.keep], []⟩
def e_z2q : List EK := [.nul 0]
def h_z2q : List HK := []
noncomputable def cf_z2q : CallF := mkCF [] []
noncomputable def ls_z2q (n : Nat) : Loops := fun i =>  none
theorem m_z2q (n : Nat) : runFT Try.prog cf_z2q p_z2q (ls_z2q n) Try.f33 (bodyOf Try.f33) (EK.encs e_z2q (((), ()), ()).1) (HK.encs h_z2q (((), ()), ()).2) = M_z2q n := by kernel_rfl
theorem g_z2q (n : Nat) {r : Res} (h : M_z2q n = some r) : runF Try.prog cf_z2q n p_z2q 33 (EK.encs e_z2q (((), ()), ()).1) (HK.encs h_z2q (((), ()), ()).2) = some r := by
  have hb : LOk Try.prog cf_z2q Try.f33.ntmps 0 n p_z2q (ls_z2q n) (bodyOf Try.f33) := ⟨trivial, ⟨⟨trivial, ⟨⟨trivial, trivial⟩, trivial⟩⟩, ⟨trivial, trivial⟩⟩⟩
  exact runFT_some Try.prog (c := bodyOf Try.f33) Try.func33 (show Try.f33.body = some (bodyOf Try.f33) from rfl) (show (1 : Nat) ≤ 9 by decide) hb ((m_z2q n).trans h) rfl (by kernel_rfl)
noncomputable def c_z2q : Spec := specQ e_z2q h_z2q ro_z2q rh_z2q fun a b => Q_z2q
theorem k_z2q (hm : Try.prog.follows .mixedOrders = true) : SpecOk Try.prog 33 c_z2q := specQ_ok (pol := p_z2q) hm (cf := cf_z2q) (tab_ok specs_nil) fun a b r h => ⟨FUEL, g_z2q FUEL (decRes_some h)⟩
def s_z2r_r : Sig := ⟨[2], [.ty .str], []⟩
def p_z2r : Pol := ⟨fun i => none, fun i => none, some [(2, .keep)], [.keep], []⟩
def e_z2r : List EK := [.nul 0]
def h_z2r : List HK := []
noncomputable def cf_z2r : CallF := mkCF [] []
noncomputable def ls_z2r (n : Nat) : Loops := fun i =>  none
theorem m_z2r (n : Nat) : runFT Try.prog cf_z2r p_z2r (ls_z2r n) Try.f17 (bodyOf Try.f17) (EK.encs e_z2r (((), ()), ()).1) (HK.encs h_z2r (((), ()), ()).2) = M_z2r n := by kernel_rfl
theorem g_z2r (n : Nat) {r : Res} (h : M_z2r n = some r) : runF Try.prog cf_z2r n p_z2r 17 (EK.encs e_z2r (((), ()), ()).1) (HK.encs h_z2r (((), ()), ()).2) = some r := by
  have hb : LOk Try.prog cf_z2r Try.f17.ntmps 0 n p_z2r (ls_z2r n) (bodyOf Try.f17) := ⟨trivial, ⟨⟨trivial, ⟨⟨trivial, trivial⟩, trivial⟩⟩, ⟨trivial, trivial⟩⟩⟩
  exact runFT_some Try.prog (c := bodyOf Try.f17) Try.func17 (show Try.f17.body = some (bodyOf Try.f17) from rfl) (show (1 : Nat) ≤ 11 by decide) hb ((m_z2r n).trans h) rfl (by kernel_rfl)
noncomputable def c_z2r : Spec := specQ e_z2r h_z2r ro_z2r rh_z2r fun a b => Q_z2r
theorem k_z2r (hm : Try.prog.follows .mixedOrders = true) : SpecOk Try.prog 17 c_z2r := specQ_ok (pol := p_z2r) hm (cf := cf_z2r) (tab_ok specs_nil) fun a b r h => ⟨FUEL, g_z2r FUEL (decRes_some h)⟩
def s_z2s_r : Sig := ⟨[2], [.ty .str], []⟩
def p_z2s : Pol := ⟨fun i => none, fun i => none, some [(2, .keep)], [.keep], []⟩
def e_z2s : List EK := [.nul 0]
def h_z2s : List HK := []
noncomputable def cf_z2s : CallF := mkCF [] []
noncomputable def ls_z2s (n : Nat) : Loops := fun i =>  none
theorem m_z2s (n : Nat) : runFT Try.prog cf_z2s p_z2s (ls_z2s n) Try.f26 (bodyOf Try.f26) (EK.encs e_z2s (((), ()), ()).1) (HK.encs h_z2s (((), ()), ()).2) = M_z2s n := by kernel_rfl
theorem g_z2s (n : Nat) {r : Res} (h : M_z2s n = some r) : runF Try.prog cf_z2s n p_z2s 26 (EK.encs e_z2s (((), ()), ()).1) (HK.encs h_z2s (((), ()), ()).2) = some r := by
  have hb : LOk Try.prog cf_z2s Try.f26.ntmps 0 n p_z2s (ls_z2s n) (bodyOf Try.f26) := ⟨trivial, ⟨⟨trivial, ⟨⟨trivial, trivial⟩, trivial⟩⟩, ⟨trivial, trivial⟩⟩⟩
  exact runFT_some Try.prog (c := bodyOf Try.f26) Try.func26 (show Try.f26.body = some (bodyOf Try.f26) from rfl) (show (1 : Nat) ≤ 10 by decide) hb ((m_z2s n).trans h) rfl (by kernel_rfl)
noncomputable def c_z2s : Spec := specQ e_z2s h_z2s ro_z2s rh_z2s fun a b => Q_z2s
theorem k_z2s (hm : Try.prog.follows .mixedOrders = true) : SpecOk Try.prog 26 c_z2s := specQ_ok (pol := p_z2s) hm (cf := cf_z2s) (tab_ok specs_nil) fun a b r h => ⟨FUEL, g_z2s FUEL (decRes_some h)⟩
def s_z2t_r : Sig := ⟨[2], [.hs 0 0], [.row HeadT]⟩
def p_z2t : Pol := ⟨fun i => none, fun i => none, some [(2, (.own HeadT))], [(.own HeadT)], []⟩
def e_z2t : List EK := [.nul 0]
def h_z2t : List HK := []
noncomputable def cf_z2t : CallF := mkCF [] []
noncomputable def ls_z2t (n : Nat) : Loops := fun i =>  none
theorem m_z2t (n : Nat) : runFT Try.prog cf_z2t p_z2t (ls_z2t n) Try.f14 (bodyOf Try.f14) (EK.encs e_z2t (((), ()), ()).1) (HK.encs h_z2t (((), ()), ()).2) = M_z2t n := by kernel_rfl
theorem g_z2t (n : Nat) {r : Res} (h : M_z2t n = some r) : runF Try.prog cf_z2t n p_z2t 14 (EK.encs e_z2t (((), ()), ()).1) (HK.encs h_z2t (((), ()), ()).2) = some r := by
  have hb : LOk Try.prog cf_z2t Try.f14.ntmps 0 n p_z2t (ls_z2t n) (bodyOf Try.f14) := ⟨trivial, ⟨⟨trivial, ⟨⟨trivial, trivial⟩, trivial⟩⟩, ⟨trivial, trivial⟩⟩⟩
  exact runFT_some Try.prog (c := bodyOf Try.f14) Try.func14 (show Try.f14.body = some (bodyOf Try.f14) from rfl) (show (1 : Nat) ≤ 11 by decide) hb ((m_z2t n).trans h) rfl (by kernel_rfl)
noncomputable def c_z2t : Spec := specQ e_z2t h_z2t ro_z2t rh_z2t fun a b => Q_z2t
theorem k_z2t (hm : Try.prog.follows .mixedOrders = true) : SpecOk Try.prog 14 c_z2t := specQ_ok (pol := p_z2t) hm (cf := cf_z2t) (tab_ok specs_nil) fun a b r h => ⟨FUEL, g_z2t FUEL (decRes_some h)⟩
def s_z2u_r : Sig := ⟨[2], [.nul 0], []⟩
def p_z2u : Pol := ⟨fun i => none, fun i => none, some [(2, .keep)], [.keep], []⟩
def e_z2u : List EK := [.nul 0]
def h_z2u : List HK := []
noncomputable def cf_z2u : CallF := mkCF [] []
noncomputable def ls_z2u (n : Nat) : Loops := fun i =>  none
theorem m_z2u (n : Nat) : runFT Try.prog cf_z2u p_z2u (ls_z2u n) Try.f18 (bodyOf Try.f18) (EK.encs e_z2u (((), ()), ()).1) (HK.encs h_z2u (((), ()), ()).2) = M_z2u n := by kernel_rfl
theorem g_z2u (n : Nat) {r : Res} (h : M_z2u n = some r) : runF Try.prog cf_z2u n p_z2u 18 (EK.encs e_z2u (((), ()), ()).1) (HK.encs h_z2u (((), ()), ()).2) = some r := by
  have hb : LOk Try.prog cf_z2u Try.f18.ntmps 0 n p_z2u (ls_z2u n) (bodyOf Try.f18) := ⟨trivial, ⟨⟨trivial, ⟨⟨trivial, trivial⟩, trivial⟩⟩, ⟨trivial, trivial⟩⟩⟩
  exact runFT_some Try.prog (c := bodyOf Try.f18) Try.func18 (show Try.f18.body = some (bodyOf Try.f18) from rfl) (show (1 : Nat) ≤ 29 by decide) hb ((m_z2u n).trans h) rfl (by kernel_rfl)
noncomputable def c_z2u : Spec := specQ e_z2u h_z2u ro_z2u rh_z2u fun a b => Q_z2u
theorem k_z2u (hm : Try.prog.follows .mixedOrders = true) : SpecOk Try.prog 18 c_z2u := specQ_ok (pol := p_z2u) hm (cf := cf_z2u) (tab_ok specs_nil) fun a b r h => ⟨FUEL, g_z2u FUEL (decRes_some h)⟩
def s_z2v_r : Sig := ⟨[2], [.ty (.int .i64)], [.one false [.ptr 1 0 0, .nul 4, .ptr 3 0 0, .ty (.int .i64)], .one false [.hs 2 0], .row (.int .u8), .one false [.hs 4 0], .row (.int .u8)]⟩
def p_z2v : Pol := ⟨fun i => none, fun i => none, some [(2, .keep)], [.keep], []⟩
def e_z2v : List EK := [.ptr 0 0 0]
def h_z2v : List HK := [.one false [.ptr 1 0 0, .nul 4, .ptr 3 0 0, .ty (.int .i64)], .one false [.hs 2 0], .row (.int .u8), .one false [.hs 4 0], .row (.int .u8)]
noncomputable def cf_z2v : CallF := mkCF [(44, c_z1f)] []
noncomputable def ls_z2v (n : Nat) : Loops := fun i =>  none
theorem m_z2v (n : Nat) (a0 : Int) (a1 : Nat) (a2 : (List Int)) (a3 : Nat) (a4 : (List Int)) : runFT Try.prog cf_z2v p_z2v (ls_z2v n) Try.f16 (bodyOf Try.f16) (EK.encs e_z2v (((), ()), (((), ((), ((), (a0, ())))), ((a1, ()), (a2, ((a3, ()), (a4, ())))))).1) (HK.encs h_z2v (((), ()), (((), ((), ((), (a0, ())))), ((a1, ()), (a2, ((a3, ()), (a4, ())))))).2) = M_z2v n a0 a1 a2 a3 a4 := by kernel_rfl
theorem g_z2v (n : Nat) (a0 : Int) (a1 : Nat) (a2 : (List Int)) (a3 : Nat) (a4 : (List Int)) {r : Res} (h : M_z2v n a0 a1 a2 a3 a4 = some r) : runF Try.prog cf_z2v n p_z2v 16 (EK.encs e_z2v (((), ()), (((), ((), ((), (a0, ())))), ((a1, ()), (a2, ((a3, ()), (a4, ())))))).1) (HK.encs h_z2v (((), ()), (((), ((), ((), (a0, ())))), ((a1, ()), (a2, ((a3, ()), (a4, ())))))).2) = some r := by
  have hb : LOk Try.prog cf_z2v Try.f16.ntmps 5 n p_z2v (ls_z2v n) (bodyOf Try.f16) := ⟨trivial, ⟨⟨trivial, ⟨⟨trivial, trivial⟩, trivial⟩⟩, ⟨trivial, trivial⟩⟩⟩
  exact runFT_some Try.prog (c := bodyOf Try.f16) Try.func16 (show Try.f16.body = some (bodyOf Try.f16) from rfl) (show (1 : Nat) ≤ 11 by decide) hb ((m_z2v n a0 a1 a2 a3 a4).trans h) rfl (by kernel_rfl)
noncomputable def c_z2v : Spec := specQ e_z2v h_z2v ro_z2v rh_z2v fun a b => Q_z2v b.1.2.2.2.1 b.2.1.1 b.2.2.1 b.2.2.2.1.1 b.2.2.2.2.1
theorem k_z2v (hm : Try.prog.follows .mixedOrders = true) : SpecOk Try.prog 16 c_z2v := specQ_ok (pol := p_z2v) hm (cf := cf_z2v) (tab_ok (specs_cons (k_z1f hm) specs_nil)) fun a b r h => ⟨FUEL, g_z2v FUEL b.1.2.2.2.1 b.2.1.1 b.2.2.1 b.2.2.2.1.1 b.2.2.2.2.1 (decRes_some h)⟩
def s_z2w_r : Sig := ⟨[0], [.ty .bool], []⟩
def s_z2w_h0 : Sig := ⟨[1, 141, 142, 143], [.ptr 0 0 0, .hs 6 0, .ty (.int .i64), .ty (.int .i64)], [.one false [.ptr 1 0 0, .hs 3 0, .ptr 4 0 0, .ty (.int .i64)], .one false [.hs 2 0], .row (.int .u8), .row HeadT, .one false [.hs 5 0], .row (.int .u8), .row (.pair FieldT (.pair (.int .i64) .unit))]⟩
def s_z2w_t0 : Sig := ⟨[1], [.ptr 0 0 0], [.one false [.ptr 1 0 0, .hs 3 0, .ptr 4 0 0, .ty (.int .i64)], .one false [.hs 2 0], .row (.int .u8), .row HeadT, .one false [.hs 5 0], .row (.int .u8)]⟩
def s_z2w_h2 : Sig := ⟨[1, 197, 198, 199], [.ptr 0 0 0, .hs 6 0, .ty (.int .i64), .ty (.int .i64)], [.one false [.ptr 1 0 0, .hs 3 0, .ptr 4 0 0, .ty (.int .i64)], .one false [.hs 2 0], .row (.int .u8), .row HeadT, .one false [.hs 5 0], .row (.int .u8), .row (.pair FieldT HeadT)]⟩
def s_z2w_t2 : Sig := ⟨[1], [.ptr 0 0 0], [.one false [.ptr 1 0 0, .hs 3 0, .ptr 4 0 0, .ty (.int .i64)], .one false [.hs 2 0], .row (.int .u8), .row HeadT, .one false [.hs 5 0], .row (.int .u8)]⟩
def p_z2w : Pol := ⟨fun i => if i = 0 then some [(1, .keep), (141, (.own (.pair FieldT (.pair (.int .i64) .unit)))), (142, .keep), (143, .keep)] else if i = 2 then some [(1, .keep), (197, (.own (.pair FieldT HeadT))), (198, .keep), (199, .keep)] else none, fun i => if i = 0 then some [(1, .keep)] else if i = 2 then some [(1, .keep)] else none, some [(0, .keep)], [.keep], []⟩
def e_z2w : List EK := []
def h_z2w : List HK := []
noncomputable def cf_z2w : CallF := { (mkCF [(29, c_z11), (11, c_z1u), (30, c_z02), (19, c_z1o), (15, (orSpec c_z2c_o0 c_z2m)), (31, c_z2d), (20, (orSpec c_z2f (orSpec c_z1t c_z2n))), (16, (orSpec c_z1v (orSpec c_z2o c_z2v))), (22, c_z16), (13, (orSpec c_z1c c_z2h)), (18, (orSpec c_z1x c_z2u)), (23, (orSpec c_z22 c_z2k)), (12, (orSpec c_z1h c_z2i)), (27, (orSpec c_z26 c_z2p)), (26, (orSpec c_z1y c_z2s)), (32, c_z2j), (33, c_z2q), (17, c_z2r), (14, c_z2t)] [(29, []), (11, []), (30, [(.int .i64), .str]), (19, [(.int .i64), (.int .i64)]), (31, [(.int .i64), (.int .i64)]), (22, [(.int .i64), (.int .i64), (.int .i64)])]) with mix := mixes [(32, [none, some ((.slice NodeT))])] }
noncomputable def ls_z2w (n : Nat) : Loops := fun i => if i = 0 then some (loopT 0 (p_z2w.head 0) s_z2w_h0 fun K v => L_z2w_0 n (fun z0 => K .rt (s_z2w_r.enc ((z0, ()), ()))) (fun z0 z1 z2 z3 z4 z5 z6 => K (.ex 0) (s_z2w_t0.enc (((), ()), (((), (z0, ((), (z1, ())))), ((z2, ()), (z3, (z4, ((z5, ()), (z6, ()))))))))) v.1.2.1 v.1.2.2.1 v.2.2.2.2.2.2.2.1 n v.1.2.2.2.1 v.2.1.2.1 v.2.1.2.2.2.1 v.2.2.1.1 v.2.2.2.1 v.2.2.2.2.1 v.2.2.2.2.2.1.1 v.2.2.2.2.2.2.1)
  else if i = 2 then some (loopT 0 (p_z2w.head 2) s_z2w_h2 fun K v => L_z2w_2 n (fun z0 => K .rt (s_z2w_r.enc ((z0, ()), ()))) (fun z0 z1 z2 z3 z4 z5 z6 => K (.ex 2) (s_z2w_t2.enc (((), ()), (((), (z0, ((), (z1, ())))), ((z2, ()), (z3, (z4, ((z5, ()), (z6, ()))))))))) v.1.2.1 v.1.2.2.1 v.2.2.2.2.2.2.2.1 n v.1.2.2.2.1 v.2.1.2.1 v.2.1.2.2.2.1 v.2.2.1.1 v.2.2.2.1 v.2.2.2.2.1 v.2.2.2.2.2.1.1 v.2.2.2.2.2.2.1)
  else  none
noncomputable def b_z2w_0 : Code := partOf (bodyOf Try.f7) [1, 1, 1, 1, 1, 1, 1, 0, 1, 0, 0]
noncomputable def V_z2w_0 (n : Nat) (K : Cont) (rec : Sig.sem s_z2w_h0 → Option Res) (v : Sig.sem s_z2w_h0) : Option Res := F_z2w_0 n (fun z0 => K .rt (s_z2w_r.enc ((z0, ()), ()))) (fun z0 z1 z2 z3 z4 z5 z6 => K (.ex 0) (s_z2w_t0.enc (((), ()), (((), (z0, ((), (z1, ())))), ((z2, ()), (z3, (z4, ((z5, ()), (z6, ()))))))))) v.1.2.1 v.1.2.2.1 v.2.2.2.2.2.2.2.1 (fun z2 z3 z4 z5 z6 z7 z8 z9 => rec (((), (v.1.2.1, (v.1.2.2.1, (z2, ())))), (((), (z3, ((), (z4, ())))), ((z5, ()), (z6, (z7, ((z8, ()), (z9, (v.2.2.2.2.2.2.2.1, ()))))))))) v.1.2.2.2.1 v.2.1.2.1 v.2.1.2.2.2.1 v.2.2.1.1 v.2.2.2.1 v.2.2.2.2.1 v.2.2.2.2.2.1.1 v.2.2.2.2.2.2.1
theorem t_z2w_0 (n : Nat) (K : Cont) (rec : Sig.sem s_z2w_h0 → Option Res) (v : Sig.sem s_z2w_h0) : runT Try.prog cf_z2w Try.f7.ntmps 0 p_z2w (ls_z2w n) b_z2w_0 (s_z2w_h0.enc v) (turnK 0 (p_z2w.head 0) s_z2w_h0 rec K) = V_z2w_0 n K rec v := by kernel_rfl
noncomputable def W_z2w_0 (n : Nat) (K : Cont) (m : Nat) (v : Sig.sem s_z2w_h0) : Option Res := L_z2w_0 n (fun z0 => K .rt (s_z2w_r.enc ((z0, ()), ()))) (fun z0 z1 z2 z3 z4 z5 z6 => K (.ex 0) (s_z2w_t0.enc (((), ()), (((), (z0, ((), (z1, ())))), ((z2, ()), (z3, (z4, ((z5, ()), (z6, ()))))))))) v.1.2.1 v.1.2.2.1 v.2.2.2.2.2.2.2.1 m v.1.2.2.2.1 v.2.1.2.1 v.2.1.2.2.2.1 v.2.2.1.1 v.2.2.2.1 v.2.2.2.2.1 v.2.2.2.2.2.1.1 v.2.2.2.2.2.2.1
theorem i_z2w_0 (n : Nat) (K : Cont) : ∀ m v, iter (V_z2w_0 n K) m v = W_z2w_0 n K m v := by
  intro m
  induction m with
  | zero => intro v; rfl
  | succ m ih =>
    intro v
    show V_z2w_0 n K (iter (V_z2w_0 n K) m) v = V_z2w_0 n K (W_z2w_0 n K m) v
    rw [show iter (V_z2w_0 n K) m = W_z2w_0 n K m from funext ih]
theorem o_z2w_0 (n : Nat) : ∀ L, ls_z2w n 0 = some L → ∀ s K r, L s K = some r → ∃ x s', loopN (run Try.prog cf_z2w Try.f7.ntmps 0 n p_z2w none b_z2w_0) (gc 0 (p_z2w.head 0)) n s = some (x, s') ∧ K x s' = some r := by
  intro L hL s K r h
  have hL : some (loopT 0 (p_z2w.head 0) s_z2w_h0 fun K v => W_z2w_0 n K n v) = some L := hL
  cases hL
  have hb : LOk Try.prog cf_z2w Try.f7.ntmps 0 n p_z2w (ls_z2w n) b_z2w_0 := ⟨trivial, ⟨⟨trivial, trivial⟩, ⟨⟨trivial, ⟨trivial, ⟨trivial, ⟨⟨trivial, trivial⟩, trivial⟩⟩⟩⟩, trivial⟩⟩⟩
  refine loopT_ok hb (V_z2w_0 n) (t_z2w_0 n) n s K r ?_
  rw [← h]
  unfold loopT
  simp only [i_z2w_0]
noncomputable def b_z2w_2 : Code := partOf (bodyOf Try.f7) [1, 1, 1, 1, 1, 1, 1, 1, 0, 1, 0, 0]
noncomputable def V_z2w_2 (n : Nat) (K : Cont) (rec : Sig.sem s_z2w_h2 → Option Res) (v : Sig.sem s_z2w_h2) : Option Res := F_z2w_2 n (fun z0 => K .rt (s_z2w_r.enc ((z0, ()), ()))) (fun z0 z1 z2 z3 z4 z5 z6 => K (.ex 2) (s_z2w_t2.enc (((), ()), (((), (z0, ((), (z1, ())))), ((z2, ()), (z3, (z4, ((z5, ()), (z6, ()))))))))) v.1.2.1 v.1.2.2.1 v.2.2.2.2.2.2.2.1 (fun z2 z3 z4 z5 z6 z7 z8 z9 => rec (((), (v.1.2.1, (v.1.2.2.1, (z2, ())))), (((), (z3, ((), (z4, ())))), ((z5, ()), (z6, (z7, ((z8, ()), (z9, (v.2.2.2.2.2.2.2.1, ()))))))))) v.1.2.2.2.1 v.2.1.2.1 v.2.1.2.2.2.1 v.2.2.1.1 v.2.2.2.1 v.2.2.2.2.1 v.2.2.2.2.2.1.1 v.2.2.2.2.2.2.1
theorem t_z2w_2 (n : Nat) (K : Cont) (rec : Sig.sem s_z2w_h2 → Option Res) (v : Sig.sem s_z2w_h2) : runT Try.prog cf_z2w Try.f7.ntmps 0 p_z2w (ls_z2w n) b_z2w_2 (s_z2w_h2.enc v) (turnK 0 (p_z2w.head 2) s_z2w_h2 rec K) = V_z2w_2 n K rec v := by kernel_rfl
noncomputable def W_z2w_2 (n : Nat) (K : Cont) (m : Nat) (v : Sig.sem s_z2w_h2) : Option Res := L_z2w_2 n (fun z0 => K .rt (s_z2w_r.enc ((z0, ()), ()))) (fun z0 z1 z2 z3 z4 z5 z6 => K (.ex 2) (s_z2w_t2.enc (((), ()), (((), (z0, ((), (z1, ())))), ((z2, ()), (z3, (z4, ((z5, ()), (z6, ()))))))))) v.1.2.1 v.1.2.2.1 v.2.2.2.2.2.2.2.1 m v.1.2.2.2.1 v.2.1.2.1 v.2.1.2.2.2.1 v.2.2.1.1 v.2.2.2.1 v.2.2.2.2.1 v.2.2.2.2.2.1.1 v.2.2.2.2.2.2.1
theorem i_z2w_2 (n : Nat) (K : Cont) : ∀ m v, iter (V_z2w_2 n K) m v = W_z2w_2 n K m v := by
  intro m
  induction m with
  | zero => intro v; rfl
  | succ m ih =>
    intro v
    show V_z2w_2 n K (iter (V_z2w_2 n K) m) v = V_z2w_2 n K (W_z2w_2 n K m) v
    rw [show iter (V_z2w_2 n K) m = W_z2w_2 n K m from funext ih]
theorem o_z2w_2 (n : Nat) : ∀ L, ls_z2w n 2 = some L → ∀ s K r, L s K = some r → ∃ x s', loopN (run Try.prog cf_z2w Try.f7.ntmps 0 n p_z2w none b_z2w_2) (gc 0 (p_z2w.head 2)) n s = some (x, s') ∧ K x s' = some r := by
  intro L hL s K r h
  have hL : some (loopT 0 (p_z2w.head 2) s_z2w_h2 fun K v => W_z2w_2 n K n v) = some L := hL
  cases hL
  have hb : LOk Try.prog cf_z2w Try.f7.ntmps 0 n p_z2w (ls_z2w n) b_z2w_2 := ⟨trivial, ⟨⟨trivial, trivial⟩, ⟨⟨trivial, ⟨trivial, ⟨trivial, ⟨⟨trivial, trivial⟩, trivial⟩⟩⟩⟩, trivial⟩⟩⟩
  refine loopT_ok hb (V_z2w_2 n) (t_z2w_2 n) n s K r ?_
  rw [← h]
  unfold loopT
  simp only [i_z2w_2]
theorem mz_z2w (n : Nat) (hd : ByteArray → ByteArray) : runFH Try.prog hd 2 [1, 1, 1, 0] cf_z2w p_z2w (ls_z2w n) Try.f7 (bodyOf Try.f7) (EK.encs e_z2w ((), ()).1) (HK.encs h_z2w ((), ()).2) = MH_z2w n hd := by kernel_rfl
theorem m_z2w (n : Nat) : runFT Try.prog cf_z2w p_z2w (ls_z2w n) Try.f7 (bodyOf Try.f7) (EK.encs e_z2w ((), ()).1) (HK.encs h_z2w ((), ()).2) = M_z2w n := runFH_id Try.prog (mz_z2w n (fun b => b))
theorem g_z2w (n : Nat) {r : Res} (h : M_z2w n = some r) : runF Try.prog cf_z2w n p_z2w 7 (EK.encs e_z2w ((), ()).1) (HK.encs h_z2w ((), ()).2) = some r := by
  have hb : LOk Try.prog cf_z2w Try.f7.ntmps 0 n p_z2w (ls_z2w n) (bodyOf Try.f7) := ⟨trivial, ⟨trivial, ⟨⟨trivial, ⟨⟨trivial, trivial⟩, trivial⟩⟩, ⟨trivial, ⟨trivial, ⟨trivial, ⟨⟨trivial, ⟨⟨trivial, trivial⟩, trivial⟩⟩, ⟨⟨trivial, (o_z2w_0 n)⟩, ⟨⟨trivial, (o_z2w_2 n)⟩, ⟨⟨trivial, ⟨⟨trivial, trivial⟩, trivial⟩⟩, ⟨trivial, ⟨trivial, ⟨trivial, ⟨trivial, ⟨trivial, trivial⟩⟩⟩⟩⟩⟩⟩⟩⟩⟩⟩⟩⟩⟩⟩
  exact runFT_some Try.prog (c := bodyOf Try.f7) Try.func7 (show Try.f7.body = some (bodyOf Try.f7) from rfl) (show (0 : Nat) ≤ 353 by decide) hb ((m_z2w n).trans h) rfl (by kernel_rfl)
noncomputable def c_z2w : Spec := specQ e_z2w h_z2w ro_z2w rh_z2w fun a b => Q_z2w
theorem k_z2w (hm : Try.prog.follows .mixedOrders = true) : SpecOk Try.prog 7 c_z2w := specQ_ok (pol := p_z2w) hm (cf := cf_z2w) (CallSound.mix <| tab_ok (specs_cons (k_z11 hm) (specs_cons (k_z1u hm) (specs_cons (k_z02 hm) (specs_cons (k_z1o hm) (specs_cons (orSpec_ok (k_z2c_o0 hm) (k_z2m hm)) (specs_cons (k_z2d hm) (specs_cons (orSpec_ok (k_z2f hm) (orSpec_ok (k_z1t hm) (k_z2n hm))) (specs_cons (orSpec_ok (k_z1v hm) (orSpec_ok (k_z2o hm) (k_z2v hm))) (specs_cons (k_z16 hm) (specs_cons (orSpec_ok (k_z1c hm) (k_z2h hm)) (specs_cons (orSpec_ok (k_z1x hm) (k_z2u hm)) (specs_cons (orSpec_ok (k_z22 hm) (k_z2k hm)) (specs_cons (orSpec_ok (k_z1h hm) (k_z2i hm)) (specs_cons (orSpec_ok (k_z26 hm) (k_z2p hm)) (specs_cons (orSpec_ok (k_z1y hm) (k_z2s hm)) (specs_cons (k_z2j hm) (specs_cons (k_z2q hm) (specs_cons (k_z2r hm) (specs_cons (k_z2t hm) specs_nil)))))))))))))))))))) fun a b r h => ⟨FUEL, g_z2w FUEL (decRes_some h)⟩
end Go.AMach
