/- A part of the walk. -/
import Derived.Test.YtcakaagbhngkhaaD
import Derived.Test.YtcakaagbhngkhaaProg
namespace Go.AMach
set_option linter.unusedVariables false
set_option linter.unusedSimpArgs false
set_option linter.unnecessarySimpa false
open Go Go.Proofs
set_option linter.unusedVariables false
noncomputable instance : Sites := ⟨fun k => if k = 0 then rfOf (partOf (bodyOf Try.f12) [1, 1, 1, 1, 0, 1, 0]) else none⟩
def s_turnoutlaw16_large_h0 : Sig := ⟨[0, 3, 4], [.ty (.slice NodeT), .ty (.int .i64), .ty (.int .i64)], []⟩
def s_turnoutlaw16_large_t0 : Sig := ⟨[3], [.ty (.int .i64)], []⟩
def s_turnoutlaw16_large_r : Sig := ⟨[2], [.ty .bool], []⟩
def p_turnoutlaw16_large : Pol := ⟨fun i => if i = 0 then some [(0, .keep), (3, .keep), (4, .keep)] else none, fun i => if i = 0 then some [(3, .keep)] else none, some [(2, .keep)], [.keep], []⟩
def e_turnoutlaw16_large : List EK := [.ty (.slice NodeT)]
def h_turnoutlaw16_large : List HK := []
noncomputable def cf_turnoutlaw16_large : CallF := mkCF [] []
noncomputable def ls_turnoutlaw16_large (n : Nat) : Loops := fun i => if i = 0 then some (loopT 0 (p_turnoutlaw16_large.head 0) s_turnoutlaw16_large_h0 fun K v => L_turnoutlaw16_large_0 n (fun z0 => K (.ex 0) (s_turnoutlaw16_large_t0.enc ((z0, ()), ()))) v.1.1 n v.1.2.1 v.1.2.2.1)
  else  none
noncomputable def b_turnoutlaw16_large_0 : Code := partOf (bodyOf Try.f9) [1, 1, 0, 1, 0, 0]
theorem t_turnoutlaw16_large_0 (n : Nat) (K : Cont) (rec : Sig.sem s_turnoutlaw16_large_h0 → Option Res) (v : Sig.sem s_turnoutlaw16_large_h0) : runT Try.prog cf_turnoutlaw16_large Try.f9.ntmps 0 p_turnoutlaw16_large (ls_turnoutlaw16_large n) b_turnoutlaw16_large_0 (s_turnoutlaw16_large_h0.enc v) (turnK 0 (p_turnoutlaw16_large.head 0) s_turnoutlaw16_large_h0 rec K) = F_turnoutlaw16_large_0 n (fun z0 => K (.ex 0) (s_turnoutlaw16_large_t0.enc ((z0, ()), ()))) v.1.1 (fun z1 z2 => rec ((v.1.1, (z1, (z2, ()))), ())) v.1.2.1 v.1.2.2.1 := by kernel_rfl
noncomputable def V_turnoutlaw16_large_0 (n : Nat) (K : Cont) (rec : Sig.sem s_turnoutlaw16_large_h0 → Option Res) (v : Sig.sem s_turnoutlaw16_large_h0) : Option Res := F_turnoutlaw16_large_0 n (fun z0 => K (.ex 0) (s_turnoutlaw16_large_t0.enc ((z0, ()), ()))) v.1.1 (fun z1 z2 => rec ((v.1.1, (z1, (z2, ()))), ())) v.1.2.1 v.1.2.2.1
noncomputable def W_turnoutlaw16_large_0 (n : Nat) (K : Cont) (m : Nat) (v : Sig.sem s_turnoutlaw16_large_h0) : Option Res := L_turnoutlaw16_large_0 n (fun z0 => K (.ex 0) (s_turnoutlaw16_large_t0.enc ((z0, ()), ()))) v.1.1 m v.1.2.1 v.1.2.2.1
theorem i_turnoutlaw16_large_0 (n : Nat) (K : Cont) : ∀ m v, iter (V_turnoutlaw16_large_0 n K) m v = W_turnoutlaw16_large_0 n K m v := by
  intro m
  induction m with
  | zero => intro v; rfl
  | succ m ih =>
    intro v
    show V_turnoutlaw16_large_0 n K (iter (V_turnoutlaw16_large_0 n K) m) v = V_turnoutlaw16_large_0 n K (W_turnoutlaw16_large_0 n K m) v
    rw [show iter (V_turnoutlaw16_large_0 n K) m = W_turnoutlaw16_large_0 n K m from funext ih]
theorem o_turnoutlaw16_large_0 (n : Nat) : ∀ L, ls_turnoutlaw16_large n 0 = some L → ∀ s K r, L s K = some r → ∃ x s', loopN (run Try.prog cf_turnoutlaw16_large Try.f9.ntmps 0 n p_turnoutlaw16_large none b_turnoutlaw16_large_0) (gc 0 (p_turnoutlaw16_large.head 0)) n s = some (x, s') ∧ K x s' = some r := by
  intro L hL s K r h
  have hL : some (loopT 0 (p_turnoutlaw16_large.head 0) s_turnoutlaw16_large_h0 fun K v => W_turnoutlaw16_large_0 n K n v) = some L := hL
  cases hL
  have hb : LOk Try.prog cf_turnoutlaw16_large Try.f9.ntmps 0 n p_turnoutlaw16_large (ls_turnoutlaw16_large n) b_turnoutlaw16_large_0 := ⟨⟨trivial, ⟨trivial, trivial⟩⟩, ⟨trivial, trivial⟩⟩
  refine loopT_ok hb (V_turnoutlaw16_large_0 n) (t_turnoutlaw16_large_0 n) n s K r ?_
  rw [← h]
  unfold loopT
  simp only [i_turnoutlaw16_large_0]
theorem m_turnoutlaw16_large (n : Nat) (a0 : (List NodeS)) : runFT Try.prog cf_turnoutlaw16_large p_turnoutlaw16_large (ls_turnoutlaw16_large n) Try.f9 (bodyOf Try.f9) (EK.encs e_turnoutlaw16_large ((a0, ()), ()).1) (HK.encs h_turnoutlaw16_large ((a0, ()), ()).2) = M_turnoutlaw16_large n a0 := by kernel_rfl
theorem g_turnoutlaw16_large (n : Nat) (a0 : (List NodeS)) {r : Res} (h : M_turnoutlaw16_large n a0 = some r) : runF Try.prog cf_turnoutlaw16_large n p_turnoutlaw16_large 9 (EK.encs e_turnoutlaw16_large ((a0, ()), ()).1) (HK.encs h_turnoutlaw16_large ((a0, ()), ()).2) = some r := by
  have hb : LOk Try.prog cf_turnoutlaw16_large Try.f9.ntmps 0 n p_turnoutlaw16_large (ls_turnoutlaw16_large n) (bodyOf Try.f9) := ⟨trivial, ⟨trivial, ⟨⟨trivial, (o_turnoutlaw16_large_0 n)⟩, ⟨trivial, trivial⟩⟩⟩⟩
  exact runFT_some Try.prog (c := bodyOf Try.f9) Try.func9 (show Try.f9.body = some (bodyOf Try.f9) from rfl) (show (1 : Nat) ≤ 27 by decide) hb ((m_turnoutlaw16_large n a0).trans h) rfl (by kernel_rfl)
noncomputable def c_turnoutlaw16_large : Spec := specQ e_turnoutlaw16_large h_turnoutlaw16_large ro_turnoutlaw16_large rh_turnoutlaw16_large fun a b => Q_turnoutlaw16_large a.1
theorem k_turnoutlaw16_large (hm : Try.prog.follows .mixedOrders = true) : SpecOk Try.prog 9 c_turnoutlaw16_large := specQ_ok (pol := p_turnoutlaw16_large) hm (cf := cf_turnoutlaw16_large) (tab_ok specs_nil) fun a b r h => ⟨FUEL, g_turnoutlaw16_large FUEL a.1 (decRes_some h)⟩
def s_turnoutlaw16_nodes_r : Sig := ⟨[0], [.hs 0 0], [.row NodeT]⟩
def p_turnoutlaw16_nodes : Pol := ⟨fun i => none, fun i => none, some [(0, (.own NodeT))], [(.own NodeT)], []⟩
def e_turnoutlaw16_nodes : List EK := []
def h_turnoutlaw16_nodes : List HK := []
noncomputable def cf_turnoutlaw16_nodes : CallF := mkCF [] []
noncomputable def ls_turnoutlaw16_nodes (n : Nat) : Loops := fun i =>  none
theorem m_turnoutlaw16_nodes (n : Nat) : runFT Try.prog cf_turnoutlaw16_nodes p_turnoutlaw16_nodes (ls_turnoutlaw16_nodes n) Try.f14 (bodyOf Try.f14) (EK.encs e_turnoutlaw16_nodes ((), ()).1) (HK.encs h_turnoutlaw16_nodes ((), ()).2) = M_turnoutlaw16_nodes n := by kernel_rfl
theorem g_turnoutlaw16_nodes (n : Nat) {r : Res} (h : M_turnoutlaw16_nodes n = some r) : runF Try.prog cf_turnoutlaw16_nodes n p_turnoutlaw16_nodes 14 (EK.encs e_turnoutlaw16_nodes ((), ()).1) (HK.encs h_turnoutlaw16_nodes ((), ()).2) = some r := by
  have hb : LOk Try.prog cf_turnoutlaw16_nodes Try.f14.ntmps 0 n p_turnoutlaw16_nodes (ls_turnoutlaw16_nodes n) (bodyOf Try.f14) := ⟨trivial, ⟨trivial, trivial⟩⟩
  exact runFT_some Try.prog (c := bodyOf Try.f14) Try.func14 (show Try.f14.body = some (bodyOf Try.f14) from rfl) (show (0 : Nat) ≤ 6 by decide) hb ((m_turnoutlaw16_nodes n).trans h) rfl (by kernel_rfl)
noncomputable def c_turnoutlaw16_nodes : Spec := specQ e_turnoutlaw16_nodes h_turnoutlaw16_nodes ro_turnoutlaw16_nodes rh_turnoutlaw16_nodes fun a b => Q_turnoutlaw16_nodes
theorem k_turnoutlaw16_nodes (hm : Try.prog.follows .mixedOrders = true) : SpecOk Try.prog 14 c_turnoutlaw16_nodes := specQ_ok (pol := p_turnoutlaw16_nodes) hm (cf := cf_turnoutlaw16_nodes) (tab_ok specs_nil) fun a b r h => ⟨FUEL, g_turnoutlaw16_nodes FUEL (decRes_some h)⟩
def s_graph_to_r : Sig := ⟨[2], [.ty .bool], []⟩
def p_graph_to : Pol := ⟨fun i => none, fun i => none, some [(2, .keep)], [.keep], []⟩
def e_graph_to : List EK := [.ty (.int .i64)]
def h_graph_to : List HK := []
noncomputable def cf_graph_to : CallF := mkCF [] []
noncomputable def ls_graph_to (n : Nat) : Loops := fun i =>  none
theorem m_graph_to (n : Nat) (a0 : Int) : runFT Try.prog cf_graph_to p_graph_to (ls_graph_to n) Try.f51 (bodyOf Try.f51) (EK.encs e_graph_to ((a0, ()), ()).1) (HK.encs h_graph_to ((a0, ()), ()).2) = M_graph_to n a0 := by kernel_rfl
theorem g_graph_to (n : Nat) (a0 : Int) {r : Res} (h : M_graph_to n a0 = some r) : runF Try.prog cf_graph_to n p_graph_to 51 (EK.encs e_graph_to ((a0, ()), ()).1) (HK.encs h_graph_to ((a0, ()), ()).2) = some r := by
  have hb : LOk Try.prog cf_graph_to Try.f51.ntmps 0 n p_graph_to (ls_graph_to n) (bodyOf Try.f51) := ⟨trivial, ⟨trivial, trivial⟩⟩
  exact runFT_some Try.prog (c := bodyOf Try.f51) Try.func51 (show Try.f51.body = some (bodyOf Try.f51) from rfl) (show (1 : Nat) ≤ 9 by decide) hb ((m_graph_to n a0).trans h) rfl (by kernel_rfl)
noncomputable def c_graph_to : Spec := specQ e_graph_to h_graph_to ro_graph_to rh_graph_to fun a b => Q_graph_to a.1
theorem k_graph_to (hm : Try.prog.follows .mixedOrders = true) : SpecOk Try.prog 51 c_graph_to := specQ_ok (pol := p_graph_to) hm (cf := cf_graph_to) (tab_ok specs_nil) fun a b r h => ⟨FUEL, g_graph_to FUEL a.1 (decRes_some h)⟩
def s_graph_span_may_r : Sig := ⟨[2], [.ty .bool], []⟩
def p_graph_span_may : Pol := ⟨fun i => none, fun i => none, some [(2, .keep)], [.keep], []⟩
def e_graph_span_may : List EK := [.agg SpanT]
def h_graph_span_may : List HK := []
noncomputable def cf_graph_span_may : CallF := mkCF [] []
noncomputable def ls_graph_span_may (n : Nat) : Loops := fun i =>  none
theorem m_graph_span_may (n : Nat) (a0 : SpanS) : runFT Try.prog cf_graph_span_may p_graph_span_may (ls_graph_span_may n) Try.f52 (bodyOf Try.f52) (EK.encs e_graph_span_may ((a0, ()), ()).1) (HK.encs h_graph_span_may ((a0, ()), ()).2) = M_graph_span_may n a0 := by kernel_rfl
theorem g_graph_span_may (n : Nat) (a0 : SpanS) {r : Res} (h : M_graph_span_may n a0 = some r) : runF Try.prog cf_graph_span_may n p_graph_span_may 52 (EK.encs e_graph_span_may ((a0, ()), ()).1) (HK.encs h_graph_span_may ((a0, ()), ()).2) = some r := by
  have hb : LOk Try.prog cf_graph_span_may Try.f52.ntmps 0 n p_graph_span_may (ls_graph_span_may n) (bodyOf Try.f52) := ⟨trivial, ⟨⟨trivial, ⟨⟨trivial, trivial⟩, trivial⟩⟩, ⟨trivial, trivial⟩⟩⟩
  exact runFT_some Try.prog (c := bodyOf Try.f52) Try.func52 (show Try.f52.body = some (bodyOf Try.f52) from rfl) (show (1 : Nat) ≤ 29 by decide) hb ((m_graph_span_may n a0).trans h) rfl (by kernel_rfl)
noncomputable def c_graph_span_may : Spec := specQ e_graph_span_may h_graph_span_may ro_graph_span_may rh_graph_span_may fun a b => Q_graph_span_may a.1
theorem k_graph_span_may (hm : Try.prog.follows .mixedOrders = true) : SpecOk Try.prog 52 c_graph_span_may := specQ_ok (pol := p_graph_span_may) hm (cf := cf_graph_span_may) (tab_ok specs_nil) fun a b r h => ⟨FUEL, g_graph_span_may FUEL a.1 (decRes_some h)⟩
def s_graph_unit_r : Sig := ⟨[2], [.ty .bool], []⟩
def p_graph_unit : Pol := ⟨fun i => none, fun i => none, some [(2, .keep)], [.keep], []⟩
def e_graph_unit : List EK := [.agg NodeT]
def h_graph_unit : List HK := []
noncomputable def cf_graph_unit : CallF := mkCF [] []
noncomputable def ls_graph_unit (n : Nat) : Loops := fun i =>  none
theorem m_graph_unit (n : Nat) (a0 : NodeS) : runFT Try.prog cf_graph_unit p_graph_unit (ls_graph_unit n) Try.f53 (bodyOf Try.f53) (EK.encs e_graph_unit ((a0, ()), ()).1) (HK.encs h_graph_unit ((a0, ()), ()).2) = M_graph_unit n a0 := by kernel_rfl
theorem g_graph_unit (n : Nat) (a0 : NodeS) {r : Res} (h : M_graph_unit n a0 = some r) : runF Try.prog cf_graph_unit n p_graph_unit 53 (EK.encs e_graph_unit ((a0, ()), ()).1) (HK.encs h_graph_unit ((a0, ()), ()).2) = some r := by
  have hb : LOk Try.prog cf_graph_unit Try.f53.ntmps 0 n p_graph_unit (ls_graph_unit n) (bodyOf Try.f53) := ⟨trivial, ⟨⟨trivial, ⟨⟨trivial, trivial⟩, trivial⟩⟩, ⟨trivial, trivial⟩⟩⟩
  exact runFT_some Try.prog (c := bodyOf Try.f53) Try.func53 (show Try.f53.body = some (bodyOf Try.f53) from rfl) (show (1 : Nat) ≤ 17 by decide) hb ((m_graph_unit n a0).trans h) rfl (by kernel_rfl)
noncomputable def c_graph_unit : Spec := specQ e_graph_unit h_graph_unit ro_graph_unit rh_graph_unit fun a b => Q_graph_unit a.1
theorem k_graph_unit (hm : Try.prog.follows .mixedOrders = true) : SpecOk Try.prog 53 c_graph_unit := specQ_ok (pol := p_graph_unit) hm (cf := cf_graph_unit) (tab_ok specs_nil) fun a b r h => ⟨FUEL, g_graph_unit FUEL a.1 (decRes_some h)⟩
def s_graph_Form_r : Sig := ⟨[2], [.ty .bool], []⟩
def s_graph_Form_h0 : Sig := ⟨[1, 57, 58, 59], [.ptr 0 0 0, .ty (.slice ArmT), .ty (.int .i64), .ty (.int .i64)], [.cell NodeT]⟩
def s_graph_Form_t0 : Sig := ⟨[], [], []⟩
def p_graph_Form : Pol := ⟨fun i => if i = 0 then some [(1, (.own NodeT)), (57, .keep), (58, .keep), (59, .keep)] else none, fun i => if i = 0 then some [] else none, some [(2, .keep)], [.keep], []⟩
def e_graph_Form : List EK := [.agg NodeT]
def h_graph_Form : List HK := []
noncomputable def cf_graph_Form : CallF := mkCF [(51, c_graph_to), (52, c_graph_span_may), (53, c_graph_unit)] [(51, [(.int .i64)]), (52, [SpanT]), (53, [NodeT])]
noncomputable def ls_graph_Form (n : Nat) : Loops := fun i => if i = 0 then some (loopT 0 (p_graph_Form.head 0) s_graph_Form_h0 fun K v => L_graph_Form_0 n (fun z0 => K .rt (s_graph_Form_r.enc ((z0, ()), ()))) (fun _ => K (.ex 0) (s_graph_Form_t0.enc ((), ()))) v.1.2.1 v.1.2.2.1 v.2.1 n v.1.2.2.2.1)
  else  none
noncomputable def b_graph_Form_0 : Code := partOf (bodyOf Try.f40) [1, 1, 1, 0, 1, 0, 0]
theorem t_graph_Form_0 (n : Nat) (K : Cont) (rec : Sig.sem s_graph_Form_h0 → Option Res) (v : Sig.sem s_graph_Form_h0) : runT Try.prog cf_graph_Form Try.f40.ntmps 0 p_graph_Form (ls_graph_Form n) b_graph_Form_0 (s_graph_Form_h0.enc v) (turnK 0 (p_graph_Form.head 0) s_graph_Form_h0 rec K) = F_graph_Form_0 n (fun z0 => K .rt (s_graph_Form_r.enc ((z0, ()), ()))) (fun _ => K (.ex 0) (s_graph_Form_t0.enc ((), ()))) v.1.2.1 v.1.2.2.1 v.2.1 (fun z2 => rec (((), (v.1.2.1, (v.1.2.2.1, (z2, ())))), (v.2.1, ()))) v.1.2.2.2.1 := by kernel_rfl
noncomputable def V_graph_Form_0 (n : Nat) (K : Cont) (rec : Sig.sem s_graph_Form_h0 → Option Res) (v : Sig.sem s_graph_Form_h0) : Option Res := F_graph_Form_0 n (fun z0 => K .rt (s_graph_Form_r.enc ((z0, ()), ()))) (fun _ => K (.ex 0) (s_graph_Form_t0.enc ((), ()))) v.1.2.1 v.1.2.2.1 v.2.1 (fun z2 => rec (((), (v.1.2.1, (v.1.2.2.1, (z2, ())))), (v.2.1, ()))) v.1.2.2.2.1
noncomputable def W_graph_Form_0 (n : Nat) (K : Cont) (m : Nat) (v : Sig.sem s_graph_Form_h0) : Option Res := L_graph_Form_0 n (fun z0 => K .rt (s_graph_Form_r.enc ((z0, ()), ()))) (fun _ => K (.ex 0) (s_graph_Form_t0.enc ((), ()))) v.1.2.1 v.1.2.2.1 v.2.1 m v.1.2.2.2.1
theorem i_graph_Form_0 (n : Nat) (K : Cont) : ∀ m v, iter (V_graph_Form_0 n K) m v = W_graph_Form_0 n K m v := by
  intro m
  induction m with
  | zero => intro v; rfl
  | succ m ih =>
    intro v
    show V_graph_Form_0 n K (iter (V_graph_Form_0 n K) m) v = V_graph_Form_0 n K (W_graph_Form_0 n K m) v
    rw [show iter (V_graph_Form_0 n K) m = W_graph_Form_0 n K m from funext ih]
theorem o_graph_Form_0 (n : Nat) : ∀ L, ls_graph_Form n 0 = some L → ∀ s K r, L s K = some r → ∃ x s', loopN (run Try.prog cf_graph_Form Try.f40.ntmps 0 n p_graph_Form none b_graph_Form_0) (gc 0 (p_graph_Form.head 0)) n s = some (x, s') ∧ K x s' = some r := by
  intro L hL s K r h
  have hL : some (loopT 0 (p_graph_Form.head 0) s_graph_Form_h0 fun K v => W_graph_Form_0 n K n v) = some L := hL
  cases hL
  have hb : LOk Try.prog cf_graph_Form Try.f40.ntmps 0 n p_graph_Form (ls_graph_Form n) b_graph_Form_0 := ⟨trivial, ⟨⟨trivial, trivial⟩, ⟨⟨trivial, ⟨trivial, ⟨⟨trivial, trivial⟩, trivial⟩⟩⟩, trivial⟩⟩⟩
  refine loopT_ok hb (V_graph_Form_0 n) (t_graph_Form_0 n) n s K r ?_
  rw [← h]
  unfold loopT
  simp only [i_graph_Form_0]
theorem m_graph_Form (n : Nat) (a0 : NodeS) : runFT Try.prog cf_graph_Form p_graph_Form (ls_graph_Form n) Try.f40 (bodyOf Try.f40) (EK.encs e_graph_Form ((a0, ()), ()).1) (HK.encs h_graph_Form ((a0, ()), ()).2) = M_graph_Form n a0 := by kernel_rfl
theorem g_graph_Form (n : Nat) (a0 : NodeS) {r : Res} (h : M_graph_Form n a0 = some r) : runF Try.prog cf_graph_Form n p_graph_Form 40 (EK.encs e_graph_Form ((a0, ()), ()).1) (HK.encs h_graph_Form ((a0, ()), ()).2) = some r := by
  have hb : LOk Try.prog cf_graph_Form Try.f40.ntmps 0 n p_graph_Form (ls_graph_Form n) (bodyOf Try.f40) := ⟨trivial, ⟨⟨trivial, ⟨⟨trivial, trivial⟩, trivial⟩⟩, ⟨⟨trivial, ⟨⟨trivial, trivial⟩, trivial⟩⟩, ⟨⟨trivial, (o_graph_Form_0 n)⟩, ⟨trivial, trivial⟩⟩⟩⟩⟩
  exact runFT_some Try.prog (c := bodyOf Try.f40) Try.func40 (show Try.f40.body = some (bodyOf Try.f40) from rfl) (show (1 : Nat) ≤ 99 by decide) hb ((m_graph_Form n a0).trans h) rfl (by kernel_rfl)
noncomputable def c_graph_Form : Spec := specQ e_graph_Form h_graph_Form ro_graph_Form rh_graph_Form fun a b => Q_graph_Form a.1
theorem k_graph_Form (hm : Try.prog.follows .mixedOrders = true) : SpecOk Try.prog 40 c_graph_Form := specQ_ok (pol := p_graph_Form) hm (cf := cf_graph_Form) (tab_ok (specs_cons (k_graph_to hm) (specs_cons (k_graph_span_may hm) (specs_cons (k_graph_unit hm) specs_nil)))) fun a b r h => ⟨FUEL, g_graph_Form FUEL a.1 (decRes_some h)⟩
def s_graph_form_h0 : Sig := ⟨[0, 5, 6, 7], [.ty (.slice NodeT), .ty (.slice NodeT), .ty (.int .i64), .ty (.int .i64)], []⟩
def s_graph_form_r : Sig := ⟨[2], [.ty .bool], []⟩
def s_graph_form_t0 : Sig := ⟨[], [], []⟩
def p_graph_form : Pol := ⟨fun i => if i = 0 then some [(0, .keep), (5, .keep), (6, .keep), (7, .keep)] else none, fun i => if i = 0 then some [] else none, some [(2, .keep)], [.keep], []⟩
def e_graph_form : List EK := [.ty (.slice NodeT)]
def h_graph_form : List HK := []
noncomputable def cf_graph_form : CallF := mkCF [(40, c_graph_Form)] [(40, [NodeT])]
noncomputable def ls_graph_form (n : Nat) : Loops := fun i => if i = 0 then some (loopT 0 (p_graph_form.head 0) s_graph_form_h0 fun K v => L_graph_form_0 n (fun z0 => K .rt (s_graph_form_r.enc ((z0, ()), ()))) (fun _ => K (.ex 0) (s_graph_form_t0.enc ((), ()))) v.1.1 v.1.2.1 v.1.2.2.1 n v.1.2.2.2.1)
  else  none
noncomputable def b_graph_form_0 : Code := partOf (bodyOf Try.f28) [1, 0, 1, 0, 0]
theorem t_graph_form_0 (n : Nat) (K : Cont) (rec : Sig.sem s_graph_form_h0 → Option Res) (v : Sig.sem s_graph_form_h0) : runT Try.prog cf_graph_form Try.f28.ntmps 0 p_graph_form (ls_graph_form n) b_graph_form_0 (s_graph_form_h0.enc v) (turnK 0 (p_graph_form.head 0) s_graph_form_h0 rec K) = F_graph_form_0 n (fun z0 => K .rt (s_graph_form_r.enc ((z0, ()), ()))) (fun _ => K (.ex 0) (s_graph_form_t0.enc ((), ()))) v.1.1 v.1.2.1 v.1.2.2.1 (fun z3 => rec ((v.1.1, (v.1.2.1, (v.1.2.2.1, (z3, ())))), ())) v.1.2.2.2.1 := by kernel_rfl
noncomputable def V_graph_form_0 (n : Nat) (K : Cont) (rec : Sig.sem s_graph_form_h0 → Option Res) (v : Sig.sem s_graph_form_h0) : Option Res := F_graph_form_0 n (fun z0 => K .rt (s_graph_form_r.enc ((z0, ()), ()))) (fun _ => K (.ex 0) (s_graph_form_t0.enc ((), ()))) v.1.1 v.1.2.1 v.1.2.2.1 (fun z3 => rec ((v.1.1, (v.1.2.1, (v.1.2.2.1, (z3, ())))), ())) v.1.2.2.2.1
noncomputable def W_graph_form_0 (n : Nat) (K : Cont) (m : Nat) (v : Sig.sem s_graph_form_h0) : Option Res := L_graph_form_0 n (fun z0 => K .rt (s_graph_form_r.enc ((z0, ()), ()))) (fun _ => K (.ex 0) (s_graph_form_t0.enc ((), ()))) v.1.1 v.1.2.1 v.1.2.2.1 m v.1.2.2.2.1
theorem i_graph_form_0 (n : Nat) (K : Cont) : ∀ m v, iter (V_graph_form_0 n K) m v = W_graph_form_0 n K m v := by
  intro m
  induction m with
  | zero => intro v; rfl
  | succ m ih =>
    intro v
    show V_graph_form_0 n K (iter (V_graph_form_0 n K) m) v = V_graph_form_0 n K (W_graph_form_0 n K m) v
    rw [show iter (V_graph_form_0 n K) m = W_graph_form_0 n K m from funext ih]
theorem o_graph_form_0 (n : Nat) : ∀ L, ls_graph_form n 0 = some L → ∀ s K r, L s K = some r → ∃ x s', loopN (run Try.prog cf_graph_form Try.f28.ntmps 0 n p_graph_form none b_graph_form_0) (gc 0 (p_graph_form.head 0)) n s = some (x, s') ∧ K x s' = some r := by
  intro L hL s K r h
  have hL : some (loopT 0 (p_graph_form.head 0) s_graph_form_h0 fun K v => W_graph_form_0 n K n v) = some L := hL
  cases hL
  have hb : LOk Try.prog cf_graph_form Try.f28.ntmps 0 n p_graph_form (ls_graph_form n) b_graph_form_0 := ⟨trivial, ⟨⟨trivial, trivial⟩, ⟨⟨trivial, ⟨trivial, ⟨⟨trivial, trivial⟩, trivial⟩⟩⟩, trivial⟩⟩⟩
  refine loopT_ok hb (V_graph_form_0 n) (t_graph_form_0 n) n s K r ?_
  rw [← h]
  unfold loopT
  simp only [i_graph_form_0]
theorem m_graph_form (n : Nat) (a0 : (List NodeS)) : runFT Try.prog cf_graph_form p_graph_form (ls_graph_form n) Try.f28 (bodyOf Try.f28) (EK.encs e_graph_form ((a0, ()), ()).1) (HK.encs h_graph_form ((a0, ()), ()).2) = M_graph_form n a0 := by kernel_rfl
theorem g_graph_form (n : Nat) (a0 : (List NodeS)) {r : Res} (h : M_graph_form n a0 = some r) : runF Try.prog cf_graph_form n p_graph_form 28 (EK.encs e_graph_form ((a0, ()), ()).1) (HK.encs h_graph_form ((a0, ()), ()).2) = some r := by
  have hb : LOk Try.prog cf_graph_form Try.f28.ntmps 0 n p_graph_form (ls_graph_form n) (bodyOf Try.f28) := ⟨trivial, ⟨⟨trivial, (o_graph_form_0 n)⟩, ⟨trivial, trivial⟩⟩⟩
  exact runFT_some Try.prog (c := bodyOf Try.f28) Try.func28 (show Try.f28.body = some (bodyOf Try.f28) from rfl) (show (1 : Nat) ≤ 31 by decide) hb ((m_graph_form n a0).trans h) rfl (by kernel_rfl)
noncomputable def c_graph_form : Spec := specQ e_graph_form h_graph_form ro_graph_form rh_graph_form fun a b => Q_graph_form a.1
theorem k_graph_form (hm : Try.prog.follows .mixedOrders = true) : SpecOk Try.prog 28 c_graph_form := specQ_ok (pol := p_graph_form) hm (cf := cf_graph_form) (tab_ok (specs_cons (k_graph_Form hm) specs_nil)) fun a b r h => ⟨FUEL, g_graph_form FUEL a.1 (decRes_some h)⟩
def s_graph_goes_h0 : Sig := ⟨[3, 10, 11, 12], [.hs 0 0, .ty (.slice ArmT), .ty (.int .i64), .ty (.int .i64)], [.row (.int .i64)]⟩
def s_graph_goes_t0 : Sig := ⟨[3], [.hs 0 0], [.row (.int .i64)]⟩
def s_graph_goes_r : Sig := ⟨[2], [.hs 0 0], [.row (.int .i64)]⟩
def p_graph_goes : Pol := ⟨fun i => if i = 0 then some [(3, (.own (.int .i64))), (10, .keep), (11, .keep), (12, .keep)] else none, fun i => if i = 0 then some [(3, (.own (.int .i64)))] else none, some [(2, (.own (.int .i64)))], [(.own (.int .i64))], []⟩
def e_graph_goes : List EK := [.agg NodeT]
def h_graph_goes : List HK := []
noncomputable def cf_graph_goes : CallF := mkCF [] []
noncomputable def ls_graph_goes (n : Nat) : Loops := fun i => if i = 0 then some (loopT 0 (p_graph_goes.head 0) s_graph_goes_h0 fun K v => L_graph_goes_0 n (fun z0 z1 => K (.ex 0) (s_graph_goes_t0.enc ((z0, ()), (z1, ())))) v.1.2.1 v.1.2.2.1 n v.1.1 v.1.2.2.2.1 v.2.1)
  else  none
noncomputable def b_graph_goes_0 : Code := partOf (bodyOf Try.f41) [1, 1, 0, 1, 0, 0]
theorem t_graph_goes_0 (n : Nat) (K : Cont) (rec : Sig.sem s_graph_goes_h0 → Option Res) (v : Sig.sem s_graph_goes_h0) : runT Try.prog cf_graph_goes Try.f41.ntmps 0 p_graph_goes (ls_graph_goes n) b_graph_goes_0 (s_graph_goes_h0.enc v) (turnK 0 (p_graph_goes.head 0) s_graph_goes_h0 rec K) = F_graph_goes_0 n (fun z0 z1 => K (.ex 0) (s_graph_goes_t0.enc ((z0, ()), (z1, ())))) v.1.2.1 v.1.2.2.1 (fun z0 z3 z4 => rec ((z0, (v.1.2.1, (v.1.2.2.1, (z3, ())))), (z4, ()))) v.1.1 v.1.2.2.2.1 v.2.1 := by kernel_rfl
noncomputable def V_graph_goes_0 (n : Nat) (K : Cont) (rec : Sig.sem s_graph_goes_h0 → Option Res) (v : Sig.sem s_graph_goes_h0) : Option Res := F_graph_goes_0 n (fun z0 z1 => K (.ex 0) (s_graph_goes_t0.enc ((z0, ()), (z1, ())))) v.1.2.1 v.1.2.2.1 (fun z0 z3 z4 => rec ((z0, (v.1.2.1, (v.1.2.2.1, (z3, ())))), (z4, ()))) v.1.1 v.1.2.2.2.1 v.2.1
noncomputable def W_graph_goes_0 (n : Nat) (K : Cont) (m : Nat) (v : Sig.sem s_graph_goes_h0) : Option Res := L_graph_goes_0 n (fun z0 z1 => K (.ex 0) (s_graph_goes_t0.enc ((z0, ()), (z1, ())))) v.1.2.1 v.1.2.2.1 m v.1.1 v.1.2.2.2.1 v.2.1
theorem i_graph_goes_0 (n : Nat) (K : Cont) : ∀ m v, iter (V_graph_goes_0 n K) m v = W_graph_goes_0 n K m v := by
  intro m
  induction m with
  | zero => intro v; rfl
  | succ m ih =>
    intro v
    show V_graph_goes_0 n K (iter (V_graph_goes_0 n K) m) v = V_graph_goes_0 n K (W_graph_goes_0 n K m) v
    rw [show iter (V_graph_goes_0 n K) m = W_graph_goes_0 n K m from funext ih]
theorem o_graph_goes_0 (n : Nat) : ∀ L, ls_graph_goes n 0 = some L → ∀ s K r, L s K = some r → ∃ x s', loopN (run Try.prog cf_graph_goes Try.f41.ntmps 0 n p_graph_goes none b_graph_goes_0) (gc 0 (p_graph_goes.head 0)) n s = some (x, s') ∧ K x s' = some r := by
  intro L hL s K r h
  have hL : some (loopT 0 (p_graph_goes.head 0) s_graph_goes_h0 fun K v => W_graph_goes_0 n K n v) = some L := hL
  cases hL
  have hb : LOk Try.prog cf_graph_goes Try.f41.ntmps 0 n p_graph_goes (ls_graph_goes n) b_graph_goes_0 := ⟨trivial, ⟨⟨trivial, trivial⟩, ⟨⟨trivial, trivial⟩, trivial⟩⟩⟩
  refine loopT_ok hb (V_graph_goes_0 n) (t_graph_goes_0 n) n s K r ?_
  rw [← h]
  unfold loopT
  simp only [i_graph_goes_0]
theorem m_graph_goes (n : Nat) (a0 : NodeS) : runFT Try.prog cf_graph_goes p_graph_goes (ls_graph_goes n) Try.f41 (bodyOf Try.f41) (EK.encs e_graph_goes ((a0, ()), ()).1) (HK.encs h_graph_goes ((a0, ()), ()).2) = M_graph_goes n a0 := by kernel_rfl
theorem g_graph_goes (n : Nat) (a0 : NodeS) {r : Res} (h : M_graph_goes n a0 = some r) : runF Try.prog cf_graph_goes n p_graph_goes 41 (EK.encs e_graph_goes ((a0, ()), ()).1) (HK.encs h_graph_goes ((a0, ()), ()).2) = some r := by
  have hb : LOk Try.prog cf_graph_goes Try.f41.ntmps 0 n p_graph_goes (ls_graph_goes n) (bodyOf Try.f41) := ⟨trivial, ⟨trivial, ⟨⟨trivial, (o_graph_goes_0 n)⟩, ⟨trivial, trivial⟩⟩⟩⟩
  exact runFT_some Try.prog (c := bodyOf Try.f41) Try.func41 (show Try.f41.body = some (bodyOf Try.f41) from rfl) (show (1 : Nat) ≤ 23 by decide) hb ((m_graph_goes n a0).trans h) rfl (by kernel_rfl)
noncomputable def c_graph_goes : Spec := specQ e_graph_goes h_graph_goes ro_graph_goes rh_graph_goes fun a b => Q_graph_goes a.1
theorem k_graph_goes (hm : Try.prog.follows .mixedOrders = true) : SpecOk Try.prog 41 c_graph_goes := specQ_ok (pol := p_graph_goes) hm (cf := cf_graph_goes) (tab_ok specs_nil) fun a b r h => ⟨FUEL, g_graph_goes FUEL a.1 (decRes_some h)⟩
def s_graph_Find_h0 : Sig := ⟨[1, 4, 8, 9, 10], [.ty (.int .i64), .ptr 0 0 0, .ty (.slice NodeT), .ty (.int .i64), .ty (.int .i64)], [.cell NodeT]⟩
def s_graph_Find_r : Sig := ⟨[4, 5], [.ptr 0 0 0, .ty .bool], [.cell NodeT]⟩
def s_graph_Find_t0 : Sig := ⟨[4], [.ptr 0 0 0], [.cell NodeT]⟩
def p_graph_Find : Pol := ⟨fun i => if i = 0 then some [(1, .keep), (4, (.own NodeT)), (8, .keep), (9, .keep), (10, .keep)] else none, fun i => if i = 0 then some [(4, (.own NodeT))] else none, some [(4, (.own NodeT)), (5, .keep)], [.keep, .keep], []⟩
def e_graph_Find : List EK := [.ty (.slice NodeT), .ty (.int .i64)]
def h_graph_Find : List HK := []
noncomputable def cf_graph_Find : CallF := mkCF [] []
noncomputable def ls_graph_Find (n : Nat) : Loops := fun i => if i = 0 then some (loopT 0 (p_graph_Find.head 0) s_graph_Find_h0 fun K v => L_graph_Find_0 n (fun z0 z1 => K .rt (s_graph_Find_r.enc (((), (z0, ())), (z1, ())))) (fun _ => K (.ex 0) (s_graph_Find_t0.enc (((), ()), (v.2.1, ())))) v.1.1 v.1.2.2.1 v.1.2.2.2.1 v.2.1 n v.1.2.2.2.2.1)
  else  none
noncomputable def b_graph_Find_0 : Code := partOf (bodyOf Try.f17) [1, 0, 1, 0, 0]
theorem t_graph_Find_0 (n : Nat) (K : Cont) (rec : Sig.sem s_graph_Find_h0 → Option Res) (v : Sig.sem s_graph_Find_h0) : runT Try.prog cf_graph_Find Try.f17.ntmps 0 p_graph_Find (ls_graph_Find n) b_graph_Find_0 (s_graph_Find_h0.enc v) (turnK 0 (p_graph_Find.head 0) s_graph_Find_h0 rec K) = F_graph_Find_0 n (fun z0 z1 => K .rt (s_graph_Find_r.enc (((), (z0, ())), (z1, ())))) (fun _ => K (.ex 0) (s_graph_Find_t0.enc (((), ()), (v.2.1, ())))) v.1.1 v.1.2.2.1 v.1.2.2.2.1 v.2.1 (fun z3 => rec ((v.1.1, ((), (v.1.2.2.1, (v.1.2.2.2.1, (z3, ()))))), (v.2.1, ()))) v.1.2.2.2.2.1 := by kernel_rfl
noncomputable def V_graph_Find_0 (n : Nat) (K : Cont) (rec : Sig.sem s_graph_Find_h0 → Option Res) (v : Sig.sem s_graph_Find_h0) : Option Res := F_graph_Find_0 n (fun z0 z1 => K .rt (s_graph_Find_r.enc (((), (z0, ())), (z1, ())))) (fun _ => K (.ex 0) (s_graph_Find_t0.enc (((), ()), (v.2.1, ())))) v.1.1 v.1.2.2.1 v.1.2.2.2.1 v.2.1 (fun z3 => rec ((v.1.1, ((), (v.1.2.2.1, (v.1.2.2.2.1, (z3, ()))))), (v.2.1, ()))) v.1.2.2.2.2.1
noncomputable def W_graph_Find_0 (n : Nat) (K : Cont) (m : Nat) (v : Sig.sem s_graph_Find_h0) : Option Res := L_graph_Find_0 n (fun z0 z1 => K .rt (s_graph_Find_r.enc (((), (z0, ())), (z1, ())))) (fun _ => K (.ex 0) (s_graph_Find_t0.enc (((), ()), (v.2.1, ())))) v.1.1 v.1.2.2.1 v.1.2.2.2.1 v.2.1 m v.1.2.2.2.2.1
theorem i_graph_Find_0 (n : Nat) (K : Cont) : ∀ m v, iter (V_graph_Find_0 n K) m v = W_graph_Find_0 n K m v := by
  intro m
  induction m with
  | zero => intro v; rfl
  | succ m ih =>
    intro v
    show V_graph_Find_0 n K (iter (V_graph_Find_0 n K) m) v = V_graph_Find_0 n K (W_graph_Find_0 n K m) v
    rw [show iter (V_graph_Find_0 n K) m = W_graph_Find_0 n K m from funext ih]
theorem o_graph_Find_0 (n : Nat) : ∀ L, ls_graph_Find n 0 = some L → ∀ s K r, L s K = some r → ∃ x s', loopN (run Try.prog cf_graph_Find Try.f17.ntmps 0 n p_graph_Find none b_graph_Find_0) (gc 0 (p_graph_Find.head 0)) n s = some (x, s') ∧ K x s' = some r := by
  intro L hL s K r h
  have hL : some (loopT 0 (p_graph_Find.head 0) s_graph_Find_h0 fun K v => W_graph_Find_0 n K n v) = some L := hL
  cases hL
  have hb : LOk Try.prog cf_graph_Find Try.f17.ntmps 0 n p_graph_Find (ls_graph_Find n) b_graph_Find_0 := ⟨trivial, ⟨⟨trivial, trivial⟩, ⟨⟨trivial, ⟨trivial, ⟨⟨trivial, trivial⟩, trivial⟩⟩⟩, trivial⟩⟩⟩
  refine loopT_ok hb (V_graph_Find_0 n) (t_graph_Find_0 n) n s K r ?_
  rw [← h]
  unfold loopT
  simp only [i_graph_Find_0]
theorem m_graph_Find (n : Nat) (a0 : (List NodeS)) (a1 : Int) : runFT Try.prog cf_graph_Find p_graph_Find (ls_graph_Find n) Try.f17 (bodyOf Try.f17) (EK.encs e_graph_Find ((a0, (a1, ())), ()).1) (HK.encs h_graph_Find ((a0, (a1, ())), ()).2) = M_graph_Find n a0 a1 := by kernel_rfl
theorem g_graph_Find (n : Nat) (a0 : (List NodeS)) (a1 : Int) {r : Res} (h : M_graph_Find n a0 a1 = some r) : runF Try.prog cf_graph_Find n p_graph_Find 17 (EK.encs e_graph_Find ((a0, (a1, ())), ()).1) (HK.encs h_graph_Find ((a0, (a1, ())), ()).2) = some r := by
  have hb : LOk Try.prog cf_graph_Find Try.f17.ntmps 0 n p_graph_Find (ls_graph_Find n) (bodyOf Try.f17) := ⟨trivial, ⟨⟨trivial, (o_graph_Find_0 n)⟩, ⟨trivial, trivial⟩⟩⟩
  exact runFT_some Try.prog (c := bodyOf Try.f17) Try.func17 (show Try.f17.body = some (bodyOf Try.f17) from rfl) (show (2 : Nat) ≤ 21 by decide) hb ((m_graph_Find n a0 a1).trans h) rfl (by kernel_rfl)
noncomputable def c_graph_Find : Spec := specQ e_graph_Find h_graph_Find ro_graph_Find rh_graph_Find fun a b => Q_graph_Find a.1 a.2.1
theorem k_graph_Find (hm : Try.prog.follows .mixedOrders = true) : SpecOk Try.prog 17 c_graph_Find := specQ_ok (pol := p_graph_Find) hm (cf := cf_graph_Find) (tab_ok specs_nil) fun a b r h => ⟨FUEL, g_graph_Find FUEL a.1 a.2.1 (decRes_some h)⟩
def s_graph_refs_h0 : Sig := ⟨[0, 9, 10, 11], [.ty (.slice NodeT), .ty (.slice NodeT), .ty (.int .i64), .ty (.int .i64)], []⟩
def s_graph_refs_h2 : Sig := ⟨[0, 9, 10, 11, 16, 17, 18], [.ty (.slice NodeT), .ty (.slice NodeT), .ty (.int .i64), .ty (.int .i64), .hs 0 0, .ty (.int .i64), .ty (.int .i64)], [.row (.int .i64)]⟩
def s_graph_refs_r : Sig := ⟨[2], [.ty .bool], []⟩
def s_graph_refs_t2 : Sig := ⟨[0, 9, 10, 11], [.ty (.slice NodeT), .ty (.slice NodeT), .ty (.int .i64), .ty (.int .i64)], []⟩
def s_graph_refs_t0 : Sig := ⟨[], [], []⟩
def p_graph_refs : Pol := ⟨fun i => if i = 0 then some [(0, .keep), (9, .keep), (10, .keep), (11, .keep)] else if i = 2 then some [(0, .keep), (9, .keep), (10, .keep), (11, .keep), (16, (.own (.int .i64))), (17, .keep), (18, .keep)] else none, fun i => if i = 2 then some [(0, .keep), (9, .keep), (10, .keep), (11, .keep)] else if i = 0 then some [] else none, some [(2, .keep)], [.keep], []⟩
def e_graph_refs : List EK := [.ty (.slice NodeT)]
def h_graph_refs : List HK := []
noncomputable def cf_graph_refs : CallF := mkCF [(41, c_graph_goes), (17, c_graph_Find)] [(41, [NodeT]), (17, [(.slice NodeT), (.int .i64)])]
noncomputable def ls_graph_refs (n : Nat) : Loops := fun i => if i = 2 then some (loopT 0 (p_graph_refs.head 2) s_graph_refs_h2 fun K v => L_graph_refs_2 n (fun z0 => K .rt (s_graph_refs_r.enc ((z0, ()), ()))) (fun _ => K (.ex 2) (s_graph_refs_t2.enc ((v.1.1, (v.1.2.1, (v.1.2.2.1, (v.1.2.2.2.1, ())))), ()))) v.1.1 v.1.2.1 v.1.2.2.1 v.1.2.2.2.1 v.1.2.2.2.2.1 v.1.2.2.2.2.2.1 v.2.1 n v.1.2.2.2.2.2.2.1)
  else if i = 0 then some (loopT 0 (p_graph_refs.head 0) s_graph_refs_h0 fun K v => L_graph_refs_0 n (fun z0 => K .rt (s_graph_refs_r.enc ((z0, ()), ()))) (fun _ => K (.ex 0) (s_graph_refs_t0.enc ((), ()))) v.1.1 v.1.2.1 v.1.2.2.1 n v.1.2.2.2.1)
  else  none
noncomputable def b_graph_refs_2 : Code := partOf (bodyOf Try.f29) [1, 0, 1, 0, 0, 1, 1, 0, 0, 1, 1, 0, 0]
theorem t_graph_refs_2 (n : Nat) (K : Cont) (rec : Sig.sem s_graph_refs_h2 → Option Res) (v : Sig.sem s_graph_refs_h2) : runT Try.prog cf_graph_refs Try.f29.ntmps 0 p_graph_refs (ls_graph_refs n) b_graph_refs_2 (s_graph_refs_h2.enc v) (turnK 0 (p_graph_refs.head 2) s_graph_refs_h2 rec K) = F_graph_refs_2 n (fun z0 => K .rt (s_graph_refs_r.enc ((z0, ()), ()))) (fun _ => K (.ex 2) (s_graph_refs_t2.enc ((v.1.1, (v.1.2.1, (v.1.2.2.1, (v.1.2.2.2.1, ())))), ()))) v.1.1 v.1.2.1 v.1.2.2.1 v.1.2.2.2.1 v.1.2.2.2.2.1 v.1.2.2.2.2.2.1 v.2.1 (fun z6 => rec ((v.1.1, (v.1.2.1, (v.1.2.2.1, (v.1.2.2.2.1, (v.1.2.2.2.2.1, (v.1.2.2.2.2.2.1, (z6, ()))))))), (v.2.1, ()))) v.1.2.2.2.2.2.2.1 := by kernel_rfl
noncomputable def V_graph_refs_2 (n : Nat) (K : Cont) (rec : Sig.sem s_graph_refs_h2 → Option Res) (v : Sig.sem s_graph_refs_h2) : Option Res := F_graph_refs_2 n (fun z0 => K .rt (s_graph_refs_r.enc ((z0, ()), ()))) (fun _ => K (.ex 2) (s_graph_refs_t2.enc ((v.1.1, (v.1.2.1, (v.1.2.2.1, (v.1.2.2.2.1, ())))), ()))) v.1.1 v.1.2.1 v.1.2.2.1 v.1.2.2.2.1 v.1.2.2.2.2.1 v.1.2.2.2.2.2.1 v.2.1 (fun z6 => rec ((v.1.1, (v.1.2.1, (v.1.2.2.1, (v.1.2.2.2.1, (v.1.2.2.2.2.1, (v.1.2.2.2.2.2.1, (z6, ()))))))), (v.2.1, ()))) v.1.2.2.2.2.2.2.1
noncomputable def W_graph_refs_2 (n : Nat) (K : Cont) (m : Nat) (v : Sig.sem s_graph_refs_h2) : Option Res := L_graph_refs_2 n (fun z0 => K .rt (s_graph_refs_r.enc ((z0, ()), ()))) (fun _ => K (.ex 2) (s_graph_refs_t2.enc ((v.1.1, (v.1.2.1, (v.1.2.2.1, (v.1.2.2.2.1, ())))), ()))) v.1.1 v.1.2.1 v.1.2.2.1 v.1.2.2.2.1 v.1.2.2.2.2.1 v.1.2.2.2.2.2.1 v.2.1 m v.1.2.2.2.2.2.2.1
theorem i_graph_refs_2 (n : Nat) (K : Cont) : ∀ m v, iter (V_graph_refs_2 n K) m v = W_graph_refs_2 n K m v := by
  intro m
  induction m with
  | zero => intro v; rfl
  | succ m ih =>
    intro v
    show V_graph_refs_2 n K (iter (V_graph_refs_2 n K) m) v = V_graph_refs_2 n K (W_graph_refs_2 n K m) v
    rw [show iter (V_graph_refs_2 n K) m = W_graph_refs_2 n K m from funext ih]
theorem o_graph_refs_2 (n : Nat) : ∀ L, ls_graph_refs n 2 = some L → ∀ s K r, L s K = some r → ∃ x s', loopN (run Try.prog cf_graph_refs Try.f29.ntmps 0 n p_graph_refs none b_graph_refs_2) (gc 0 (p_graph_refs.head 2)) n s = some (x, s') ∧ K x s' = some r := by
  intro L hL s K r h
  have hL : some (loopT 0 (p_graph_refs.head 2) s_graph_refs_h2 fun K v => W_graph_refs_2 n K n v) = some L := hL
  cases hL
  have hb : LOk Try.prog cf_graph_refs Try.f29.ntmps 0 n p_graph_refs (ls_graph_refs n) b_graph_refs_2 := ⟨trivial, ⟨⟨trivial, trivial⟩, ⟨⟨trivial, ⟨trivial, ⟨trivial, ⟨⟨trivial, trivial⟩, trivial⟩⟩⟩⟩, trivial⟩⟩⟩
  refine loopT_ok hb (V_graph_refs_2 n) (t_graph_refs_2 n) n s K r ?_
  rw [← h]
  unfold loopT
  simp only [i_graph_refs_2]
noncomputable def b_graph_refs_0 : Code := partOf (bodyOf Try.f29) [1, 0, 1, 0, 0]
theorem t_graph_refs_0 (n : Nat) (K : Cont) (rec : Sig.sem s_graph_refs_h0 → Option Res) (v : Sig.sem s_graph_refs_h0) : runT Try.prog cf_graph_refs Try.f29.ntmps 0 p_graph_refs (ls_graph_refs n) b_graph_refs_0 (s_graph_refs_h0.enc v) (turnK 0 (p_graph_refs.head 0) s_graph_refs_h0 rec K) = F_graph_refs_0 n (fun z0 => K .rt (s_graph_refs_r.enc ((z0, ()), ()))) (fun _ => K (.ex 0) (s_graph_refs_t0.enc ((), ()))) v.1.1 v.1.2.1 v.1.2.2.1 (fun z3 => rec ((v.1.1, (v.1.2.1, (v.1.2.2.1, (z3, ())))), ())) v.1.2.2.2.1 := by kernel_rfl
noncomputable def V_graph_refs_0 (n : Nat) (K : Cont) (rec : Sig.sem s_graph_refs_h0 → Option Res) (v : Sig.sem s_graph_refs_h0) : Option Res := F_graph_refs_0 n (fun z0 => K .rt (s_graph_refs_r.enc ((z0, ()), ()))) (fun _ => K (.ex 0) (s_graph_refs_t0.enc ((), ()))) v.1.1 v.1.2.1 v.1.2.2.1 (fun z3 => rec ((v.1.1, (v.1.2.1, (v.1.2.2.1, (z3, ())))), ())) v.1.2.2.2.1
noncomputable def W_graph_refs_0 (n : Nat) (K : Cont) (m : Nat) (v : Sig.sem s_graph_refs_h0) : Option Res := L_graph_refs_0 n (fun z0 => K .rt (s_graph_refs_r.enc ((z0, ()), ()))) (fun _ => K (.ex 0) (s_graph_refs_t0.enc ((), ()))) v.1.1 v.1.2.1 v.1.2.2.1 m v.1.2.2.2.1
theorem i_graph_refs_0 (n : Nat) (K : Cont) : ∀ m v, iter (V_graph_refs_0 n K) m v = W_graph_refs_0 n K m v := by
  intro m
  induction m with
  | zero => intro v; rfl
  | succ m ih =>
    intro v
    show V_graph_refs_0 n K (iter (V_graph_refs_0 n K) m) v = V_graph_refs_0 n K (W_graph_refs_0 n K m) v
    rw [show iter (V_graph_refs_0 n K) m = W_graph_refs_0 n K m from funext ih]
theorem o_graph_refs_0 (n : Nat) : ∀ L, ls_graph_refs n 0 = some L → ∀ s K r, L s K = some r → ∃ x s', loopN (run Try.prog cf_graph_refs Try.f29.ntmps 0 n p_graph_refs none b_graph_refs_0) (gc 0 (p_graph_refs.head 0)) n s = some (x, s') ∧ K x s' = some r := by
  intro L hL s K r h
  have hL : some (loopT 0 (p_graph_refs.head 0) s_graph_refs_h0 fun K v => W_graph_refs_0 n K n v) = some L := hL
  cases hL
  have hb : LOk Try.prog cf_graph_refs Try.f29.ntmps 0 n p_graph_refs (ls_graph_refs n) b_graph_refs_0 := ⟨trivial, ⟨⟨trivial, trivial⟩, ⟨⟨trivial, ⟨trivial, (o_graph_refs_2 n)⟩⟩, trivial⟩⟩⟩
  refine loopT_ok hb (V_graph_refs_0 n) (t_graph_refs_0 n) n s K r ?_
  rw [← h]
  unfold loopT
  simp only [i_graph_refs_0]
theorem m_graph_refs (n : Nat) (a0 : (List NodeS)) : runFT Try.prog cf_graph_refs p_graph_refs (ls_graph_refs n) Try.f29 (bodyOf Try.f29) (EK.encs e_graph_refs ((a0, ()), ()).1) (HK.encs h_graph_refs ((a0, ()), ()).2) = M_graph_refs n a0 := by kernel_rfl
theorem g_graph_refs (n : Nat) (a0 : (List NodeS)) {r : Res} (h : M_graph_refs n a0 = some r) : runF Try.prog cf_graph_refs n p_graph_refs 29 (EK.encs e_graph_refs ((a0, ()), ()).1) (HK.encs h_graph_refs ((a0, ()), ()).2) = some r := by
  have hb : LOk Try.prog cf_graph_refs Try.f29.ntmps 0 n p_graph_refs (ls_graph_refs n) (bodyOf Try.f29) := ⟨trivial, ⟨⟨trivial, (o_graph_refs_0 n)⟩, ⟨trivial, trivial⟩⟩⟩
  exact runFT_some Try.prog (c := bodyOf Try.f29) Try.func29 (show Try.f29.body = some (bodyOf Try.f29) from rfl) (show (1 : Nat) ≤ 40 by decide) hb ((m_graph_refs n a0).trans h) rfl (by kernel_rfl)
noncomputable def c_graph_refs : Spec := specQ e_graph_refs h_graph_refs ro_graph_refs rh_graph_refs fun a b => Q_graph_refs a.1
theorem k_graph_refs (hm : Try.prog.follows .mixedOrders = true) : SpecOk Try.prog 29 c_graph_refs := specQ_ok (pol := p_graph_refs) hm (cf := cf_graph_refs) (tab_ok (specs_cons (k_graph_goes hm) (specs_cons (k_graph_Find hm) specs_nil))) fun a b r h => ⟨FUEL, g_graph_refs FUEL a.1 (decRes_some h)⟩
def s_graph_longest_walk_r : Sig := ⟨[7], [.ty (.int .i64)], [.one true [.ty (.slice NodeT)], .one false [.mp 2], .mf (.int .i64) (.int .i64), .one true [.ty .bool], .one false [.mp 5], .mf (.int .i64) (.int .i64), .one false [.fn 42 [(0, 0, 0), (1, 0, 0), (3, 0, 0), (4, 0, 0), (6, 0, 0)]]]⟩
def s_graph_longest_walk_h1 : Sig := ⟨[0, 2, 4, 5, 10, 40, 41, 42], [.ty (.int .i64), .ptr 1 0 0, .ptr 4 0 0, .ptr 6 0 0, .ty (.int .i64), .hs 7 0, .ty (.int .i64), .ty (.int .i64)], [.one true [.ty (.slice NodeT)], .one false [.mp 2], .mf (.int .i64) (.int .i64), .one true [.ty .bool], .one false [.mp 5], .mf (.int .i64) (.int .i64), .one false [.fn 42 [(0, 0, 0), (1, 0, 0), (3, 0, 0), (4, 0, 0), (6, 0, 0)]], .row (.int .i64)]⟩
def s_graph_longest_walk_t1 : Sig := ⟨[0, 2, 4, 10], [.ty (.int .i64), .ptr 1 0 0, .ptr 4 0 0, .ty (.int .i64)], [.one true [.ty (.slice NodeT)], .one false [.mp 2], .mf (.int .i64) (.int .i64), .one true [.ty .bool], .one false [.mp 5], .mf (.int .i64) (.int .i64), .one false [.fn 42 [(0, 0, 0), (1, 0, 0), (3, 0, 0), (4, 0, 0), (6, 0, 0)]]]⟩
def p_graph_longest_walk : Pol := ⟨fun i => if i = 1 then some [(0, .keep), (2, .keep), (4, .keep), (5, .keep), (10, .keep), (40, (.own (.int .i64))), (41, .keep), (42, .keep)] else none, fun i => if i = 1 then some [(0, .keep), (2, .keep), (4, .keep), (10, .keep)] else none, some [(7, .keep)], [.keep], []⟩
def e_graph_longest_walk : List EK := [.ty (.int .i64), .ptr 0 0 0, .ptr 1 0 0, .ptr 3 0 0, .ptr 4 0 0, .ptr 6 0 0]
def h_graph_longest_walk : List HK := [.one true [.ty (.slice NodeT)], .one false [.mp 2], .mf (.int .i64) (.int .i64), .one true [.ty .bool], .one false [.mp 5], .mf (.int .i64) (.int .i64), .one false [.fn 42 [(0, 0, 0), (1, 0, 0), (3, 0, 0), (4, 0, 0), (6, 0, 0)]]]
noncomputable def cf_graph_longest_walk (qr_graph_longest_walk : Int → (List NodeS) → (Int → Option (Int)) → Bool → (Int → Option (Int)) → Option (RS ro_graph_longest_walk rh_graph_longest_walk)) : CallF := mkCF [(17, c_graph_Find), (41, c_graph_goes), (42, (specQ e_graph_longest_walk h_graph_longest_walk ro_graph_longest_walk rh_graph_longest_walk fun a b => qr_graph_longest_walk a.1 b.1.1 b.2.2.1 b.2.2.2.1.1 b.2.2.2.2.2.1))] [(17, [(.slice NodeT), (.int .i64)]), (41, [NodeT])]
noncomputable def ls_graph_longest_walk (n : Nat) (qr_graph_longest_walk : Int → (List NodeS) → (Int → Option (Int)) → Bool → (Int → Option (Int)) → Option (RS ro_graph_longest_walk rh_graph_longest_walk)) : Loops := fun i => if i = 1 then some (loopT 7 (p_graph_longest_walk.head 1) s_graph_longest_walk_h1 fun K v => L_graph_longest_walk_1 n qr_graph_longest_walk (fun z1 z2 z3 z4 z5 => K (.ex 1) (s_graph_longest_walk_t1.enc ((v.1.1, ((), ((), (z1, ())))), ((z2, ()), (((), ()), (z3, ((z4, ()), (((), ()), (z5, (((), ()), ())))))))))) v.1.1 v.1.2.2.2.2.2.1 v.1.2.2.2.2.2.2.1 v.2.2.2.2.2.2.2.2.1 n v.1.2.2.2.2.1 v.1.2.2.2.2.2.2.2.1 v.2.1.1 v.2.2.2.1 v.2.2.2.2.1.1 v.2.2.2.2.2.2.1)
  else  none
noncomputable def b_graph_longest_walk_1 : Code := partOf (bodyOf Try.f42) [1, 1, 1, 1, 1, 0, 1, 0, 0]
theorem t_graph_longest_walk_1 (qr_graph_longest_walk : Int → (List NodeS) → (Int → Option (Int)) → Bool → (Int → Option (Int)) → Option (RS ro_graph_longest_walk rh_graph_longest_walk)) (n : Nat) (K : Cont) (rec : Sig.sem s_graph_longest_walk_h1 → Option Res) (v : Sig.sem s_graph_longest_walk_h1) : runT Try.prog (cf_graph_longest_walk qr_graph_longest_walk) Try.f42.ntmps 7 p_graph_longest_walk (ls_graph_longest_walk n qr_graph_longest_walk) b_graph_longest_walk_1 (s_graph_longest_walk_h1.enc v) (turnK 7 (p_graph_longest_walk.head 1) s_graph_longest_walk_h1 rec K) = F_graph_longest_walk_1 n qr_graph_longest_walk (fun z1 z2 z3 z4 z5 => K (.ex 1) (s_graph_longest_walk_t1.enc ((v.1.1, ((), ((), (z1, ())))), ((z2, ()), (((), ()), (z3, ((z4, ()), (((), ()), (z5, (((), ()), ())))))))))) v.1.1 v.1.2.2.2.2.2.1 v.1.2.2.2.2.2.2.1 v.2.2.2.2.2.2.2.2.1 (fun z1 z4 z5 z6 z7 z8 => rec ((v.1.1, ((), ((), ((), (z1, (v.1.2.2.2.2.2.1, (v.1.2.2.2.2.2.2.1, (z4, ())))))))), ((z5, ()), (((), ()), (z6, ((z7, ()), (((), ()), (z8, (((), ()), (v.2.2.2.2.2.2.2.2.1, ())))))))))) v.1.2.2.2.2.1 v.1.2.2.2.2.2.2.2.1 v.2.1.1 v.2.2.2.1 v.2.2.2.2.1.1 v.2.2.2.2.2.2.1 := by kernel_rfl
noncomputable def V_graph_longest_walk_1 (qr_graph_longest_walk : Int → (List NodeS) → (Int → Option (Int)) → Bool → (Int → Option (Int)) → Option (RS ro_graph_longest_walk rh_graph_longest_walk)) (n : Nat) (K : Cont) (rec : Sig.sem s_graph_longest_walk_h1 → Option Res) (v : Sig.sem s_graph_longest_walk_h1) : Option Res := F_graph_longest_walk_1 n qr_graph_longest_walk (fun z1 z2 z3 z4 z5 => K (.ex 1) (s_graph_longest_walk_t1.enc ((v.1.1, ((), ((), (z1, ())))), ((z2, ()), (((), ()), (z3, ((z4, ()), (((), ()), (z5, (((), ()), ())))))))))) v.1.1 v.1.2.2.2.2.2.1 v.1.2.2.2.2.2.2.1 v.2.2.2.2.2.2.2.2.1 (fun z1 z4 z5 z6 z7 z8 => rec ((v.1.1, ((), ((), ((), (z1, (v.1.2.2.2.2.2.1, (v.1.2.2.2.2.2.2.1, (z4, ())))))))), ((z5, ()), (((), ()), (z6, ((z7, ()), (((), ()), (z8, (((), ()), (v.2.2.2.2.2.2.2.2.1, ())))))))))) v.1.2.2.2.2.1 v.1.2.2.2.2.2.2.2.1 v.2.1.1 v.2.2.2.1 v.2.2.2.2.1.1 v.2.2.2.2.2.2.1
noncomputable def W_graph_longest_walk_1 (qr_graph_longest_walk : Int → (List NodeS) → (Int → Option (Int)) → Bool → (Int → Option (Int)) → Option (RS ro_graph_longest_walk rh_graph_longest_walk)) (n : Nat) (K : Cont) (m : Nat) (v : Sig.sem s_graph_longest_walk_h1) : Option Res := L_graph_longest_walk_1 n qr_graph_longest_walk (fun z1 z2 z3 z4 z5 => K (.ex 1) (s_graph_longest_walk_t1.enc ((v.1.1, ((), ((), (z1, ())))), ((z2, ()), (((), ()), (z3, ((z4, ()), (((), ()), (z5, (((), ()), ())))))))))) v.1.1 v.1.2.2.2.2.2.1 v.1.2.2.2.2.2.2.1 v.2.2.2.2.2.2.2.2.1 m v.1.2.2.2.2.1 v.1.2.2.2.2.2.2.2.1 v.2.1.1 v.2.2.2.1 v.2.2.2.2.1.1 v.2.2.2.2.2.2.1
theorem i_graph_longest_walk_1 (qr_graph_longest_walk : Int → (List NodeS) → (Int → Option (Int)) → Bool → (Int → Option (Int)) → Option (RS ro_graph_longest_walk rh_graph_longest_walk)) (n : Nat) (K : Cont) : ∀ m v, iter (V_graph_longest_walk_1 qr_graph_longest_walk n K) m v = W_graph_longest_walk_1 qr_graph_longest_walk n K m v := by
  intro m
  induction m with
  | zero => intro v; rfl
  | succ m ih =>
    intro v
    show V_graph_longest_walk_1 qr_graph_longest_walk n K (iter (V_graph_longest_walk_1 qr_graph_longest_walk n K) m) v = V_graph_longest_walk_1 qr_graph_longest_walk n K (W_graph_longest_walk_1 qr_graph_longest_walk n K m) v
    rw [show iter (V_graph_longest_walk_1 qr_graph_longest_walk n K) m = W_graph_longest_walk_1 qr_graph_longest_walk n K m from funext ih]
theorem o_graph_longest_walk_1 (qr_graph_longest_walk : Int → (List NodeS) → (Int → Option (Int)) → Bool → (Int → Option (Int)) → Option (RS ro_graph_longest_walk rh_graph_longest_walk)) (n : Nat) : ∀ L, ls_graph_longest_walk n qr_graph_longest_walk 1 = some L → ∀ s K r, L s K = some r → ∃ x s', loopN (run Try.prog (cf_graph_longest_walk qr_graph_longest_walk) Try.f42.ntmps 7 n p_graph_longest_walk none b_graph_longest_walk_1) (gc 7 (p_graph_longest_walk.head 1)) n s = some (x, s') ∧ K x s' = some r := by
  intro L hL s K r h
  have hL : some (loopT 7 (p_graph_longest_walk.head 1) s_graph_longest_walk_h1 fun K v => W_graph_longest_walk_1 qr_graph_longest_walk n K n v) = some L := hL
  cases hL
  have hb : LOk Try.prog (cf_graph_longest_walk qr_graph_longest_walk) Try.f42.ntmps 7 n p_graph_longest_walk (ls_graph_longest_walk n qr_graph_longest_walk) b_graph_longest_walk_1 := ⟨trivial, ⟨⟨trivial, trivial⟩, ⟨⟨trivial, trivial⟩, trivial⟩⟩⟩
  refine loopT_ok hb (V_graph_longest_walk_1 qr_graph_longest_walk n) (t_graph_longest_walk_1 qr_graph_longest_walk n) n s K r ?_
  rw [← h]
  unfold loopT
  simp only [i_graph_longest_walk_1]
theorem m_graph_longest_walk (n : Nat) (qr_graph_longest_walk : Int → (List NodeS) → (Int → Option (Int)) → Bool → (Int → Option (Int)) → Option (RS ro_graph_longest_walk rh_graph_longest_walk)) (a0 : Int) (a1 : (List NodeS)) (a2 : (Int → Option (Int))) (a3 : Bool) (a4 : (Int → Option (Int))) : runFT Try.prog (cf_graph_longest_walk qr_graph_longest_walk) p_graph_longest_walk (ls_graph_longest_walk n qr_graph_longest_walk) Try.f42 (bodyOf Try.f42) (EK.encs e_graph_longest_walk ((a0, ((), ((), ((), ((), ((), ())))))), ((a1, ()), (((), ()), (a2, ((a3, ()), (((), ()), (a4, (((), ()), ())))))))).1) (HK.encs h_graph_longest_walk ((a0, ((), ((), ((), ((), ((), ())))))), ((a1, ()), (((), ()), (a2, ((a3, ()), (((), ()), (a4, (((), ()), ())))))))).2) = M_graph_longest_walk n qr_graph_longest_walk a0 a1 a2 a3 a4 := by kernel_rfl
theorem g_graph_longest_walk (n : Nat) (qr_graph_longest_walk : Int → (List NodeS) → (Int → Option (Int)) → Bool → (Int → Option (Int)) → Option (RS ro_graph_longest_walk rh_graph_longest_walk)) (a0 : Int) (a1 : (List NodeS)) (a2 : (Int → Option (Int))) (a3 : Bool) (a4 : (Int → Option (Int))) {r : Res} (h : M_graph_longest_walk n qr_graph_longest_walk a0 a1 a2 a3 a4 = some r) : runF Try.prog (cf_graph_longest_walk qr_graph_longest_walk) n p_graph_longest_walk 42 (EK.encs e_graph_longest_walk ((a0, ((), ((), ((), ((), ((), ())))))), ((a1, ()), (((), ()), (a2, ((a3, ()), (((), ()), (a4, (((), ()), ())))))))).1) (HK.encs h_graph_longest_walk ((a0, ((), ((), ((), ((), ((), ())))))), ((a1, ()), (((), ()), (a2, ((a3, ()), (((), ()), (a4, (((), ()), ())))))))).2) = some r := by
  have hb : LOk Try.prog (cf_graph_longest_walk qr_graph_longest_walk) Try.f42.ntmps 7 n p_graph_longest_walk (ls_graph_longest_walk n qr_graph_longest_walk) (bodyOf Try.f42) := ⟨trivial, ⟨trivial, ⟨⟨trivial, ⟨⟨trivial, trivial⟩, ⟨trivial, ⟨⟨trivial, ⟨trivial, trivial⟩⟩, ⟨trivial, ⟨⟨trivial, trivial⟩, trivial⟩⟩⟩⟩⟩⟩, ⟨trivial, ⟨trivial, ⟨⟨trivial, (o_graph_longest_walk_1 qr_graph_longest_walk n)⟩, ⟨trivial, ⟨trivial, ⟨trivial, trivial⟩⟩⟩⟩⟩⟩⟩⟩⟩
  exact runFT_some Try.prog (c := bodyOf Try.f42) Try.func42 (show Try.f42.body = some (bodyOf Try.f42) from rfl) (show (6 : Nat) ≤ 62 by decide) hb ((m_graph_longest_walk n qr_graph_longest_walk a0 a1 a2 a3 a4).trans h) rfl (by kernel_rfl)
noncomputable def c_graph_longest_walk : Spec := specQ e_graph_longest_walk h_graph_longest_walk ro_graph_longest_walk rh_graph_longest_walk fun a b => Q_graph_longest_walk a.1 b.1.1 b.2.2.1 b.2.2.2.1.1 b.2.2.2.2.2.1
theorem kr_graph_longest_walk (hm : Try.prog.follows .mixedOrders = true) (qr_graph_longest_walk : Int → (List NodeS) → (Int → Option (Int)) → Bool → (Int → Option (Int)) → Option (RS ro_graph_longest_walk rh_graph_longest_walk)) (hr : SpecOk Try.prog 42 (specQ e_graph_longest_walk h_graph_longest_walk ro_graph_longest_walk rh_graph_longest_walk fun a b => qr_graph_longest_walk a.1 b.1.1 b.2.2.1 b.2.2.2.1.1 b.2.2.2.2.2.1)) : CallSound Try.prog (cf_graph_longest_walk qr_graph_longest_walk) := tab_ok (specs_cons (k_graph_Find hm) (specs_cons (k_graph_goes hm) (specs_cons (hr) specs_nil)))
theorem kd_graph_longest_walk (hm : Try.prog.follows .mixedOrders = true) : ∀ dp, SpecOk Try.prog 42 (specQ e_graph_longest_walk h_graph_longest_walk ro_graph_longest_walk rh_graph_longest_walk fun a b => Qd_graph_longest_walk dp a.1 b.1.1 b.2.2.1 b.2.2.2.1.1 b.2.2.2.2.2.1)
  | 0 => specQ_ok (pol := p_graph_longest_walk) hm (cf := mkCF [] []) (tab_ok specs_nil) fun a b r h => by cases h
  | dp + 1 => specQ_ok (pol := p_graph_longest_walk) hm (kr_graph_longest_walk hm (Qd_graph_longest_walk dp) (kd_graph_longest_walk hm dp)) fun a b r h => ⟨FUEL, g_graph_longest_walk FUEL (Qd_graph_longest_walk dp) a.1 b.1.1 b.2.2.1 b.2.2.2.1.1 b.2.2.2.2.2.1 (decRes_some h)⟩
theorem k_graph_longest_walk (hm : Try.prog.follows .mixedOrders = true) : SpecOk Try.prog 42 c_graph_longest_walk := kd_graph_longest_walk hm FUEL
def s_graph_longest_h0 : Sig := ⟨[6, 7, 13, 14, 15], [.ptr 0 0 0, .ptr 1 0 0, .ty (.slice NodeT), .ty (.int .i64), .ty (.int .i64)], [.one true [.ty .bool], .one false [.fn 42 [(2, 0, 0), (3, 0, 0), (0, 0, 0), (5, 0, 0), (1, 0, 0)]], .one true [.ty (.slice NodeT)], .one false [.mp 4], .mf (.int .i64) (.int .i64), .one false [.mp 6], .mf (.int .i64) (.int .i64)]⟩
def s_graph_longest_t0 : Sig := ⟨[6, 7], [.ptr 0 0 0, .ptr 1 0 0], [.one true [.ty .bool], .one false [.fn 42 [(2, 0, 0), (3, 0, 0), (0, 0, 0), (5, 0, 0), (1, 0, 0)]], .one true [.ty (.slice NodeT)], .one false [.mp 4], .mf (.int .i64) (.int .i64), .one false [.mp 6], .mf (.int .i64) (.int .i64)]⟩
def s_graph_longest_r : Sig := ⟨[2, 3], [.fn 42 [(0, 0, 0), (1, 0, 0), (3, 0, 0), (4, 0, 0), (6, 0, 0)], .ty .bool], [.one true [.ty (.slice NodeT)], .one false [.mp 2], .mf (.int .i64) (.int .i64), .one true [.ty .bool], .one false [.mp 5], .mf (.int .i64) (.int .i64), .one false [.fn 42 [(0, 0, 0), (1, 0, 0), (3, 0, 0), (4, 0, 0), (6, 0, 0)]]]⟩
def p_graph_longest : Pol := ⟨fun i => if i = 0 then some [(6, .keep), (7, .keep), (13, .keep), (14, .keep), (15, .keep)] else none, fun i => if i = 0 then some [(6, .keep), (7, .keep)] else none, some [(2, .keep), (3, .keep)], [.keep, .keep], []⟩
def e_graph_longest : List EK := [.ty (.slice NodeT)]
def h_graph_longest : List HK := []
noncomputable def cf_graph_longest : CallF := mkCF [(42, c_graph_longest_walk)] []
noncomputable def ls_graph_longest (n : Nat) : Loops := fun i => if i = 0 then some (loopT 0 (p_graph_longest.head 0) s_graph_longest_h0 fun K v => L_graph_longest_0 n (fun z0 z1 z2 z3 => K (.ex 0) (s_graph_longest_t0.enc (((), ((), ())), ((z0, ()), (((), ()), ((z1, ()), (((), ()), (z2, (((), ()), (z3, ())))))))))) v.1.2.2.1 v.1.2.2.2.1 n v.1.2.2.2.2.1 v.2.1.1 v.2.2.2.1.1 v.2.2.2.2.2.1 v.2.2.2.2.2.2.2.1)
  else  none
noncomputable def b_graph_longest_0 : Code := partOf (bodyOf Try.f30) [1, 1, 1, 1, 1, 0, 1, 0, 0]
theorem t_graph_longest_0 (n : Nat) (K : Cont) (rec : Sig.sem s_graph_longest_h0 → Option Res) (v : Sig.sem s_graph_longest_h0) : runT Try.prog cf_graph_longest Try.f30.ntmps 0 p_graph_longest (ls_graph_longest n) b_graph_longest_0 (s_graph_longest_h0.enc v) (turnK 0 (p_graph_longest.head 0) s_graph_longest_h0 rec K) = F_graph_longest_0 n (fun z0 z1 z2 z3 => K (.ex 0) (s_graph_longest_t0.enc (((), ((), ())), ((z0, ()), (((), ()), ((z1, ()), (((), ()), (z2, (((), ()), (z3, ())))))))))) v.1.2.2.1 v.1.2.2.2.1 (fun z2 z3 z4 z5 z6 => rec (((), ((), (v.1.2.2.1, (v.1.2.2.2.1, (z2, ()))))), ((z3, ()), (((), ()), ((z4, ()), (((), ()), (z5, (((), ()), (z6, ()))))))))) v.1.2.2.2.2.1 v.2.1.1 v.2.2.2.1.1 v.2.2.2.2.2.1 v.2.2.2.2.2.2.2.1 := by kernel_rfl
noncomputable def V_graph_longest_0 (n : Nat) (K : Cont) (rec : Sig.sem s_graph_longest_h0 → Option Res) (v : Sig.sem s_graph_longest_h0) : Option Res := F_graph_longest_0 n (fun z0 z1 z2 z3 => K (.ex 0) (s_graph_longest_t0.enc (((), ((), ())), ((z0, ()), (((), ()), ((z1, ()), (((), ()), (z2, (((), ()), (z3, ())))))))))) v.1.2.2.1 v.1.2.2.2.1 (fun z2 z3 z4 z5 z6 => rec (((), ((), (v.1.2.2.1, (v.1.2.2.2.1, (z2, ()))))), ((z3, ()), (((), ()), ((z4, ()), (((), ()), (z5, (((), ()), (z6, ()))))))))) v.1.2.2.2.2.1 v.2.1.1 v.2.2.2.1.1 v.2.2.2.2.2.1 v.2.2.2.2.2.2.2.1
noncomputable def W_graph_longest_0 (n : Nat) (K : Cont) (m : Nat) (v : Sig.sem s_graph_longest_h0) : Option Res := L_graph_longest_0 n (fun z0 z1 z2 z3 => K (.ex 0) (s_graph_longest_t0.enc (((), ((), ())), ((z0, ()), (((), ()), ((z1, ()), (((), ()), (z2, (((), ()), (z3, ())))))))))) v.1.2.2.1 v.1.2.2.2.1 m v.1.2.2.2.2.1 v.2.1.1 v.2.2.2.1.1 v.2.2.2.2.2.1 v.2.2.2.2.2.2.2.1
theorem i_graph_longest_0 (n : Nat) (K : Cont) : ∀ m v, iter (V_graph_longest_0 n K) m v = W_graph_longest_0 n K m v := by
  intro m
  induction m with
  | zero => intro v; rfl
  | succ m ih =>
    intro v
    show V_graph_longest_0 n K (iter (V_graph_longest_0 n K) m) v = V_graph_longest_0 n K (W_graph_longest_0 n K m) v
    rw [show iter (V_graph_longest_0 n K) m = W_graph_longest_0 n K m from funext ih]
theorem o_graph_longest_0 (n : Nat) : ∀ L, ls_graph_longest n 0 = some L → ∀ s K r, L s K = some r → ∃ x s', loopN (run Try.prog cf_graph_longest Try.f30.ntmps 0 n p_graph_longest none b_graph_longest_0) (gc 0 (p_graph_longest.head 0)) n s = some (x, s') ∧ K x s' = some r := by
  intro L hL s K r h
  have hL : some (loopT 0 (p_graph_longest.head 0) s_graph_longest_h0 fun K v => W_graph_longest_0 n K n v) = some L := hL
  cases hL
  have hb : LOk Try.prog cf_graph_longest Try.f30.ntmps 0 n p_graph_longest (ls_graph_longest n) b_graph_longest_0 := ⟨trivial, ⟨⟨trivial, trivial⟩, ⟨⟨trivial, trivial⟩, trivial⟩⟩⟩
  refine loopT_ok hb (V_graph_longest_0 n) (t_graph_longest_0 n) n s K r ?_
  rw [← h]
  unfold loopT
  simp only [i_graph_longest_0]
theorem m_graph_longest (n : Nat) (a0 : (List NodeS)) : runFT Try.prog cf_graph_longest p_graph_longest (ls_graph_longest n) Try.f30 (bodyOf Try.f30) (EK.encs e_graph_longest ((a0, ()), ()).1) (HK.encs h_graph_longest ((a0, ()), ()).2) = M_graph_longest n a0 := by kernel_rfl
theorem g_graph_longest (n : Nat) (a0 : (List NodeS)) {r : Res} (h : M_graph_longest n a0 = some r) : runF Try.prog cf_graph_longest n p_graph_longest 30 (EK.encs e_graph_longest ((a0, ()), ()).1) (HK.encs h_graph_longest ((a0, ()), ()).2) = some r := by
  have hb : LOk Try.prog cf_graph_longest Try.f30.ntmps 0 n p_graph_longest (ls_graph_longest n) (bodyOf Try.f30) := ⟨trivial, ⟨trivial, ⟨trivial, ⟨trivial, ⟨trivial, ⟨⟨trivial, (o_graph_longest_0 n)⟩, ⟨trivial, trivial⟩⟩⟩⟩⟩⟩⟩
  exact runFT_some Try.prog (c := bodyOf Try.f30) Try.func30 (show Try.f30.body = some (bodyOf Try.f30) from rfl) (show (1 : Nat) ≤ 26 by decide) hb ((m_graph_longest n a0).trans h) rfl (by kernel_rfl)
noncomputable def c_graph_longest : Spec := specQ e_graph_longest h_graph_longest ro_graph_longest rh_graph_longest fun a b => Q_graph_longest a.1
theorem k_graph_longest (hm : Try.prog.follows .mixedOrders = true) : SpecOk Try.prog 30 c_graph_longest := specQ_ok (pol := p_graph_longest) hm (cf := cf_graph_longest) (tab_ok (specs_cons (k_graph_longest_walk hm) specs_nil)) fun a b r h => ⟨FUEL, g_graph_longest FUEL a.1 (decRes_some h)⟩
def s_graph_May_r : Sig := ⟨[2], [.ty (.int .i64)], []⟩
def p_graph_May : Pol := ⟨fun i => none, fun i => none, some [(2, .keep)], [.keep], []⟩
def e_graph_May : List EK := [.ty (.slice NodeT)]
def h_graph_May : List HK := []
noncomputable def cf_graph_May : CallF := mkCF [(28, c_graph_form), (29, c_graph_refs), (30, c_graph_longest)] [(28, [(.slice NodeT)]), (29, [(.slice NodeT)]), (30, [(.slice NodeT)])]
noncomputable def ls_graph_May (n : Nat) : Loops := fun i =>  none
theorem m_graph_May (n : Nat) (a0 : (List NodeS)) : runFT Try.prog cf_graph_May p_graph_May (ls_graph_May n) Try.f16 (bodyOf Try.f16) (EK.encs e_graph_May ((a0, ()), ()).1) (HK.encs h_graph_May ((a0, ()), ()).2) = M_graph_May n a0 := by kernel_rfl
theorem g_graph_May (n : Nat) (a0 : (List NodeS)) {r : Res} (h : M_graph_May n a0 = some r) : runF Try.prog cf_graph_May n p_graph_May 16 (EK.encs e_graph_May ((a0, ()), ()).1) (HK.encs h_graph_May ((a0, ()), ()).2) = some r := by
  have hb : LOk Try.prog cf_graph_May Try.f16.ntmps 0 n p_graph_May (ls_graph_May n) (bodyOf Try.f16) := ⟨trivial, ⟨⟨trivial, ⟨⟨trivial, trivial⟩, ⟨trivial, ⟨⟨trivial, trivial⟩, ⟨trivial, ⟨⟨trivial, trivial⟩, trivial⟩⟩⟩⟩⟩⟩, ⟨⟨trivial, ⟨trivial, ⟨⟨trivial, trivial⟩, trivial⟩⟩⟩, ⟨trivial, trivial⟩⟩⟩⟩
  exact runFT_some Try.prog (c := bodyOf Try.f16) Try.func16 (show Try.f16.body = some (bodyOf Try.f16) from rfl) (show (1 : Nat) ≤ 24 by decide) hb ((m_graph_May n a0).trans h) rfl (by kernel_rfl)
noncomputable def c_graph_May : Spec := specQ e_graph_May h_graph_May ro_graph_May rh_graph_May fun a b => Q_graph_May a.1
theorem k_graph_May (hm : Try.prog.follows .mixedOrders = true) : SpecOk Try.prog 16 c_graph_May := specQ_ok (pol := p_graph_May) hm (cf := cf_graph_May) (tab_ok (specs_cons (k_graph_form hm) (specs_cons (k_graph_refs hm) (specs_cons (k_graph_longest hm) specs_nil)))) fun a b r h => ⟨FUEL, g_graph_May FUEL a.1 (decRes_some h)⟩
def s_walk_steps_r : Sig := ⟨[4], [.fn 37 [(0, 0, 0), (1, 0, 0)]], [.one true [.ty (.slice NodeT)], .one true [.ty .str]]⟩
def p_walk_steps : Pol := ⟨fun i => none, fun i => none, some [(4, .keep)], [.keep], []⟩
def e_walk_steps : List EK := [.ty (.slice NodeT), .ty .str]
def h_walk_steps : List HK := []
noncomputable def cf_walk_steps : CallF := mkCF [] []
noncomputable def ls_walk_steps (n : Nat) : Loops := fun i =>  none
theorem m_walk_steps (n : Nat) (a0 : (List NodeS)) (a1 : ByteArray) : runFT Try.prog cf_walk_steps p_walk_steps (ls_walk_steps n) Try.f25 (bodyOf Try.f25) (EK.encs e_walk_steps ((a0, (a1, ())), ()).1) (HK.encs h_walk_steps ((a0, (a1, ())), ()).2) = M_walk_steps n a0 a1 := by kernel_rfl
theorem g_walk_steps (n : Nat) (a0 : (List NodeS)) (a1 : ByteArray) {r : Res} (h : M_walk_steps n a0 a1 = some r) : runF Try.prog cf_walk_steps n p_walk_steps 25 (EK.encs e_walk_steps ((a0, (a1, ())), ()).1) (HK.encs h_walk_steps ((a0, (a1, ())), ()).2) = some r := by
  have hb : LOk Try.prog cf_walk_steps Try.f25.ntmps 0 n p_walk_steps (ls_walk_steps n) (bodyOf Try.f25) := ⟨trivial, ⟨trivial, trivial⟩⟩
  exact runFT_some Try.prog (c := bodyOf Try.f25) Try.func25 (show Try.f25.body = some (bodyOf Try.f25) from rfl) (show (2 : Nat) ≤ 6 by decide) hb ((m_walk_steps n a0 a1).trans h) rfl (by kernel_rfl)
noncomputable def c_walk_steps : Spec := specQ e_walk_steps h_walk_steps ro_walk_steps rh_walk_steps fun a b => Q_walk_steps a.1 a.2.1
theorem k_walk_steps (hm : Try.prog.follows .mixedOrders = true) : SpecOk Try.prog 25 c_walk_steps := specQ_ok (pol := p_walk_steps) hm (cf := cf_walk_steps) (tab_ok specs_nil) fun a b r h => ⟨FUEL, g_walk_steps FUEL a.1 a.2.1 (decRes_some h)⟩
def s_walk_may_r : Sig := ⟨[2], [.ty .bool], []⟩
def p_walk_may : Pol := ⟨fun i => none, fun i => none, some [(2, .keep)], [.keep], []⟩
def e_walk_may : List EK := [.agg NodeT]
def h_walk_may : List HK := []
noncomputable def cf_walk_may : CallF := mkCF [] []
noncomputable def ls_walk_may (n : Nat) : Loops := fun i =>  none
theorem m_walk_may (n : Nat) (a0 : NodeS) : runFT Try.prog cf_walk_may p_walk_may (ls_walk_may n) Try.f26 (bodyOf Try.f26) (EK.encs e_walk_may ((a0, ()), ()).1) (HK.encs h_walk_may ((a0, ()), ()).2) = M_walk_may n a0 := by kernel_rfl
theorem g_walk_may (n : Nat) (a0 : NodeS) {r : Res} (h : M_walk_may n a0 = some r) : runF Try.prog cf_walk_may n p_walk_may 26 (EK.encs e_walk_may ((a0, ()), ()).1) (HK.encs h_walk_may ((a0, ()), ()).2) = some r := by
  have hb : LOk Try.prog cf_walk_may Try.f26.ntmps 0 n p_walk_may (ls_walk_may n) (bodyOf Try.f26) := ⟨trivial, ⟨⟨trivial, ⟨⟨trivial, trivial⟩, trivial⟩⟩, ⟨⟨trivial, ⟨⟨trivial, trivial⟩, trivial⟩⟩, ⟨trivial, trivial⟩⟩⟩⟩
  exact runFT_some Try.prog (c := bodyOf Try.f26) Try.func26 (show Try.f26.body = some (bodyOf Try.f26) from rfl) (show (1 : Nat) ≤ 50 by decide) hb ((m_walk_may n a0).trans h) rfl (by kernel_rfl)
noncomputable def c_walk_may : Spec := specQ e_walk_may h_walk_may ro_walk_may rh_walk_may fun a b => Q_walk_may a.1
theorem k_walk_may (hm : Try.prog.follows .mixedOrders = true) : SpecOk Try.prog 26 c_walk_may := specQ_ok (pol := p_walk_may) hm (cf := cf_walk_may) (tab_ok specs_nil) fun a b r h => ⟨FUEL, g_walk_may FUEL a.1 (decRes_some h)⟩
def s_field_may_r : Sig := ⟨[6], [.ty (.int .i64)], []⟩
def p_field_may : Pol := ⟨fun i => none, fun i => none, some [(6, .keep)], [.keep], []⟩
def e_field_may : List EK := [.ty .str, .ty (.int .i64), .ty (.int .i64)]
def h_field_may : List HK := []
noncomputable def cf_field_may : CallF := mkCF [] []
noncomputable def ls_field_may (n : Nat) : Loops := fun i =>  none
theorem m_field_may (n : Nat) (a0 : ByteArray) (a1 : Int) (a2 : Int) : runFT Try.prog cf_field_may p_field_may (ls_field_may n) Try.f46 (bodyOf Try.f46) (EK.encs e_field_may ((a0, (a1, (a2, ()))), ()).1) (HK.encs h_field_may ((a0, (a1, (a2, ()))), ()).2) = M_field_may n a0 a1 a2 := by kernel_rfl
theorem g_field_may (n : Nat) (a0 : ByteArray) (a1 : Int) (a2 : Int) {r : Res} (h : M_field_may n a0 a1 a2 = some r) : runF Try.prog cf_field_may n p_field_may 46 (EK.encs e_field_may ((a0, (a1, (a2, ()))), ()).1) (HK.encs h_field_may ((a0, (a1, (a2, ()))), ()).2) = some r := by
  have hb : LOk Try.prog cf_field_may Try.f46.ntmps 0 n p_field_may (ls_field_may n) (bodyOf Try.f46) := ⟨trivial, ⟨⟨trivial, ⟨⟨trivial, trivial⟩, ⟨trivial, ⟨⟨trivial, trivial⟩, trivial⟩⟩⟩⟩, ⟨trivial, trivial⟩⟩⟩
  exact runFT_some Try.prog (c := bodyOf Try.f46) Try.func46 (show Try.f46.body = some (bodyOf Try.f46) from rfl) (show (3 : Nat) ≤ 26 by decide) hb ((m_field_may n a0 a1 a2).trans h) rfl (by kernel_rfl)
noncomputable def c_field_may : Spec := specQ e_field_may h_field_may ro_field_may rh_field_may fun a b => Q_field_may a.1 a.2.1 a.2.2.1
theorem k_field_may (hm : Try.prog.follows .mixedOrders = true) : SpecOk Try.prog 46 c_field_may := specQ_ok (pol := p_field_may) hm (cf := cf_field_may) (tab_ok specs_nil) fun a b r h => ⟨FUEL, g_field_may FUEL a.1 a.2.1 a.2.2.1 (decRes_some h)⟩
def s_word_Left_r : Sig := ⟨[4], [.ptr 0 0 0], [.cell WordT]⟩
def p_word_Left : Pol := ⟨fun i => none, fun i => none, some [(4, (.own WordT))], [.keep], []⟩
def e_word_Left : List EK := [.agg WordT, .ty (.int .i64)]
def h_word_Left : List HK := []
noncomputable def cf_word_Left : CallF := mkCF [] []
noncomputable def ls_word_Left (n : Nat) : Loops := fun i =>  none
theorem m_word_Left (n : Nat) (a0 : WordS) (a1 : Int) : runFT Try.prog cf_word_Left p_word_Left (ls_word_Left n) Try.f48 (bodyOf Try.f48) (EK.encs e_word_Left ((a0, (a1, ())), ()).1) (HK.encs h_word_Left ((a0, (a1, ())), ()).2) = M_word_Left n a0 a1 := by kernel_rfl
theorem g_word_Left (n : Nat) (a0 : WordS) (a1 : Int) {r : Res} (h : M_word_Left n a0 a1 = some r) : runF Try.prog cf_word_Left n p_word_Left 48 (EK.encs e_word_Left ((a0, (a1, ())), ()).1) (HK.encs h_word_Left ((a0, (a1, ())), ()).2) = some r := by
  have hb : LOk Try.prog cf_word_Left Try.f48.ntmps 0 n p_word_Left (ls_word_Left n) (bodyOf Try.f48) := ⟨trivial, ⟨⟨trivial, ⟨⟨trivial, trivial⟩, ⟨trivial, ⟨⟨trivial, trivial⟩, trivial⟩⟩⟩⟩, ⟨trivial, trivial⟩⟩⟩
  exact runFT_some Try.prog (c := bodyOf Try.f48) Try.func48 (show Try.f48.body = some (bodyOf Try.f48) from rfl) (show (2 : Nat) ≤ 33 by decide) hb ((m_word_Left n a0 a1).trans h) rfl (by kernel_rfl)
noncomputable def c_word_Left : Spec := specQ e_word_Left h_word_Left ro_word_Left rh_word_Left fun a b => Q_word_Left a.1 a.2.1
theorem k_word_Left (hm : Try.prog.follows .mixedOrders = true) : SpecOk Try.prog 48 c_word_Left := specQ_ok (pol := p_word_Left) hm (cf := cf_word_Left) (tab_ok specs_nil) fun a b r h => ⟨FUEL, g_word_Left FUEL a.1 a.2.1 (decRes_some h)⟩
def s_word_New_r : Sig := ⟨[2], [.ptr 0 0 0], [.cell WordT]⟩
def p_word_New : Pol := ⟨fun i => none, fun i => none, some [(2, (.own WordT))], [.keep], []⟩
def e_word_New : List EK := [.ty (.int .u64)]
def h_word_New : List HK := []
noncomputable def cf_word_New : CallF := mkCF [] []
noncomputable def ls_word_New (n : Nat) : Loops := fun i =>  none
theorem m_word_New (n : Nat) (a0 : Int) : runFT Try.prog cf_word_New p_word_New (ls_word_New n) Try.f49 (bodyOf Try.f49) (EK.encs e_word_New ((a0, ()), ()).1) (HK.encs h_word_New ((a0, ()), ()).2) = M_word_New n a0 := by kernel_rfl
theorem g_word_New (n : Nat) (a0 : Int) {r : Res} (h : M_word_New n a0 = some r) : runF Try.prog cf_word_New n p_word_New 49 (EK.encs e_word_New ((a0, ()), ()).1) (HK.encs h_word_New ((a0, ()), ()).2) = some r := by
  have hb : LOk Try.prog cf_word_New Try.f49.ntmps 0 n p_word_New (ls_word_New n) (bodyOf Try.f49) := ⟨trivial, ⟨trivial, trivial⟩⟩
  exact runFT_some Try.prog (c := bodyOf Try.f49) Try.func49 (show Try.f49.body = some (bodyOf Try.f49) from rfl) (show (1 : Nat) ≤ 5 by decide) hb ((m_word_New n a0).trans h) rfl (by kernel_rfl)
noncomputable def c_word_New : Spec := specQ e_word_New h_word_New ro_word_New rh_word_New fun a b => Q_word_New a.1
theorem k_word_New (hm : Try.prog.follows .mixedOrders = true) : SpecOk Try.prog 49 c_word_New := specQ_ok (pol := p_word_New) hm (cf := cf_word_New) (tab_ok specs_nil) fun a b r h => ⟨FUEL, g_word_New FUEL a.1 (decRes_some h)⟩
def s_word_Or_r : Sig := ⟨[4], [.ptr 0 0 0], [.cell WordT]⟩
def p_word_Or : Pol := ⟨fun i => none, fun i => none, some [(4, (.own WordT))], [.keep], []⟩
def e_word_Or : List EK := [.agg WordT, .agg WordT]
def h_word_Or : List HK := []
noncomputable def cf_word_Or : CallF := mkCF [] []
noncomputable def ls_word_Or (n : Nat) : Loops := fun i =>  none
theorem m_word_Or (n : Nat) (a0 : WordS) (a1 : WordS) : runFT Try.prog cf_word_Or p_word_Or (ls_word_Or n) Try.f47 (bodyOf Try.f47) (EK.encs e_word_Or ((a0, (a1, ())), ()).1) (HK.encs h_word_Or ((a0, (a1, ())), ()).2) = M_word_Or n a0 a1 := by kernel_rfl
theorem g_word_Or (n : Nat) (a0 : WordS) (a1 : WordS) {r : Res} (h : M_word_Or n a0 a1 = some r) : runF Try.prog cf_word_Or n p_word_Or 47 (EK.encs e_word_Or ((a0, (a1, ())), ()).1) (HK.encs h_word_Or ((a0, (a1, ())), ()).2) = some r := by
  have hb : LOk Try.prog cf_word_Or Try.f47.ntmps 0 n p_word_Or (ls_word_Or n) (bodyOf Try.f47) := ⟨trivial, ⟨trivial, trivial⟩⟩
  exact runFT_some Try.prog (c := bodyOf Try.f47) Try.func47 (show Try.f47.body = some (bodyOf Try.f47) from rfl) (show (2 : Nat) ≤ 16 by decide) hb ((m_word_Or n a0 a1).trans h) rfl (by kernel_rfl)
noncomputable def c_word_Or : Spec := specQ e_word_Or h_word_Or ro_word_Or rh_word_Or fun a b => Q_word_Or a.1 a.2.1
theorem k_word_Or (hm : Try.prog.follows .mixedOrders = true) : SpecOk Try.prog 47 c_word_Or := specQ_ok (pol := p_word_Or) hm (cf := cf_word_Or) (tab_ok specs_nil) fun a b r h => ⟨FUEL, g_word_Or FUEL a.1 a.2.1 (decRes_some h)⟩
def s_word_Not_r : Sig := ⟨[2], [.ptr 0 0 0], [.cell WordT]⟩
def p_word_Not : Pol := ⟨fun i => none, fun i => none, some [(2, (.own WordT))], [.keep], []⟩
def e_word_Not : List EK := [.agg WordT]
def h_word_Not : List HK := []
noncomputable def cf_word_Not : CallF := mkCF [] []
noncomputable def ls_word_Not (n : Nat) : Loops := fun i =>  none
theorem m_word_Not (n : Nat) (a0 : WordS) : runFT Try.prog cf_word_Not p_word_Not (ls_word_Not n) Try.f57 (bodyOf Try.f57) (EK.encs e_word_Not ((a0, ()), ()).1) (HK.encs h_word_Not ((a0, ()), ()).2) = M_word_Not n a0 := by kernel_rfl
theorem g_word_Not (n : Nat) (a0 : WordS) {r : Res} (h : M_word_Not n a0 = some r) : runF Try.prog cf_word_Not n p_word_Not 57 (EK.encs e_word_Not ((a0, ()), ()).1) (HK.encs h_word_Not ((a0, ()), ()).2) = some r := by
  have hb : LOk Try.prog cf_word_Not Try.f57.ntmps 0 n p_word_Not (ls_word_Not n) (bodyOf Try.f57) := ⟨trivial, ⟨trivial, trivial⟩⟩
  exact runFT_some Try.prog (c := bodyOf Try.f57) Try.func57 (show Try.f57.body = some (bodyOf Try.f57) from rfl) (show (1 : Nat) ≤ 10 by decide) hb ((m_word_Not n a0).trans h) rfl (by kernel_rfl)
noncomputable def c_word_Not : Spec := specQ e_word_Not h_word_Not ro_word_Not rh_word_Not fun a b => Q_word_Not a.1
theorem k_word_Not (hm : Try.prog.follows .mixedOrders = true) : SpecOk Try.prog 57 c_word_Not := specQ_ok (pol := p_word_Not) hm (cf := cf_word_Not) (tab_ok specs_nil) fun a b r h => ⟨FUEL, g_word_Not FUEL a.1 (decRes_some h)⟩
def s_word_Right_r : Sig := ⟨[4], [.ptr 0 0 0], [.cell WordT]⟩
def p_word_Right : Pol := ⟨fun i => none, fun i => none, some [(4, (.own WordT))], [.keep], []⟩
def e_word_Right : List EK := [.agg WordT, .ty (.int .i64)]
def h_word_Right : List HK := []
noncomputable def cf_word_Right : CallF := mkCF [] []
noncomputable def ls_word_Right (n : Nat) : Loops := fun i =>  none
theorem m_word_Right (n : Nat) (a0 : WordS) (a1 : Int) : runFT Try.prog cf_word_Right p_word_Right (ls_word_Right n) Try.f56 (bodyOf Try.f56) (EK.encs e_word_Right ((a0, (a1, ())), ()).1) (HK.encs h_word_Right ((a0, (a1, ())), ()).2) = M_word_Right n a0 a1 := by kernel_rfl
theorem g_word_Right (n : Nat) (a0 : WordS) (a1 : Int) {r : Res} (h : M_word_Right n a0 a1 = some r) : runF Try.prog cf_word_Right n p_word_Right 56 (EK.encs e_word_Right ((a0, (a1, ())), ()).1) (HK.encs h_word_Right ((a0, (a1, ())), ()).2) = some r := by
  have hb : LOk Try.prog cf_word_Right Try.f56.ntmps 0 n p_word_Right (ls_word_Right n) (bodyOf Try.f56) := ⟨trivial, ⟨⟨trivial, ⟨⟨trivial, trivial⟩, ⟨trivial, ⟨⟨trivial, trivial⟩, trivial⟩⟩⟩⟩, ⟨trivial, trivial⟩⟩⟩
  exact runFT_some Try.prog (c := bodyOf Try.f56) Try.func56 (show Try.f56.body = some (bodyOf Try.f56) from rfl) (show (2 : Nat) ≤ 33 by decide) hb ((m_word_Right n a0 a1).trans h) rfl (by kernel_rfl)
noncomputable def c_word_Right : Spec := specQ e_word_Right h_word_Right ro_word_Right rh_word_Right fun a b => Q_word_Right a.1 a.2.1
theorem k_word_Right (hm : Try.prog.follows .mixedOrders = true) : SpecOk Try.prog 56 c_word_Right := specQ_ok (pol := p_word_Right) hm (cf := cf_word_Right) (tab_ok specs_nil) fun a b r h => ⟨FUEL, g_word_Right FUEL a.1 a.2.1 (decRes_some h)⟩
def s_word_Mask_r : Sig := ⟨[2], [.ptr 0 0 0], [.cell WordT]⟩
def p_word_Mask : Pol := ⟨fun i => none, fun i => none, some [(2, (.own WordT))], [.keep], []⟩
def e_word_Mask : List EK := [.ty (.int .i64)]
def h_word_Mask : List HK := []
noncomputable def cf_word_Mask : CallF := mkCF [(57, c_word_Not), (56, c_word_Right)] [(57, [WordT]), (56, [WordT, (.int .i64)])]
noncomputable def ls_word_Mask (n : Nat) : Loops := fun i =>  none
theorem m_word_Mask (n : Nat) (a0 : Int) : runFT Try.prog cf_word_Mask p_word_Mask (ls_word_Mask n) Try.f55 (bodyOf Try.f55) (EK.encs e_word_Mask ((a0, ()), ()).1) (HK.encs h_word_Mask ((a0, ()), ()).2) = M_word_Mask n a0 := by kernel_rfl
theorem g_word_Mask (n : Nat) (a0 : Int) {r : Res} (h : M_word_Mask n a0 = some r) : runF Try.prog cf_word_Mask n p_word_Mask 55 (EK.encs e_word_Mask ((a0, ()), ()).1) (HK.encs h_word_Mask ((a0, ()), ()).2) = some r := by
  have hb : LOk Try.prog cf_word_Mask Try.f55.ntmps 0 n p_word_Mask (ls_word_Mask n) (bodyOf Try.f55) := ⟨trivial, ⟨trivial, trivial⟩⟩
  exact runFT_some Try.prog (c := bodyOf Try.f55) Try.func55 (show Try.f55.body = some (bodyOf Try.f55) from rfl) (show (1 : Nat) ≤ 10 by decide) hb ((m_word_Mask n a0).trans h) rfl (by kernel_rfl)
noncomputable def c_word_Mask : Spec := specQ e_word_Mask h_word_Mask ro_word_Mask rh_word_Mask fun a b => Q_word_Mask a.1
theorem k_word_Mask (hm : Try.prog.follows .mixedOrders = true) : SpecOk Try.prog 55 c_word_Mask := specQ_ok (pol := p_word_Mask) hm (cf := cf_word_Mask) (tab_ok (specs_cons (k_word_Not hm) (specs_cons (k_word_Right hm) specs_nil))) fun a b r h => ⟨FUEL, g_word_Mask FUEL a.1 (decRes_some h)⟩
def s_word_And_r : Sig := ⟨[4], [.ptr 0 0 0], [.cell WordT]⟩
def p_word_And : Pol := ⟨fun i => none, fun i => none, some [(4, (.own WordT))], [.keep], []⟩
def e_word_And : List EK := [.agg WordT, .agg WordT]
def h_word_And : List HK := []
noncomputable def cf_word_And : CallF := mkCF [] []
noncomputable def ls_word_And (n : Nat) : Loops := fun i =>  none
theorem m_word_And (n : Nat) (a0 : WordS) (a1 : WordS) : runFT Try.prog cf_word_And p_word_And (ls_word_And n) Try.f54 (bodyOf Try.f54) (EK.encs e_word_And ((a0, (a1, ())), ()).1) (HK.encs h_word_And ((a0, (a1, ())), ()).2) = M_word_And n a0 a1 := by kernel_rfl
theorem g_word_And (n : Nat) (a0 : WordS) (a1 : WordS) {r : Res} (h : M_word_And n a0 a1 = some r) : runF Try.prog cf_word_And n p_word_And 54 (EK.encs e_word_And ((a0, (a1, ())), ()).1) (HK.encs h_word_And ((a0, (a1, ())), ()).2) = some r := by
  have hb : LOk Try.prog cf_word_And Try.f54.ntmps 0 n p_word_And (ls_word_And n) (bodyOf Try.f54) := ⟨trivial, ⟨trivial, trivial⟩⟩
  exact runFT_some Try.prog (c := bodyOf Try.f54) Try.func54 (show Try.f54.body = some (bodyOf Try.f54) from rfl) (show (2 : Nat) ≤ 16 by decide) hb ((m_word_And n a0 a1).trans h) rfl (by kernel_rfl)
noncomputable def c_word_And : Spec := specQ e_word_And h_word_And ro_word_And rh_word_And fun a b => Q_word_And a.1 a.2.1
theorem k_word_And (hm : Try.prog.follows .mixedOrders = true) : SpecOk Try.prog 54 c_word_And := specQ_ok (pol := p_word_And) hm (cf := cf_word_And) (tab_ok specs_nil) fun a b r h => ⟨FUEL, g_word_And FUEL a.1 a.2.1 (decRes_some h)⟩
def s_word_Cut_r : Sig := ⟨[4], [.ptr 0 0 0], [.cell WordT]⟩
def p_word_Cut : Pol := ⟨fun i => none, fun i => none, some [(4, (.own WordT))], [.keep], []⟩
def e_word_Cut : List EK := [.agg WordT, .ty (.int .i64)]
def h_word_Cut : List HK := []
noncomputable def cf_word_Cut : CallF := mkCF [(55, c_word_Mask), (54, c_word_And)] [(55, [(.int .i64)]), (54, [WordT, WordT])]
noncomputable def ls_word_Cut (n : Nat) : Loops := fun i =>  none
theorem m_word_Cut (n : Nat) (a0 : WordS) (a1 : Int) : runFT Try.prog cf_word_Cut p_word_Cut (ls_word_Cut n) Try.f50 (bodyOf Try.f50) (EK.encs e_word_Cut ((a0, (a1, ())), ()).1) (HK.encs h_word_Cut ((a0, (a1, ())), ()).2) = M_word_Cut n a0 a1 := by kernel_rfl
theorem g_word_Cut (n : Nat) (a0 : WordS) (a1 : Int) {r : Res} (h : M_word_Cut n a0 a1 = some r) : runF Try.prog cf_word_Cut n p_word_Cut 50 (EK.encs e_word_Cut ((a0, (a1, ())), ()).1) (HK.encs h_word_Cut ((a0, (a1, ())), ()).2) = some r := by
  have hb : LOk Try.prog cf_word_Cut Try.f50.ntmps 0 n p_word_Cut (ls_word_Cut n) (bodyOf Try.f50) := ⟨trivial, ⟨trivial, trivial⟩⟩
  exact runFT_some Try.prog (c := bodyOf Try.f50) Try.func50 (show Try.f50.body = some (bodyOf Try.f50) from rfl) (show (2 : Nat) ≤ 9 by decide) hb ((m_word_Cut n a0 a1).trans h) rfl (by kernel_rfl)
noncomputable def c_word_Cut : Spec := specQ e_word_Cut h_word_Cut ro_word_Cut rh_word_Cut fun a b => Q_word_Cut a.1 a.2.1
theorem k_word_Cut (hm : Try.prog.follows .mixedOrders = true) : SpecOk Try.prog 50 c_word_Cut := specQ_ok (pol := p_word_Cut) hm (cf := cf_word_Cut) (tab_ok (specs_cons (k_word_Mask hm) (specs_cons (k_word_And hm) specs_nil))) fun a b r h => ⟨FUEL, g_word_Cut FUEL a.1 a.2.1 (decRes_some h)⟩
def s_field_Get_r : Sig := ⟨[6, 7], [.ptr 0 0 0, .ty (.int .i64)], [.cell WordT]⟩
def s_field_Get_h0 : Sig := ⟨[0, 1, 2, 6, 9, 10, 11, 33, 34], [.ty .str, .ty (.int .i64), .ty (.int .i64), .ptr 0 0 0, .ty (.int .i64), .ty (.int .i64), .ptr 1 0 0, .ty (.int .i64), .ty (.int .i64)], [.cell WordT, .cell WordT]⟩
def s_field_Get_t0 : Sig := ⟨[0, 1, 2, 6, 10, 11], [.ty .str, .ty (.int .i64), .ty (.int .i64), .ptr 0 0 0, .ty (.int .i64), .ptr 1 0 0], [.cell WordT, .cell WordT]⟩
def p_field_Get : Pol := ⟨fun i => if i = 0 then some [(0, .keep), (1, .keep), (2, .keep), (6, (.own WordT)), (9, .keep), (10, .keep), (11, (.own WordT)), (33, .keep), (34, .keep)] else none, fun i => if i = 0 then some [(0, .keep), (1, .keep), (2, .keep), (6, (.own WordT)), (10, .keep), (11, (.own WordT))] else none, some [(6, (.own WordT)), (7, .keep)], [.keep, .keep], []⟩
def e_field_Get : List EK := [.ty .str, .ty (.int .i64), .ty (.int .i64)]
def h_field_Get : List HK := []
noncomputable def cf_field_Get : CallF := mkCF [(46, c_field_may), (48, c_word_Left), (49, c_word_New), (47, c_word_Or), (50, c_word_Cut)] [(46, [.str, (.int .i64), (.int .i64)]), (48, [WordT, (.int .i64)]), (49, [(.int .u64)]), (47, [WordT, WordT]), (50, [WordT, (.int .i64)])]
noncomputable def ls_field_Get (n : Nat) : Loops := fun i => if i = 0 then some (loopT 0 (p_field_Get.head 0) s_field_Get_h0 fun K v => L_field_Get_0 n (fun z5 => K (.ex 0) (s_field_Get_t0.enc ((v.1.1, (v.1.2.1, (v.1.2.2.1, ((), (v.1.2.2.2.2.2.1, ((), ())))))), (v.2.1, (z5, ()))))) v.1.1 v.1.2.1 v.1.2.2.1 v.1.2.2.2.2.1 v.1.2.2.2.2.2.1 v.1.2.2.2.2.2.2.2.1 v.2.1 n v.1.2.2.2.2.2.2.2.2.1 v.2.2.1)
  else  none
noncomputable def b_field_Get_0 : Code := partOf (bodyOf Try.f39) [1, 1, 1, 1, 0, 1, 0, 0]
theorem t_field_Get_0 (n : Nat) (K : Cont) (rec : Sig.sem s_field_Get_h0 → Option Res) (v : Sig.sem s_field_Get_h0) : runT Try.prog cf_field_Get Try.f39.ntmps 0 p_field_Get (ls_field_Get n) b_field_Get_0 (s_field_Get_h0.enc v) (turnK 0 (p_field_Get.head 0) s_field_Get_h0 rec K) = F_field_Get_0 n (fun z5 => K (.ex 0) (s_field_Get_t0.enc ((v.1.1, (v.1.2.1, (v.1.2.2.1, ((), (v.1.2.2.2.2.2.1, ((), ())))))), (v.2.1, (z5, ()))))) v.1.1 v.1.2.1 v.1.2.2.1 v.1.2.2.2.2.1 v.1.2.2.2.2.2.1 v.1.2.2.2.2.2.2.2.1 v.2.1 (fun z6 z8 => rec ((v.1.1, (v.1.2.1, (v.1.2.2.1, ((), (v.1.2.2.2.2.1, (v.1.2.2.2.2.2.1, ((), (v.1.2.2.2.2.2.2.2.1, (z6, ()))))))))), (v.2.1, (z8, ())))) v.1.2.2.2.2.2.2.2.2.1 v.2.2.1 := by kernel_rfl
noncomputable def V_field_Get_0 (n : Nat) (K : Cont) (rec : Sig.sem s_field_Get_h0 → Option Res) (v : Sig.sem s_field_Get_h0) : Option Res := F_field_Get_0 n (fun z5 => K (.ex 0) (s_field_Get_t0.enc ((v.1.1, (v.1.2.1, (v.1.2.2.1, ((), (v.1.2.2.2.2.2.1, ((), ())))))), (v.2.1, (z5, ()))))) v.1.1 v.1.2.1 v.1.2.2.1 v.1.2.2.2.2.1 v.1.2.2.2.2.2.1 v.1.2.2.2.2.2.2.2.1 v.2.1 (fun z6 z8 => rec ((v.1.1, (v.1.2.1, (v.1.2.2.1, ((), (v.1.2.2.2.2.1, (v.1.2.2.2.2.2.1, ((), (v.1.2.2.2.2.2.2.2.1, (z6, ()))))))))), (v.2.1, (z8, ())))) v.1.2.2.2.2.2.2.2.2.1 v.2.2.1
noncomputable def W_field_Get_0 (n : Nat) (K : Cont) (m : Nat) (v : Sig.sem s_field_Get_h0) : Option Res := L_field_Get_0 n (fun z5 => K (.ex 0) (s_field_Get_t0.enc ((v.1.1, (v.1.2.1, (v.1.2.2.1, ((), (v.1.2.2.2.2.2.1, ((), ())))))), (v.2.1, (z5, ()))))) v.1.1 v.1.2.1 v.1.2.2.1 v.1.2.2.2.2.1 v.1.2.2.2.2.2.1 v.1.2.2.2.2.2.2.2.1 v.2.1 m v.1.2.2.2.2.2.2.2.2.1 v.2.2.1
theorem i_field_Get_0 (n : Nat) (K : Cont) : ∀ m v, iter (V_field_Get_0 n K) m v = W_field_Get_0 n K m v := by
  intro m
  induction m with
  | zero => intro v; rfl
  | succ m ih =>
    intro v
    show V_field_Get_0 n K (iter (V_field_Get_0 n K) m) v = V_field_Get_0 n K (W_field_Get_0 n K m) v
    rw [show iter (V_field_Get_0 n K) m = W_field_Get_0 n K m from funext ih]
theorem o_field_Get_0 (n : Nat) : ∀ L, ls_field_Get n 0 = some L → ∀ s K r, L s K = some r → ∃ x s', loopN (run Try.prog cf_field_Get Try.f39.ntmps 0 n p_field_Get none b_field_Get_0) (gc 0 (p_field_Get.head 0)) n s = some (x, s') ∧ K x s' = some r := by
  intro L hL s K r h
  have hL : some (loopT 0 (p_field_Get.head 0) s_field_Get_h0 fun K v => W_field_Get_0 n K n v) = some L := hL
  cases hL
  have hb : LOk Try.prog cf_field_Get Try.f39.ntmps 0 n p_field_Get (ls_field_Get n) b_field_Get_0 := ⟨trivial, ⟨⟨trivial, trivial⟩, ⟨⟨trivial, trivial⟩, trivial⟩⟩⟩
  refine loopT_ok hb (V_field_Get_0 n) (t_field_Get_0 n) n s K r ?_
  rw [← h]
  unfold loopT
  simp only [i_field_Get_0]
theorem m_field_Get (n : Nat) (a0 : ByteArray) (a1 : Int) (a2 : Int) : runFT Try.prog cf_field_Get p_field_Get (ls_field_Get n) Try.f39 (bodyOf Try.f39) (EK.encs e_field_Get ((a0, (a1, (a2, ()))), ()).1) (HK.encs h_field_Get ((a0, (a1, (a2, ()))), ()).2) = M_field_Get n a0 a1 a2 := by kernel_rfl
theorem g_field_Get (n : Nat) (a0 : ByteArray) (a1 : Int) (a2 : Int) {r : Res} (h : M_field_Get n a0 a1 a2 = some r) : runF Try.prog cf_field_Get n p_field_Get 39 (EK.encs e_field_Get ((a0, (a1, (a2, ()))), ()).1) (HK.encs h_field_Get ((a0, (a1, (a2, ()))), ()).2) = some r := by
  have hb : LOk Try.prog cf_field_Get Try.f39.ntmps 0 n p_field_Get (ls_field_Get n) (bodyOf Try.f39) := ⟨trivial, ⟨⟨trivial, ⟨trivial, ⟨⟨trivial, trivial⟩, trivial⟩⟩⟩, ⟨trivial, ⟨trivial, ⟨⟨trivial, (o_field_Get_0 n)⟩, ⟨trivial, ⟨trivial, ⟨trivial, trivial⟩⟩⟩⟩⟩⟩⟩⟩
  exact runFT_some Try.prog (c := bodyOf Try.f39) Try.func39 (show Try.f39.body = some (bodyOf Try.f39) from rfl) (show (3 : Nat) ≤ 70 by decide) hb ((m_field_Get n a0 a1 a2).trans h) rfl (by kernel_rfl)
noncomputable def c_field_Get : Spec := specQ e_field_Get h_field_Get ro_field_Get rh_field_Get fun a b => Q_field_Get a.1 a.2.1 a.2.2.1
theorem k_field_Get (hm : Try.prog.follows .mixedOrders = true) : SpecOk Try.prog 39 c_field_Get := specQ_ok (pol := p_field_Get) hm (cf := cf_field_Get) (tab_ok (specs_cons (k_field_may hm) (specs_cons (k_word_Left hm) (specs_cons (k_word_New hm) (specs_cons (k_word_Or hm) (specs_cons (k_word_Cut hm) specs_nil)))))) fun a b r h => ⟨FUEL, g_field_Get FUEL a.1 a.2.1 a.2.2.1 (decRes_some h)⟩
def s_walk_number_r : Sig := ⟨[8, 9], [.ty (.int .i64), .ty .bool], []⟩
def p_walk_number : Pol := ⟨fun i => none, fun i => none, some [(8, .keep), (9, .keep)], [.keep, .keep], []⟩
def e_walk_number : List EK := [.ty .str, .ty (.int .i64), .ty (.int .i64), .ty (.int .i64)]
def h_walk_number : List HK := []
noncomputable def cf_walk_number : CallF := mkCF [(39, c_field_Get)] [(39, [.str, (.int .i64), (.int .i64)])]
noncomputable def ls_walk_number (n : Nat) : Loops := fun i =>  none
theorem m_walk_number (n : Nat) (a0 : ByteArray) (a1 : Int) (a2 : Int) (a3 : Int) : runFT Try.prog cf_walk_number p_walk_number (ls_walk_number n) Try.f27 (bodyOf Try.f27) (EK.encs e_walk_number ((a0, (a1, (a2, (a3, ())))), ()).1) (HK.encs h_walk_number ((a0, (a1, (a2, (a3, ())))), ()).2) = M_walk_number n a0 a1 a2 a3 := by kernel_rfl
theorem g_walk_number (n : Nat) (a0 : ByteArray) (a1 : Int) (a2 : Int) (a3 : Int) {r : Res} (h : M_walk_number n a0 a1 a2 a3 = some r) : runF Try.prog cf_walk_number n p_walk_number 27 (EK.encs e_walk_number ((a0, (a1, (a2, (a3, ())))), ()).1) (HK.encs h_walk_number ((a0, (a1, (a2, (a3, ())))), ()).2) = some r := by
  have hb : LOk Try.prog cf_walk_number Try.f27.ntmps 0 n p_walk_number (ls_walk_number n) (bodyOf Try.f27) := ⟨trivial, ⟨⟨trivial, ⟨⟨trivial, trivial⟩, trivial⟩⟩, ⟨trivial, ⟨trivial, trivial⟩⟩⟩⟩
  exact runFT_some Try.prog (c := bodyOf Try.f27) Try.func27 (show Try.f27.body = some (bodyOf Try.f27) from rfl) (show (4 : Nat) ≤ 34 by decide) hb ((m_walk_number n a0 a1 a2 a3).trans h) rfl (by kernel_rfl)
noncomputable def c_walk_number : Spec := specQ e_walk_number h_walk_number ro_walk_number rh_walk_number fun a b => Q_walk_number a.1 a.2.1 a.2.2.1 a.2.2.2.1
theorem k_walk_number (hm : Try.prog.follows .mixedOrders = true) : SpecOk Try.prog 27 c_walk_number := specQ_ok (pol := p_walk_number) hm (cf := cf_walk_number) (tab_ok (specs_cons (k_field_Get hm) specs_nil)) fun a b r h => ⟨FUEL, g_walk_number FUEL a.1 a.2.1 a.2.2.1 a.2.2.2.1 (decRes_some h)⟩
def s_walk_Size_r : Sig := ⟨[6, 7], [.ty (.int .i64), .ty (.int .i64)], []⟩
def p_walk_Size : Pol := ⟨fun i => none, fun i => none, some [(6, .keep), (7, .keep)], [.keep, .keep], []⟩
def e_walk_Size : List EK := [.agg NodeT, .ty .str, .ty (.int .i64)]
def h_walk_Size : List HK := []
noncomputable def cf_walk_Size : CallF := mkCF [(26, c_walk_may), (27, c_walk_number)] [(26, [NodeT]), (27, [.str, (.int .i64), (.int .i64), (.int .i64)])]
noncomputable def ls_walk_Size (n : Nat) : Loops := fun i =>  none
theorem m_walk_Size (n : Nat) (a0 : NodeS) (a1 : ByteArray) (a2 : Int) : runFT Try.prog cf_walk_Size p_walk_Size (ls_walk_Size n) Try.f15 (bodyOf Try.f15) (EK.encs e_walk_Size ((a0, (a1, (a2, ()))), ()).1) (HK.encs h_walk_Size ((a0, (a1, (a2, ()))), ()).2) = M_walk_Size n a0 a1 a2 := by kernel_rfl
theorem g_walk_Size (n : Nat) (a0 : NodeS) (a1 : ByteArray) (a2 : Int) {r : Res} (h : M_walk_Size n a0 a1 a2 = some r) : runF Try.prog cf_walk_Size n p_walk_Size 15 (EK.encs e_walk_Size ((a0, (a1, (a2, ()))), ()).1) (HK.encs h_walk_Size ((a0, (a1, (a2, ()))), ()).2) = some r := by
  have hb : LOk Try.prog cf_walk_Size Try.f15.ntmps 0 n p_walk_Size (ls_walk_Size n) (bodyOf Try.f15) := ⟨trivial, ⟨⟨trivial, ⟨⟨trivial, trivial⟩, trivial⟩⟩, ⟨trivial, ⟨⟨trivial, ⟨⟨trivial, ⟨⟨trivial, ⟨⟨trivial, trivial⟩, trivial⟩⟩, trivial⟩⟩, trivial⟩⟩, ⟨⟨trivial, ⟨⟨trivial, trivial⟩, ⟨trivial, ⟨⟨trivial, trivial⟩, trivial⟩⟩⟩⟩, ⟨trivial, trivial⟩⟩⟩⟩⟩⟩
  exact runFT_some Try.prog (c := bodyOf Try.f15) Try.func15 (show Try.f15.body = some (bodyOf Try.f15) from rfl) (show (3 : Nat) ≤ 58 by decide) hb ((m_walk_Size n a0 a1 a2).trans h) rfl (by kernel_rfl)
noncomputable def c_walk_Size : Spec := specQ e_walk_Size h_walk_Size ro_walk_Size rh_walk_Size fun a b => Q_walk_Size a.1 a.2.1 a.2.2.1
theorem k_walk_Size (hm : Try.prog.follows .mixedOrders = true) : SpecOk Try.prog 15 c_walk_Size := specQ_ok (pol := p_walk_Size) hm (cf := cf_walk_Size) (tab_ok (specs_cons (k_walk_may hm) (specs_cons (k_walk_number hm) specs_nil))) fun a b r h => ⟨FUEL, g_walk_Size FUEL a.1 a.2.1 a.2.2.1 (decRes_some h)⟩
def s_graph_Next_h0 : Sig := ⟨[2, 7, 18, 19, 20], [.ty (.int .u32), .ptr 0 0 0, .ty (.slice ArmT), .ty (.int .i64), .ty (.int .i64)], [.cell NodeT]⟩
def s_graph_Next_r : Sig := ⟨[6], [.ty (.int .i64)], []⟩
def s_graph_Next_t0 : Sig := ⟨[7], [.ptr 0 0 0], [.cell NodeT]⟩
def p_graph_Next : Pol := ⟨fun i => if i = 0 then some [(2, .keep), (7, (.own NodeT)), (18, .keep), (19, .keep), (20, .keep)] else none, fun i => if i = 0 then some [(7, (.own NodeT))] else none, some [(6, .keep)], [.keep], []⟩
def e_graph_Next : List EK := [.ty (.slice NodeT), .ty (.int .i64), .ty (.int .u32)]
def h_graph_Next : List HK := []
noncomputable def cf_graph_Next : CallF := mkCF [(17, c_graph_Find)] [(17, [(.slice NodeT), (.int .i64)])]
noncomputable def ls_graph_Next (n : Nat) : Loops := fun i => if i = 0 then some (loopT 0 (p_graph_Next.head 0) s_graph_Next_h0 fun K v => L_graph_Next_0 n (fun z0 => K .rt (s_graph_Next_r.enc ((z0, ()), ()))) (fun _ => K (.ex 0) (s_graph_Next_t0.enc (((), ()), (v.2.1, ())))) v.1.1 v.1.2.2.1 v.1.2.2.2.1 v.2.1 n v.1.2.2.2.2.1)
  else  none
noncomputable def b_graph_Next_0 : Code := partOf (bodyOf Try.f19) [1, 1, 0, 1, 0, 0]
theorem t_graph_Next_0 (n : Nat) (K : Cont) (rec : Sig.sem s_graph_Next_h0 → Option Res) (v : Sig.sem s_graph_Next_h0) : runT Try.prog cf_graph_Next Try.f19.ntmps 0 p_graph_Next (ls_graph_Next n) b_graph_Next_0 (s_graph_Next_h0.enc v) (turnK 0 (p_graph_Next.head 0) s_graph_Next_h0 rec K) = F_graph_Next_0 n (fun z0 => K .rt (s_graph_Next_r.enc ((z0, ()), ()))) (fun _ => K (.ex 0) (s_graph_Next_t0.enc (((), ()), (v.2.1, ())))) v.1.1 v.1.2.2.1 v.1.2.2.2.1 v.2.1 (fun z3 => rec ((v.1.1, ((), (v.1.2.2.1, (v.1.2.2.2.1, (z3, ()))))), (v.2.1, ()))) v.1.2.2.2.2.1 := by kernel_rfl
noncomputable def V_graph_Next_0 (n : Nat) (K : Cont) (rec : Sig.sem s_graph_Next_h0 → Option Res) (v : Sig.sem s_graph_Next_h0) : Option Res := F_graph_Next_0 n (fun z0 => K .rt (s_graph_Next_r.enc ((z0, ()), ()))) (fun _ => K (.ex 0) (s_graph_Next_t0.enc (((), ()), (v.2.1, ())))) v.1.1 v.1.2.2.1 v.1.2.2.2.1 v.2.1 (fun z3 => rec ((v.1.1, ((), (v.1.2.2.1, (v.1.2.2.2.1, (z3, ()))))), (v.2.1, ()))) v.1.2.2.2.2.1
noncomputable def W_graph_Next_0 (n : Nat) (K : Cont) (m : Nat) (v : Sig.sem s_graph_Next_h0) : Option Res := L_graph_Next_0 n (fun z0 => K .rt (s_graph_Next_r.enc ((z0, ()), ()))) (fun _ => K (.ex 0) (s_graph_Next_t0.enc (((), ()), (v.2.1, ())))) v.1.1 v.1.2.2.1 v.1.2.2.2.1 v.2.1 m v.1.2.2.2.2.1
theorem i_graph_Next_0 (n : Nat) (K : Cont) : ∀ m v, iter (V_graph_Next_0 n K) m v = W_graph_Next_0 n K m v := by
  intro m
  induction m with
  | zero => intro v; rfl
  | succ m ih =>
    intro v
    show V_graph_Next_0 n K (iter (V_graph_Next_0 n K) m) v = V_graph_Next_0 n K (W_graph_Next_0 n K m) v
    rw [show iter (V_graph_Next_0 n K) m = W_graph_Next_0 n K m from funext ih]
theorem o_graph_Next_0 (n : Nat) : ∀ L, ls_graph_Next n 0 = some L → ∀ s K r, L s K = some r → ∃ x s', loopN (run Try.prog cf_graph_Next Try.f19.ntmps 0 n p_graph_Next none b_graph_Next_0) (gc 0 (p_graph_Next.head 0)) n s = some (x, s') ∧ K x s' = some r := by
  intro L hL s K r h
  have hL : some (loopT 0 (p_graph_Next.head 0) s_graph_Next_h0 fun K v => W_graph_Next_0 n K n v) = some L := hL
  cases hL
  have hb : LOk Try.prog cf_graph_Next Try.f19.ntmps 0 n p_graph_Next (ls_graph_Next n) b_graph_Next_0 := ⟨trivial, ⟨⟨trivial, trivial⟩, ⟨⟨trivial, ⟨trivial, ⟨⟨trivial, trivial⟩, trivial⟩⟩⟩, trivial⟩⟩⟩
  refine loopT_ok hb (V_graph_Next_0 n) (t_graph_Next_0 n) n s K r ?_
  rw [← h]
  unfold loopT
  simp only [i_graph_Next_0]
theorem m_graph_Next (n : Nat) (a0 : (List NodeS)) (a1 : Int) (a2 : Int) : runFT Try.prog cf_graph_Next p_graph_Next (ls_graph_Next n) Try.f19 (bodyOf Try.f19) (EK.encs e_graph_Next ((a0, (a1, (a2, ()))), ()).1) (HK.encs h_graph_Next ((a0, (a1, (a2, ()))), ()).2) = M_graph_Next n a0 a1 a2 := by kernel_rfl
theorem g_graph_Next (n : Nat) (a0 : (List NodeS)) (a1 : Int) (a2 : Int) {r : Res} (h : M_graph_Next n a0 a1 a2 = some r) : runF Try.prog cf_graph_Next n p_graph_Next 19 (EK.encs e_graph_Next ((a0, (a1, (a2, ()))), ()).1) (HK.encs h_graph_Next ((a0, (a1, (a2, ()))), ()).2) = some r := by
  have hb : LOk Try.prog cf_graph_Next Try.f19.ntmps 0 n p_graph_Next (ls_graph_Next n) (bodyOf Try.f19) := ⟨trivial, ⟨trivial, ⟨⟨trivial, (o_graph_Next_0 n)⟩, ⟨trivial, trivial⟩⟩⟩⟩
  exact runFT_some Try.prog (c := bodyOf Try.f19) Try.func19 (show Try.f19.body = some (bodyOf Try.f19) from rfl) (show (3 : Nat) ≤ 33 by decide) hb ((m_graph_Next n a0 a1 a2).trans h) rfl (by kernel_rfl)
noncomputable def c_graph_Next : Spec := specQ e_graph_Next h_graph_Next ro_graph_Next rh_graph_Next fun a b => Q_graph_Next a.1 a.2.1 a.2.2.1
theorem k_graph_Next (hm : Try.prog.follows .mixedOrders = true) : SpecOk Try.prog 19 c_graph_Next := specQ_ok (pol := p_graph_Next) hm (cf := cf_graph_Next) (tab_ok (specs_cons (k_graph_Find hm) specs_nil)) fun a b r h => ⟨FUEL, g_graph_Next FUEL a.1 a.2.1 a.2.2.1 (decRes_some h)⟩
def s_walk_next_r : Sig := ⟨[8, 9], [.ty (.int .i64), .ty (.int .i64)], []⟩
def p_walk_next : Pol := ⟨fun i => none, fun i => none, some [(8, .keep), (9, .keep)], [.keep, .keep], []⟩
def e_walk_next : List EK := [.ty (.slice NodeT), .agg NodeT, .ty .str, .ty (.int .i64)]
def h_walk_next : List HK := []
noncomputable def cf_walk_next : CallF := mkCF [(27, c_walk_number), (19, c_graph_Next)] [(27, [.str, (.int .i64), (.int .i64), (.int .i64)]), (19, [(.slice NodeT), (.int .i64), (.int .u32)])]
noncomputable def ls_walk_next (n : Nat) : Loops := fun i =>  none
theorem m_walk_next (n : Nat) (a0 : (List NodeS)) (a1 : NodeS) (a2 : ByteArray) (a3 : Int) : runFT Try.prog cf_walk_next p_walk_next (ls_walk_next n) Try.f38 (bodyOf Try.f38) (EK.encs e_walk_next ((a0, (a1, (a2, (a3, ())))), ()).1) (HK.encs h_walk_next ((a0, (a1, (a2, (a3, ())))), ()).2) = M_walk_next n a0 a1 a2 a3 := by kernel_rfl
theorem g_walk_next (n : Nat) (a0 : (List NodeS)) (a1 : NodeS) (a2 : ByteArray) (a3 : Int) {r : Res} (h : M_walk_next n a0 a1 a2 a3 = some r) : runF Try.prog cf_walk_next n p_walk_next 38 (EK.encs e_walk_next ((a0, (a1, (a2, (a3, ())))), ()).1) (HK.encs h_walk_next ((a0, (a1, (a2, (a3, ())))), ()).2) = some r := by
  have hb : LOk Try.prog cf_walk_next Try.f38.ntmps 0 n p_walk_next (ls_walk_next n) (bodyOf Try.f38) := ⟨trivial, ⟨trivial, ⟨⟨trivial, ⟨⟨trivial, ⟨trivial, ⟨trivial, ⟨⟨trivial, trivial⟩, trivial⟩⟩⟩⟩, trivial⟩⟩, ⟨trivial, ⟨⟨trivial, ⟨⟨trivial, trivial⟩, trivial⟩⟩, ⟨trivial, trivial⟩⟩⟩⟩⟩⟩
  exact runFT_some Try.prog (c := bodyOf Try.f38) Try.func38 (show Try.f38.body = some (bodyOf Try.f38) from rfl) (show (4 : Nat) ≤ 37 by decide) hb ((m_walk_next n a0 a1 a2 a3).trans h) rfl (by kernel_rfl)
noncomputable def c_walk_next : Spec := specQ e_walk_next h_walk_next ro_walk_next rh_walk_next fun a b => Q_walk_next a.1 a.2.1 a.2.2.1 a.2.2.2.1
theorem k_walk_next (hm : Try.prog.follows .mixedOrders = true) : SpecOk Try.prog 38 c_walk_next := specQ_ok (pol := p_walk_next) hm (cf := cf_walk_next) (tab_ok (specs_cons (k_walk_number hm) (specs_cons (k_graph_Next hm) specs_nil))) fun a b r h => ⟨FUEL, g_walk_next FUEL a.1 a.2.1 a.2.2.1 a.2.2.2.1 (decRes_some h)⟩
def s_walk_steps_1_h0 : Sig := ⟨[0, 1, 2, 4, 5, 6], [.yl 0, .ptr 5 0 0, .ptr 6 0 0, .ty (.int .i64), .ptr 8 0 0, .ty .bool], [.lp 0 [.junk, .junk, .junk, .junk, .junk, .junk, .junk, .ptr 1 0 0, .ptr 3 0 0, .ptr 4 0 0, .junk, .junk, .junk, .junk, .junk, .junk, .junk, .junk, .junk, .junk, .junk, .junk, .junk, .junk, .junk, .junk, .junk, .junk, .junk, .junk, .junk, .junk], .one false [.hs 7 0], .gone, .one true [.ty (.int .i64)], .one true [.ty (.int .i64)], .one true [.ty (.slice NodeT)], .one true [.ty .str], .row HeadT, .cell NodeT]⟩
def s_walk_steps_1_r : Sig := ⟨[], [], [.lp 0 [.junk, .junk, .junk, .junk, .junk, .junk, .junk, .ptr 1 0 0, .ptr 3 0 0, .ptr 4 0 0, .junk, .junk, .junk, .junk, .junk, .junk, .junk, .junk, .junk, .junk, .junk, .junk, .junk, .junk, .junk, .junk, .junk, .junk, .junk, .junk, .junk, .junk], .one false [.hs 7 0], .gone, .one true [.ty (.int .i64)], .one true [.ty (.int .i64)], .one true [.ty (.slice NodeT)], .one true [.ty .str], .row HeadT]⟩
def s_walk_steps_1_t0 : Sig := ⟨[], [], [.lp 0 [.junk, .junk, .junk, .junk, .junk, .junk, .junk, .ptr 1 0 0, .ptr 3 0 0, .ptr 4 0 0, .junk, .junk, .junk, .junk, .junk, .junk, .junk, .junk, .junk, .junk, .junk, .junk, .junk, .junk, .junk, .junk, .junk, .junk, .junk, .junk, .junk, .junk], .one false [.hs 7 0], .gone, .one true [.ty (.int .i64)], .one true [.ty (.int .i64)], .one true [.ty (.slice NodeT)], .one true [.ty .str], .row HeadT]⟩
def p_walk_steps_1 : Pol := ⟨fun i => if i = 0 then some [(0, .keep), (1, .keep), (2, .keep), (4, .keep), (5, (.own NodeT)), (6, .keep)] else none, fun i => if i = 0 then some [] else none, some [], [], [2]⟩
def e_walk_steps_1 : List EK := [.yl 0, .ptr 5 0 0, .ptr 6 0 0]
def h_walk_steps_1 : List HK := [.lp 0 [.junk, .junk, .junk, .junk, .junk, .junk, .junk, .ptr 1 0 0, .ptr 3 0 0, .ptr 4 0 0, .junk, .junk, .junk, .junk, .junk, .junk, .junk, .junk, .junk, .junk, .junk, .junk, .junk, .junk, .junk, .junk, .junk, .junk, .junk, .junk, .junk, .junk], .one false [.hs 2 0], .row HeadT, .one true [.ty (.int .i64)], .one true [.ty (.int .i64)], .one true [.ty (.slice NodeT)], .one true [.ty .str]]
noncomputable def cf_walk_steps_1 : CallF := mkCF [(17, c_graph_Find), (15, c_walk_Size), (38, c_walk_next)] [(17, [(.slice NodeT), (.int .i64)]), (15, [NodeT, .str, (.int .i64)]), (38, [(.slice NodeT), NodeT, .str, (.int .i64)])]
noncomputable def ls_walk_steps_1 (n : Nat) : Loops := fun i => if i = 0 then some (loopT 7 (p_walk_steps_1.head 0) s_walk_steps_1_h0 fun K v => L_walk_steps_1_0 n (fun z0 z1 z2 z5 => K .rt (s_walk_steps_1_r.enc ((), (((), ((), ((), ((), ((), ((), ((), ((), ((), ((), ((), ((), ((), ((), ((), ((), ((), ((), ((), ((), ((), ((), ((), ((), ((), ((), ((), ((), ((), ((), ((), ((), ())))))))))))))))))))))))))))))))), ((z0, ()), ((), ((z1, ()), ((z2, ()), ((v.2.2.2.2.2.2.1.1, ()), ((v.2.2.2.2.2.2.2.1.1, ()), (z5, ()))))))))))) (fun z0 z1 z2 z5 => K (.ex 0) (s_walk_steps_1_t0.enc ((), (((), ((), ((), ((), ((), ((), ((), ((), ((), ((), ((), ((), ((), ((), ((), ((), ((), ((), ((), ((), ((), ((), ((), ((), ((), ((), ((), ((), ((), ((), ((), ((), ())))))))))))))))))))))))))))))))), ((z0, ()), ((), ((z1, ()), ((z2, ()), ((v.2.2.2.2.2.2.1.1, ()), ((v.2.2.2.2.2.2.2.1.1, ()), (z5, ()))))))))))) v.2.2.2.2.2.2.1.1 v.2.2.2.2.2.2.2.1.1 n v.1.2.2.2.1 v.1.2.2.2.2.2.1 v.2.2.1.1 v.2.2.2.2.1.1 v.2.2.2.2.2.1.1 v.2.2.2.2.2.2.2.2.1 v.2.2.2.2.2.2.2.2.2.1)
  else  none
noncomputable def b_walk_steps_1_0 : Code := partOf (bodyOf Try.f37) [1, 1, 0, 0]
theorem t_walk_steps_1_0 (n : Nat) (K : Cont) (rec : Sig.sem s_walk_steps_1_h0 → Option Res) (v : Sig.sem s_walk_steps_1_h0) : runT Try.prog cf_walk_steps_1 Try.f37.ntmps 7 p_walk_steps_1 (ls_walk_steps_1 n) b_walk_steps_1_0 (s_walk_steps_1_h0.enc v) (turnK 7 (p_walk_steps_1.head 0) s_walk_steps_1_h0 rec K) = F_walk_steps_1_0 n (fun z0 z1 z2 z5 => K .rt (s_walk_steps_1_r.enc ((), (((), ((), ((), ((), ((), ((), ((), ((), ((), ((), ((), ((), ((), ((), ((), ((), ((), ((), ((), ((), ((), ((), ((), ((), ((), ((), ((), ((), ((), ((), ((), ((), ())))))))))))))))))))))))))))))))), ((z0, ()), ((), ((z1, ()), ((z2, ()), ((v.2.2.2.2.2.2.1.1, ()), ((v.2.2.2.2.2.2.2.1.1, ()), (z5, ()))))))))))) (fun z0 z1 z2 z5 => K (.ex 0) (s_walk_steps_1_t0.enc ((), (((), ((), ((), ((), ((), ((), ((), ((), ((), ((), ((), ((), ((), ((), ((), ((), ((), ((), ((), ((), ((), ((), ((), ((), ((), ((), ((), ((), ((), ((), ((), ((), ())))))))))))))))))))))))))))))))), ((z0, ()), ((), ((z1, ()), ((z2, ()), ((v.2.2.2.2.2.2.1.1, ()), ((v.2.2.2.2.2.2.2.1.1, ()), (z5, ()))))))))))) v.2.2.2.2.2.2.1.1 v.2.2.2.2.2.2.2.1.1 (fun z0 z1 z2 z3 z4 z7 z8 => rec (((), ((), ((), (z0, ((), (z1, ())))))), (((), ((), ((), ((), ((), ((), ((), ((), ((), ((), ((), ((), ((), ((), ((), ((), ((), ((), ((), ((), ((), ((), ((), ((), ((), ((), ((), ((), ((), ((), ((), ((), ())))))))))))))))))))))))))))))))), ((z2, ()), ((), ((z3, ()), ((z4, ()), ((v.2.2.2.2.2.2.1.1, ()), ((v.2.2.2.2.2.2.2.1.1, ()), (z7, (z8, ()))))))))))) v.1.2.2.2.1 v.1.2.2.2.2.2.1 v.2.2.1.1 v.2.2.2.2.1.1 v.2.2.2.2.2.1.1 v.2.2.2.2.2.2.2.2.1 v.2.2.2.2.2.2.2.2.2.1 := by kernel_rfl
noncomputable def V_walk_steps_1_0 (n : Nat) (K : Cont) (rec : Sig.sem s_walk_steps_1_h0 → Option Res) (v : Sig.sem s_walk_steps_1_h0) : Option Res := F_walk_steps_1_0 n (fun z0 z1 z2 z5 => K .rt (s_walk_steps_1_r.enc ((), (((), ((), ((), ((), ((), ((), ((), ((), ((), ((), ((), ((), ((), ((), ((), ((), ((), ((), ((), ((), ((), ((), ((), ((), ((), ((), ((), ((), ((), ((), ((), ((), ())))))))))))))))))))))))))))))))), ((z0, ()), ((), ((z1, ()), ((z2, ()), ((v.2.2.2.2.2.2.1.1, ()), ((v.2.2.2.2.2.2.2.1.1, ()), (z5, ()))))))))))) (fun z0 z1 z2 z5 => K (.ex 0) (s_walk_steps_1_t0.enc ((), (((), ((), ((), ((), ((), ((), ((), ((), ((), ((), ((), ((), ((), ((), ((), ((), ((), ((), ((), ((), ((), ((), ((), ((), ((), ((), ((), ((), ((), ((), ((), ((), ())))))))))))))))))))))))))))))))), ((z0, ()), ((), ((z1, ()), ((z2, ()), ((v.2.2.2.2.2.2.1.1, ()), ((v.2.2.2.2.2.2.2.1.1, ()), (z5, ()))))))))))) v.2.2.2.2.2.2.1.1 v.2.2.2.2.2.2.2.1.1 (fun z0 z1 z2 z3 z4 z7 z8 => rec (((), ((), ((), (z0, ((), (z1, ())))))), (((), ((), ((), ((), ((), ((), ((), ((), ((), ((), ((), ((), ((), ((), ((), ((), ((), ((), ((), ((), ((), ((), ((), ((), ((), ((), ((), ((), ((), ((), ((), ((), ())))))))))))))))))))))))))))))))), ((z2, ()), ((), ((z3, ()), ((z4, ()), ((v.2.2.2.2.2.2.1.1, ()), ((v.2.2.2.2.2.2.2.1.1, ()), (z7, (z8, ()))))))))))) v.1.2.2.2.1 v.1.2.2.2.2.2.1 v.2.2.1.1 v.2.2.2.2.1.1 v.2.2.2.2.2.1.1 v.2.2.2.2.2.2.2.2.1 v.2.2.2.2.2.2.2.2.2.1
noncomputable def W_walk_steps_1_0 (n : Nat) (K : Cont) (m : Nat) (v : Sig.sem s_walk_steps_1_h0) : Option Res := L_walk_steps_1_0 n (fun z0 z1 z2 z5 => K .rt (s_walk_steps_1_r.enc ((), (((), ((), ((), ((), ((), ((), ((), ((), ((), ((), ((), ((), ((), ((), ((), ((), ((), ((), ((), ((), ((), ((), ((), ((), ((), ((), ((), ((), ((), ((), ((), ((), ())))))))))))))))))))))))))))))))), ((z0, ()), ((), ((z1, ()), ((z2, ()), ((v.2.2.2.2.2.2.1.1, ()), ((v.2.2.2.2.2.2.2.1.1, ()), (z5, ()))))))))))) (fun z0 z1 z2 z5 => K (.ex 0) (s_walk_steps_1_t0.enc ((), (((), ((), ((), ((), ((), ((), ((), ((), ((), ((), ((), ((), ((), ((), ((), ((), ((), ((), ((), ((), ((), ((), ((), ((), ((), ((), ((), ((), ((), ((), ((), ((), ())))))))))))))))))))))))))))))))), ((z0, ()), ((), ((z1, ()), ((z2, ()), ((v.2.2.2.2.2.2.1.1, ()), ((v.2.2.2.2.2.2.2.1.1, ()), (z5, ()))))))))))) v.2.2.2.2.2.2.1.1 v.2.2.2.2.2.2.2.1.1 m v.1.2.2.2.1 v.1.2.2.2.2.2.1 v.2.2.1.1 v.2.2.2.2.1.1 v.2.2.2.2.2.1.1 v.2.2.2.2.2.2.2.2.1 v.2.2.2.2.2.2.2.2.2.1
theorem i_walk_steps_1_0 (n : Nat) (K : Cont) : ∀ m v, iter (V_walk_steps_1_0 n K) m v = W_walk_steps_1_0 n K m v := by
  intro m
  induction m with
  | zero => intro v; rfl
  | succ m ih =>
    intro v
    show V_walk_steps_1_0 n K (iter (V_walk_steps_1_0 n K) m) v = V_walk_steps_1_0 n K (W_walk_steps_1_0 n K m) v
    rw [show iter (V_walk_steps_1_0 n K) m = W_walk_steps_1_0 n K m from funext ih]
theorem o_walk_steps_1_0 (n : Nat) : ∀ L, ls_walk_steps_1 n 0 = some L → ∀ s K r, L s K = some r → ∃ x s', loopN (run Try.prog cf_walk_steps_1 Try.f37.ntmps 7 n p_walk_steps_1 none b_walk_steps_1_0) (gc 7 (p_walk_steps_1.head 0)) n s = some (x, s') ∧ K x s' = some r := by
  intro L hL s K r h
  have hL : some (loopT 7 (p_walk_steps_1.head 0) s_walk_steps_1_h0 fun K v => W_walk_steps_1_0 n K n v) = some L := hL
  cases hL
  have hb : LOk Try.prog cf_walk_steps_1 Try.f37.ntmps 7 n p_walk_steps_1 (ls_walk_steps_1 n) b_walk_steps_1_0 := ⟨⟨trivial, ⟨trivial, trivial⟩⟩, ⟨trivial, ⟨⟨trivial, ⟨⟨trivial, trivial⟩, trivial⟩⟩, ⟨trivial, ⟨⟨trivial, ⟨trivial, trivial⟩⟩, ⟨trivial, trivial⟩⟩⟩⟩⟩⟩
  refine loopT_ok hb (V_walk_steps_1_0 n) (t_walk_steps_1_0 n) n s K r ?_
  rw [← h]
  unfold loopT
  simp only [i_walk_steps_1_0]
theorem m_walk_steps_1 (n : Nat) (a0 : Nat) (a1 : (List HeadS)) (a2 : Int) (a3 : Int) (a4 : (List NodeS)) (a5 : ByteArray) : runFT Try.prog cf_walk_steps_1 p_walk_steps_1 (ls_walk_steps_1 n) Try.f37 (bodyOf Try.f37) (EK.encs e_walk_steps_1 (((), ((), ((), ()))), (((), ((), ((), ((), ((), ((), ((), ((), ((), ((), ((), ((), ((), ((), ((), ((), ((), ((), ((), ((), ((), ((), ((), ((), ((), ((), ((), ((), ((), ((), ((), ((), ())))))))))))))))))))))))))))))))), ((a0, ()), (a1, ((a2, ()), ((a3, ()), ((a4, ()), ((a5, ()), ())))))))).1) (HK.encs h_walk_steps_1 (((), ((), ((), ()))), (((), ((), ((), ((), ((), ((), ((), ((), ((), ((), ((), ((), ((), ((), ((), ((), ((), ((), ((), ((), ((), ((), ((), ((), ((), ((), ((), ((), ((), ((), ((), ((), ())))))))))))))))))))))))))))))))), ((a0, ()), (a1, ((a2, ()), ((a3, ()), ((a4, ()), ((a5, ()), ())))))))).2) = M_walk_steps_1 n a0 a1 a2 a3 a4 a5 := by kernel_rfl
theorem g_walk_steps_1 (n : Nat) (a0 : Nat) (a1 : (List HeadS)) (a2 : Int) (a3 : Int) (a4 : (List NodeS)) (a5 : ByteArray) {r : Res} (h : M_walk_steps_1 n a0 a1 a2 a3 a4 a5 = some r) : runF Try.prog cf_walk_steps_1 n p_walk_steps_1 37 (EK.encs e_walk_steps_1 (((), ((), ((), ()))), (((), ((), ((), ((), ((), ((), ((), ((), ((), ((), ((), ((), ((), ((), ((), ((), ((), ((), ((), ((), ((), ((), ((), ((), ((), ((), ((), ((), ((), ((), ((), ((), ())))))))))))))))))))))))))))))))), ((a0, ()), (a1, ((a2, ()), ((a3, ()), ((a4, ()), ((a5, ()), ())))))))).1) (HK.encs h_walk_steps_1 (((), ((), ((), ()))), (((), ((), ((), ((), ((), ((), ((), ((), ((), ((), ((), ((), ((), ((), ((), ((), ((), ((), ((), ((), ((), ((), ((), ((), ((), ((), ((), ((), ((), ((), ((), ((), ())))))))))))))))))))))))))))))))), ((a0, ()), (a1, ((a2, ()), ((a3, ()), ((a4, ()), ((a5, ()), ())))))))).2) = some r := by
  have hb : LOk Try.prog cf_walk_steps_1 Try.f37.ntmps 7 n p_walk_steps_1 (ls_walk_steps_1 n) (bodyOf Try.f37) := ⟨trivial, ⟨trivial, (o_walk_steps_1_0 n)⟩⟩
  exact runFT_some Try.prog (c := bodyOf Try.f37) Try.func37 (show Try.f37.body = some (bodyOf Try.f37) from rfl) (show (3 : Nat) ≤ 59 by decide) hb ((m_walk_steps_1 n a0 a1 a2 a3 a4 a5).trans h) rfl (by kernel_rfl)
noncomputable def c_walk_steps_1 : Spec := specQ e_walk_steps_1 h_walk_steps_1 ro_walk_steps_1 rh_walk_steps_1 fun a b => Q_walk_steps_1 b.2.1.1 b.2.2.1 b.2.2.2.1.1 b.2.2.2.2.1.1 b.2.2.2.2.2.1.1 b.2.2.2.2.2.2.1.1
theorem k_walk_steps_1 (hm : Try.prog.follows .mixedOrders = true) : SpecOk Try.prog 37 c_walk_steps_1 := specQ_ok (pol := p_walk_steps_1) hm (cf := cf_walk_steps_1) (tab_ok (specs_cons (k_graph_Find hm) (specs_cons (k_walk_Size hm) (specs_cons (k_walk_next hm) specs_nil)))) fun a b r h => ⟨FUEL, g_walk_steps_1 FUEL b.2.1.1 b.2.2.1 b.2.2.2.1.1 b.2.2.2.2.1.1 b.2.2.2.2.2.1.1 b.2.2.2.2.2.2.1.1 (decRes_some h)⟩
def s_walk_Walk_r : Sig := ⟨[4, 5, 6], [.hs 0 0, .ty (.int .i64), .ty (.int .i64)], [.row HeadT]⟩
def p_walk_Walk : Pol := ⟨fun i => none, fun i => none, some [(4, (.own HeadT)), (5, .keep), (6, .keep)], [(.own HeadT), .keep, .keep], []⟩
def e_walk_Walk : List EK := [.ty (.slice NodeT), .ty .str]
def h_walk_Walk : List HK := []
noncomputable def cf_walk_Walk : CallF := { (mkCFs [(16, c_graph_May), (25, c_walk_steps), (37, c_walk_steps_1)] [(16, [(.slice NodeT)]), (25, [(.slice NodeT), .str])] 12 0 [7, 8, 9]) with grow := [25] }
noncomputable def ls_walk_Walk (n : Nat) : Loops := fun i =>  none
theorem m_walk_Walk (n : Nat) (a0 : (List NodeS)) (a1 : ByteArray) : runFT Try.prog cf_walk_Walk p_walk_Walk (ls_walk_Walk n) Try.f12 (bodyOf Try.f12) (EK.encs e_walk_Walk ((a0, (a1, ())), ()).1) (HK.encs h_walk_Walk ((a0, (a1, ())), ()).2) = M_walk_Walk n a0 a1 := by kernel_rfl
theorem g_walk_Walk (n : Nat) (a0 : (List NodeS)) (a1 : ByteArray) {r : Res} (h : M_walk_Walk n a0 a1 = some r) : runF Try.prog cf_walk_Walk n p_walk_Walk 12 (EK.encs e_walk_Walk ((a0, (a1, ())), ()).1) (HK.encs h_walk_Walk ((a0, (a1, ())), ()).2) = some r := by
  have hb : LOk Try.prog cf_walk_Walk Try.f12.ntmps 0 n p_walk_Walk (ls_walk_Walk n) (bodyOf Try.f12) := ⟨trivial, ⟨⟨trivial, ⟨⟨trivial, trivial⟩, trivial⟩⟩, ⟨trivial, ⟨trivial, ⟨⟨trivial, trivial⟩, ⟨trivial, trivial⟩⟩⟩⟩⟩⟩
  exact runFT_some Try.prog (c := bodyOf Try.f12) Try.func12 (show Try.f12.body = some (bodyOf Try.f12) from rfl) (show (2 : Nat) ≤ 32 by decide) hb ((m_walk_Walk n a0 a1).trans h) rfl (by kernel_rfl)
noncomputable def c_walk_Walk : Spec := specQ e_walk_Walk h_walk_Walk ro_walk_Walk rh_walk_Walk fun a b => Q_walk_Walk a.1 a.2.1
theorem k_walk_Walk (hm : Try.prog.follows .mixedOrders = true) : SpecOk Try.prog 12 c_walk_Walk := specQ_ok (pol := p_walk_Walk) hm (cf := cf_walk_Walk) (CallSound.grow <| tabs_ok Try.func12 (show Try.f12.body = some (bodyOf Try.f12) from rfl) (RfOk.seq trivial (RfOk.seq (RfOk.seq trivial (RfOk.cond (RfOk.seq trivial trivial) trivial)) (RfOk.seq trivial (RfOk.seq trivial (RfOk.seq (RfOk.seq trivial (RfOk.block (RfOk.range (by kernel_rfl)))) (RfOk.seq trivial trivial)))))) (specs_cons (k_graph_May hm) (specs_cons (k_walk_steps hm) (specs_cons (k_walk_steps_1 hm) specs_nil)))) fun a b r h => ⟨FUEL, g_walk_Walk FUEL a.1 a.2.1 (decRes_some h)⟩
def s_turnoutref16_Heads_r : Sig := ⟨[4], [.ty .bool], []⟩
def s_turnoutref16_Heads_h0 : Sig := ⟨[0, 1, 5], [.ty (.slice HeadT), .ty (.slice HeadT), .ty (.int .i64)], []⟩
def s_turnoutref16_Heads_t0 : Sig := ⟨[], [], []⟩
def p_turnoutref16_Heads : Pol := ⟨fun i => if i = 0 then some [(0, .keep), (1, .keep), (5, .keep)] else none, fun i => if i = 0 then some [] else none, some [(4, .keep)], [.keep], []⟩
def e_turnoutref16_Heads : List EK := [.ty (.slice HeadT), .ty (.slice HeadT)]
def h_turnoutref16_Heads : List HK := []
noncomputable def cf_turnoutref16_Heads : CallF := mkCF [] []
noncomputable def ls_turnoutref16_Heads (n : Nat) : Loops := fun i => if i = 0 then some (loopT 0 (p_turnoutref16_Heads.head 0) s_turnoutref16_Heads_h0 fun K v => L_turnoutref16_Heads_0 n (fun z0 => K .rt (s_turnoutref16_Heads_r.enc ((z0, ()), ()))) (fun _ => K (.ex 0) (s_turnoutref16_Heads_t0.enc ((), ()))) v.1.1 v.1.2.1 n v.1.2.2.1)
  else  none
noncomputable def b_turnoutref16_Heads_0 : Code := partOf (bodyOf Try.f13) [1, 1, 0, 1, 0, 0]
theorem t_turnoutref16_Heads_0 (n : Nat) (K : Cont) (rec : Sig.sem s_turnoutref16_Heads_h0 → Option Res) (v : Sig.sem s_turnoutref16_Heads_h0) : runT Try.prog cf_turnoutref16_Heads Try.f13.ntmps 0 p_turnoutref16_Heads (ls_turnoutref16_Heads n) b_turnoutref16_Heads_0 (s_turnoutref16_Heads_h0.enc v) (turnK 0 (p_turnoutref16_Heads.head 0) s_turnoutref16_Heads_h0 rec K) = F_turnoutref16_Heads_0 n (fun z0 => K .rt (s_turnoutref16_Heads_r.enc ((z0, ()), ()))) (fun _ => K (.ex 0) (s_turnoutref16_Heads_t0.enc ((), ()))) v.1.1 v.1.2.1 (fun z2 => rec ((v.1.1, (v.1.2.1, (z2, ()))), ())) v.1.2.2.1 := by kernel_rfl
noncomputable def V_turnoutref16_Heads_0 (n : Nat) (K : Cont) (rec : Sig.sem s_turnoutref16_Heads_h0 → Option Res) (v : Sig.sem s_turnoutref16_Heads_h0) : Option Res := F_turnoutref16_Heads_0 n (fun z0 => K .rt (s_turnoutref16_Heads_r.enc ((z0, ()), ()))) (fun _ => K (.ex 0) (s_turnoutref16_Heads_t0.enc ((), ()))) v.1.1 v.1.2.1 (fun z2 => rec ((v.1.1, (v.1.2.1, (z2, ()))), ())) v.1.2.2.1
noncomputable def W_turnoutref16_Heads_0 (n : Nat) (K : Cont) (m : Nat) (v : Sig.sem s_turnoutref16_Heads_h0) : Option Res := L_turnoutref16_Heads_0 n (fun z0 => K .rt (s_turnoutref16_Heads_r.enc ((z0, ()), ()))) (fun _ => K (.ex 0) (s_turnoutref16_Heads_t0.enc ((), ()))) v.1.1 v.1.2.1 m v.1.2.2.1
theorem i_turnoutref16_Heads_0 (n : Nat) (K : Cont) : ∀ m v, iter (V_turnoutref16_Heads_0 n K) m v = W_turnoutref16_Heads_0 n K m v := by
  intro m
  induction m with
  | zero => intro v; rfl
  | succ m ih =>
    intro v
    show V_turnoutref16_Heads_0 n K (iter (V_turnoutref16_Heads_0 n K) m) v = V_turnoutref16_Heads_0 n K (W_turnoutref16_Heads_0 n K m) v
    rw [show iter (V_turnoutref16_Heads_0 n K) m = W_turnoutref16_Heads_0 n K m from funext ih]
theorem o_turnoutref16_Heads_0 (n : Nat) : ∀ L, ls_turnoutref16_Heads n 0 = some L → ∀ s K r, L s K = some r → ∃ x s', loopN (run Try.prog cf_turnoutref16_Heads Try.f13.ntmps 0 n p_turnoutref16_Heads none b_turnoutref16_Heads_0) (gc 0 (p_turnoutref16_Heads.head 0)) n s = some (x, s') ∧ K x s' = some r := by
  intro L hL s K r h
  have hL : some (loopT 0 (p_turnoutref16_Heads.head 0) s_turnoutref16_Heads_h0 fun K v => W_turnoutref16_Heads_0 n K n v) = some L := hL
  cases hL
  have hb : LOk Try.prog cf_turnoutref16_Heads Try.f13.ntmps 0 n p_turnoutref16_Heads (ls_turnoutref16_Heads n) b_turnoutref16_Heads_0 := ⟨⟨trivial, ⟨trivial, trivial⟩⟩, ⟨⟨trivial, ⟨⟨trivial, trivial⟩, trivial⟩⟩, trivial⟩⟩
  refine loopT_ok hb (V_turnoutref16_Heads_0 n) (t_turnoutref16_Heads_0 n) n s K r ?_
  rw [← h]
  unfold loopT
  simp only [i_turnoutref16_Heads_0]
theorem m_turnoutref16_Heads (n : Nat) (a0 : (List HeadS)) (a1 : (List HeadS)) : runFT Try.prog cf_turnoutref16_Heads p_turnoutref16_Heads (ls_turnoutref16_Heads n) Try.f13 (bodyOf Try.f13) (EK.encs e_turnoutref16_Heads ((a0, (a1, ())), ()).1) (HK.encs h_turnoutref16_Heads ((a0, (a1, ())), ()).2) = M_turnoutref16_Heads n a0 a1 := by kernel_rfl
theorem g_turnoutref16_Heads (n : Nat) (a0 : (List HeadS)) (a1 : (List HeadS)) {r : Res} (h : M_turnoutref16_Heads n a0 a1 = some r) : runF Try.prog cf_turnoutref16_Heads n p_turnoutref16_Heads 13 (EK.encs e_turnoutref16_Heads ((a0, (a1, ())), ()).1) (HK.encs h_turnoutref16_Heads ((a0, (a1, ())), ()).2) = some r := by
  have hb : LOk Try.prog cf_turnoutref16_Heads Try.f13.ntmps 0 n p_turnoutref16_Heads (ls_turnoutref16_Heads n) (bodyOf Try.f13) := ⟨trivial, ⟨⟨trivial, ⟨⟨trivial, trivial⟩, trivial⟩⟩, ⟨⟨trivial, (o_turnoutref16_Heads_0 n)⟩, ⟨trivial, trivial⟩⟩⟩⟩
  exact runFT_some Try.prog (c := bodyOf Try.f13) Try.func13 (show Try.f13.body = some (bodyOf Try.f13) from rfl) (show (2 : Nat) ≤ 26 by decide) hb ((m_turnoutref16_Heads n a0 a1).trans h) rfl (by kernel_rfl)
noncomputable def c_turnoutref16_Heads : Spec := specQ e_turnoutref16_Heads h_turnoutref16_Heads ro_turnoutref16_Heads rh_turnoutref16_Heads fun a b => Q_turnoutref16_Heads a.1 a.2.1
theorem k_turnoutref16_Heads (hm : Try.prog.follows .mixedOrders = true) : SpecOk Try.prog 13 c_turnoutref16_Heads := specQ_ok (pol := p_turnoutref16_Heads) hm (cf := cf_turnoutref16_Heads) (tab_ok specs_nil) fun a b r h => ⟨FUEL, g_turnoutref16_Heads FUEL a.1 a.2.1 (decRes_some h)⟩
def s_turnoutlaw16_is_r : Sig := ⟨[8], [.ty .bool], []⟩
def p_turnoutlaw16_is : Pol := ⟨fun i => none, fun i => none, some [(8, .keep)], [.keep], []⟩
def e_turnoutlaw16_is : List EK := [.ty .str, .ty (.int .i64), .ty (.int .i64), .ty (.slice HeadT)]
def h_turnoutlaw16_is : List HK := []
noncomputable def cf_turnoutlaw16_is : CallF := mkCF [(14, c_turnoutlaw16_nodes), (12, c_walk_Walk), (13, c_turnoutref16_Heads)] [(14, []), (12, [(.slice NodeT), .str]), (13, [(.slice HeadT), (.slice HeadT)])]
noncomputable def ls_turnoutlaw16_is (n : Nat) : Loops := fun i =>  none
theorem m_turnoutlaw16_is (n : Nat) (a0 : ByteArray) (a1 : Int) (a2 : Int) (a3 : (List HeadS)) : runFT Try.prog cf_turnoutlaw16_is p_turnoutlaw16_is (ls_turnoutlaw16_is n) Try.f21 (bodyOf Try.f21) (EK.encs e_turnoutlaw16_is ((a0, (a1, (a2, (a3, ())))), ()).1) (HK.encs h_turnoutlaw16_is ((a0, (a1, (a2, (a3, ())))), ()).2) = M_turnoutlaw16_is n a0 a1 a2 a3 := by kernel_rfl
theorem g_turnoutlaw16_is (n : Nat) (a0 : ByteArray) (a1 : Int) (a2 : Int) (a3 : (List HeadS)) {r : Res} (h : M_turnoutlaw16_is n a0 a1 a2 a3 = some r) : runF Try.prog cf_turnoutlaw16_is n p_turnoutlaw16_is 21 (EK.encs e_turnoutlaw16_is ((a0, (a1, (a2, (a3, ())))), ()).1) (HK.encs h_turnoutlaw16_is ((a0, (a1, (a2, (a3, ())))), ()).2) = some r := by
  have hb : LOk Try.prog cf_turnoutlaw16_is Try.f21.ntmps 0 n p_turnoutlaw16_is (ls_turnoutlaw16_is n) (bodyOf Try.f21) := ⟨trivial, ⟨trivial, ⟨trivial, trivial⟩⟩⟩
  exact runFT_some Try.prog (c := bodyOf Try.f21) Try.func21 (show Try.f21.body = some (bodyOf Try.f21) from rfl) (show (4 : Nat) ≤ 32 by decide) hb ((m_turnoutlaw16_is n a0 a1 a2 a3).trans h) rfl (by kernel_rfl)
noncomputable def c_turnoutlaw16_is : Spec := specQ e_turnoutlaw16_is h_turnoutlaw16_is ro_turnoutlaw16_is rh_turnoutlaw16_is fun a b => Q_turnoutlaw16_is a.1 a.2.1 a.2.2.1 a.2.2.2.1
theorem k_turnoutlaw16_is (hm : Try.prog.follows .mixedOrders = true) : SpecOk Try.prog 21 c_turnoutlaw16_is := specQ_ok (pol := p_turnoutlaw16_is) hm (cf := cf_turnoutlaw16_is) (tab_ok (specs_cons (k_turnoutlaw16_nodes hm) (specs_cons (k_walk_Walk hm) (specs_cons (k_turnoutref16_Heads hm) specs_nil)))) fun a b r h => ⟨FUEL, g_turnoutlaw16_is FUEL a.1 a.2.1 a.2.2.1 a.2.2.2.1 (decRes_some h)⟩
def s_turnoutlaw16_awake_r : Sig := ⟨[0], [.ty .bool], []⟩
def p_turnoutlaw16_awake : Pol := ⟨fun i => none, fun i => none, some [(0, .keep)], [.keep], []⟩
def e_turnoutlaw16_awake : List EK := []
def h_turnoutlaw16_awake : List HK := []
noncomputable def cf_turnoutlaw16_awake : CallF := mkCF [(21, c_turnoutlaw16_is)] [(21, [.str, (.int .i64), (.int .i64), (.slice HeadT)])]
noncomputable def ls_turnoutlaw16_awake (n : Nat) : Loops := fun i =>  none
theorem m_turnoutlaw16_awake (n : Nat) : runFT Try.prog cf_turnoutlaw16_awake p_turnoutlaw16_awake (ls_turnoutlaw16_awake n) Try.f10 (bodyOf Try.f10) (EK.encs e_turnoutlaw16_awake ((), ()).1) (HK.encs h_turnoutlaw16_awake ((), ()).2) = M_turnoutlaw16_awake n := by kernel_rfl
theorem g_turnoutlaw16_awake (n : Nat) {r : Res} (h : M_turnoutlaw16_awake n = some r) : runF Try.prog cf_turnoutlaw16_awake n p_turnoutlaw16_awake 10 (EK.encs e_turnoutlaw16_awake ((), ()).1) (HK.encs h_turnoutlaw16_awake ((), ()).2) = some r := by
  have hb : LOk Try.prog cf_turnoutlaw16_awake Try.f10.ntmps 0 n p_turnoutlaw16_awake (ls_turnoutlaw16_awake n) (bodyOf Try.f10) := ⟨trivial, ⟨trivial, ⟨trivial, trivial⟩⟩⟩
  exact runFT_some Try.prog (c := bodyOf Try.f10) Try.func10 (show Try.f10.body = some (bodyOf Try.f10) from rfl) (show (0 : Nat) ≤ 20 by decide) hb ((m_turnoutlaw16_awake n).trans h) rfl (by kernel_rfl)
noncomputable def c_turnoutlaw16_awake : Spec := specQ e_turnoutlaw16_awake h_turnoutlaw16_awake ro_turnoutlaw16_awake rh_turnoutlaw16_awake fun a b => Q_turnoutlaw16_awake
theorem k_turnoutlaw16_awake (hm : Try.prog.follows .mixedOrders = true) : SpecOk Try.prog 10 c_turnoutlaw16_awake := specQ_ok (pol := p_turnoutlaw16_awake) hm (cf := cf_turnoutlaw16_awake) (tab_ok (specs_cons (k_turnoutlaw16_is hm) specs_nil)) fun a b r h => ⟨FUEL, g_turnoutlaw16_awake FUEL (decRes_some h)⟩
def s_turnoutref15_Form_r : Sig := ⟨[2], [.ty .bool], []⟩
def s_turnoutref15_Form_h0 : Sig := ⟨[1, 3, 4], [.ptr 0 0 0, .ty (.int .u64), .ty (.int .i64)], [.cell NodeT]⟩
def s_turnoutref15_Form_t0 : Sig := ⟨[1, 3], [.ptr 0 0 0, .ty (.int .u64)], [.cell NodeT]⟩
def s_turnoutref15_Form_h2 : Sig := ⟨[1, 3, 5], [.ptr 0 0 0, .ty (.int .u64), .ty (.int .i64)], [.cell NodeT]⟩
def s_turnoutref15_Form_t2 : Sig := ⟨[], [], []⟩
def p_turnoutref15_Form : Pol := ⟨fun i => if i = 0 then some [(1, (.own NodeT)), (3, .keep), (4, .keep)] else if i = 2 then some [(1, (.own NodeT)), (3, .keep), (5, .keep)] else none, fun i => if i = 0 then some [(1, (.own NodeT)), (3, .keep)] else if i = 2 then some [] else none, some [(2, .keep)], [.keep], []⟩
def e_turnoutref15_Form : List EK := [.agg NodeT]
def h_turnoutref15_Form : List HK := []
noncomputable def cf_turnoutref15_Form : CallF := mkCF [] []
noncomputable def ls_turnoutref15_Form (n : Nat) : Loops := fun i => if i = 0 then some (loopT 0 (p_turnoutref15_Form.head 0) s_turnoutref15_Form_h0 fun K v => L_turnoutref15_Form_0 n (fun z0 => K (.ex 0) (s_turnoutref15_Form_t0.enc (((), (z0, ())), (v.2.1, ())))) v.2.1 n v.1.2.1 v.1.2.2.1)
  else if i = 2 then some (loopT 0 (p_turnoutref15_Form.head 2) s_turnoutref15_Form_h2 fun K v => L_turnoutref15_Form_2 n (fun z0 => K .rt (s_turnoutref15_Form_r.enc ((z0, ()), ()))) (fun _ => K (.ex 2) (s_turnoutref15_Form_t2.enc ((), ()))) v.1.2.1 v.2.1 n v.1.2.2.1)
  else  none
noncomputable def b_turnoutref15_Form_0 : Code := partOf (bodyOf Try.f31) [1, 1, 1, 1, 1, 0, 1, 0, 0]
theorem t_turnoutref15_Form_0 (n : Nat) (K : Cont) (rec : Sig.sem s_turnoutref15_Form_h0 → Option Res) (v : Sig.sem s_turnoutref15_Form_h0) : runT Try.prog cf_turnoutref15_Form Try.f31.ntmps 0 p_turnoutref15_Form (ls_turnoutref15_Form n) b_turnoutref15_Form_0 (s_turnoutref15_Form_h0.enc v) (turnK 0 (p_turnoutref15_Form.head 0) s_turnoutref15_Form_h0 rec K) = F_turnoutref15_Form_0 n (fun z0 => K (.ex 0) (s_turnoutref15_Form_t0.enc (((), (z0, ())), (v.2.1, ())))) v.2.1 (fun z0 z1 => rec (((), (z0, (z1, ()))), (v.2.1, ()))) v.1.2.1 v.1.2.2.1 := by kernel_rfl
noncomputable def V_turnoutref15_Form_0 (n : Nat) (K : Cont) (rec : Sig.sem s_turnoutref15_Form_h0 → Option Res) (v : Sig.sem s_turnoutref15_Form_h0) : Option Res := F_turnoutref15_Form_0 n (fun z0 => K (.ex 0) (s_turnoutref15_Form_t0.enc (((), (z0, ())), (v.2.1, ())))) v.2.1 (fun z0 z1 => rec (((), (z0, (z1, ()))), (v.2.1, ()))) v.1.2.1 v.1.2.2.1
noncomputable def W_turnoutref15_Form_0 (n : Nat) (K : Cont) (m : Nat) (v : Sig.sem s_turnoutref15_Form_h0) : Option Res := L_turnoutref15_Form_0 n (fun z0 => K (.ex 0) (s_turnoutref15_Form_t0.enc (((), (z0, ())), (v.2.1, ())))) v.2.1 m v.1.2.1 v.1.2.2.1
theorem i_turnoutref15_Form_0 (n : Nat) (K : Cont) : ∀ m v, iter (V_turnoutref15_Form_0 n K) m v = W_turnoutref15_Form_0 n K m v := by
  intro m
  induction m with
  | zero => intro v; rfl
  | succ m ih =>
    intro v
    show V_turnoutref15_Form_0 n K (iter (V_turnoutref15_Form_0 n K) m) v = V_turnoutref15_Form_0 n K (W_turnoutref15_Form_0 n K m) v
    rw [show iter (V_turnoutref15_Form_0 n K) m = W_turnoutref15_Form_0 n K m from funext ih]
theorem o_turnoutref15_Form_0 (n : Nat) : ∀ L, ls_turnoutref15_Form n 0 = some L → ∀ s K r, L s K = some r → ∃ x s', loopN (run Try.prog cf_turnoutref15_Form Try.f31.ntmps 0 n p_turnoutref15_Form none b_turnoutref15_Form_0) (gc 0 (p_turnoutref15_Form.head 0)) n s = some (x, s') ∧ K x s' = some r := by
  intro L hL s K r h
  have hL : some (loopT 0 (p_turnoutref15_Form.head 0) s_turnoutref15_Form_h0 fun K v => W_turnoutref15_Form_0 n K n v) = some L := hL
  cases hL
  have hb : LOk Try.prog cf_turnoutref15_Form Try.f31.ntmps 0 n p_turnoutref15_Form (ls_turnoutref15_Form n) b_turnoutref15_Form_0 := ⟨⟨trivial, ⟨trivial, trivial⟩⟩, ⟨trivial, trivial⟩⟩
  refine loopT_ok hb (V_turnoutref15_Form_0 n) (t_turnoutref15_Form_0 n) n s K r ?_
  rw [← h]
  unfold loopT
  simp only [i_turnoutref15_Form_0]
noncomputable def b_turnoutref15_Form_2 : Code := partOf (bodyOf Try.f31) [1, 1, 1, 1, 1, 1, 0, 1, 0, 0]
theorem t_turnoutref15_Form_2 (n : Nat) (K : Cont) (rec : Sig.sem s_turnoutref15_Form_h2 → Option Res) (v : Sig.sem s_turnoutref15_Form_h2) : runT Try.prog cf_turnoutref15_Form Try.f31.ntmps 0 p_turnoutref15_Form (ls_turnoutref15_Form n) b_turnoutref15_Form_2 (s_turnoutref15_Form_h2.enc v) (turnK 0 (p_turnoutref15_Form.head 2) s_turnoutref15_Form_h2 rec K) = F_turnoutref15_Form_2 n (fun z0 => K .rt (s_turnoutref15_Form_r.enc ((z0, ()), ()))) (fun _ => K (.ex 2) (s_turnoutref15_Form_t2.enc ((), ()))) v.1.2.1 v.2.1 (fun z1 => rec (((), (v.1.2.1, (z1, ()))), (v.2.1, ()))) v.1.2.2.1 := by kernel_rfl
noncomputable def V_turnoutref15_Form_2 (n : Nat) (K : Cont) (rec : Sig.sem s_turnoutref15_Form_h2 → Option Res) (v : Sig.sem s_turnoutref15_Form_h2) : Option Res := F_turnoutref15_Form_2 n (fun z0 => K .rt (s_turnoutref15_Form_r.enc ((z0, ()), ()))) (fun _ => K (.ex 2) (s_turnoutref15_Form_t2.enc ((), ()))) v.1.2.1 v.2.1 (fun z1 => rec (((), (v.1.2.1, (z1, ()))), (v.2.1, ()))) v.1.2.2.1
noncomputable def W_turnoutref15_Form_2 (n : Nat) (K : Cont) (m : Nat) (v : Sig.sem s_turnoutref15_Form_h2) : Option Res := L_turnoutref15_Form_2 n (fun z0 => K .rt (s_turnoutref15_Form_r.enc ((z0, ()), ()))) (fun _ => K (.ex 2) (s_turnoutref15_Form_t2.enc ((), ()))) v.1.2.1 v.2.1 m v.1.2.2.1
theorem i_turnoutref15_Form_2 (n : Nat) (K : Cont) : ∀ m v, iter (V_turnoutref15_Form_2 n K) m v = W_turnoutref15_Form_2 n K m v := by
  intro m
  induction m with
  | zero => intro v; rfl
  | succ m ih =>
    intro v
    show V_turnoutref15_Form_2 n K (iter (V_turnoutref15_Form_2 n K) m) v = V_turnoutref15_Form_2 n K (W_turnoutref15_Form_2 n K m) v
    rw [show iter (V_turnoutref15_Form_2 n K) m = W_turnoutref15_Form_2 n K m from funext ih]
theorem o_turnoutref15_Form_2 (n : Nat) : ∀ L, ls_turnoutref15_Form n 2 = some L → ∀ s K r, L s K = some r → ∃ x s', loopN (run Try.prog cf_turnoutref15_Form Try.f31.ntmps 0 n p_turnoutref15_Form none b_turnoutref15_Form_2) (gc 0 (p_turnoutref15_Form.head 2)) n s = some (x, s') ∧ K x s' = some r := by
  intro L hL s K r h
  have hL : some (loopT 0 (p_turnoutref15_Form.head 2) s_turnoutref15_Form_h2 fun K v => W_turnoutref15_Form_2 n K n v) = some L := hL
  cases hL
  have hb : LOk Try.prog cf_turnoutref15_Form Try.f31.ntmps 0 n p_turnoutref15_Form (ls_turnoutref15_Form n) b_turnoutref15_Form_2 := ⟨⟨trivial, ⟨trivial, trivial⟩⟩, ⟨⟨trivial, ⟨trivial, ⟨⟨trivial, trivial⟩, trivial⟩⟩⟩, trivial⟩⟩
  refine loopT_ok hb (V_turnoutref15_Form_2 n) (t_turnoutref15_Form_2 n) n s K r ?_
  rw [← h]
  unfold loopT
  simp only [i_turnoutref15_Form_2]
theorem m_turnoutref15_Form (n : Nat) (a0 : NodeS) : runFT Try.prog cf_turnoutref15_Form p_turnoutref15_Form (ls_turnoutref15_Form n) Try.f31 (bodyOf Try.f31) (EK.encs e_turnoutref15_Form ((a0, ()), ()).1) (HK.encs h_turnoutref15_Form ((a0, ()), ()).2) = M_turnoutref15_Form n a0 := by kernel_rfl
theorem g_turnoutref15_Form (n : Nat) (a0 : NodeS) {r : Res} (h : M_turnoutref15_Form n a0 = some r) : runF Try.prog cf_turnoutref15_Form n p_turnoutref15_Form 31 (EK.encs e_turnoutref15_Form ((a0, ()), ()).1) (HK.encs h_turnoutref15_Form ((a0, ()), ()).2) = some r := by
  have hb : LOk Try.prog cf_turnoutref15_Form Try.f31.ntmps 0 n p_turnoutref15_Form (ls_turnoutref15_Form n) (bodyOf Try.f31) := ⟨trivial, ⟨⟨trivial, ⟨⟨trivial, trivial⟩, trivial⟩⟩, ⟨⟨trivial, ⟨⟨trivial, trivial⟩, trivial⟩⟩, ⟨⟨trivial, ⟨⟨trivial, trivial⟩, trivial⟩⟩, ⟨trivial, ⟨⟨trivial, (o_turnoutref15_Form_0 n)⟩, ⟨⟨trivial, (o_turnoutref15_Form_2 n)⟩, ⟨trivial, trivial⟩⟩⟩⟩⟩⟩⟩⟩
  exact runFT_some Try.prog (c := bodyOf Try.f31) Try.func31 (show Try.f31.body = some (bodyOf Try.f31) from rfl) (show (1 : Nat) ≤ 179 by decide) hb ((m_turnoutref15_Form n a0).trans h) rfl (by kernel_rfl)
noncomputable def c_turnoutref15_Form : Spec := specQ e_turnoutref15_Form h_turnoutref15_Form ro_turnoutref15_Form rh_turnoutref15_Form fun a b => Q_turnoutref15_Form a.1
theorem k_turnoutref15_Form (hm : Try.prog.follows .mixedOrders = true) : SpecOk Try.prog 31 c_turnoutref15_Form := specQ_ok (pol := p_turnoutref15_Form) hm (cf := cf_turnoutref15_Form) (tab_ok specs_nil) fun a b r h => ⟨FUEL, g_turnoutref15_Form FUEL a.1 (decRes_some h)⟩
def s_turnoutref15_Goes_h0 : Sig := ⟨[1, 3, 4], [.ptr 0 0 0, .hs 1 0, .ty (.int .i64)], [.cell NodeT, .row (.int .i64)]⟩
def s_turnoutref15_Goes_t0 : Sig := ⟨[1, 3], [.ptr 0 0 0, .hs 1 0], [.cell NodeT, .row (.int .i64)]⟩
def s_turnoutref15_Goes_r : Sig := ⟨[2], [.hs 0 0], [.row (.int .i64)]⟩
def p_turnoutref15_Goes : Pol := ⟨fun i => if i = 0 then some [(1, (.own NodeT)), (3, (.own (.int .i64))), (4, .keep)] else none, fun i => if i = 0 then some [(1, (.own NodeT)), (3, (.own (.int .i64)))] else none, some [(2, (.own (.int .i64)))], [(.own (.int .i64))], []⟩
def e_turnoutref15_Goes : List EK := [.agg NodeT]
def h_turnoutref15_Goes : List HK := []
noncomputable def cf_turnoutref15_Goes : CallF := mkCF [] []
noncomputable def ls_turnoutref15_Goes (n : Nat) : Loops := fun i => if i = 0 then some (loopT 0 (p_turnoutref15_Goes.head 0) s_turnoutref15_Goes_h0 fun K v => L_turnoutref15_Goes_0 n (fun z0 z2 => K (.ex 0) (s_turnoutref15_Goes_t0.enc (((), (z0, ())), (v.2.1, (z2, ()))))) v.2.1 n v.1.2.1 v.1.2.2.1 v.2.2.1)
  else  none
noncomputable def b_turnoutref15_Goes_0 : Code := partOf (bodyOf Try.f32) [1, 1, 0, 1, 0, 0]
theorem t_turnoutref15_Goes_0 (n : Nat) (K : Cont) (rec : Sig.sem s_turnoutref15_Goes_h0 → Option Res) (v : Sig.sem s_turnoutref15_Goes_h0) : runT Try.prog cf_turnoutref15_Goes Try.f32.ntmps 0 p_turnoutref15_Goes (ls_turnoutref15_Goes n) b_turnoutref15_Goes_0 (s_turnoutref15_Goes_h0.enc v) (turnK 0 (p_turnoutref15_Goes.head 0) s_turnoutref15_Goes_h0 rec K) = F_turnoutref15_Goes_0 n (fun z0 z2 => K (.ex 0) (s_turnoutref15_Goes_t0.enc (((), (z0, ())), (v.2.1, (z2, ()))))) v.2.1 (fun z0 z1 z3 => rec (((), (z0, (z1, ()))), (v.2.1, (z3, ())))) v.1.2.1 v.1.2.2.1 v.2.2.1 := by kernel_rfl
noncomputable def V_turnoutref15_Goes_0 (n : Nat) (K : Cont) (rec : Sig.sem s_turnoutref15_Goes_h0 → Option Res) (v : Sig.sem s_turnoutref15_Goes_h0) : Option Res := F_turnoutref15_Goes_0 n (fun z0 z2 => K (.ex 0) (s_turnoutref15_Goes_t0.enc (((), (z0, ())), (v.2.1, (z2, ()))))) v.2.1 (fun z0 z1 z3 => rec (((), (z0, (z1, ()))), (v.2.1, (z3, ())))) v.1.2.1 v.1.2.2.1 v.2.2.1
noncomputable def W_turnoutref15_Goes_0 (n : Nat) (K : Cont) (m : Nat) (v : Sig.sem s_turnoutref15_Goes_h0) : Option Res := L_turnoutref15_Goes_0 n (fun z0 z2 => K (.ex 0) (s_turnoutref15_Goes_t0.enc (((), (z0, ())), (v.2.1, (z2, ()))))) v.2.1 m v.1.2.1 v.1.2.2.1 v.2.2.1
theorem i_turnoutref15_Goes_0 (n : Nat) (K : Cont) : ∀ m v, iter (V_turnoutref15_Goes_0 n K) m v = W_turnoutref15_Goes_0 n K m v := by
  intro m
  induction m with
  | zero => intro v; rfl
  | succ m ih =>
    intro v
    show V_turnoutref15_Goes_0 n K (iter (V_turnoutref15_Goes_0 n K) m) v = V_turnoutref15_Goes_0 n K (W_turnoutref15_Goes_0 n K m) v
    rw [show iter (V_turnoutref15_Goes_0 n K) m = W_turnoutref15_Goes_0 n K m from funext ih]
theorem o_turnoutref15_Goes_0 (n : Nat) : ∀ L, ls_turnoutref15_Goes n 0 = some L → ∀ s K r, L s K = some r → ∃ x s', loopN (run Try.prog cf_turnoutref15_Goes Try.f32.ntmps 0 n p_turnoutref15_Goes none b_turnoutref15_Goes_0) (gc 0 (p_turnoutref15_Goes.head 0)) n s = some (x, s') ∧ K x s' = some r := by
  intro L hL s K r h
  have hL : some (loopT 0 (p_turnoutref15_Goes.head 0) s_turnoutref15_Goes_h0 fun K v => W_turnoutref15_Goes_0 n K n v) = some L := hL
  cases hL
  have hb : LOk Try.prog cf_turnoutref15_Goes Try.f32.ntmps 0 n p_turnoutref15_Goes (ls_turnoutref15_Goes n) b_turnoutref15_Goes_0 := ⟨⟨trivial, ⟨trivial, trivial⟩⟩, ⟨trivial, trivial⟩⟩
  refine loopT_ok hb (V_turnoutref15_Goes_0 n) (t_turnoutref15_Goes_0 n) n s K r ?_
  rw [← h]
  unfold loopT
  simp only [i_turnoutref15_Goes_0]
theorem m_turnoutref15_Goes (n : Nat) (a0 : NodeS) : runFT Try.prog cf_turnoutref15_Goes p_turnoutref15_Goes (ls_turnoutref15_Goes n) Try.f32 (bodyOf Try.f32) (EK.encs e_turnoutref15_Goes ((a0, ()), ()).1) (HK.encs h_turnoutref15_Goes ((a0, ()), ()).2) = M_turnoutref15_Goes n a0 := by kernel_rfl
theorem g_turnoutref15_Goes (n : Nat) (a0 : NodeS) {r : Res} (h : M_turnoutref15_Goes n a0 = some r) : runF Try.prog cf_turnoutref15_Goes n p_turnoutref15_Goes 32 (EK.encs e_turnoutref15_Goes ((a0, ()), ()).1) (HK.encs h_turnoutref15_Goes ((a0, ()), ()).2) = some r := by
  have hb : LOk Try.prog cf_turnoutref15_Goes Try.f32.ntmps 0 n p_turnoutref15_Goes (ls_turnoutref15_Goes n) (bodyOf Try.f32) := ⟨trivial, ⟨trivial, ⟨⟨trivial, (o_turnoutref15_Goes_0 n)⟩, ⟨trivial, trivial⟩⟩⟩⟩
  exact runFT_some Try.prog (c := bodyOf Try.f32) Try.func32 (show Try.f32.body = some (bodyOf Try.f32) from rfl) (show (1 : Nat) ≤ 26 by decide) hb ((m_turnoutref15_Goes n a0).trans h) rfl (by kernel_rfl)
noncomputable def c_turnoutref15_Goes : Spec := specQ e_turnoutref15_Goes h_turnoutref15_Goes ro_turnoutref15_Goes rh_turnoutref15_Goes fun a b => Q_turnoutref15_Goes a.1
theorem k_turnoutref15_Goes (hm : Try.prog.follows .mixedOrders = true) : SpecOk Try.prog 32 c_turnoutref15_Goes := specQ_ok (pol := p_turnoutref15_Goes) hm (cf := cf_turnoutref15_Goes) (tab_ok specs_nil) fun a b r h => ⟨FUEL, g_turnoutref15_Goes FUEL a.1 (decRes_some h)⟩
def s_turnoutref15_Find_h0 : Sig := ⟨[0, 1, 4, 6], [.ty (.slice NodeT), .ty (.int .i64), .ptr 0 0 0, .ty (.int .i64)], [.cell NodeT]⟩
def s_turnoutref15_Find_r : Sig := ⟨[4, 5], [.ptr 0 0 0, .ty .bool], [.cell NodeT]⟩
def s_turnoutref15_Find_t0 : Sig := ⟨[4], [.ptr 0 0 0], [.cell NodeT]⟩
def p_turnoutref15_Find : Pol := ⟨fun i => if i = 0 then some [(0, .keep), (1, .keep), (4, (.own NodeT)), (6, .keep)] else none, fun i => if i = 0 then some [(4, (.own NodeT))] else none, some [(4, (.own NodeT)), (5, .keep)], [.keep, .keep], []⟩
def e_turnoutref15_Find : List EK := [.ty (.slice NodeT), .ty (.int .i64)]
def h_turnoutref15_Find : List HK := []
noncomputable def cf_turnoutref15_Find : CallF := mkCF [] []
noncomputable def ls_turnoutref15_Find (n : Nat) : Loops := fun i => if i = 0 then some (loopT 0 (p_turnoutref15_Find.head 0) s_turnoutref15_Find_h0 fun K v => L_turnoutref15_Find_0 n (fun z0 z1 => K .rt (s_turnoutref15_Find_r.enc (((), (z0, ())), (z1, ())))) (fun _ => K (.ex 0) (s_turnoutref15_Find_t0.enc (((), ()), (v.2.1, ())))) v.1.1 v.1.2.1 v.2.1 n v.1.2.2.2.1)
  else  none
noncomputable def b_turnoutref15_Find_0 : Code := partOf (bodyOf Try.f33) [1, 0, 1, 0, 0]
theorem t_turnoutref15_Find_0 (n : Nat) (K : Cont) (rec : Sig.sem s_turnoutref15_Find_h0 → Option Res) (v : Sig.sem s_turnoutref15_Find_h0) : runT Try.prog cf_turnoutref15_Find Try.f33.ntmps 0 p_turnoutref15_Find (ls_turnoutref15_Find n) b_turnoutref15_Find_0 (s_turnoutref15_Find_h0.enc v) (turnK 0 (p_turnoutref15_Find.head 0) s_turnoutref15_Find_h0 rec K) = F_turnoutref15_Find_0 n (fun z0 z1 => K .rt (s_turnoutref15_Find_r.enc (((), (z0, ())), (z1, ())))) (fun _ => K (.ex 0) (s_turnoutref15_Find_t0.enc (((), ()), (v.2.1, ())))) v.1.1 v.1.2.1 v.2.1 (fun z2 => rec ((v.1.1, (v.1.2.1, ((), (z2, ())))), (v.2.1, ()))) v.1.2.2.2.1 := by kernel_rfl
noncomputable def V_turnoutref15_Find_0 (n : Nat) (K : Cont) (rec : Sig.sem s_turnoutref15_Find_h0 → Option Res) (v : Sig.sem s_turnoutref15_Find_h0) : Option Res := F_turnoutref15_Find_0 n (fun z0 z1 => K .rt (s_turnoutref15_Find_r.enc (((), (z0, ())), (z1, ())))) (fun _ => K (.ex 0) (s_turnoutref15_Find_t0.enc (((), ()), (v.2.1, ())))) v.1.1 v.1.2.1 v.2.1 (fun z2 => rec ((v.1.1, (v.1.2.1, ((), (z2, ())))), (v.2.1, ()))) v.1.2.2.2.1
noncomputable def W_turnoutref15_Find_0 (n : Nat) (K : Cont) (m : Nat) (v : Sig.sem s_turnoutref15_Find_h0) : Option Res := L_turnoutref15_Find_0 n (fun z0 z1 => K .rt (s_turnoutref15_Find_r.enc (((), (z0, ())), (z1, ())))) (fun _ => K (.ex 0) (s_turnoutref15_Find_t0.enc (((), ()), (v.2.1, ())))) v.1.1 v.1.2.1 v.2.1 m v.1.2.2.2.1
theorem i_turnoutref15_Find_0 (n : Nat) (K : Cont) : ∀ m v, iter (V_turnoutref15_Find_0 n K) m v = W_turnoutref15_Find_0 n K m v := by
  intro m
  induction m with
  | zero => intro v; rfl
  | succ m ih =>
    intro v
    show V_turnoutref15_Find_0 n K (iter (V_turnoutref15_Find_0 n K) m) v = V_turnoutref15_Find_0 n K (W_turnoutref15_Find_0 n K m) v
    rw [show iter (V_turnoutref15_Find_0 n K) m = W_turnoutref15_Find_0 n K m from funext ih]
theorem o_turnoutref15_Find_0 (n : Nat) : ∀ L, ls_turnoutref15_Find n 0 = some L → ∀ s K r, L s K = some r → ∃ x s', loopN (run Try.prog cf_turnoutref15_Find Try.f33.ntmps 0 n p_turnoutref15_Find none b_turnoutref15_Find_0) (gc 0 (p_turnoutref15_Find.head 0)) n s = some (x, s') ∧ K x s' = some r := by
  intro L hL s K r h
  have hL : some (loopT 0 (p_turnoutref15_Find.head 0) s_turnoutref15_Find_h0 fun K v => W_turnoutref15_Find_0 n K n v) = some L := hL
  cases hL
  have hb : LOk Try.prog cf_turnoutref15_Find Try.f33.ntmps 0 n p_turnoutref15_Find (ls_turnoutref15_Find n) b_turnoutref15_Find_0 := ⟨⟨trivial, ⟨trivial, trivial⟩⟩, ⟨⟨trivial, ⟨⟨trivial, trivial⟩, trivial⟩⟩, trivial⟩⟩
  refine loopT_ok hb (V_turnoutref15_Find_0 n) (t_turnoutref15_Find_0 n) n s K r ?_
  rw [← h]
  unfold loopT
  simp only [i_turnoutref15_Find_0]
theorem m_turnoutref15_Find (n : Nat) (a0 : (List NodeS)) (a1 : Int) : runFT Try.prog cf_turnoutref15_Find p_turnoutref15_Find (ls_turnoutref15_Find n) Try.f33 (bodyOf Try.f33) (EK.encs e_turnoutref15_Find ((a0, (a1, ())), ()).1) (HK.encs h_turnoutref15_Find ((a0, (a1, ())), ()).2) = M_turnoutref15_Find n a0 a1 := by kernel_rfl
theorem g_turnoutref15_Find (n : Nat) (a0 : (List NodeS)) (a1 : Int) {r : Res} (h : M_turnoutref15_Find n a0 a1 = some r) : runF Try.prog cf_turnoutref15_Find n p_turnoutref15_Find 33 (EK.encs e_turnoutref15_Find ((a0, (a1, ())), ()).1) (HK.encs h_turnoutref15_Find ((a0, (a1, ())), ()).2) = some r := by
  have hb : LOk Try.prog cf_turnoutref15_Find Try.f33.ntmps 0 n p_turnoutref15_Find (ls_turnoutref15_Find n) (bodyOf Try.f33) := ⟨trivial, ⟨⟨trivial, (o_turnoutref15_Find_0 n)⟩, ⟨trivial, trivial⟩⟩⟩
  exact runFT_some Try.prog (c := bodyOf Try.f33) Try.func33 (show Try.f33.body = some (bodyOf Try.f33) from rfl) (show (2 : Nat) ≤ 25 by decide) hb ((m_turnoutref15_Find n a0 a1).trans h) rfl (by kernel_rfl)
noncomputable def c_turnoutref15_Find : Spec := specQ e_turnoutref15_Find h_turnoutref15_Find ro_turnoutref15_Find rh_turnoutref15_Find fun a b => Q_turnoutref15_Find a.1 a.2.1
theorem k_turnoutref15_Find (hm : Try.prog.follows .mixedOrders = true) : SpecOk Try.prog 33 c_turnoutref15_Find := specQ_ok (pol := p_turnoutref15_Find) hm (cf := cf_turnoutref15_Find) (tab_ok specs_nil) fun a b r h => ⟨FUEL, g_turnoutref15_Find FUEL a.1 a.2.1 (decRes_some h)⟩
def s_turnoutref15_ranks_h0 : Sig := ⟨[0, 1, 5, 6], [.ty (.slice NodeT), .ty (.int .i64), .hs 0 0, .ty (.int .i64)], [.row (.int .i64)]⟩
def s_turnoutref15_ranks_h2 : Sig := ⟨[0, 1, 5, 6, 7, 8], [.ty (.slice NodeT), .ty (.int .i64), .hs 0 0, .ty (.int .i64), .hs 1 0, .ty (.int .i64)], [.row (.int .i64), .row (.int .i64)]⟩
def s_turnoutref15_ranks_h4 : Sig := ⟨[0, 1, 5, 6, 7, 8, 9, 10], [.ty (.slice NodeT), .ty (.int .i64), .hs 0 0, .ty (.int .i64), .hs 1 0, .ty (.int .i64), .hs 2 0, .ty (.int .i64)], [.row (.int .i64), .row (.int .i64), .row (.int .i64)]⟩
def s_turnoutref15_ranks_h6 : Sig := ⟨[0, 1, 5, 6, 7, 8, 9, 10, 11], [.ty (.slice NodeT), .ty (.int .i64), .hs 0 0, .ty (.int .i64), .hs 1 0, .ty (.int .i64), .hs 2 0, .ty (.int .i64), .ty (.int .i64)], [.row (.int .i64), .row (.int .i64), .row (.int .i64)]⟩
def s_turnoutref15_ranks_t6 : Sig := ⟨[0, 1, 5, 6, 7, 8, 9, 10], [.ty (.slice NodeT), .ty (.int .i64), .hs 0 0, .ty (.int .i64), .hs 1 0, .ty (.int .i64), .hs 2 0, .ty (.int .i64)], [.row (.int .i64), .row (.int .i64), .row (.int .i64)]⟩
def s_turnoutref15_ranks_t4 : Sig := ⟨[0, 1, 5, 6, 7, 8], [.ty (.slice NodeT), .ty (.int .i64), .hs 0 0, .ty (.int .i64), .hs 1 0, .ty (.int .i64)], [.row (.int .i64), .row (.int .i64)]⟩
def s_turnoutref15_ranks_t2 : Sig := ⟨[0, 1, 6, 7], [.ty (.slice NodeT), .ty (.int .i64), .ty (.int .i64), .hs 0 0], [.row (.int .i64)]⟩
def s_turnoutref15_ranks_t0 : Sig := ⟨[5], [.hs 0 0], [.row (.int .i64)]⟩
def s_turnoutref15_ranks_r : Sig := ⟨[4], [.hs 0 0], [.row (.int .i64)]⟩
def p_turnoutref15_ranks : Pol := ⟨fun i => if i = 0 then some [(0, .keep), (1, .keep), (5, (.own (.int .i64))), (6, .keep)] else if i = 2 then some [(0, .keep), (1, .keep), (5, (.own (.int .i64))), (6, .keep), (7, (.own (.int .i64))), (8, .keep)] else if i = 4 then some [(0, .keep), (1, .keep), (5, (.own (.int .i64))), (6, .keep), (7, (.own (.int .i64))), (8, .keep), (9, (.own (.int .i64))), (10, .keep)] else if i = 6 then some [(0, .keep), (1, .keep), (5, (.own (.int .i64))), (6, .keep), (7, (.own (.int .i64))), (8, .keep), (9, (.own (.int .i64))), (10, .keep), (11, .keep)] else none, fun i => if i = 6 then some [(0, .keep), (1, .keep), (5, (.own (.int .i64))), (6, .keep), (7, (.own (.int .i64))), (8, .keep), (9, (.own (.int .i64))), (10, .keep)] else if i = 4 then some [(0, .keep), (1, .keep), (5, (.own (.int .i64))), (6, .keep), (7, (.own (.int .i64))), (8, .keep)] else if i = 2 then some [(0, .keep), (1, .keep), (6, .keep), (7, (.own (.int .i64)))] else if i = 0 then some [(5, (.own (.int .i64)))] else none, some [(4, (.own (.int .i64)))], [(.own (.int .i64))], []⟩
def e_turnoutref15_ranks : List EK := [.ty (.slice NodeT), .ty (.int .i64)]
def h_turnoutref15_ranks : List HK := []
noncomputable def cf_turnoutref15_ranks : CallF := mkCF [(32, c_turnoutref15_Goes)] [(32, [NodeT])]
noncomputable def ls_turnoutref15_ranks (n : Nat) : Loops := fun i => if i = 6 then some (loopT 0 (p_turnoutref15_ranks.head 6) s_turnoutref15_ranks_h6 fun K v => L_turnoutref15_ranks_6 n (fun z9 => K (.ex 6) (s_turnoutref15_ranks_t6.enc ((v.1.1, (v.1.2.1, (v.1.2.2.1, (v.1.2.2.2.1, (v.1.2.2.2.2.1, (v.1.2.2.2.2.2.1, (v.1.2.2.2.2.2.2.1, (v.1.2.2.2.2.2.2.2.1, ())))))))), (v.2.1, (z9, (v.2.2.2.1, ())))))) v.1.1 v.1.2.1 v.1.2.2.1 v.1.2.2.2.1 v.1.2.2.2.2.1 v.1.2.2.2.2.2.1 v.1.2.2.2.2.2.2.1 v.1.2.2.2.2.2.2.2.1 v.2.1 v.2.2.2.1 n v.1.2.2.2.2.2.2.2.2.1 v.2.2.1)
  else if i = 4 then some (loopT 0 (p_turnoutref15_ranks.head 4) s_turnoutref15_ranks_h4 fun K v => L_turnoutref15_ranks_4 n (fun z7 => K (.ex 4) (s_turnoutref15_ranks_t4.enc ((v.1.1, (v.1.2.1, (v.1.2.2.1, (v.1.2.2.2.1, (v.1.2.2.2.2.1, (v.1.2.2.2.2.2.1, ())))))), (v.2.1, (z7, ()))))) v.1.1 v.1.2.1 v.1.2.2.1 v.1.2.2.2.1 v.1.2.2.2.2.1 v.1.2.2.2.2.2.1 v.1.2.2.2.2.2.2.1 v.2.1 v.2.2.2.1 n v.1.2.2.2.2.2.2.2.1 v.2.2.1)
  else if i = 2 then some (loopT 0 (p_turnoutref15_ranks.head 2) s_turnoutref15_ranks_h2 fun K v => L_turnoutref15_ranks_2 n (fun z4 => K (.ex 2) (s_turnoutref15_ranks_t2.enc ((v.1.1, (v.1.2.1, (v.1.2.2.2.1, (v.1.2.2.2.2.1, ())))), (z4, ())))) v.1.1 v.1.2.1 v.1.2.2.1 v.1.2.2.2.1 v.1.2.2.2.2.1 v.2.1 n v.1.2.2.2.2.2.1 v.2.2.1)
  else if i = 0 then some (loopT 0 (p_turnoutref15_ranks.head 0) s_turnoutref15_ranks_h0 fun K v => L_turnoutref15_ranks_0 n (fun z0 z1 => K (.ex 0) (s_turnoutref15_ranks_t0.enc ((z0, ()), (z1, ())))) v.1.1 v.1.2.1 n v.1.2.2.1 v.1.2.2.2.1 v.2.1)
  else  none
noncomputable def b_turnoutref15_ranks_6 : Code := partOf (bodyOf Try.f34) [1, 1, 0, 1, 0, 0, 1, 0, 0, 1, 0, 1, 0, 0, 1, 0, 0, 1, 0, 1, 0, 0, 1, 0, 0, 1, 0, 0]
theorem t_turnoutref15_ranks_6 (n : Nat) (K : Cont) (rec : Sig.sem s_turnoutref15_ranks_h6 → Option Res) (v : Sig.sem s_turnoutref15_ranks_h6) : runT Try.prog cf_turnoutref15_ranks Try.f34.ntmps 0 p_turnoutref15_ranks (ls_turnoutref15_ranks n) b_turnoutref15_ranks_6 (s_turnoutref15_ranks_h6.enc v) (turnK 0 (p_turnoutref15_ranks.head 6) s_turnoutref15_ranks_h6 rec K) = F_turnoutref15_ranks_6 n (fun z9 => K (.ex 6) (s_turnoutref15_ranks_t6.enc ((v.1.1, (v.1.2.1, (v.1.2.2.1, (v.1.2.2.2.1, (v.1.2.2.2.2.1, (v.1.2.2.2.2.2.1, (v.1.2.2.2.2.2.2.1, (v.1.2.2.2.2.2.2.2.1, ())))))))), (v.2.1, (z9, (v.2.2.2.1, ())))))) v.1.1 v.1.2.1 v.1.2.2.1 v.1.2.2.2.1 v.1.2.2.2.2.1 v.1.2.2.2.2.2.1 v.1.2.2.2.2.2.2.1 v.1.2.2.2.2.2.2.2.1 v.2.1 v.2.2.2.1 (fun z8 z10 => rec ((v.1.1, (v.1.2.1, (v.1.2.2.1, (v.1.2.2.2.1, (v.1.2.2.2.2.1, (v.1.2.2.2.2.2.1, (v.1.2.2.2.2.2.2.1, (v.1.2.2.2.2.2.2.2.1, (z8, ()))))))))), (v.2.1, (z10, (v.2.2.2.1, ()))))) v.1.2.2.2.2.2.2.2.2.1 v.2.2.1 := by kernel_rfl
noncomputable def V_turnoutref15_ranks_6 (n : Nat) (K : Cont) (rec : Sig.sem s_turnoutref15_ranks_h6 → Option Res) (v : Sig.sem s_turnoutref15_ranks_h6) : Option Res := F_turnoutref15_ranks_6 n (fun z9 => K (.ex 6) (s_turnoutref15_ranks_t6.enc ((v.1.1, (v.1.2.1, (v.1.2.2.1, (v.1.2.2.2.1, (v.1.2.2.2.2.1, (v.1.2.2.2.2.2.1, (v.1.2.2.2.2.2.2.1, (v.1.2.2.2.2.2.2.2.1, ())))))))), (v.2.1, (z9, (v.2.2.2.1, ())))))) v.1.1 v.1.2.1 v.1.2.2.1 v.1.2.2.2.1 v.1.2.2.2.2.1 v.1.2.2.2.2.2.1 v.1.2.2.2.2.2.2.1 v.1.2.2.2.2.2.2.2.1 v.2.1 v.2.2.2.1 (fun z8 z10 => rec ((v.1.1, (v.1.2.1, (v.1.2.2.1, (v.1.2.2.2.1, (v.1.2.2.2.2.1, (v.1.2.2.2.2.2.1, (v.1.2.2.2.2.2.2.1, (v.1.2.2.2.2.2.2.2.1, (z8, ()))))))))), (v.2.1, (z10, (v.2.2.2.1, ()))))) v.1.2.2.2.2.2.2.2.2.1 v.2.2.1
noncomputable def W_turnoutref15_ranks_6 (n : Nat) (K : Cont) (m : Nat) (v : Sig.sem s_turnoutref15_ranks_h6) : Option Res := L_turnoutref15_ranks_6 n (fun z9 => K (.ex 6) (s_turnoutref15_ranks_t6.enc ((v.1.1, (v.1.2.1, (v.1.2.2.1, (v.1.2.2.2.1, (v.1.2.2.2.2.1, (v.1.2.2.2.2.2.1, (v.1.2.2.2.2.2.2.1, (v.1.2.2.2.2.2.2.2.1, ())))))))), (v.2.1, (z9, (v.2.2.2.1, ())))))) v.1.1 v.1.2.1 v.1.2.2.1 v.1.2.2.2.1 v.1.2.2.2.2.1 v.1.2.2.2.2.2.1 v.1.2.2.2.2.2.2.1 v.1.2.2.2.2.2.2.2.1 v.2.1 v.2.2.2.1 m v.1.2.2.2.2.2.2.2.2.1 v.2.2.1
theorem i_turnoutref15_ranks_6 (n : Nat) (K : Cont) : ∀ m v, iter (V_turnoutref15_ranks_6 n K) m v = W_turnoutref15_ranks_6 n K m v := by
  intro m
  induction m with
  | zero => intro v; rfl
  | succ m ih =>
    intro v
    show V_turnoutref15_ranks_6 n K (iter (V_turnoutref15_ranks_6 n K) m) v = V_turnoutref15_ranks_6 n K (W_turnoutref15_ranks_6 n K m) v
    rw [show iter (V_turnoutref15_ranks_6 n K) m = W_turnoutref15_ranks_6 n K m from funext ih]
theorem o_turnoutref15_ranks_6 (n : Nat) : ∀ L, ls_turnoutref15_ranks n 6 = some L → ∀ s K r, L s K = some r → ∃ x s', loopN (run Try.prog cf_turnoutref15_ranks Try.f34.ntmps 0 n p_turnoutref15_ranks none b_turnoutref15_ranks_6) (gc 0 (p_turnoutref15_ranks.head 6)) n s = some (x, s') ∧ K x s' = some r := by
  intro L hL s K r h
  have hL : some (loopT 0 (p_turnoutref15_ranks.head 6) s_turnoutref15_ranks_h6 fun K v => W_turnoutref15_ranks_6 n K n v) = some L := hL
  cases hL
  have hb : LOk Try.prog cf_turnoutref15_ranks Try.f34.ntmps 0 n p_turnoutref15_ranks (ls_turnoutref15_ranks n) b_turnoutref15_ranks_6 := ⟨⟨trivial, ⟨trivial, trivial⟩⟩, ⟨⟨trivial, ⟨trivial, trivial⟩⟩, trivial⟩⟩
  refine loopT_ok hb (V_turnoutref15_ranks_6 n) (t_turnoutref15_ranks_6 n) n s K r ?_
  rw [← h]
  unfold loopT
  simp only [i_turnoutref15_ranks_6]
noncomputable def b_turnoutref15_ranks_4 : Code := partOf (bodyOf Try.f34) [1, 1, 0, 1, 0, 0, 1, 0, 0, 1, 0, 1, 0, 0, 1, 0, 0, 1, 0, 1, 0, 0]
theorem t_turnoutref15_ranks_4 (n : Nat) (K : Cont) (rec : Sig.sem s_turnoutref15_ranks_h4 → Option Res) (v : Sig.sem s_turnoutref15_ranks_h4) : runT Try.prog cf_turnoutref15_ranks Try.f34.ntmps 0 p_turnoutref15_ranks (ls_turnoutref15_ranks n) b_turnoutref15_ranks_4 (s_turnoutref15_ranks_h4.enc v) (turnK 0 (p_turnoutref15_ranks.head 4) s_turnoutref15_ranks_h4 rec K) = F_turnoutref15_ranks_4 n (fun z7 => K (.ex 4) (s_turnoutref15_ranks_t4.enc ((v.1.1, (v.1.2.1, (v.1.2.2.1, (v.1.2.2.2.1, (v.1.2.2.2.2.1, (v.1.2.2.2.2.2.1, ())))))), (v.2.1, (z7, ()))))) v.1.1 v.1.2.1 v.1.2.2.1 v.1.2.2.2.1 v.1.2.2.2.2.1 v.1.2.2.2.2.2.1 v.1.2.2.2.2.2.2.1 v.2.1 v.2.2.2.1 (fun z7 z9 => rec ((v.1.1, (v.1.2.1, (v.1.2.2.1, (v.1.2.2.2.1, (v.1.2.2.2.2.1, (v.1.2.2.2.2.2.1, (v.1.2.2.2.2.2.2.1, (z7, ())))))))), (v.2.1, (z9, (v.2.2.2.1, ()))))) v.1.2.2.2.2.2.2.2.1 v.2.2.1 := by kernel_rfl
noncomputable def V_turnoutref15_ranks_4 (n : Nat) (K : Cont) (rec : Sig.sem s_turnoutref15_ranks_h4 → Option Res) (v : Sig.sem s_turnoutref15_ranks_h4) : Option Res := F_turnoutref15_ranks_4 n (fun z7 => K (.ex 4) (s_turnoutref15_ranks_t4.enc ((v.1.1, (v.1.2.1, (v.1.2.2.1, (v.1.2.2.2.1, (v.1.2.2.2.2.1, (v.1.2.2.2.2.2.1, ())))))), (v.2.1, (z7, ()))))) v.1.1 v.1.2.1 v.1.2.2.1 v.1.2.2.2.1 v.1.2.2.2.2.1 v.1.2.2.2.2.2.1 v.1.2.2.2.2.2.2.1 v.2.1 v.2.2.2.1 (fun z7 z9 => rec ((v.1.1, (v.1.2.1, (v.1.2.2.1, (v.1.2.2.2.1, (v.1.2.2.2.2.1, (v.1.2.2.2.2.2.1, (v.1.2.2.2.2.2.2.1, (z7, ())))))))), (v.2.1, (z9, (v.2.2.2.1, ()))))) v.1.2.2.2.2.2.2.2.1 v.2.2.1
noncomputable def W_turnoutref15_ranks_4 (n : Nat) (K : Cont) (m : Nat) (v : Sig.sem s_turnoutref15_ranks_h4) : Option Res := L_turnoutref15_ranks_4 n (fun z7 => K (.ex 4) (s_turnoutref15_ranks_t4.enc ((v.1.1, (v.1.2.1, (v.1.2.2.1, (v.1.2.2.2.1, (v.1.2.2.2.2.1, (v.1.2.2.2.2.2.1, ())))))), (v.2.1, (z7, ()))))) v.1.1 v.1.2.1 v.1.2.2.1 v.1.2.2.2.1 v.1.2.2.2.2.1 v.1.2.2.2.2.2.1 v.1.2.2.2.2.2.2.1 v.2.1 v.2.2.2.1 m v.1.2.2.2.2.2.2.2.1 v.2.2.1
theorem i_turnoutref15_ranks_4 (n : Nat) (K : Cont) : ∀ m v, iter (V_turnoutref15_ranks_4 n K) m v = W_turnoutref15_ranks_4 n K m v := by
  intro m
  induction m with
  | zero => intro v; rfl
  | succ m ih =>
    intro v
    show V_turnoutref15_ranks_4 n K (iter (V_turnoutref15_ranks_4 n K) m) v = V_turnoutref15_ranks_4 n K (W_turnoutref15_ranks_4 n K m) v
    rw [show iter (V_turnoutref15_ranks_4 n K) m = W_turnoutref15_ranks_4 n K m from funext ih]
theorem o_turnoutref15_ranks_4 (n : Nat) : ∀ L, ls_turnoutref15_ranks n 4 = some L → ∀ s K r, L s K = some r → ∃ x s', loopN (run Try.prog cf_turnoutref15_ranks Try.f34.ntmps 0 n p_turnoutref15_ranks none b_turnoutref15_ranks_4) (gc 0 (p_turnoutref15_ranks.head 4)) n s = some (x, s') ∧ K x s' = some r := by
  intro L hL s K r h
  have hL : some (loopT 0 (p_turnoutref15_ranks.head 4) s_turnoutref15_ranks_h4 fun K v => W_turnoutref15_ranks_4 n K n v) = some L := hL
  cases hL
  have hb : LOk Try.prog cf_turnoutref15_ranks Try.f34.ntmps 0 n p_turnoutref15_ranks (ls_turnoutref15_ranks n) b_turnoutref15_ranks_4 := ⟨⟨trivial, ⟨trivial, trivial⟩⟩, ⟨⟨trivial, (o_turnoutref15_ranks_6 n)⟩, trivial⟩⟩
  refine loopT_ok hb (V_turnoutref15_ranks_4 n) (t_turnoutref15_ranks_4 n) n s K r ?_
  rw [← h]
  unfold loopT
  simp only [i_turnoutref15_ranks_4]
noncomputable def b_turnoutref15_ranks_2 : Code := partOf (bodyOf Try.f34) [1, 1, 0, 1, 0, 0, 1, 0, 0, 1, 0, 1, 0, 0]
theorem t_turnoutref15_ranks_2 (n : Nat) (K : Cont) (rec : Sig.sem s_turnoutref15_ranks_h2 → Option Res) (v : Sig.sem s_turnoutref15_ranks_h2) : runT Try.prog cf_turnoutref15_ranks Try.f34.ntmps 0 p_turnoutref15_ranks (ls_turnoutref15_ranks n) b_turnoutref15_ranks_2 (s_turnoutref15_ranks_h2.enc v) (turnK 0 (p_turnoutref15_ranks.head 2) s_turnoutref15_ranks_h2 rec K) = F_turnoutref15_ranks_2 n (fun z4 => K (.ex 2) (s_turnoutref15_ranks_t2.enc ((v.1.1, (v.1.2.1, (v.1.2.2.2.1, (v.1.2.2.2.2.1, ())))), (z4, ())))) v.1.1 v.1.2.1 v.1.2.2.1 v.1.2.2.2.1 v.1.2.2.2.2.1 v.2.1 (fun z5 z7 => rec ((v.1.1, (v.1.2.1, (v.1.2.2.1, (v.1.2.2.2.1, (v.1.2.2.2.2.1, (z5, ())))))), (v.2.1, (z7, ())))) v.1.2.2.2.2.2.1 v.2.2.1 := by kernel_rfl
noncomputable def V_turnoutref15_ranks_2 (n : Nat) (K : Cont) (rec : Sig.sem s_turnoutref15_ranks_h2 → Option Res) (v : Sig.sem s_turnoutref15_ranks_h2) : Option Res := F_turnoutref15_ranks_2 n (fun z4 => K (.ex 2) (s_turnoutref15_ranks_t2.enc ((v.1.1, (v.1.2.1, (v.1.2.2.2.1, (v.1.2.2.2.2.1, ())))), (z4, ())))) v.1.1 v.1.2.1 v.1.2.2.1 v.1.2.2.2.1 v.1.2.2.2.2.1 v.2.1 (fun z5 z7 => rec ((v.1.1, (v.1.2.1, (v.1.2.2.1, (v.1.2.2.2.1, (v.1.2.2.2.2.1, (z5, ())))))), (v.2.1, (z7, ())))) v.1.2.2.2.2.2.1 v.2.2.1
noncomputable def W_turnoutref15_ranks_2 (n : Nat) (K : Cont) (m : Nat) (v : Sig.sem s_turnoutref15_ranks_h2) : Option Res := L_turnoutref15_ranks_2 n (fun z4 => K (.ex 2) (s_turnoutref15_ranks_t2.enc ((v.1.1, (v.1.2.1, (v.1.2.2.2.1, (v.1.2.2.2.2.1, ())))), (z4, ())))) v.1.1 v.1.2.1 v.1.2.2.1 v.1.2.2.2.1 v.1.2.2.2.2.1 v.2.1 m v.1.2.2.2.2.2.1 v.2.2.1
theorem i_turnoutref15_ranks_2 (n : Nat) (K : Cont) : ∀ m v, iter (V_turnoutref15_ranks_2 n K) m v = W_turnoutref15_ranks_2 n K m v := by
  intro m
  induction m with
  | zero => intro v; rfl
  | succ m ih =>
    intro v
    show V_turnoutref15_ranks_2 n K (iter (V_turnoutref15_ranks_2 n K) m) v = V_turnoutref15_ranks_2 n K (W_turnoutref15_ranks_2 n K m) v
    rw [show iter (V_turnoutref15_ranks_2 n K) m = W_turnoutref15_ranks_2 n K m from funext ih]
theorem o_turnoutref15_ranks_2 (n : Nat) : ∀ L, ls_turnoutref15_ranks n 2 = some L → ∀ s K r, L s K = some r → ∃ x s', loopN (run Try.prog cf_turnoutref15_ranks Try.f34.ntmps 0 n p_turnoutref15_ranks none b_turnoutref15_ranks_2) (gc 0 (p_turnoutref15_ranks.head 2)) n s = some (x, s') ∧ K x s' = some r := by
  intro L hL s K r h
  have hL : some (loopT 0 (p_turnoutref15_ranks.head 2) s_turnoutref15_ranks_h2 fun K v => W_turnoutref15_ranks_2 n K n v) = some L := hL
  cases hL
  have hb : LOk Try.prog cf_turnoutref15_ranks Try.f34.ntmps 0 n p_turnoutref15_ranks (ls_turnoutref15_ranks n) b_turnoutref15_ranks_2 := ⟨⟨trivial, ⟨trivial, trivial⟩⟩, ⟨⟨trivial, ⟨⟨trivial, (o_turnoutref15_ranks_4 n)⟩, trivial⟩⟩, trivial⟩⟩
  refine loopT_ok hb (V_turnoutref15_ranks_2 n) (t_turnoutref15_ranks_2 n) n s K r ?_
  rw [← h]
  unfold loopT
  simp only [i_turnoutref15_ranks_2]
noncomputable def b_turnoutref15_ranks_0 : Code := partOf (bodyOf Try.f34) [1, 1, 0, 1, 0, 0]
theorem t_turnoutref15_ranks_0 (n : Nat) (K : Cont) (rec : Sig.sem s_turnoutref15_ranks_h0 → Option Res) (v : Sig.sem s_turnoutref15_ranks_h0) : runT Try.prog cf_turnoutref15_ranks Try.f34.ntmps 0 p_turnoutref15_ranks (ls_turnoutref15_ranks n) b_turnoutref15_ranks_0 (s_turnoutref15_ranks_h0.enc v) (turnK 0 (p_turnoutref15_ranks.head 0) s_turnoutref15_ranks_h0 rec K) = F_turnoutref15_ranks_0 n (fun z0 z1 => K (.ex 0) (s_turnoutref15_ranks_t0.enc ((z0, ()), (z1, ())))) v.1.1 v.1.2.1 (fun z2 z3 z4 => rec ((v.1.1, (v.1.2.1, (z2, (z3, ())))), (z4, ()))) v.1.2.2.1 v.1.2.2.2.1 v.2.1 := by kernel_rfl
noncomputable def V_turnoutref15_ranks_0 (n : Nat) (K : Cont) (rec : Sig.sem s_turnoutref15_ranks_h0 → Option Res) (v : Sig.sem s_turnoutref15_ranks_h0) : Option Res := F_turnoutref15_ranks_0 n (fun z0 z1 => K (.ex 0) (s_turnoutref15_ranks_t0.enc ((z0, ()), (z1, ())))) v.1.1 v.1.2.1 (fun z2 z3 z4 => rec ((v.1.1, (v.1.2.1, (z2, (z3, ())))), (z4, ()))) v.1.2.2.1 v.1.2.2.2.1 v.2.1
noncomputable def W_turnoutref15_ranks_0 (n : Nat) (K : Cont) (m : Nat) (v : Sig.sem s_turnoutref15_ranks_h0) : Option Res := L_turnoutref15_ranks_0 n (fun z0 z1 => K (.ex 0) (s_turnoutref15_ranks_t0.enc ((z0, ()), (z1, ())))) v.1.1 v.1.2.1 m v.1.2.2.1 v.1.2.2.2.1 v.2.1
theorem i_turnoutref15_ranks_0 (n : Nat) (K : Cont) : ∀ m v, iter (V_turnoutref15_ranks_0 n K) m v = W_turnoutref15_ranks_0 n K m v := by
  intro m
  induction m with
  | zero => intro v; rfl
  | succ m ih =>
    intro v
    show V_turnoutref15_ranks_0 n K (iter (V_turnoutref15_ranks_0 n K) m) v = V_turnoutref15_ranks_0 n K (W_turnoutref15_ranks_0 n K m) v
    rw [show iter (V_turnoutref15_ranks_0 n K) m = W_turnoutref15_ranks_0 n K m from funext ih]
theorem o_turnoutref15_ranks_0 (n : Nat) : ∀ L, ls_turnoutref15_ranks n 0 = some L → ∀ s K r, L s K = some r → ∃ x s', loopN (run Try.prog cf_turnoutref15_ranks Try.f34.ntmps 0 n p_turnoutref15_ranks none b_turnoutref15_ranks_0) (gc 0 (p_turnoutref15_ranks.head 0)) n s = some (x, s') ∧ K x s' = some r := by
  intro L hL s K r h
  have hL : some (loopT 0 (p_turnoutref15_ranks.head 0) s_turnoutref15_ranks_h0 fun K v => W_turnoutref15_ranks_0 n K n v) = some L := hL
  cases hL
  have hb : LOk Try.prog cf_turnoutref15_ranks Try.f34.ntmps 0 n p_turnoutref15_ranks (ls_turnoutref15_ranks n) b_turnoutref15_ranks_0 := ⟨⟨trivial, ⟨trivial, trivial⟩⟩, ⟨⟨trivial, ⟨⟨trivial, (o_turnoutref15_ranks_2 n)⟩, trivial⟩⟩, trivial⟩⟩
  refine loopT_ok hb (V_turnoutref15_ranks_0 n) (t_turnoutref15_ranks_0 n) n s K r ?_
  rw [← h]
  unfold loopT
  simp only [i_turnoutref15_ranks_0]
theorem m_turnoutref15_ranks (n : Nat) (a0 : (List NodeS)) (a1 : Int) : runFT Try.prog cf_turnoutref15_ranks p_turnoutref15_ranks (ls_turnoutref15_ranks n) Try.f34 (bodyOf Try.f34) (EK.encs e_turnoutref15_ranks ((a0, (a1, ())), ()).1) (HK.encs h_turnoutref15_ranks ((a0, (a1, ())), ()).2) = M_turnoutref15_ranks n a0 a1 := by kernel_rfl
theorem g_turnoutref15_ranks (n : Nat) (a0 : (List NodeS)) (a1 : Int) {r : Res} (h : M_turnoutref15_ranks n a0 a1 = some r) : runF Try.prog cf_turnoutref15_ranks n p_turnoutref15_ranks 34 (EK.encs e_turnoutref15_ranks ((a0, (a1, ())), ()).1) (HK.encs h_turnoutref15_ranks ((a0, (a1, ())), ()).2) = some r := by
  have hb : LOk Try.prog cf_turnoutref15_ranks Try.f34.ntmps 0 n p_turnoutref15_ranks (ls_turnoutref15_ranks n) (bodyOf Try.f34) := ⟨trivial, ⟨trivial, ⟨⟨trivial, (o_turnoutref15_ranks_0 n)⟩, ⟨trivial, trivial⟩⟩⟩⟩
  exact runFT_some Try.prog (c := bodyOf Try.f34) Try.func34 (show Try.f34.body = some (bodyOf Try.f34) from rfl) (show (2 : Nat) ≤ 76 by decide) hb ((m_turnoutref15_ranks n a0 a1).trans h) rfl (by kernel_rfl)
noncomputable def c_turnoutref15_ranks : Spec := specQ e_turnoutref15_ranks h_turnoutref15_ranks ro_turnoutref15_ranks rh_turnoutref15_ranks fun a b => Q_turnoutref15_ranks a.1 a.2.1
theorem k_turnoutref15_ranks (hm : Try.prog.follows .mixedOrders = true) : SpecOk Try.prog 34 c_turnoutref15_ranks := specQ_ok (pol := p_turnoutref15_ranks) hm (cf := cf_turnoutref15_ranks) (tab_ok (specs_cons (k_turnoutref15_Goes hm) specs_nil)) fun a b r h => ⟨FUEL, g_turnoutref15_ranks FUEL a.1 a.2.1 (decRes_some h)⟩
def s_turnoutref15_May_h0 : Sig := ⟨[0, 3], [.ty (.slice NodeT), .ty (.int .i64)], []⟩
def s_turnoutref15_May_r : Sig := ⟨[2], [.ty (.int .i64)], []⟩
def s_turnoutref15_May_t0 : Sig := ⟨[0], [.ty (.slice NodeT)], []⟩
def s_turnoutref15_May_h2 : Sig := ⟨[0, 4], [.ty (.slice NodeT), .ty (.int .i64)], []⟩
def s_turnoutref15_May_h4 : Sig := ⟨[0, 4, 5, 6], [.ty (.slice NodeT), .ty (.int .i64), .hs 0 0, .ty (.int .i64)], [.row (.int .i64)]⟩
def s_turnoutref15_May_t4 : Sig := ⟨[0, 4], [.ty (.slice NodeT), .ty (.int .i64)], []⟩
def s_turnoutref15_May_t2 : Sig := ⟨[0], [.ty (.slice NodeT)], []⟩
def s_turnoutref15_May_h6 : Sig := ⟨[0, 9, 10], [.ty (.slice NodeT), .hs 0 0, .ty (.int .i64)], [.row (.int .i64)]⟩
def s_turnoutref15_May_t6 : Sig := ⟨[], [], []⟩
def p_turnoutref15_May : Pol := ⟨fun i => if i = 0 then some [(0, .keep), (3, .keep)] else if i = 2 then some [(0, .keep), (4, .keep)] else if i = 4 then some [(0, .keep), (4, .keep), (5, (.own (.int .i64))), (6, .keep)] else if i = 6 then some [(0, .keep), (9, (.own (.int .i64))), (10, .keep)] else none, fun i => if i = 0 then some [(0, .keep)] else if i = 4 then some [(0, .keep), (4, .keep)] else if i = 2 then some [(0, .keep)] else if i = 6 then some [] else none, some [(2, .keep)], [.keep], []⟩
def e_turnoutref15_May : List EK := [.ty (.slice NodeT)]
def h_turnoutref15_May : List HK := []
noncomputable def cf_turnoutref15_May : CallF := mkCF [(31, c_turnoutref15_Form), (32, c_turnoutref15_Goes), (33, c_turnoutref15_Find), (34, c_turnoutref15_ranks)] [(31, [NodeT]), (32, [NodeT]), (33, [(.slice NodeT), (.int .i64)]), (34, [(.slice NodeT), (.int .i64)])]
noncomputable def ls_turnoutref15_May (n : Nat) : Loops := fun i => if i = 0 then some (loopT 0 (p_turnoutref15_May.head 0) s_turnoutref15_May_h0 fun K v => L_turnoutref15_May_0 n (fun z0 => K .rt (s_turnoutref15_May_r.enc ((z0, ()), ()))) (fun _ => K (.ex 0) (s_turnoutref15_May_t0.enc ((v.1.1, ()), ()))) v.1.1 n v.1.2.1)
  else if i = 4 then some (loopT 0 (p_turnoutref15_May.head 4) s_turnoutref15_May_h4 fun K v => L_turnoutref15_May_4 n (fun z0 => K .rt (s_turnoutref15_May_r.enc ((z0, ()), ()))) (fun _ => K (.ex 4) (s_turnoutref15_May_t4.enc ((v.1.1, (v.1.2.1, ())), ()))) v.1.1 v.1.2.1 v.1.2.2.1 v.2.1 n v.1.2.2.2.1)
  else if i = 2 then some (loopT 0 (p_turnoutref15_May.head 2) s_turnoutref15_May_h2 fun K v => L_turnoutref15_May_2 n (fun z0 => K .rt (s_turnoutref15_May_r.enc ((z0, ()), ()))) (fun _ => K (.ex 2) (s_turnoutref15_May_t2.enc ((v.1.1, ()), ()))) v.1.1 n v.1.2.1)
  else if i = 6 then some (loopT 0 (p_turnoutref15_May.head 6) s_turnoutref15_May_h6 fun K v => L_turnoutref15_May_6 n (fun z0 => K .rt (s_turnoutref15_May_r.enc ((z0, ()), ()))) (fun _ => K (.ex 6) (s_turnoutref15_May_t6.enc ((), ()))) v.1.1 v.1.2.1 v.2.1 n v.1.2.2.1)
  else  none
noncomputable def b_turnoutref15_May_0 : Code := partOf (bodyOf Try.f22) [1, 0, 1, 0, 0]
theorem t_turnoutref15_May_0 (n : Nat) (K : Cont) (rec : Sig.sem s_turnoutref15_May_h0 → Option Res) (v : Sig.sem s_turnoutref15_May_h0) : runT Try.prog cf_turnoutref15_May Try.f22.ntmps 0 p_turnoutref15_May (ls_turnoutref15_May n) b_turnoutref15_May_0 (s_turnoutref15_May_h0.enc v) (turnK 0 (p_turnoutref15_May.head 0) s_turnoutref15_May_h0 rec K) = F_turnoutref15_May_0 n (fun z0 => K .rt (s_turnoutref15_May_r.enc ((z0, ()), ()))) (fun _ => K (.ex 0) (s_turnoutref15_May_t0.enc ((v.1.1, ()), ()))) v.1.1 (fun z1 => rec ((v.1.1, (z1, ())), ())) v.1.2.1 := by kernel_rfl
noncomputable def V_turnoutref15_May_0 (n : Nat) (K : Cont) (rec : Sig.sem s_turnoutref15_May_h0 → Option Res) (v : Sig.sem s_turnoutref15_May_h0) : Option Res := F_turnoutref15_May_0 n (fun z0 => K .rt (s_turnoutref15_May_r.enc ((z0, ()), ()))) (fun _ => K (.ex 0) (s_turnoutref15_May_t0.enc ((v.1.1, ()), ()))) v.1.1 (fun z1 => rec ((v.1.1, (z1, ())), ())) v.1.2.1
noncomputable def W_turnoutref15_May_0 (n : Nat) (K : Cont) (m : Nat) (v : Sig.sem s_turnoutref15_May_h0) : Option Res := L_turnoutref15_May_0 n (fun z0 => K .rt (s_turnoutref15_May_r.enc ((z0, ()), ()))) (fun _ => K (.ex 0) (s_turnoutref15_May_t0.enc ((v.1.1, ()), ()))) v.1.1 m v.1.2.1
theorem i_turnoutref15_May_0 (n : Nat) (K : Cont) : ∀ m v, iter (V_turnoutref15_May_0 n K) m v = W_turnoutref15_May_0 n K m v := by
  intro m
  induction m with
  | zero => intro v; rfl
  | succ m ih =>
    intro v
    show V_turnoutref15_May_0 n K (iter (V_turnoutref15_May_0 n K) m) v = V_turnoutref15_May_0 n K (W_turnoutref15_May_0 n K m) v
    rw [show iter (V_turnoutref15_May_0 n K) m = W_turnoutref15_May_0 n K m from funext ih]
theorem o_turnoutref15_May_0 (n : Nat) : ∀ L, ls_turnoutref15_May n 0 = some L → ∀ s K r, L s K = some r → ∃ x s', loopN (run Try.prog cf_turnoutref15_May Try.f22.ntmps 0 n p_turnoutref15_May none b_turnoutref15_May_0) (gc 0 (p_turnoutref15_May.head 0)) n s = some (x, s') ∧ K x s' = some r := by
  intro L hL s K r h
  have hL : some (loopT 0 (p_turnoutref15_May.head 0) s_turnoutref15_May_h0 fun K v => W_turnoutref15_May_0 n K n v) = some L := hL
  cases hL
  have hb : LOk Try.prog cf_turnoutref15_May Try.f22.ntmps 0 n p_turnoutref15_May (ls_turnoutref15_May n) b_turnoutref15_May_0 := ⟨⟨trivial, ⟨trivial, trivial⟩⟩, ⟨⟨trivial, ⟨⟨trivial, trivial⟩, trivial⟩⟩, trivial⟩⟩
  refine loopT_ok hb (V_turnoutref15_May_0 n) (t_turnoutref15_May_0 n) n s K r ?_
  rw [← h]
  unfold loopT
  simp only [i_turnoutref15_May_0]
noncomputable def b_turnoutref15_May_4 : Code := partOf (bodyOf Try.f22) [1, 1, 1, 0, 1, 0, 0, 1, 0, 0, 1, 1, 0, 0]
theorem t_turnoutref15_May_4 (n : Nat) (K : Cont) (rec : Sig.sem s_turnoutref15_May_h4 → Option Res) (v : Sig.sem s_turnoutref15_May_h4) : runT Try.prog cf_turnoutref15_May Try.f22.ntmps 0 p_turnoutref15_May (ls_turnoutref15_May n) b_turnoutref15_May_4 (s_turnoutref15_May_h4.enc v) (turnK 0 (p_turnoutref15_May.head 4) s_turnoutref15_May_h4 rec K) = F_turnoutref15_May_4 n (fun z0 => K .rt (s_turnoutref15_May_r.enc ((z0, ()), ()))) (fun _ => K (.ex 4) (s_turnoutref15_May_t4.enc ((v.1.1, (v.1.2.1, ())), ()))) v.1.1 v.1.2.1 v.1.2.2.1 v.2.1 (fun z3 => rec ((v.1.1, (v.1.2.1, (v.1.2.2.1, (z3, ())))), (v.2.1, ()))) v.1.2.2.2.1 := by kernel_rfl
noncomputable def V_turnoutref15_May_4 (n : Nat) (K : Cont) (rec : Sig.sem s_turnoutref15_May_h4 → Option Res) (v : Sig.sem s_turnoutref15_May_h4) : Option Res := F_turnoutref15_May_4 n (fun z0 => K .rt (s_turnoutref15_May_r.enc ((z0, ()), ()))) (fun _ => K (.ex 4) (s_turnoutref15_May_t4.enc ((v.1.1, (v.1.2.1, ())), ()))) v.1.1 v.1.2.1 v.1.2.2.1 v.2.1 (fun z3 => rec ((v.1.1, (v.1.2.1, (v.1.2.2.1, (z3, ())))), (v.2.1, ()))) v.1.2.2.2.1
noncomputable def W_turnoutref15_May_4 (n : Nat) (K : Cont) (m : Nat) (v : Sig.sem s_turnoutref15_May_h4) : Option Res := L_turnoutref15_May_4 n (fun z0 => K .rt (s_turnoutref15_May_r.enc ((z0, ()), ()))) (fun _ => K (.ex 4) (s_turnoutref15_May_t4.enc ((v.1.1, (v.1.2.1, ())), ()))) v.1.1 v.1.2.1 v.1.2.2.1 v.2.1 m v.1.2.2.2.1
theorem i_turnoutref15_May_4 (n : Nat) (K : Cont) : ∀ m v, iter (V_turnoutref15_May_4 n K) m v = W_turnoutref15_May_4 n K m v := by
  intro m
  induction m with
  | zero => intro v; rfl
  | succ m ih =>
    intro v
    show V_turnoutref15_May_4 n K (iter (V_turnoutref15_May_4 n K) m) v = V_turnoutref15_May_4 n K (W_turnoutref15_May_4 n K m) v
    rw [show iter (V_turnoutref15_May_4 n K) m = W_turnoutref15_May_4 n K m from funext ih]
theorem o_turnoutref15_May_4 (n : Nat) : ∀ L, ls_turnoutref15_May n 4 = some L → ∀ s K r, L s K = some r → ∃ x s', loopN (run Try.prog cf_turnoutref15_May Try.f22.ntmps 0 n p_turnoutref15_May none b_turnoutref15_May_4) (gc 0 (p_turnoutref15_May.head 4)) n s = some (x, s') ∧ K x s' = some r := by
  intro L hL s K r h
  have hL : some (loopT 0 (p_turnoutref15_May.head 4) s_turnoutref15_May_h4 fun K v => W_turnoutref15_May_4 n K n v) = some L := hL
  cases hL
  have hb : LOk Try.prog cf_turnoutref15_May Try.f22.ntmps 0 n p_turnoutref15_May (ls_turnoutref15_May n) b_turnoutref15_May_4 := ⟨⟨trivial, ⟨trivial, trivial⟩⟩, ⟨⟨trivial, ⟨trivial, ⟨⟨trivial, trivial⟩, trivial⟩⟩⟩, trivial⟩⟩
  refine loopT_ok hb (V_turnoutref15_May_4 n) (t_turnoutref15_May_4 n) n s K r ?_
  rw [← h]
  unfold loopT
  simp only [i_turnoutref15_May_4]
noncomputable def b_turnoutref15_May_2 : Code := partOf (bodyOf Try.f22) [1, 1, 1, 0, 1, 0, 0]
theorem t_turnoutref15_May_2 (n : Nat) (K : Cont) (rec : Sig.sem s_turnoutref15_May_h2 → Option Res) (v : Sig.sem s_turnoutref15_May_h2) : runT Try.prog cf_turnoutref15_May Try.f22.ntmps 0 p_turnoutref15_May (ls_turnoutref15_May n) b_turnoutref15_May_2 (s_turnoutref15_May_h2.enc v) (turnK 0 (p_turnoutref15_May.head 2) s_turnoutref15_May_h2 rec K) = F_turnoutref15_May_2 n (fun z0 => K .rt (s_turnoutref15_May_r.enc ((z0, ()), ()))) (fun _ => K (.ex 2) (s_turnoutref15_May_t2.enc ((v.1.1, ()), ()))) v.1.1 (fun z1 => rec ((v.1.1, (z1, ())), ())) v.1.2.1 := by kernel_rfl
noncomputable def V_turnoutref15_May_2 (n : Nat) (K : Cont) (rec : Sig.sem s_turnoutref15_May_h2 → Option Res) (v : Sig.sem s_turnoutref15_May_h2) : Option Res := F_turnoutref15_May_2 n (fun z0 => K .rt (s_turnoutref15_May_r.enc ((z0, ()), ()))) (fun _ => K (.ex 2) (s_turnoutref15_May_t2.enc ((v.1.1, ()), ()))) v.1.1 (fun z1 => rec ((v.1.1, (z1, ())), ())) v.1.2.1
noncomputable def W_turnoutref15_May_2 (n : Nat) (K : Cont) (m : Nat) (v : Sig.sem s_turnoutref15_May_h2) : Option Res := L_turnoutref15_May_2 n (fun z0 => K .rt (s_turnoutref15_May_r.enc ((z0, ()), ()))) (fun _ => K (.ex 2) (s_turnoutref15_May_t2.enc ((v.1.1, ()), ()))) v.1.1 m v.1.2.1
theorem i_turnoutref15_May_2 (n : Nat) (K : Cont) : ∀ m v, iter (V_turnoutref15_May_2 n K) m v = W_turnoutref15_May_2 n K m v := by
  intro m
  induction m with
  | zero => intro v; rfl
  | succ m ih =>
    intro v
    show V_turnoutref15_May_2 n K (iter (V_turnoutref15_May_2 n K) m) v = V_turnoutref15_May_2 n K (W_turnoutref15_May_2 n K m) v
    rw [show iter (V_turnoutref15_May_2 n K) m = W_turnoutref15_May_2 n K m from funext ih]
theorem o_turnoutref15_May_2 (n : Nat) : ∀ L, ls_turnoutref15_May n 2 = some L → ∀ s K r, L s K = some r → ∃ x s', loopN (run Try.prog cf_turnoutref15_May Try.f22.ntmps 0 n p_turnoutref15_May none b_turnoutref15_May_2) (gc 0 (p_turnoutref15_May.head 2)) n s = some (x, s') ∧ K x s' = some r := by
  intro L hL s K r h
  have hL : some (loopT 0 (p_turnoutref15_May.head 2) s_turnoutref15_May_h2 fun K v => W_turnoutref15_May_2 n K n v) = some L := hL
  cases hL
  have hb : LOk Try.prog cf_turnoutref15_May Try.f22.ntmps 0 n p_turnoutref15_May (ls_turnoutref15_May n) b_turnoutref15_May_2 := ⟨⟨trivial, ⟨trivial, trivial⟩⟩, ⟨⟨trivial, ⟨trivial, (o_turnoutref15_May_4 n)⟩⟩, trivial⟩⟩
  refine loopT_ok hb (V_turnoutref15_May_2 n) (t_turnoutref15_May_2 n) n s K r ?_
  rw [← h]
  unfold loopT
  simp only [i_turnoutref15_May_2]
noncomputable def b_turnoutref15_May_6 : Code := partOf (bodyOf Try.f22) [1, 1, 1, 1, 1, 0, 1, 0, 0]
theorem t_turnoutref15_May_6 (n : Nat) (K : Cont) (rec : Sig.sem s_turnoutref15_May_h6 → Option Res) (v : Sig.sem s_turnoutref15_May_h6) : runT Try.prog cf_turnoutref15_May Try.f22.ntmps 0 p_turnoutref15_May (ls_turnoutref15_May n) b_turnoutref15_May_6 (s_turnoutref15_May_h6.enc v) (turnK 0 (p_turnoutref15_May.head 6) s_turnoutref15_May_h6 rec K) = F_turnoutref15_May_6 n (fun z0 => K .rt (s_turnoutref15_May_r.enc ((z0, ()), ()))) (fun _ => K (.ex 6) (s_turnoutref15_May_t6.enc ((), ()))) v.1.1 v.1.2.1 v.2.1 (fun z2 => rec ((v.1.1, (v.1.2.1, (z2, ()))), (v.2.1, ()))) v.1.2.2.1 := by kernel_rfl
noncomputable def V_turnoutref15_May_6 (n : Nat) (K : Cont) (rec : Sig.sem s_turnoutref15_May_h6 → Option Res) (v : Sig.sem s_turnoutref15_May_h6) : Option Res := F_turnoutref15_May_6 n (fun z0 => K .rt (s_turnoutref15_May_r.enc ((z0, ()), ()))) (fun _ => K (.ex 6) (s_turnoutref15_May_t6.enc ((), ()))) v.1.1 v.1.2.1 v.2.1 (fun z2 => rec ((v.1.1, (v.1.2.1, (z2, ()))), (v.2.1, ()))) v.1.2.2.1
noncomputable def W_turnoutref15_May_6 (n : Nat) (K : Cont) (m : Nat) (v : Sig.sem s_turnoutref15_May_h6) : Option Res := L_turnoutref15_May_6 n (fun z0 => K .rt (s_turnoutref15_May_r.enc ((z0, ()), ()))) (fun _ => K (.ex 6) (s_turnoutref15_May_t6.enc ((), ()))) v.1.1 v.1.2.1 v.2.1 m v.1.2.2.1
theorem i_turnoutref15_May_6 (n : Nat) (K : Cont) : ∀ m v, iter (V_turnoutref15_May_6 n K) m v = W_turnoutref15_May_6 n K m v := by
  intro m
  induction m with
  | zero => intro v; rfl
  | succ m ih =>
    intro v
    show V_turnoutref15_May_6 n K (iter (V_turnoutref15_May_6 n K) m) v = V_turnoutref15_May_6 n K (W_turnoutref15_May_6 n K m) v
    rw [show iter (V_turnoutref15_May_6 n K) m = W_turnoutref15_May_6 n K m from funext ih]
theorem o_turnoutref15_May_6 (n : Nat) : ∀ L, ls_turnoutref15_May n 6 = some L → ∀ s K r, L s K = some r → ∃ x s', loopN (run Try.prog cf_turnoutref15_May Try.f22.ntmps 0 n p_turnoutref15_May none b_turnoutref15_May_6) (gc 0 (p_turnoutref15_May.head 6)) n s = some (x, s') ∧ K x s' = some r := by
  intro L hL s K r h
  have hL : some (loopT 0 (p_turnoutref15_May.head 6) s_turnoutref15_May_h6 fun K v => W_turnoutref15_May_6 n K n v) = some L := hL
  cases hL
  have hb : LOk Try.prog cf_turnoutref15_May Try.f22.ntmps 0 n p_turnoutref15_May (ls_turnoutref15_May n) b_turnoutref15_May_6 := ⟨⟨trivial, ⟨trivial, trivial⟩⟩, ⟨⟨trivial, ⟨⟨trivial, trivial⟩, trivial⟩⟩, trivial⟩⟩
  refine loopT_ok hb (V_turnoutref15_May_6 n) (t_turnoutref15_May_6 n) n s K r ?_
  rw [← h]
  unfold loopT
  simp only [i_turnoutref15_May_6]
theorem m_turnoutref15_May (n : Nat) (a0 : (List NodeS)) : runFT Try.prog cf_turnoutref15_May p_turnoutref15_May (ls_turnoutref15_May n) Try.f22 (bodyOf Try.f22) (EK.encs e_turnoutref15_May ((a0, ()), ()).1) (HK.encs h_turnoutref15_May ((a0, ()), ()).2) = M_turnoutref15_May n a0 := by kernel_rfl
theorem g_turnoutref15_May (n : Nat) (a0 : (List NodeS)) {r : Res} (h : M_turnoutref15_May n a0 = some r) : runF Try.prog cf_turnoutref15_May n p_turnoutref15_May 22 (EK.encs e_turnoutref15_May ((a0, ()), ()).1) (HK.encs h_turnoutref15_May ((a0, ()), ()).2) = some r := by
  have hb : LOk Try.prog cf_turnoutref15_May Try.f22.ntmps 0 n p_turnoutref15_May (ls_turnoutref15_May n) (bodyOf Try.f22) := ⟨trivial, ⟨⟨trivial, (o_turnoutref15_May_0 n)⟩, ⟨⟨trivial, ⟨⟨trivial, trivial⟩, trivial⟩⟩, ⟨⟨trivial, (o_turnoutref15_May_2 n)⟩, ⟨trivial, ⟨⟨trivial, (o_turnoutref15_May_6 n)⟩, ⟨trivial, trivial⟩⟩⟩⟩⟩⟩⟩
  exact runFT_some Try.prog (c := bodyOf Try.f22) Try.func22 (show Try.f22.body = some (bodyOf Try.f22) from rfl) (show (1 : Nat) ≤ 104 by decide) hb ((m_turnoutref15_May n a0).trans h) rfl (by kernel_rfl)
noncomputable def c_turnoutref15_May : Spec := specQ e_turnoutref15_May h_turnoutref15_May ro_turnoutref15_May rh_turnoutref15_May fun a b => Q_turnoutref15_May a.1
theorem k_turnoutref15_May (hm : Try.prog.follows .mixedOrders = true) : SpecOk Try.prog 22 c_turnoutref15_May := specQ_ok (pol := p_turnoutref15_May) hm (cf := cf_turnoutref15_May) (tab_ok (specs_cons (k_turnoutref15_Form hm) (specs_cons (k_turnoutref15_Goes hm) (specs_cons (k_turnoutref15_Find hm) (specs_cons (k_turnoutref15_ranks hm) specs_nil))))) fun a b r h => ⟨FUEL, g_turnoutref15_May FUEL a.1 (decRes_some h)⟩
def s_turnoutref16_sizes_r : Sig := ⟨[2], [.ty .bool], []⟩
def p_turnoutref16_sizes : Pol := ⟨fun i => none, fun i => none, some [(2, .keep)], [.keep], []⟩
def e_turnoutref16_sizes : List EK := [.agg NodeT]
def h_turnoutref16_sizes : List HK := []
noncomputable def cf_turnoutref16_sizes : CallF := mkCF [] []
noncomputable def ls_turnoutref16_sizes (n : Nat) : Loops := fun i =>  none
theorem m_turnoutref16_sizes (n : Nat) (a0 : NodeS) : runFT Try.prog cf_turnoutref16_sizes p_turnoutref16_sizes (ls_turnoutref16_sizes n) Try.f35 (bodyOf Try.f35) (EK.encs e_turnoutref16_sizes ((a0, ()), ()).1) (HK.encs h_turnoutref16_sizes ((a0, ()), ()).2) = M_turnoutref16_sizes n a0 := by kernel_rfl
theorem g_turnoutref16_sizes (n : Nat) (a0 : NodeS) {r : Res} (h : M_turnoutref16_sizes n a0 = some r) : runF Try.prog cf_turnoutref16_sizes n p_turnoutref16_sizes 35 (EK.encs e_turnoutref16_sizes ((a0, ()), ()).1) (HK.encs h_turnoutref16_sizes ((a0, ()), ()).2) = some r := by
  have hb : LOk Try.prog cf_turnoutref16_sizes Try.f35.ntmps 0 n p_turnoutref16_sizes (ls_turnoutref16_sizes n) (bodyOf Try.f35) := ⟨trivial, ⟨⟨trivial, ⟨⟨trivial, trivial⟩, trivial⟩⟩, ⟨⟨trivial, ⟨⟨trivial, trivial⟩, trivial⟩⟩, ⟨trivial, trivial⟩⟩⟩⟩
  exact runFT_some Try.prog (c := bodyOf Try.f35) Try.func35 (show Try.f35.body = some (bodyOf Try.f35) from rfl) (show (1 : Nat) ≤ 50 by decide) hb ((m_turnoutref16_sizes n a0).trans h) rfl (by kernel_rfl)
noncomputable def c_turnoutref16_sizes : Spec := specQ e_turnoutref16_sizes h_turnoutref16_sizes ro_turnoutref16_sizes rh_turnoutref16_sizes fun a b => Q_turnoutref16_sizes a.1
theorem k_turnoutref16_sizes (hm : Try.prog.follows .mixedOrders = true) : SpecOk Try.prog 35 c_turnoutref16_sizes := specQ_ok (pol := p_turnoutref16_sizes) hm (cf := cf_turnoutref16_sizes) (tab_ok specs_nil) fun a b r h => ⟨FUEL, g_turnoutref16_sizes FUEL a.1 (decRes_some h)⟩
def s_turnoutref02_May_r : Sig := ⟨[6], [.ty (.int .i64)], []⟩
def p_turnoutref02_May : Pol := ⟨fun i => none, fun i => none, some [(6, .keep)], [.keep], []⟩
def e_turnoutref02_May : List EK := [.ty .str, .ty (.int .i64), .ty (.int .i64)]
def h_turnoutref02_May : List HK := []
noncomputable def cf_turnoutref02_May : CallF := mkCF [] []
noncomputable def ls_turnoutref02_May (n : Nat) : Loops := fun i =>  none
theorem m_turnoutref02_May (n : Nat) (a0 : ByteArray) (a1 : Int) (a2 : Int) : runFT Try.prog cf_turnoutref02_May p_turnoutref02_May (ls_turnoutref02_May n) Try.f43 (bodyOf Try.f43) (EK.encs e_turnoutref02_May ((a0, (a1, (a2, ()))), ()).1) (HK.encs h_turnoutref02_May ((a0, (a1, (a2, ()))), ()).2) = M_turnoutref02_May n a0 a1 a2 := by kernel_rfl
theorem g_turnoutref02_May (n : Nat) (a0 : ByteArray) (a1 : Int) (a2 : Int) {r : Res} (h : M_turnoutref02_May n a0 a1 a2 = some r) : runF Try.prog cf_turnoutref02_May n p_turnoutref02_May 43 (EK.encs e_turnoutref02_May ((a0, (a1, (a2, ()))), ()).1) (HK.encs h_turnoutref02_May ((a0, (a1, (a2, ()))), ()).2) = some r := by
  have hb : LOk Try.prog cf_turnoutref02_May Try.f43.ntmps 0 n p_turnoutref02_May (ls_turnoutref02_May n) (bodyOf Try.f43) := ⟨trivial, ⟨⟨trivial, ⟨⟨trivial, trivial⟩, trivial⟩⟩, ⟨⟨trivial, ⟨⟨trivial, trivial⟩, trivial⟩⟩, ⟨trivial, trivial⟩⟩⟩⟩
  exact runFT_some Try.prog (c := bodyOf Try.f43) Try.func43 (show Try.f43.body = some (bodyOf Try.f43) from rfl) (show (3 : Nat) ≤ 24 by decide) hb ((m_turnoutref02_May n a0 a1 a2).trans h) rfl (by kernel_rfl)
noncomputable def c_turnoutref02_May : Spec := specQ e_turnoutref02_May h_turnoutref02_May ro_turnoutref02_May rh_turnoutref02_May fun a b => Q_turnoutref02_May a.1 a.2.1 a.2.2.1
theorem k_turnoutref02_May (hm : Try.prog.follows .mixedOrders = true) : SpecOk Try.prog 43 c_turnoutref02_May := specQ_ok (pol := p_turnoutref02_May) hm (cf := cf_turnoutref02_May) (tab_ok specs_nil) fun a b r h => ⟨FUEL, g_turnoutref02_May FUEL a.1 a.2.1 a.2.2.1 (decRes_some h)⟩
def s_turnoutref02_Bit_h0 : Sig := ⟨[5, 6], [.ty (.int .i64), .ty (.int .i64)], []⟩
def s_turnoutref02_Bit_t0 : Sig := ⟨[5], [.ty (.int .i64)], []⟩
def s_turnoutref02_Bit_r : Sig := ⟨[4], [.ty (.int .u64)], []⟩
def p_turnoutref02_Bit : Pol := ⟨fun i => if i = 0 then some [(5, .keep), (6, .keep)] else none, fun i => if i = 0 then some [(5, .keep)] else none, some [(4, .keep)], [.keep], []⟩
def e_turnoutref02_Bit : List EK := [.ty .str, .ty (.int .i64)]
def h_turnoutref02_Bit : List HK := []
noncomputable def cf_turnoutref02_Bit : CallF := mkCF [] []
noncomputable def ls_turnoutref02_Bit (n : Nat) : Loops := fun i => if i = 0 then some (loopT 0 (p_turnoutref02_Bit.head 0) s_turnoutref02_Bit_h0 fun K v => L_turnoutref02_Bit_0 n (fun z0 => K (.ex 0) (s_turnoutref02_Bit_t0.enc ((z0, ()), ()))) n v.1.1 v.1.2.1)
  else  none
noncomputable def b_turnoutref02_Bit_0 : Code := partOf (bodyOf Try.f45) [1, 1, 0, 1, 0, 0]
theorem t_turnoutref02_Bit_0 (n : Nat) (K : Cont) (rec : Sig.sem s_turnoutref02_Bit_h0 → Option Res) (v : Sig.sem s_turnoutref02_Bit_h0) : runT Try.prog cf_turnoutref02_Bit Try.f45.ntmps 0 p_turnoutref02_Bit (ls_turnoutref02_Bit n) b_turnoutref02_Bit_0 (s_turnoutref02_Bit_h0.enc v) (turnK 0 (p_turnoutref02_Bit.head 0) s_turnoutref02_Bit_h0 rec K) = F_turnoutref02_Bit_0 n (fun z0 => K (.ex 0) (s_turnoutref02_Bit_t0.enc ((z0, ()), ()))) (fun z0 z1 => rec ((z0, (z1, ())), ())) v.1.1 v.1.2.1 := by kernel_rfl
noncomputable def V_turnoutref02_Bit_0 (n : Nat) (K : Cont) (rec : Sig.sem s_turnoutref02_Bit_h0 → Option Res) (v : Sig.sem s_turnoutref02_Bit_h0) : Option Res := F_turnoutref02_Bit_0 n (fun z0 => K (.ex 0) (s_turnoutref02_Bit_t0.enc ((z0, ()), ()))) (fun z0 z1 => rec ((z0, (z1, ())), ())) v.1.1 v.1.2.1
noncomputable def W_turnoutref02_Bit_0 (n : Nat) (K : Cont) (m : Nat) (v : Sig.sem s_turnoutref02_Bit_h0) : Option Res := L_turnoutref02_Bit_0 n (fun z0 => K (.ex 0) (s_turnoutref02_Bit_t0.enc ((z0, ()), ()))) m v.1.1 v.1.2.1
theorem i_turnoutref02_Bit_0 (n : Nat) (K : Cont) : ∀ m v, iter (V_turnoutref02_Bit_0 n K) m v = W_turnoutref02_Bit_0 n K m v := by
  intro m
  induction m with
  | zero => intro v; rfl
  | succ m ih =>
    intro v
    show V_turnoutref02_Bit_0 n K (iter (V_turnoutref02_Bit_0 n K) m) v = V_turnoutref02_Bit_0 n K (W_turnoutref02_Bit_0 n K m) v
    rw [show iter (V_turnoutref02_Bit_0 n K) m = W_turnoutref02_Bit_0 n K m from funext ih]
theorem o_turnoutref02_Bit_0 (n : Nat) : ∀ L, ls_turnoutref02_Bit n 0 = some L → ∀ s K r, L s K = some r → ∃ x s', loopN (run Try.prog cf_turnoutref02_Bit Try.f45.ntmps 0 n p_turnoutref02_Bit none b_turnoutref02_Bit_0) (gc 0 (p_turnoutref02_Bit.head 0)) n s = some (x, s') ∧ K x s' = some r := by
  intro L hL s K r h
  have hL : some (loopT 0 (p_turnoutref02_Bit.head 0) s_turnoutref02_Bit_h0 fun K v => W_turnoutref02_Bit_0 n K n v) = some L := hL
  cases hL
  have hb : LOk Try.prog cf_turnoutref02_Bit Try.f45.ntmps 0 n p_turnoutref02_Bit (ls_turnoutref02_Bit n) b_turnoutref02_Bit_0 := ⟨⟨trivial, ⟨trivial, trivial⟩⟩, ⟨trivial, trivial⟩⟩
  refine loopT_ok hb (V_turnoutref02_Bit_0 n) (t_turnoutref02_Bit_0 n) n s K r ?_
  rw [← h]
  unfold loopT
  simp only [i_turnoutref02_Bit_0]
theorem m_turnoutref02_Bit (n : Nat) (a0 : ByteArray) (a1 : Int) : runFT Try.prog cf_turnoutref02_Bit p_turnoutref02_Bit (ls_turnoutref02_Bit n) Try.f45 (bodyOf Try.f45) (EK.encs e_turnoutref02_Bit ((a0, (a1, ())), ()).1) (HK.encs h_turnoutref02_Bit ((a0, (a1, ())), ()).2) = M_turnoutref02_Bit n a0 a1 := by kernel_rfl
theorem g_turnoutref02_Bit (n : Nat) (a0 : ByteArray) (a1 : Int) {r : Res} (h : M_turnoutref02_Bit n a0 a1 = some r) : runF Try.prog cf_turnoutref02_Bit n p_turnoutref02_Bit 45 (EK.encs e_turnoutref02_Bit ((a0, (a1, ())), ()).1) (HK.encs h_turnoutref02_Bit ((a0, (a1, ())), ()).2) = some r := by
  have hb : LOk Try.prog cf_turnoutref02_Bit Try.f45.ntmps 0 n p_turnoutref02_Bit (ls_turnoutref02_Bit n) (bodyOf Try.f45) := ⟨trivial, ⟨trivial, ⟨⟨trivial, (o_turnoutref02_Bit_0 n)⟩, ⟨trivial, trivial⟩⟩⟩⟩
  exact runFT_some Try.prog (c := bodyOf Try.f45) Try.func45 (show Try.f45.body = some (bodyOf Try.f45) from rfl) (show (2 : Nat) ≤ 23 by decide) hb ((m_turnoutref02_Bit n a0 a1).trans h) rfl (by kernel_rfl)
noncomputable def c_turnoutref02_Bit : Spec := specQ e_turnoutref02_Bit h_turnoutref02_Bit ro_turnoutref02_Bit rh_turnoutref02_Bit fun a b => Q_turnoutref02_Bit a.1 a.2.1
theorem k_turnoutref02_Bit (hm : Try.prog.follows .mixedOrders = true) : SpecOk Try.prog 45 c_turnoutref02_Bit := specQ_ok (pol := p_turnoutref02_Bit) hm (cf := cf_turnoutref02_Bit) (tab_ok specs_nil) fun a b r h => ⟨FUEL, g_turnoutref02_Bit FUEL a.1 a.2.1 (decRes_some h)⟩
def s_turnoutref02_Twice_r : Sig := ⟨[4], [.ptr 0 0 0], [.cell WordT]⟩
def p_turnoutref02_Twice : Pol := ⟨fun i => none, fun i => none, some [(4, (.own WordT))], [.keep], []⟩
def e_turnoutref02_Twice : List EK := [.agg WordT, .ty (.int .u64)]
def h_turnoutref02_Twice : List HK := []
noncomputable def cf_turnoutref02_Twice : CallF := mkCF [] []
noncomputable def ls_turnoutref02_Twice (n : Nat) : Loops := fun i =>  none
theorem m_turnoutref02_Twice (n : Nat) (a0 : WordS) (a1 : Int) : runFT Try.prog cf_turnoutref02_Twice p_turnoutref02_Twice (ls_turnoutref02_Twice n) Try.f44 (bodyOf Try.f44) (EK.encs e_turnoutref02_Twice ((a0, (a1, ())), ()).1) (HK.encs h_turnoutref02_Twice ((a0, (a1, ())), ()).2) = M_turnoutref02_Twice n a0 a1 := by kernel_rfl
theorem g_turnoutref02_Twice (n : Nat) (a0 : WordS) (a1 : Int) {r : Res} (h : M_turnoutref02_Twice n a0 a1 = some r) : runF Try.prog cf_turnoutref02_Twice n p_turnoutref02_Twice 44 (EK.encs e_turnoutref02_Twice ((a0, (a1, ())), ()).1) (HK.encs h_turnoutref02_Twice ((a0, (a1, ())), ()).2) = some r := by
  have hb : LOk Try.prog cf_turnoutref02_Twice Try.f44.ntmps 0 n p_turnoutref02_Twice (ls_turnoutref02_Twice n) (bodyOf Try.f44) := ⟨trivial, ⟨trivial, ⟨trivial, trivial⟩⟩⟩
  exact runFT_some Try.prog (c := bodyOf Try.f44) Try.func44 (show Try.f44.body = some (bodyOf Try.f44) from rfl) (show (2 : Nat) ≤ 20 by decide) hb ((m_turnoutref02_Twice n a0 a1).trans h) rfl (by kernel_rfl)
noncomputable def c_turnoutref02_Twice : Spec := specQ e_turnoutref02_Twice h_turnoutref02_Twice ro_turnoutref02_Twice rh_turnoutref02_Twice fun a b => Q_turnoutref02_Twice a.1 a.2.1
theorem k_turnoutref02_Twice (hm : Try.prog.follows .mixedOrders = true) : SpecOk Try.prog 44 c_turnoutref02_Twice := specQ_ok (pol := p_turnoutref02_Twice) hm (cf := cf_turnoutref02_Twice) (tab_ok specs_nil) fun a b r h => ⟨FUEL, g_turnoutref02_Twice FUEL a.1 a.2.1 (decRes_some h)⟩
def s_turnoutref02_Get_h0 : Sig := ⟨[0, 1, 2, 6, 8, 9, 10], [.ty .str, .ty (.int .i64), .ty (.int .i64), .ptr 0 0 0, .ty (.int .i64), .ptr 1 0 0, .ty (.int .i64)], [.cell WordT, .cell WordT]⟩
def s_turnoutref02_Get_t0 : Sig := ⟨[6, 8, 9], [.ptr 0 0 0, .ty (.int .i64), .ptr 1 0 0], [.cell WordT, .cell WordT]⟩
def s_turnoutref02_Get_r : Sig := ⟨[6, 7], [.ptr 0 0 0, .ty (.int .i64)], [.cell WordT]⟩
def p_turnoutref02_Get : Pol := ⟨fun i => if i = 0 then some [(0, .keep), (1, .keep), (2, .keep), (6, (.own WordT)), (8, .keep), (9, (.own WordT)), (10, .keep)] else none, fun i => if i = 0 then some [(6, (.own WordT)), (8, .keep), (9, (.own WordT))] else none, some [(6, (.own WordT)), (7, .keep)], [.keep, .keep], []⟩
def e_turnoutref02_Get : List EK := [.ty .str, .ty (.int .i64), .ty (.int .i64)]
def h_turnoutref02_Get : List HK := []
noncomputable def cf_turnoutref02_Get : CallF := mkCF [(43, c_turnoutref02_May), (45, c_turnoutref02_Bit), (44, c_turnoutref02_Twice)] [(43, [.str, (.int .i64), (.int .i64)]), (45, [.str, (.int .i64)]), (44, [WordT, (.int .u64)])]
noncomputable def ls_turnoutref02_Get (n : Nat) : Loops := fun i => if i = 0 then some (loopT 0 (p_turnoutref02_Get.head 0) s_turnoutref02_Get_h0 fun K v => L_turnoutref02_Get_0 n (fun z2 => K (.ex 0) (s_turnoutref02_Get_t0.enc (((), (v.1.2.2.2.2.1, ((), ()))), (v.2.1, (z2, ()))))) v.1.1 v.1.2.1 v.1.2.2.1 v.1.2.2.2.2.1 v.2.1 n v.1.2.2.2.2.2.2.1 v.2.2.1)
  else  none
noncomputable def b_turnoutref02_Get_0 : Code := partOf (bodyOf Try.f36) [1, 1, 1, 0, 1, 0, 0]
theorem t_turnoutref02_Get_0 (n : Nat) (K : Cont) (rec : Sig.sem s_turnoutref02_Get_h0 → Option Res) (v : Sig.sem s_turnoutref02_Get_h0) : runT Try.prog cf_turnoutref02_Get Try.f36.ntmps 0 p_turnoutref02_Get (ls_turnoutref02_Get n) b_turnoutref02_Get_0 (s_turnoutref02_Get_h0.enc v) (turnK 0 (p_turnoutref02_Get.head 0) s_turnoutref02_Get_h0 rec K) = F_turnoutref02_Get_0 n (fun z2 => K (.ex 0) (s_turnoutref02_Get_t0.enc (((), (v.1.2.2.2.2.1, ((), ()))), (v.2.1, (z2, ()))))) v.1.1 v.1.2.1 v.1.2.2.1 v.1.2.2.2.2.1 v.2.1 (fun z4 z6 => rec ((v.1.1, (v.1.2.1, (v.1.2.2.1, ((), (v.1.2.2.2.2.1, ((), (z4, ()))))))), (v.2.1, (z6, ())))) v.1.2.2.2.2.2.2.1 v.2.2.1 := by kernel_rfl
noncomputable def V_turnoutref02_Get_0 (n : Nat) (K : Cont) (rec : Sig.sem s_turnoutref02_Get_h0 → Option Res) (v : Sig.sem s_turnoutref02_Get_h0) : Option Res := F_turnoutref02_Get_0 n (fun z2 => K (.ex 0) (s_turnoutref02_Get_t0.enc (((), (v.1.2.2.2.2.1, ((), ()))), (v.2.1, (z2, ()))))) v.1.1 v.1.2.1 v.1.2.2.1 v.1.2.2.2.2.1 v.2.1 (fun z4 z6 => rec ((v.1.1, (v.1.2.1, (v.1.2.2.1, ((), (v.1.2.2.2.2.1, ((), (z4, ()))))))), (v.2.1, (z6, ())))) v.1.2.2.2.2.2.2.1 v.2.2.1
noncomputable def W_turnoutref02_Get_0 (n : Nat) (K : Cont) (m : Nat) (v : Sig.sem s_turnoutref02_Get_h0) : Option Res := L_turnoutref02_Get_0 n (fun z2 => K (.ex 0) (s_turnoutref02_Get_t0.enc (((), (v.1.2.2.2.2.1, ((), ()))), (v.2.1, (z2, ()))))) v.1.1 v.1.2.1 v.1.2.2.1 v.1.2.2.2.2.1 v.2.1 m v.1.2.2.2.2.2.2.1 v.2.2.1
theorem i_turnoutref02_Get_0 (n : Nat) (K : Cont) : ∀ m v, iter (V_turnoutref02_Get_0 n K) m v = W_turnoutref02_Get_0 n K m v := by
  intro m
  induction m with
  | zero => intro v; rfl
  | succ m ih =>
    intro v
    show V_turnoutref02_Get_0 n K (iter (V_turnoutref02_Get_0 n K) m) v = V_turnoutref02_Get_0 n K (W_turnoutref02_Get_0 n K m) v
    rw [show iter (V_turnoutref02_Get_0 n K) m = W_turnoutref02_Get_0 n K m from funext ih]
theorem o_turnoutref02_Get_0 (n : Nat) : ∀ L, ls_turnoutref02_Get n 0 = some L → ∀ s K r, L s K = some r → ∃ x s', loopN (run Try.prog cf_turnoutref02_Get Try.f36.ntmps 0 n p_turnoutref02_Get none b_turnoutref02_Get_0) (gc 0 (p_turnoutref02_Get.head 0)) n s = some (x, s') ∧ K x s' = some r := by
  intro L hL s K r h
  have hL : some (loopT 0 (p_turnoutref02_Get.head 0) s_turnoutref02_Get_h0 fun K v => W_turnoutref02_Get_0 n K n v) = some L := hL
  cases hL
  have hb : LOk Try.prog cf_turnoutref02_Get Try.f36.ntmps 0 n p_turnoutref02_Get (ls_turnoutref02_Get n) b_turnoutref02_Get_0 := ⟨⟨trivial, ⟨trivial, trivial⟩⟩, ⟨trivial, trivial⟩⟩
  refine loopT_ok hb (V_turnoutref02_Get_0 n) (t_turnoutref02_Get_0 n) n s K r ?_
  rw [← h]
  unfold loopT
  simp only [i_turnoutref02_Get_0]
theorem m_turnoutref02_Get (n : Nat) (a0 : ByteArray) (a1 : Int) (a2 : Int) : runFT Try.prog cf_turnoutref02_Get p_turnoutref02_Get (ls_turnoutref02_Get n) Try.f36 (bodyOf Try.f36) (EK.encs e_turnoutref02_Get ((a0, (a1, (a2, ()))), ()).1) (HK.encs h_turnoutref02_Get ((a0, (a1, (a2, ()))), ()).2) = M_turnoutref02_Get n a0 a1 a2 := by kernel_rfl
theorem g_turnoutref02_Get (n : Nat) (a0 : ByteArray) (a1 : Int) (a2 : Int) {r : Res} (h : M_turnoutref02_Get n a0 a1 a2 = some r) : runF Try.prog cf_turnoutref02_Get n p_turnoutref02_Get 36 (EK.encs e_turnoutref02_Get ((a0, (a1, (a2, ()))), ()).1) (HK.encs h_turnoutref02_Get ((a0, (a1, (a2, ()))), ()).2) = some r := by
  have hb : LOk Try.prog cf_turnoutref02_Get Try.f36.ntmps 0 n p_turnoutref02_Get (ls_turnoutref02_Get n) (bodyOf Try.f36) := ⟨trivial, ⟨trivial, ⟨trivial, ⟨⟨trivial, (o_turnoutref02_Get_0 n)⟩, ⟨trivial, trivial⟩⟩⟩⟩⟩
  exact runFT_some Try.prog (c := bodyOf Try.f36) Try.func36 (show Try.f36.body = some (bodyOf Try.f36) from rfl) (show (3 : Nat) ≤ 34 by decide) hb ((m_turnoutref02_Get n a0 a1 a2).trans h) rfl (by kernel_rfl)
noncomputable def c_turnoutref02_Get : Spec := specQ e_turnoutref02_Get h_turnoutref02_Get ro_turnoutref02_Get rh_turnoutref02_Get fun a b => Q_turnoutref02_Get a.1 a.2.1 a.2.2.1
theorem k_turnoutref02_Get (hm : Try.prog.follows .mixedOrders = true) : SpecOk Try.prog 36 c_turnoutref02_Get := specQ_ok (pol := p_turnoutref02_Get) hm (cf := cf_turnoutref02_Get) (tab_ok (specs_cons (k_turnoutref02_May hm) (specs_cons (k_turnoutref02_Bit hm) (specs_cons (k_turnoutref02_Twice hm) specs_nil)))) fun a b r h => ⟨FUEL, g_turnoutref02_Get FUEL a.1 a.2.1 a.2.2.1 (decRes_some h)⟩
def s_turnoutref16_number_r : Sig := ⟨[8, 9], [.ty (.int .i64), .ty .bool], []⟩
def p_turnoutref16_number : Pol := ⟨fun i => none, fun i => none, some [(8, .keep), (9, .keep)], [.keep, .keep], []⟩
def e_turnoutref16_number : List EK := [.ty .str, .ty (.int .i64), .ty (.int .i64), .ty (.int .i64)]
def h_turnoutref16_number : List HK := []
noncomputable def cf_turnoutref16_number : CallF := mkCF [(36, c_turnoutref02_Get)] [(36, [.str, (.int .i64), (.int .i64)])]
noncomputable def ls_turnoutref16_number (n : Nat) : Loops := fun i =>  none
theorem m_turnoutref16_number (n : Nat) (a0 : ByteArray) (a1 : Int) (a2 : Int) (a3 : Int) : runFT Try.prog cf_turnoutref16_number p_turnoutref16_number (ls_turnoutref16_number n) Try.f24 (bodyOf Try.f24) (EK.encs e_turnoutref16_number ((a0, (a1, (a2, (a3, ())))), ()).1) (HK.encs h_turnoutref16_number ((a0, (a1, (a2, (a3, ())))), ()).2) = M_turnoutref16_number n a0 a1 a2 a3 := by kernel_rfl
theorem g_turnoutref16_number (n : Nat) (a0 : ByteArray) (a1 : Int) (a2 : Int) (a3 : Int) {r : Res} (h : M_turnoutref16_number n a0 a1 a2 a3 = some r) : runF Try.prog cf_turnoutref16_number n p_turnoutref16_number 24 (EK.encs e_turnoutref16_number ((a0, (a1, (a2, (a3, ())))), ()).1) (HK.encs h_turnoutref16_number ((a0, (a1, (a2, (a3, ())))), ()).2) = some r := by
  have hb : LOk Try.prog cf_turnoutref16_number Try.f24.ntmps 0 n p_turnoutref16_number (ls_turnoutref16_number n) (bodyOf Try.f24) := ⟨trivial, ⟨⟨trivial, ⟨⟨trivial, trivial⟩, trivial⟩⟩, ⟨trivial, ⟨trivial, trivial⟩⟩⟩⟩
  exact runFT_some Try.prog (c := bodyOf Try.f24) Try.func24 (show Try.f24.body = some (bodyOf Try.f24) from rfl) (show (4 : Nat) ≤ 34 by decide) hb ((m_turnoutref16_number n a0 a1 a2 a3).trans h) rfl (by kernel_rfl)
noncomputable def c_turnoutref16_number : Spec := specQ e_turnoutref16_number h_turnoutref16_number ro_turnoutref16_number rh_turnoutref16_number fun a b => Q_turnoutref16_number a.1 a.2.1 a.2.2.1 a.2.2.2.1
theorem k_turnoutref16_number (hm : Try.prog.follows .mixedOrders = true) : SpecOk Try.prog 24 c_turnoutref16_number := specQ_ok (pol := p_turnoutref16_number) hm (cf := cf_turnoutref16_number) (tab_ok (specs_cons (k_turnoutref02_Get hm) specs_nil)) fun a b r h => ⟨FUEL, g_turnoutref16_number FUEL a.1 a.2.1 a.2.2.1 a.2.2.2.1 (decRes_some h)⟩
def s_turnoutref16_Size_r : Sig := ⟨[6, 7], [.ty (.int .i64), .ty (.int .i64)], []⟩
def p_turnoutref16_Size : Pol := ⟨fun i => none, fun i => none, some [(6, .keep), (7, .keep)], [.keep, .keep], []⟩
def e_turnoutref16_Size : List EK := [.agg NodeT, .ty .str, .ty (.int .i64)]
def h_turnoutref16_Size : List HK := []
noncomputable def cf_turnoutref16_Size : CallF := mkCF [(35, c_turnoutref16_sizes), (24, c_turnoutref16_number)] [(35, [NodeT]), (24, [.str, (.int .i64), (.int .i64), (.int .i64)])]
noncomputable def ls_turnoutref16_Size (n : Nat) : Loops := fun i =>  none
theorem m_turnoutref16_Size (n : Nat) (a0 : NodeS) (a1 : ByteArray) (a2 : Int) : runFT Try.prog cf_turnoutref16_Size p_turnoutref16_Size (ls_turnoutref16_Size n) Try.f23 (bodyOf Try.f23) (EK.encs e_turnoutref16_Size ((a0, (a1, (a2, ()))), ()).1) (HK.encs h_turnoutref16_Size ((a0, (a1, (a2, ()))), ()).2) = M_turnoutref16_Size n a0 a1 a2 := by kernel_rfl
theorem g_turnoutref16_Size (n : Nat) (a0 : NodeS) (a1 : ByteArray) (a2 : Int) {r : Res} (h : M_turnoutref16_Size n a0 a1 a2 = some r) : runF Try.prog cf_turnoutref16_Size n p_turnoutref16_Size 23 (EK.encs e_turnoutref16_Size ((a0, (a1, (a2, ()))), ()).1) (HK.encs h_turnoutref16_Size ((a0, (a1, (a2, ()))), ()).2) = some r := by
  have hb : LOk Try.prog cf_turnoutref16_Size Try.f23.ntmps 0 n p_turnoutref16_Size (ls_turnoutref16_Size n) (bodyOf Try.f23) := ⟨trivial, ⟨⟨trivial, ⟨⟨trivial, trivial⟩, trivial⟩⟩, ⟨trivial, ⟨⟨trivial, ⟨⟨trivial, ⟨⟨trivial, ⟨⟨trivial, trivial⟩, trivial⟩⟩, trivial⟩⟩, trivial⟩⟩, ⟨⟨trivial, ⟨⟨trivial, trivial⟩, trivial⟩⟩, ⟨⟨trivial, ⟨⟨trivial, trivial⟩, trivial⟩⟩, ⟨trivial, trivial⟩⟩⟩⟩⟩⟩⟩
  exact runFT_some Try.prog (c := bodyOf Try.f23) Try.func23 (show Try.f23.body = some (bodyOf Try.f23) from rfl) (show (3 : Nat) ≤ 56 by decide) hb ((m_turnoutref16_Size n a0 a1 a2).trans h) rfl (by kernel_rfl)
noncomputable def c_turnoutref16_Size : Spec := specQ e_turnoutref16_Size h_turnoutref16_Size ro_turnoutref16_Size rh_turnoutref16_Size fun a b => Q_turnoutref16_Size a.1 a.2.1 a.2.2.1
theorem k_turnoutref16_Size (hm : Try.prog.follows .mixedOrders = true) : SpecOk Try.prog 23 c_turnoutref16_Size := specQ_ok (pol := p_turnoutref16_Size) hm (cf := cf_turnoutref16_Size) (tab_ok (specs_cons (k_turnoutref16_sizes hm) (specs_cons (k_turnoutref16_number hm) specs_nil))) fun a b r h => ⟨FUEL, g_turnoutref16_Size FUEL a.1 a.2.1 a.2.2.1 (decRes_some h)⟩
def s_turnoutref16_Walk_r : Sig := ⟨[4, 5, 6], [.hs 0 0, .ty (.int .i64), .ty (.int .i64)], [.row HeadT]⟩
def s_turnoutref16_Walk_h0 : Sig := ⟨[0, 1, 7, 8, 9, 10], [.ty (.slice NodeT), .ty .str, .hs 0 0, .ty (.int .i64), .ty (.int .i64), .ty (.int .i64)], [.row HeadT]⟩
def s_turnoutref16_Walk_h2 : Sig := ⟨[0, 1, 7, 8, 9, 10, 11, 12], [.ty (.slice NodeT), .ty .str, .hs 0 0, .ty (.int .i64), .ty (.int .i64), .ty (.int .i64), .ptr 1 0 0, .ty (.int .i64)], [.row HeadT, .cell NodeT]⟩
def s_turnoutref16_Walk_t2 : Sig := ⟨[0, 1, 7, 8, 9, 10, 11], [.ty (.slice NodeT), .ty .str, .hs 0 0, .ty (.int .i64), .ty (.int .i64), .ty (.int .i64), .ptr 1 0 0], [.row HeadT, .cell NodeT]⟩
def s_turnoutref16_Walk_h4 : Sig := ⟨[0, 1, 7, 9, 10, 11, 13, 15, 16, 18], [.ty (.slice NodeT), .ty .str, .hs 0 0, .ty (.int .i64), .ty (.int .i64), .ptr 1 0 0, .ty (.int .i64), .ty (.int .i64), .ty (.int .i64), .ty (.int .i64)], [.row HeadT, .cell NodeT]⟩
def s_turnoutref16_Walk_t4 : Sig := ⟨[0, 1, 7, 9, 10, 13, 15], [.ty (.slice NodeT), .ty .str, .hs 0 0, .ty (.int .i64), .ty (.int .i64), .ty (.int .i64), .ty (.int .i64)], [.row HeadT]⟩
def p_turnoutref16_Walk : Pol := ⟨fun i => if i = 0 then some [(0, .keep), (1, .keep), (7, (.own HeadT)), (8, .keep), (9, .keep), (10, .keep)] else if i = 2 then some [(0, .keep), (1, .keep), (7, (.own HeadT)), (8, .keep), (9, .keep), (10, .keep), (11, (.own NodeT)), (12, .keep)] else if i = 4 then some [(0, .keep), (1, .keep), (7, (.own HeadT)), (9, .keep), (10, .keep), (11, (.own NodeT)), (13, .keep), (15, .keep), (16, .keep), (18, .keep)] else none, fun i => if i = 2 then some [(0, .keep), (1, .keep), (7, (.own HeadT)), (8, .keep), (9, .keep), (10, .keep), (11, (.own NodeT))] else if i = 4 then some [(0, .keep), (1, .keep), (7, (.own HeadT)), (9, .keep), (10, .keep), (13, .keep), (15, .keep)] else none, some [(4, (.own HeadT)), (5, .keep), (6, .keep)], [(.own HeadT), .keep, .keep], []⟩
def e_turnoutref16_Walk : List EK := [.ty (.slice NodeT), .ty .str]
def h_turnoutref16_Walk : List HK := []
noncomputable def cf_turnoutref16_Walk : CallF := mkCF [(22, c_turnoutref15_May), (23, c_turnoutref16_Size), (24, c_turnoutref16_number)] [(22, [(.slice NodeT)]), (23, [NodeT, .str, (.int .i64)]), (24, [.str, (.int .i64), (.int .i64), (.int .i64)])]
noncomputable def ls_turnoutref16_Walk (n : Nat) : Loops := fun i => if i = 2 then some (loopT 0 (p_turnoutref16_Walk.head 2) s_turnoutref16_Walk_h2 fun K v => L_turnoutref16_Walk_2 n (fun z7 => K (.ex 2) (s_turnoutref16_Walk_t2.enc ((v.1.1, (v.1.2.1, (v.1.2.2.1, (v.1.2.2.2.1, (v.1.2.2.2.2.1, (v.1.2.2.2.2.2.1, ((), ()))))))), (v.2.1, (z7, ()))))) v.1.1 v.1.2.1 v.1.2.2.1 v.1.2.2.2.1 v.1.2.2.2.2.1 v.1.2.2.2.2.2.1 v.2.1 n v.1.2.2.2.2.2.2.2.1 v.2.2.1)
  else if i = 4 then some (loopT 0 (p_turnoutref16_Walk.head 4) s_turnoutref16_Walk_h4 fun K v => L_turnoutref16_Walk_4 n (fun z6 => K (.ex 4) (s_turnoutref16_Walk_t4.enc ((v.1.1, (v.1.2.1, (v.1.2.2.1, (v.1.2.2.2.1, (v.1.2.2.2.2.1, (v.1.2.2.2.2.2.2.1, (z6, ()))))))), (v.2.1, ())))) v.1.1 v.1.2.1 v.1.2.2.1 v.1.2.2.2.1 v.1.2.2.2.2.1 v.1.2.2.2.2.2.2.1 v.1.2.2.2.2.2.2.2.2.1 v.2.1 v.2.2.1 n v.1.2.2.2.2.2.2.2.1 v.1.2.2.2.2.2.2.2.2.2.1)
  else if i = 0 then some (loopT 0 (p_turnoutref16_Walk.head 0) s_turnoutref16_Walk_h0 fun K v => L_turnoutref16_Walk_0 n (fun z0 z1 z2 z3 => K .rt (s_turnoutref16_Walk_r.enc ((z0, (z1, (z2, ()))), (z3, ())))) v.1.1 v.1.2.1 n v.1.2.2.1 v.1.2.2.2.1 v.1.2.2.2.2.1 v.1.2.2.2.2.2.1 v.2.1)
  else  none
noncomputable def b_turnoutref16_Walk_2 : Code := partOf (bodyOf Try.f11) [1, 1, 1, 1, 0, 0, 0, 1, 0, 1, 0, 0]
theorem t_turnoutref16_Walk_2 (n : Nat) (K : Cont) (rec : Sig.sem s_turnoutref16_Walk_h2 → Option Res) (v : Sig.sem s_turnoutref16_Walk_h2) : runT Try.prog cf_turnoutref16_Walk Try.f11.ntmps 0 p_turnoutref16_Walk (ls_turnoutref16_Walk n) b_turnoutref16_Walk_2 (s_turnoutref16_Walk_h2.enc v) (turnK 0 (p_turnoutref16_Walk.head 2) s_turnoutref16_Walk_h2 rec K) = F_turnoutref16_Walk_2 n (fun z7 => K (.ex 2) (s_turnoutref16_Walk_t2.enc ((v.1.1, (v.1.2.1, (v.1.2.2.1, (v.1.2.2.2.1, (v.1.2.2.2.2.1, (v.1.2.2.2.2.2.1, ((), ()))))))), (v.2.1, (z7, ()))))) v.1.1 v.1.2.1 v.1.2.2.1 v.1.2.2.2.1 v.1.2.2.2.2.1 v.1.2.2.2.2.2.1 v.2.1 (fun z6 z8 => rec ((v.1.1, (v.1.2.1, (v.1.2.2.1, (v.1.2.2.2.1, (v.1.2.2.2.2.1, (v.1.2.2.2.2.2.1, ((), (z6, ())))))))), (v.2.1, (z8, ())))) v.1.2.2.2.2.2.2.2.1 v.2.2.1 := by kernel_rfl
noncomputable def V_turnoutref16_Walk_2 (n : Nat) (K : Cont) (rec : Sig.sem s_turnoutref16_Walk_h2 → Option Res) (v : Sig.sem s_turnoutref16_Walk_h2) : Option Res := F_turnoutref16_Walk_2 n (fun z7 => K (.ex 2) (s_turnoutref16_Walk_t2.enc ((v.1.1, (v.1.2.1, (v.1.2.2.1, (v.1.2.2.2.1, (v.1.2.2.2.2.1, (v.1.2.2.2.2.2.1, ((), ()))))))), (v.2.1, (z7, ()))))) v.1.1 v.1.2.1 v.1.2.2.1 v.1.2.2.2.1 v.1.2.2.2.2.1 v.1.2.2.2.2.2.1 v.2.1 (fun z6 z8 => rec ((v.1.1, (v.1.2.1, (v.1.2.2.1, (v.1.2.2.2.1, (v.1.2.2.2.2.1, (v.1.2.2.2.2.2.1, ((), (z6, ())))))))), (v.2.1, (z8, ())))) v.1.2.2.2.2.2.2.2.1 v.2.2.1
noncomputable def W_turnoutref16_Walk_2 (n : Nat) (K : Cont) (m : Nat) (v : Sig.sem s_turnoutref16_Walk_h2) : Option Res := L_turnoutref16_Walk_2 n (fun z7 => K (.ex 2) (s_turnoutref16_Walk_t2.enc ((v.1.1, (v.1.2.1, (v.1.2.2.1, (v.1.2.2.2.1, (v.1.2.2.2.2.1, (v.1.2.2.2.2.2.1, ((), ()))))))), (v.2.1, (z7, ()))))) v.1.1 v.1.2.1 v.1.2.2.1 v.1.2.2.2.1 v.1.2.2.2.2.1 v.1.2.2.2.2.2.1 v.2.1 m v.1.2.2.2.2.2.2.2.1 v.2.2.1
theorem i_turnoutref16_Walk_2 (n : Nat) (K : Cont) : ∀ m v, iter (V_turnoutref16_Walk_2 n K) m v = W_turnoutref16_Walk_2 n K m v := by
  intro m
  induction m with
  | zero => intro v; rfl
  | succ m ih =>
    intro v
    show V_turnoutref16_Walk_2 n K (iter (V_turnoutref16_Walk_2 n K) m) v = V_turnoutref16_Walk_2 n K (W_turnoutref16_Walk_2 n K m) v
    rw [show iter (V_turnoutref16_Walk_2 n K) m = W_turnoutref16_Walk_2 n K m from funext ih]
theorem o_turnoutref16_Walk_2 (n : Nat) : ∀ L, ls_turnoutref16_Walk n 2 = some L → ∀ s K r, L s K = some r → ∃ x s', loopN (run Try.prog cf_turnoutref16_Walk Try.f11.ntmps 0 n p_turnoutref16_Walk none b_turnoutref16_Walk_2) (gc 0 (p_turnoutref16_Walk.head 2)) n s = some (x, s') ∧ K x s' = some r := by
  intro L hL s K r h
  have hL : some (loopT 0 (p_turnoutref16_Walk.head 2) s_turnoutref16_Walk_h2 fun K v => W_turnoutref16_Walk_2 n K n v) = some L := hL
  cases hL
  have hb : LOk Try.prog cf_turnoutref16_Walk Try.f11.ntmps 0 n p_turnoutref16_Walk (ls_turnoutref16_Walk n) b_turnoutref16_Walk_2 := ⟨⟨trivial, ⟨trivial, trivial⟩⟩, ⟨⟨trivial, ⟨trivial, trivial⟩⟩, trivial⟩⟩
  refine loopT_ok hb (V_turnoutref16_Walk_2 n) (t_turnoutref16_Walk_2 n) n s K r ?_
  rw [← h]
  unfold loopT
  simp only [i_turnoutref16_Walk_2]
noncomputable def b_turnoutref16_Walk_4 : Code := partOf (bodyOf Try.f11) [1, 1, 1, 1, 0, 0, 0, 1, 1, 1, 1, 1, 1, 1, 1, 0, 1, 0, 1, 1, 1, 0, 0]
theorem t_turnoutref16_Walk_4 (n : Nat) (K : Cont) (rec : Sig.sem s_turnoutref16_Walk_h4 → Option Res) (v : Sig.sem s_turnoutref16_Walk_h4) : runT Try.prog cf_turnoutref16_Walk Try.f11.ntmps 0 p_turnoutref16_Walk (ls_turnoutref16_Walk n) b_turnoutref16_Walk_4 (s_turnoutref16_Walk_h4.enc v) (turnK 0 (p_turnoutref16_Walk.head 4) s_turnoutref16_Walk_h4 rec K) = F_turnoutref16_Walk_4 n (fun z6 => K (.ex 4) (s_turnoutref16_Walk_t4.enc ((v.1.1, (v.1.2.1, (v.1.2.2.1, (v.1.2.2.2.1, (v.1.2.2.2.2.1, (v.1.2.2.2.2.2.2.1, (z6, ()))))))), (v.2.1, ())))) v.1.1 v.1.2.1 v.1.2.2.1 v.1.2.2.2.1 v.1.2.2.2.2.1 v.1.2.2.2.2.2.2.1 v.1.2.2.2.2.2.2.2.2.1 v.2.1 v.2.2.1 (fun z6 z8 => rec ((v.1.1, (v.1.2.1, (v.1.2.2.1, (v.1.2.2.2.1, (v.1.2.2.2.2.1, ((), (v.1.2.2.2.2.2.2.1, (z6, (v.1.2.2.2.2.2.2.2.2.1, (z8, ())))))))))), (v.2.1, (v.2.2.1, ())))) v.1.2.2.2.2.2.2.2.1 v.1.2.2.2.2.2.2.2.2.2.1 := by kernel_rfl
noncomputable def V_turnoutref16_Walk_4 (n : Nat) (K : Cont) (rec : Sig.sem s_turnoutref16_Walk_h4 → Option Res) (v : Sig.sem s_turnoutref16_Walk_h4) : Option Res := F_turnoutref16_Walk_4 n (fun z6 => K (.ex 4) (s_turnoutref16_Walk_t4.enc ((v.1.1, (v.1.2.1, (v.1.2.2.1, (v.1.2.2.2.1, (v.1.2.2.2.2.1, (v.1.2.2.2.2.2.2.1, (z6, ()))))))), (v.2.1, ())))) v.1.1 v.1.2.1 v.1.2.2.1 v.1.2.2.2.1 v.1.2.2.2.2.1 v.1.2.2.2.2.2.2.1 v.1.2.2.2.2.2.2.2.2.1 v.2.1 v.2.2.1 (fun z6 z8 => rec ((v.1.1, (v.1.2.1, (v.1.2.2.1, (v.1.2.2.2.1, (v.1.2.2.2.2.1, ((), (v.1.2.2.2.2.2.2.1, (z6, (v.1.2.2.2.2.2.2.2.2.1, (z8, ())))))))))), (v.2.1, (v.2.2.1, ())))) v.1.2.2.2.2.2.2.2.1 v.1.2.2.2.2.2.2.2.2.2.1
noncomputable def W_turnoutref16_Walk_4 (n : Nat) (K : Cont) (m : Nat) (v : Sig.sem s_turnoutref16_Walk_h4) : Option Res := L_turnoutref16_Walk_4 n (fun z6 => K (.ex 4) (s_turnoutref16_Walk_t4.enc ((v.1.1, (v.1.2.1, (v.1.2.2.1, (v.1.2.2.2.1, (v.1.2.2.2.2.1, (v.1.2.2.2.2.2.2.1, (z6, ()))))))), (v.2.1, ())))) v.1.1 v.1.2.1 v.1.2.2.1 v.1.2.2.2.1 v.1.2.2.2.2.1 v.1.2.2.2.2.2.2.1 v.1.2.2.2.2.2.2.2.2.1 v.2.1 v.2.2.1 m v.1.2.2.2.2.2.2.2.1 v.1.2.2.2.2.2.2.2.2.2.1
theorem i_turnoutref16_Walk_4 (n : Nat) (K : Cont) : ∀ m v, iter (V_turnoutref16_Walk_4 n K) m v = W_turnoutref16_Walk_4 n K m v := by
  intro m
  induction m with
  | zero => intro v; rfl
  | succ m ih =>
    intro v
    show V_turnoutref16_Walk_4 n K (iter (V_turnoutref16_Walk_4 n K) m) v = V_turnoutref16_Walk_4 n K (W_turnoutref16_Walk_4 n K m) v
    rw [show iter (V_turnoutref16_Walk_4 n K) m = W_turnoutref16_Walk_4 n K m from funext ih]
theorem o_turnoutref16_Walk_4 (n : Nat) : ∀ L, ls_turnoutref16_Walk n 4 = some L → ∀ s K r, L s K = some r → ∃ x s', loopN (run Try.prog cf_turnoutref16_Walk Try.f11.ntmps 0 n p_turnoutref16_Walk none b_turnoutref16_Walk_4) (gc 0 (p_turnoutref16_Walk.head 4)) n s = some (x, s') ∧ K x s' = some r := by
  intro L hL s K r h
  have hL : some (loopT 0 (p_turnoutref16_Walk.head 4) s_turnoutref16_Walk_h4 fun K v => W_turnoutref16_Walk_4 n K n v) = some L := hL
  cases hL
  have hb : LOk Try.prog cf_turnoutref16_Walk Try.f11.ntmps 0 n p_turnoutref16_Walk (ls_turnoutref16_Walk n) b_turnoutref16_Walk_4 := ⟨⟨trivial, ⟨trivial, trivial⟩⟩, ⟨⟨trivial, ⟨trivial, trivial⟩⟩, trivial⟩⟩
  refine loopT_ok hb (V_turnoutref16_Walk_4 n) (t_turnoutref16_Walk_4 n) n s K r ?_
  rw [← h]
  unfold loopT
  simp only [i_turnoutref16_Walk_4]
noncomputable def b_turnoutref16_Walk_0 : Code := partOf (bodyOf Try.f11) [1, 1, 1, 1, 0, 0]
theorem t_turnoutref16_Walk_0 (n : Nat) (K : Cont) (rec : Sig.sem s_turnoutref16_Walk_h0 → Option Res) (v : Sig.sem s_turnoutref16_Walk_h0) : runT Try.prog cf_turnoutref16_Walk Try.f11.ntmps 0 p_turnoutref16_Walk (ls_turnoutref16_Walk n) b_turnoutref16_Walk_0 (s_turnoutref16_Walk_h0.enc v) (turnK 0 (p_turnoutref16_Walk.head 0) s_turnoutref16_Walk_h0 rec K) = F_turnoutref16_Walk_0 n (fun z0 z1 z2 z3 => K .rt (s_turnoutref16_Walk_r.enc ((z0, (z1, (z2, ()))), (z3, ())))) v.1.1 v.1.2.1 (fun z2 z3 z4 z5 z6 => rec ((v.1.1, (v.1.2.1, (z2, (z3, (z4, (z5, ())))))), (z6, ()))) v.1.2.2.1 v.1.2.2.2.1 v.1.2.2.2.2.1 v.1.2.2.2.2.2.1 v.2.1 := by kernel_rfl
noncomputable def V_turnoutref16_Walk_0 (n : Nat) (K : Cont) (rec : Sig.sem s_turnoutref16_Walk_h0 → Option Res) (v : Sig.sem s_turnoutref16_Walk_h0) : Option Res := F_turnoutref16_Walk_0 n (fun z0 z1 z2 z3 => K .rt (s_turnoutref16_Walk_r.enc ((z0, (z1, (z2, ()))), (z3, ())))) v.1.1 v.1.2.1 (fun z2 z3 z4 z5 z6 => rec ((v.1.1, (v.1.2.1, (z2, (z3, (z4, (z5, ())))))), (z6, ()))) v.1.2.2.1 v.1.2.2.2.1 v.1.2.2.2.2.1 v.1.2.2.2.2.2.1 v.2.1
noncomputable def W_turnoutref16_Walk_0 (n : Nat) (K : Cont) (m : Nat) (v : Sig.sem s_turnoutref16_Walk_h0) : Option Res := L_turnoutref16_Walk_0 n (fun z0 z1 z2 z3 => K .rt (s_turnoutref16_Walk_r.enc ((z0, (z1, (z2, ()))), (z3, ())))) v.1.1 v.1.2.1 m v.1.2.2.1 v.1.2.2.2.1 v.1.2.2.2.2.1 v.1.2.2.2.2.2.1 v.2.1
theorem i_turnoutref16_Walk_0 (n : Nat) (K : Cont) : ∀ m v, iter (V_turnoutref16_Walk_0 n K) m v = W_turnoutref16_Walk_0 n K m v := by
  intro m
  induction m with
  | zero => intro v; rfl
  | succ m ih =>
    intro v
    show V_turnoutref16_Walk_0 n K (iter (V_turnoutref16_Walk_0 n K) m) v = V_turnoutref16_Walk_0 n K (W_turnoutref16_Walk_0 n K m) v
    rw [show iter (V_turnoutref16_Walk_0 n K) m = W_turnoutref16_Walk_0 n K m from funext ih]
theorem o_turnoutref16_Walk_0 (n : Nat) : ∀ L, ls_turnoutref16_Walk n 0 = some L → ∀ s K r, L s K = some r → ∃ x s', loopN (run Try.prog cf_turnoutref16_Walk Try.f11.ntmps 0 n p_turnoutref16_Walk none b_turnoutref16_Walk_0) (gc 0 (p_turnoutref16_Walk.head 0)) n s = some (x, s') ∧ K x s' = some r := by
  intro L hL s K r h
  have hL : some (loopT 0 (p_turnoutref16_Walk.head 0) s_turnoutref16_Walk_h0 fun K v => W_turnoutref16_Walk_0 n K n v) = some L := hL
  cases hL
  have hb : LOk Try.prog cf_turnoutref16_Walk Try.f11.ntmps 0 n p_turnoutref16_Walk (ls_turnoutref16_Walk n) b_turnoutref16_Walk_0 := ⟨trivial, ⟨⟨trivial, (o_turnoutref16_Walk_2 n)⟩, ⟨⟨trivial, ⟨⟨trivial, trivial⟩, trivial⟩⟩, ⟨trivial, ⟨trivial, ⟨⟨trivial, ⟨⟨trivial, trivial⟩, trivial⟩⟩, ⟨trivial, ⟨trivial, ⟨⟨trivial, ⟨⟨trivial, ⟨⟨trivial, ⟨⟨trivial, trivial⟩, trivial⟩⟩, ⟨trivial, (o_turnoutref16_Walk_4 n)⟩⟩⟩, trivial⟩⟩, ⟨⟨trivial, ⟨⟨trivial, trivial⟩, trivial⟩⟩, ⟨⟨trivial, ⟨⟨trivial, trivial⟩, trivial⟩⟩, ⟨trivial, trivial⟩⟩⟩⟩⟩⟩⟩⟩⟩⟩⟩⟩
  refine loopT_ok hb (V_turnoutref16_Walk_0 n) (t_turnoutref16_Walk_0 n) n s K r ?_
  rw [← h]
  unfold loopT
  simp only [i_turnoutref16_Walk_0]
theorem m_turnoutref16_Walk (n : Nat) (a0 : (List NodeS)) (a1 : ByteArray) : runFT Try.prog cf_turnoutref16_Walk p_turnoutref16_Walk (ls_turnoutref16_Walk n) Try.f11 (bodyOf Try.f11) (EK.encs e_turnoutref16_Walk ((a0, (a1, ())), ()).1) (HK.encs h_turnoutref16_Walk ((a0, (a1, ())), ()).2) = M_turnoutref16_Walk n a0 a1 := by kernel_rfl
theorem g_turnoutref16_Walk (n : Nat) (a0 : (List NodeS)) (a1 : ByteArray) {r : Res} (h : M_turnoutref16_Walk n a0 a1 = some r) : runF Try.prog cf_turnoutref16_Walk n p_turnoutref16_Walk 11 (EK.encs e_turnoutref16_Walk ((a0, (a1, ())), ()).1) (HK.encs h_turnoutref16_Walk ((a0, (a1, ())), ()).2) = some r := by
  have hb : LOk Try.prog cf_turnoutref16_Walk Try.f11.ntmps 0 n p_turnoutref16_Walk (ls_turnoutref16_Walk n) (bodyOf Try.f11) := ⟨trivial, ⟨trivial, ⟨⟨trivial, ⟨⟨trivial, trivial⟩, trivial⟩⟩, ⟨trivial, (o_turnoutref16_Walk_0 n)⟩⟩⟩⟩
  exact runFT_some Try.prog (c := bodyOf Try.f11) Try.func11 (show Try.f11.body = some (bodyOf Try.f11) from rfl) (show (2 : Nat) ≤ 117 by decide) hb ((m_turnoutref16_Walk n a0 a1).trans h) rfl (by kernel_rfl)
noncomputable def c_turnoutref16_Walk : Spec := specQ e_turnoutref16_Walk h_turnoutref16_Walk ro_turnoutref16_Walk rh_turnoutref16_Walk fun a b => Q_turnoutref16_Walk a.1 a.2.1
theorem k_turnoutref16_Walk (hm : Try.prog.follows .mixedOrders = true) : SpecOk Try.prog 11 c_turnoutref16_Walk := specQ_ok (pol := p_turnoutref16_Walk) hm (cf := cf_turnoutref16_Walk) (tab_ok (specs_cons (k_turnoutref15_May hm) (specs_cons (k_turnoutref16_Size hm) (specs_cons (k_turnoutref16_number hm) specs_nil)))) fun a b r h => ⟨FUEL, g_turnoutref16_Walk FUEL a.1 a.2.1 (decRes_some h)⟩
def s_turnoutlaw16_WalkTells_r : Sig := ⟨[4], [.ty .bool], []⟩
def s_turnoutlaw16_WalkTells_h0 : Sig := ⟨[0, 1, 5, 6, 7, 8], [.ty (.slice NodeT), .ty .str, .hs 0 0, .ty (.int .i64), .ty (.int .i64), .ty (.int .i64)], [.row HeadT]⟩
def s_turnoutlaw16_WalkTells_h2 : Sig := ⟨[0, 1, 5, 6, 7, 8, 9, 12], [.ty (.slice NodeT), .ty .str, .hs 0 0, .ty (.int .i64), .ty (.int .i64), .ty (.int .i64), .hs 1 0, .ty (.int .i64)], [.row HeadT, .row HeadT]⟩
def s_turnoutlaw16_WalkTells_t2 : Sig := ⟨[0, 1, 5, 6, 7, 8], [.ty (.slice NodeT), .ty .str, .hs 0 0, .ty (.int .i64), .ty (.int .i64), .ty (.int .i64)], [.row HeadT]⟩
def s_turnoutlaw16_WalkTells_t0 : Sig := ⟨[], [], []⟩
def p_turnoutlaw16_WalkTells : Pol := ⟨fun i => if i = 0 then some [(0, .keep), (1, .keep), (5, (.own HeadT)), (6, .keep), (7, .keep), (8, .keep)] else if i = 2 then some [(0, .keep), (1, .keep), (5, (.own HeadT)), (6, .keep), (7, .keep), (8, .keep), (9, (.own HeadT)), (12, .keep)] else none, fun i => if i = 2 then some [(0, .keep), (1, .keep), (5, (.own HeadT)), (6, .keep), (7, .keep), (8, .keep)] else if i = 0 then some [] else none, some [(4, .keep)], [.keep], []⟩
def e_turnoutlaw16_WalkTells : List EK := [.ty (.slice NodeT), .ty .str]
def h_turnoutlaw16_WalkTells : List HK := []
noncomputable def cf_turnoutlaw16_WalkTells : CallF := mkCF [(9, c_turnoutlaw16_large), (10, c_turnoutlaw16_awake), (11, c_turnoutref16_Walk), (12, c_walk_Walk), (13, c_turnoutref16_Heads)] [(9, [(.slice NodeT)]), (10, []), (11, [(.slice NodeT), .str]), (12, [(.slice NodeT), .str]), (13, [(.slice HeadT), (.slice HeadT)])]
noncomputable def ls_turnoutlaw16_WalkTells (n : Nat) : Loops := fun i => if i = 2 then some (loopT 0 (p_turnoutlaw16_WalkTells.head 2) s_turnoutlaw16_WalkTells_h2 fun K v => L_turnoutlaw16_WalkTells_2 n (fun _ => K (.ex 2) (s_turnoutlaw16_WalkTells_t2.enc ((v.1.1, (v.1.2.1, (v.1.2.2.1, (v.1.2.2.2.1, (v.1.2.2.2.2.1, (v.1.2.2.2.2.2.1, ())))))), (v.2.1, ())))) v.1.1 v.1.2.1 v.1.2.2.1 v.1.2.2.2.1 v.1.2.2.2.2.1 v.1.2.2.2.2.2.1 v.1.2.2.2.2.2.2.1 v.2.1 n v.1.2.2.2.2.2.2.2.1 v.2.2.1)
  else if i = 0 then some (loopT 0 (p_turnoutlaw16_WalkTells.head 0) s_turnoutlaw16_WalkTells_h0 fun K v => L_turnoutlaw16_WalkTells_0 n (fun z0 => K .rt (s_turnoutlaw16_WalkTells_r.enc ((z0, ()), ()))) (fun _ => K (.ex 0) (s_turnoutlaw16_WalkTells_t0.enc ((), ()))) v.1.1 v.1.2.1 v.1.2.2.1 v.1.2.2.2.1 v.1.2.2.2.2.1 v.2.1 n v.1.2.2.2.2.2.1)
  else  none
noncomputable def b_turnoutlaw16_WalkTells_2 : Code := partOf (bodyOf Try.f3) [1, 1, 1, 0, 1, 0, 0, 1, 0, 0, 1, 1, 1, 0, 0]
theorem t_turnoutlaw16_WalkTells_2 (n : Nat) (K : Cont) (rec : Sig.sem s_turnoutlaw16_WalkTells_h2 → Option Res) (v : Sig.sem s_turnoutlaw16_WalkTells_h2) : runT Try.prog cf_turnoutlaw16_WalkTells Try.f3.ntmps 0 p_turnoutlaw16_WalkTells (ls_turnoutlaw16_WalkTells n) b_turnoutlaw16_WalkTells_2 (s_turnoutlaw16_WalkTells_h2.enc v) (turnK 0 (p_turnoutlaw16_WalkTells.head 2) s_turnoutlaw16_WalkTells_h2 rec K) = F_turnoutlaw16_WalkTells_2 n (fun _ => K (.ex 2) (s_turnoutlaw16_WalkTells_t2.enc ((v.1.1, (v.1.2.1, (v.1.2.2.1, (v.1.2.2.2.1, (v.1.2.2.2.2.1, (v.1.2.2.2.2.2.1, ())))))), (v.2.1, ())))) v.1.1 v.1.2.1 v.1.2.2.1 v.1.2.2.2.1 v.1.2.2.2.2.1 v.1.2.2.2.2.2.1 v.1.2.2.2.2.2.2.1 v.2.1 (fun z7 z9 => rec ((v.1.1, (v.1.2.1, (v.1.2.2.1, (v.1.2.2.2.1, (v.1.2.2.2.2.1, (v.1.2.2.2.2.2.1, (v.1.2.2.2.2.2.2.1, (z7, ())))))))), (v.2.1, (z9, ())))) v.1.2.2.2.2.2.2.2.1 v.2.2.1 := by kernel_rfl
noncomputable def V_turnoutlaw16_WalkTells_2 (n : Nat) (K : Cont) (rec : Sig.sem s_turnoutlaw16_WalkTells_h2 → Option Res) (v : Sig.sem s_turnoutlaw16_WalkTells_h2) : Option Res := F_turnoutlaw16_WalkTells_2 n (fun _ => K (.ex 2) (s_turnoutlaw16_WalkTells_t2.enc ((v.1.1, (v.1.2.1, (v.1.2.2.1, (v.1.2.2.2.1, (v.1.2.2.2.2.1, (v.1.2.2.2.2.2.1, ())))))), (v.2.1, ())))) v.1.1 v.1.2.1 v.1.2.2.1 v.1.2.2.2.1 v.1.2.2.2.2.1 v.1.2.2.2.2.2.1 v.1.2.2.2.2.2.2.1 v.2.1 (fun z7 z9 => rec ((v.1.1, (v.1.2.1, (v.1.2.2.1, (v.1.2.2.2.1, (v.1.2.2.2.2.1, (v.1.2.2.2.2.2.1, (v.1.2.2.2.2.2.2.1, (z7, ())))))))), (v.2.1, (z9, ())))) v.1.2.2.2.2.2.2.2.1 v.2.2.1
noncomputable def W_turnoutlaw16_WalkTells_2 (n : Nat) (K : Cont) (m : Nat) (v : Sig.sem s_turnoutlaw16_WalkTells_h2) : Option Res := L_turnoutlaw16_WalkTells_2 n (fun _ => K (.ex 2) (s_turnoutlaw16_WalkTells_t2.enc ((v.1.1, (v.1.2.1, (v.1.2.2.1, (v.1.2.2.2.1, (v.1.2.2.2.2.1, (v.1.2.2.2.2.2.1, ())))))), (v.2.1, ())))) v.1.1 v.1.2.1 v.1.2.2.1 v.1.2.2.2.1 v.1.2.2.2.2.1 v.1.2.2.2.2.2.1 v.1.2.2.2.2.2.2.1 v.2.1 m v.1.2.2.2.2.2.2.2.1 v.2.2.1
theorem i_turnoutlaw16_WalkTells_2 (n : Nat) (K : Cont) : ∀ m v, iter (V_turnoutlaw16_WalkTells_2 n K) m v = W_turnoutlaw16_WalkTells_2 n K m v := by
  intro m
  induction m with
  | zero => intro v; rfl
  | succ m ih =>
    intro v
    show V_turnoutlaw16_WalkTells_2 n K (iter (V_turnoutlaw16_WalkTells_2 n K) m) v = V_turnoutlaw16_WalkTells_2 n K (W_turnoutlaw16_WalkTells_2 n K m) v
    rw [show iter (V_turnoutlaw16_WalkTells_2 n K) m = W_turnoutlaw16_WalkTells_2 n K m from funext ih]
theorem o_turnoutlaw16_WalkTells_2 (n : Nat) : ∀ L, ls_turnoutlaw16_WalkTells n 2 = some L → ∀ s K r, L s K = some r → ∃ x s', loopN (run Try.prog cf_turnoutlaw16_WalkTells Try.f3.ntmps 0 n p_turnoutlaw16_WalkTells none b_turnoutlaw16_WalkTells_2) (gc 0 (p_turnoutlaw16_WalkTells.head 2)) n s = some (x, s') ∧ K x s' = some r := by
  intro L hL s K r h
  have hL : some (loopT 0 (p_turnoutlaw16_WalkTells.head 2) s_turnoutlaw16_WalkTells_h2 fun K v => W_turnoutlaw16_WalkTells_2 n K n v) = some L := hL
  cases hL
  have hb : LOk Try.prog cf_turnoutlaw16_WalkTells Try.f3.ntmps 0 n p_turnoutlaw16_WalkTells (ls_turnoutlaw16_WalkTells n) b_turnoutlaw16_WalkTells_2 := ⟨⟨trivial, ⟨trivial, trivial⟩⟩, ⟨trivial, trivial⟩⟩
  refine loopT_ok hb (V_turnoutlaw16_WalkTells_2 n) (t_turnoutlaw16_WalkTells_2 n) n s K r ?_
  rw [← h]
  unfold loopT
  simp only [i_turnoutlaw16_WalkTells_2]
noncomputable def b_turnoutlaw16_WalkTells_0 : Code := partOf (bodyOf Try.f3) [1, 1, 1, 0, 1, 0, 0]
theorem t_turnoutlaw16_WalkTells_0 (n : Nat) (K : Cont) (rec : Sig.sem s_turnoutlaw16_WalkTells_h0 → Option Res) (v : Sig.sem s_turnoutlaw16_WalkTells_h0) : runT Try.prog cf_turnoutlaw16_WalkTells Try.f3.ntmps 0 p_turnoutlaw16_WalkTells (ls_turnoutlaw16_WalkTells n) b_turnoutlaw16_WalkTells_0 (s_turnoutlaw16_WalkTells_h0.enc v) (turnK 0 (p_turnoutlaw16_WalkTells.head 0) s_turnoutlaw16_WalkTells_h0 rec K) = F_turnoutlaw16_WalkTells_0 n (fun z0 => K .rt (s_turnoutlaw16_WalkTells_r.enc ((z0, ()), ()))) (fun _ => K (.ex 0) (s_turnoutlaw16_WalkTells_t0.enc ((), ()))) v.1.1 v.1.2.1 v.1.2.2.1 v.1.2.2.2.1 v.1.2.2.2.2.1 v.2.1 (fun z5 => rec ((v.1.1, (v.1.2.1, (v.1.2.2.1, (v.1.2.2.2.1, (v.1.2.2.2.2.1, (z5, ())))))), (v.2.1, ()))) v.1.2.2.2.2.2.1 := by kernel_rfl
noncomputable def V_turnoutlaw16_WalkTells_0 (n : Nat) (K : Cont) (rec : Sig.sem s_turnoutlaw16_WalkTells_h0 → Option Res) (v : Sig.sem s_turnoutlaw16_WalkTells_h0) : Option Res := F_turnoutlaw16_WalkTells_0 n (fun z0 => K .rt (s_turnoutlaw16_WalkTells_r.enc ((z0, ()), ()))) (fun _ => K (.ex 0) (s_turnoutlaw16_WalkTells_t0.enc ((), ()))) v.1.1 v.1.2.1 v.1.2.2.1 v.1.2.2.2.1 v.1.2.2.2.2.1 v.2.1 (fun z5 => rec ((v.1.1, (v.1.2.1, (v.1.2.2.1, (v.1.2.2.2.1, (v.1.2.2.2.2.1, (z5, ())))))), (v.2.1, ()))) v.1.2.2.2.2.2.1
noncomputable def W_turnoutlaw16_WalkTells_0 (n : Nat) (K : Cont) (m : Nat) (v : Sig.sem s_turnoutlaw16_WalkTells_h0) : Option Res := L_turnoutlaw16_WalkTells_0 n (fun z0 => K .rt (s_turnoutlaw16_WalkTells_r.enc ((z0, ()), ()))) (fun _ => K (.ex 0) (s_turnoutlaw16_WalkTells_t0.enc ((), ()))) v.1.1 v.1.2.1 v.1.2.2.1 v.1.2.2.2.1 v.1.2.2.2.2.1 v.2.1 m v.1.2.2.2.2.2.1
theorem i_turnoutlaw16_WalkTells_0 (n : Nat) (K : Cont) : ∀ m v, iter (V_turnoutlaw16_WalkTells_0 n K) m v = W_turnoutlaw16_WalkTells_0 n K m v := by
  intro m
  induction m with
  | zero => intro v; rfl
  | succ m ih =>
    intro v
    show V_turnoutlaw16_WalkTells_0 n K (iter (V_turnoutlaw16_WalkTells_0 n K) m) v = V_turnoutlaw16_WalkTells_0 n K (W_turnoutlaw16_WalkTells_0 n K m) v
    rw [show iter (V_turnoutlaw16_WalkTells_0 n K) m = W_turnoutlaw16_WalkTells_0 n K m from funext ih]
theorem o_turnoutlaw16_WalkTells_0 (n : Nat) : ∀ L, ls_turnoutlaw16_WalkTells n 0 = some L → ∀ s K r, L s K = some r → ∃ x s', loopN (run Try.prog cf_turnoutlaw16_WalkTells Try.f3.ntmps 0 n p_turnoutlaw16_WalkTells none b_turnoutlaw16_WalkTells_0) (gc 0 (p_turnoutlaw16_WalkTells.head 0)) n s = some (x, s') ∧ K x s' = some r := by
  intro L hL s K r h
  have hL : some (loopT 0 (p_turnoutlaw16_WalkTells.head 0) s_turnoutlaw16_WalkTells_h0 fun K v => W_turnoutlaw16_WalkTells_0 n K n v) = some L := hL
  cases hL
  have hb : LOk Try.prog cf_turnoutlaw16_WalkTells Try.f3.ntmps 0 n p_turnoutlaw16_WalkTells (ls_turnoutlaw16_WalkTells n) b_turnoutlaw16_WalkTells_0 := ⟨⟨trivial, ⟨trivial, trivial⟩⟩, ⟨⟨trivial, ⟨⟨trivial, ⟨⟨trivial, trivial⟩, trivial⟩⟩, ⟨trivial, (o_turnoutlaw16_WalkTells_2 n)⟩⟩⟩, trivial⟩⟩
  refine loopT_ok hb (V_turnoutlaw16_WalkTells_0 n) (t_turnoutlaw16_WalkTells_0 n) n s K r ?_
  rw [← h]
  unfold loopT
  simp only [i_turnoutlaw16_WalkTells_0]
theorem m_turnoutlaw16_WalkTells (n : Nat) (a0 : (List NodeS)) (a1 : ByteArray) : runFT Try.prog cf_turnoutlaw16_WalkTells p_turnoutlaw16_WalkTells (ls_turnoutlaw16_WalkTells n) Try.f3 (bodyOf Try.f3) (EK.encs e_turnoutlaw16_WalkTells ((a0, (a1, ())), ()).1) (HK.encs h_turnoutlaw16_WalkTells ((a0, (a1, ())), ()).2) = M_turnoutlaw16_WalkTells n a0 a1 := by kernel_rfl
theorem g_turnoutlaw16_WalkTells (n : Nat) (a0 : (List NodeS)) (a1 : ByteArray) {r : Res} (h : M_turnoutlaw16_WalkTells n a0 a1 = some r) : runF Try.prog cf_turnoutlaw16_WalkTells n p_turnoutlaw16_WalkTells 3 (EK.encs e_turnoutlaw16_WalkTells ((a0, (a1, ())), ()).1) (HK.encs h_turnoutlaw16_WalkTells ((a0, (a1, ())), ()).2) = some r := by
  have hb : LOk Try.prog cf_turnoutlaw16_WalkTells Try.f3.ntmps 0 n p_turnoutlaw16_WalkTells (ls_turnoutlaw16_WalkTells n) (bodyOf Try.f3) := ⟨trivial, ⟨⟨trivial, ⟨⟨trivial, trivial⟩, trivial⟩⟩, ⟨trivial, ⟨⟨trivial, (o_turnoutlaw16_WalkTells_0 n)⟩, ⟨trivial, trivial⟩⟩⟩⟩⟩
  exact runFT_some Try.prog (c := bodyOf Try.f3) Try.func3 (show Try.f3.body = some (bodyOf Try.f3) from rfl) (show (2 : Nat) ≤ 64 by decide) hb ((m_turnoutlaw16_WalkTells n a0 a1).trans h) rfl (by kernel_rfl)
noncomputable def c_turnoutlaw16_WalkTells : Spec := specQ e_turnoutlaw16_WalkTells h_turnoutlaw16_WalkTells ro_turnoutlaw16_WalkTells rh_turnoutlaw16_WalkTells fun a b => Q_turnoutlaw16_WalkTells a.1 a.2.1
theorem k_turnoutlaw16_WalkTells (hm : Try.prog.follows .mixedOrders = true) : SpecOk Try.prog 3 c_turnoutlaw16_WalkTells := specQ_ok (pol := p_turnoutlaw16_WalkTells) hm (cf := cf_turnoutlaw16_WalkTells) (tab_ok (specs_cons (k_turnoutlaw16_large hm) (specs_cons (k_turnoutlaw16_awake hm) (specs_cons (k_turnoutref16_Walk hm) (specs_cons (k_walk_Walk hm) (specs_cons (k_turnoutref16_Heads hm) specs_nil)))))) fun a b r h => ⟨FUEL, g_turnoutlaw16_WalkTells FUEL a.1 a.2.1 (decRes_some h)⟩
def s_turnoutlaw16_WalkNames_r : Sig := ⟨[0], [.ty .bool], []⟩
def s_turnoutlaw16_WalkNames_h0 : Sig := ⟨[136, 137, 138], [.hs 0 0, .ty (.int .i64), .ty (.int .i64)], [.row (.pair NodeT (.pair .str SpanT))]⟩
def s_turnoutlaw16_WalkNames_t0 : Sig := ⟨[], [], []⟩
def p_turnoutlaw16_WalkNames : Pol := ⟨fun i => if i = 0 then some [(136, (.own (.pair NodeT (.pair .str SpanT)))), (137, .keep), (138, .keep)] else none, fun i => if i = 0 then some [] else none, some [(0, .keep)], [.keep], []⟩
def e_turnoutlaw16_WalkNames : List EK := []
def h_turnoutlaw16_WalkNames : List HK := []
noncomputable def cf_turnoutlaw16_WalkNames : CallF := mkCF [(10, c_turnoutlaw16_awake), (12, c_walk_Walk), (14, c_turnoutlaw16_nodes), (13, c_turnoutref16_Heads), (15, c_walk_Size)] [(10, []), (12, [(.slice NodeT), .str]), (14, []), (13, [(.slice HeadT), (.slice HeadT)]), (15, [NodeT, .str, (.int .i64)])]
noncomputable def ls_turnoutlaw16_WalkNames (n : Nat) : Loops := fun i => if i = 0 then some (loopT 0 (p_turnoutlaw16_WalkNames.head 0) s_turnoutlaw16_WalkNames_h0 fun K v => L_turnoutlaw16_WalkNames_0 n (fun z0 => K .rt (s_turnoutlaw16_WalkNames_r.enc ((z0, ()), ()))) (fun _ => K (.ex 0) (s_turnoutlaw16_WalkNames_t0.enc ((), ()))) v.1.1 v.1.2.1 v.2.1 n v.1.2.2.1)
  else  none
noncomputable def b_turnoutlaw16_WalkNames_0 : Code := partOf (bodyOf Try.f4) [1, 1, 1, 1, 1, 1, 1, 1, 1, 1, 0, 1, 0, 0]
theorem t_turnoutlaw16_WalkNames_0 (n : Nat) (K : Cont) (rec : Sig.sem s_turnoutlaw16_WalkNames_h0 → Option Res) (v : Sig.sem s_turnoutlaw16_WalkNames_h0) : runT Try.prog cf_turnoutlaw16_WalkNames Try.f4.ntmps 0 p_turnoutlaw16_WalkNames (ls_turnoutlaw16_WalkNames n) b_turnoutlaw16_WalkNames_0 (s_turnoutlaw16_WalkNames_h0.enc v) (turnK 0 (p_turnoutlaw16_WalkNames.head 0) s_turnoutlaw16_WalkNames_h0 rec K) = F_turnoutlaw16_WalkNames_0 n (fun z0 => K .rt (s_turnoutlaw16_WalkNames_r.enc ((z0, ()), ()))) (fun _ => K (.ex 0) (s_turnoutlaw16_WalkNames_t0.enc ((), ()))) v.1.1 v.1.2.1 v.2.1 (fun z2 => rec ((v.1.1, (v.1.2.1, (z2, ()))), (v.2.1, ()))) v.1.2.2.1 := by kernel_rfl
noncomputable def V_turnoutlaw16_WalkNames_0 (n : Nat) (K : Cont) (rec : Sig.sem s_turnoutlaw16_WalkNames_h0 → Option Res) (v : Sig.sem s_turnoutlaw16_WalkNames_h0) : Option Res := F_turnoutlaw16_WalkNames_0 n (fun z0 => K .rt (s_turnoutlaw16_WalkNames_r.enc ((z0, ()), ()))) (fun _ => K (.ex 0) (s_turnoutlaw16_WalkNames_t0.enc ((), ()))) v.1.1 v.1.2.1 v.2.1 (fun z2 => rec ((v.1.1, (v.1.2.1, (z2, ()))), (v.2.1, ()))) v.1.2.2.1
noncomputable def W_turnoutlaw16_WalkNames_0 (n : Nat) (K : Cont) (m : Nat) (v : Sig.sem s_turnoutlaw16_WalkNames_h0) : Option Res := L_turnoutlaw16_WalkNames_0 n (fun z0 => K .rt (s_turnoutlaw16_WalkNames_r.enc ((z0, ()), ()))) (fun _ => K (.ex 0) (s_turnoutlaw16_WalkNames_t0.enc ((), ()))) v.1.1 v.1.2.1 v.2.1 m v.1.2.2.1
theorem i_turnoutlaw16_WalkNames_0 (n : Nat) (K : Cont) : ∀ m v, iter (V_turnoutlaw16_WalkNames_0 n K) m v = W_turnoutlaw16_WalkNames_0 n K m v := by
  intro m
  induction m with
  | zero => intro v; rfl
  | succ m ih =>
    intro v
    show V_turnoutlaw16_WalkNames_0 n K (iter (V_turnoutlaw16_WalkNames_0 n K) m) v = V_turnoutlaw16_WalkNames_0 n K (W_turnoutlaw16_WalkNames_0 n K m) v
    rw [show iter (V_turnoutlaw16_WalkNames_0 n K) m = W_turnoutlaw16_WalkNames_0 n K m from funext ih]
theorem o_turnoutlaw16_WalkNames_0 (n : Nat) : ∀ L, ls_turnoutlaw16_WalkNames n 0 = some L → ∀ s K r, L s K = some r → ∃ x s', loopN (run Try.prog cf_turnoutlaw16_WalkNames Try.f4.ntmps 0 n p_turnoutlaw16_WalkNames none b_turnoutlaw16_WalkNames_0) (gc 0 (p_turnoutlaw16_WalkNames.head 0)) n s = some (x, s') ∧ K x s' = some r := by
  intro L hL s K r h
  have hL : some (loopT 0 (p_turnoutlaw16_WalkNames.head 0) s_turnoutlaw16_WalkNames_h0 fun K v => W_turnoutlaw16_WalkNames_0 n K n v) = some L := hL
  cases hL
  have hb : LOk Try.prog cf_turnoutlaw16_WalkNames Try.f4.ntmps 0 n p_turnoutlaw16_WalkNames (ls_turnoutlaw16_WalkNames n) b_turnoutlaw16_WalkNames_0 := ⟨trivial, ⟨⟨trivial, trivial⟩, ⟨⟨trivial, ⟨trivial, ⟨trivial, ⟨⟨trivial, trivial⟩, trivial⟩⟩⟩⟩, trivial⟩⟩⟩
  refine loopT_ok hb (V_turnoutlaw16_WalkNames_0 n) (t_turnoutlaw16_WalkNames_0 n) n s K r ?_
  rw [← h]
  unfold loopT
  simp only [i_turnoutlaw16_WalkNames_0]
theorem m_turnoutlaw16_WalkNames (n : Nat) : runFT Try.prog cf_turnoutlaw16_WalkNames p_turnoutlaw16_WalkNames (ls_turnoutlaw16_WalkNames n) Try.f4 (bodyOf Try.f4) (EK.encs e_turnoutlaw16_WalkNames ((), ()).1) (HK.encs h_turnoutlaw16_WalkNames ((), ()).2) = M_turnoutlaw16_WalkNames n := by kernel_rfl
theorem g_turnoutlaw16_WalkNames (n : Nat) {r : Res} (h : M_turnoutlaw16_WalkNames n = some r) : runF Try.prog cf_turnoutlaw16_WalkNames n p_turnoutlaw16_WalkNames 4 (EK.encs e_turnoutlaw16_WalkNames ((), ()).1) (HK.encs h_turnoutlaw16_WalkNames ((), ()).2) = some r := by
  have hb : LOk Try.prog cf_turnoutlaw16_WalkNames Try.f4.ntmps 0 n p_turnoutlaw16_WalkNames (ls_turnoutlaw16_WalkNames n) (bodyOf Try.f4) := ⟨trivial, ⟨⟨trivial, ⟨⟨trivial, trivial⟩, trivial⟩⟩, ⟨trivial, ⟨trivial, ⟨⟨trivial, ⟨⟨trivial, trivial⟩, trivial⟩⟩, ⟨trivial, ⟨trivial, ⟨trivial, ⟨⟨trivial, ⟨⟨trivial, trivial⟩, trivial⟩⟩, ⟨trivial, ⟨⟨trivial, (o_turnoutlaw16_WalkNames_0 n)⟩, ⟨trivial, ⟨trivial, ⟨trivial, trivial⟩⟩⟩⟩⟩⟩⟩⟩⟩⟩⟩⟩⟩⟩
  exact runFT_some Try.prog (c := bodyOf Try.f4) Try.func4 (show Try.f4.body = some (bodyOf Try.f4) from rfl) (show (0 : Nat) ≤ 183 by decide) hb ((m_turnoutlaw16_WalkNames n).trans h) rfl (by kernel_rfl)
noncomputable def c_turnoutlaw16_WalkNames : Spec := specQ e_turnoutlaw16_WalkNames h_turnoutlaw16_WalkNames ro_turnoutlaw16_WalkNames rh_turnoutlaw16_WalkNames fun a b => Q_turnoutlaw16_WalkNames
theorem k_turnoutlaw16_WalkNames (hm : Try.prog.follows .mixedOrders = true) : SpecOk Try.prog 4 c_turnoutlaw16_WalkNames := specQ_ok (pol := p_turnoutlaw16_WalkNames) hm (cf := cf_turnoutlaw16_WalkNames) (tab_ok (specs_cons (k_turnoutlaw16_awake hm) (specs_cons (k_walk_Walk hm) (specs_cons (k_turnoutlaw16_nodes hm) (specs_cons (k_turnoutref16_Heads hm) (specs_cons (k_walk_Size hm) specs_nil)))))) fun a b r h => ⟨FUEL, g_turnoutlaw16_WalkNames FUEL (decRes_some h)⟩
def s_turnoutlaw16_bits_r : Sig := ⟨[6, 7], [.ty (.int .u32), .ty .bool], []⟩
def s_turnoutlaw16_bits_h0 : Sig := ⟨[0, 1, 2, 8, 9], [.ty .str, .ty (.int .i64), .ty (.int .i64), .ty (.int .u32), .ty (.int .i64)], []⟩
def s_turnoutlaw16_bits_t0 : Sig := ⟨[8], [.ty (.int .u32)], []⟩
def p_turnoutlaw16_bits : Pol := ⟨fun i => if i = 0 then some [(0, .keep), (1, .keep), (2, .keep), (8, .keep), (9, .keep)] else none, fun i => if i = 0 then some [(8, .keep)] else none, some [(6, .keep), (7, .keep)], [.keep, .keep], []⟩
def e_turnoutlaw16_bits : List EK := [.ty .str, .ty (.int .i64), .ty (.int .i64)]
def h_turnoutlaw16_bits : List HK := []
noncomputable def cf_turnoutlaw16_bits : CallF := mkCF [] []
noncomputable def ls_turnoutlaw16_bits (n : Nat) : Loops := fun i => if i = 0 then some (loopT 0 (p_turnoutlaw16_bits.head 0) s_turnoutlaw16_bits_h0 fun K v => L_turnoutlaw16_bits_0 n (fun z0 => K (.ex 0) (s_turnoutlaw16_bits_t0.enc ((z0, ()), ()))) v.1.1 v.1.2.1 v.1.2.2.1 n v.1.2.2.2.1 v.1.2.2.2.2.1)
  else  none
noncomputable def b_turnoutlaw16_bits_0 : Code := partOf (bodyOf Try.f18) [1, 1, 1, 0, 1, 0, 0]
theorem t_turnoutlaw16_bits_0 (n : Nat) (K : Cont) (rec : Sig.sem s_turnoutlaw16_bits_h0 → Option Res) (v : Sig.sem s_turnoutlaw16_bits_h0) : runT Try.prog cf_turnoutlaw16_bits Try.f18.ntmps 0 p_turnoutlaw16_bits (ls_turnoutlaw16_bits n) b_turnoutlaw16_bits_0 (s_turnoutlaw16_bits_h0.enc v) (turnK 0 (p_turnoutlaw16_bits.head 0) s_turnoutlaw16_bits_h0 rec K) = F_turnoutlaw16_bits_0 n (fun z0 => K (.ex 0) (s_turnoutlaw16_bits_t0.enc ((z0, ()), ()))) v.1.1 v.1.2.1 v.1.2.2.1 (fun z3 z4 => rec ((v.1.1, (v.1.2.1, (v.1.2.2.1, (z3, (z4, ()))))), ())) v.1.2.2.2.1 v.1.2.2.2.2.1 := by kernel_rfl
noncomputable def V_turnoutlaw16_bits_0 (n : Nat) (K : Cont) (rec : Sig.sem s_turnoutlaw16_bits_h0 → Option Res) (v : Sig.sem s_turnoutlaw16_bits_h0) : Option Res := F_turnoutlaw16_bits_0 n (fun z0 => K (.ex 0) (s_turnoutlaw16_bits_t0.enc ((z0, ()), ()))) v.1.1 v.1.2.1 v.1.2.2.1 (fun z3 z4 => rec ((v.1.1, (v.1.2.1, (v.1.2.2.1, (z3, (z4, ()))))), ())) v.1.2.2.2.1 v.1.2.2.2.2.1
noncomputable def W_turnoutlaw16_bits_0 (n : Nat) (K : Cont) (m : Nat) (v : Sig.sem s_turnoutlaw16_bits_h0) : Option Res := L_turnoutlaw16_bits_0 n (fun z0 => K (.ex 0) (s_turnoutlaw16_bits_t0.enc ((z0, ()), ()))) v.1.1 v.1.2.1 v.1.2.2.1 m v.1.2.2.2.1 v.1.2.2.2.2.1
theorem i_turnoutlaw16_bits_0 (n : Nat) (K : Cont) : ∀ m v, iter (V_turnoutlaw16_bits_0 n K) m v = W_turnoutlaw16_bits_0 n K m v := by
  intro m
  induction m with
  | zero => intro v; rfl
  | succ m ih =>
    intro v
    show V_turnoutlaw16_bits_0 n K (iter (V_turnoutlaw16_bits_0 n K) m) v = V_turnoutlaw16_bits_0 n K (W_turnoutlaw16_bits_0 n K m) v
    rw [show iter (V_turnoutlaw16_bits_0 n K) m = W_turnoutlaw16_bits_0 n K m from funext ih]
theorem o_turnoutlaw16_bits_0 (n : Nat) : ∀ L, ls_turnoutlaw16_bits n 0 = some L → ∀ s K r, L s K = some r → ∃ x s', loopN (run Try.prog cf_turnoutlaw16_bits Try.f18.ntmps 0 n p_turnoutlaw16_bits none b_turnoutlaw16_bits_0) (gc 0 (p_turnoutlaw16_bits.head 0)) n s = some (x, s') ∧ K x s' = some r := by
  intro L hL s K r h
  have hL : some (loopT 0 (p_turnoutlaw16_bits.head 0) s_turnoutlaw16_bits_h0 fun K v => W_turnoutlaw16_bits_0 n K n v) = some L := hL
  cases hL
  have hb : LOk Try.prog cf_turnoutlaw16_bits Try.f18.ntmps 0 n p_turnoutlaw16_bits (ls_turnoutlaw16_bits n) b_turnoutlaw16_bits_0 := ⟨⟨trivial, ⟨trivial, trivial⟩⟩, ⟨trivial, trivial⟩⟩
  refine loopT_ok hb (V_turnoutlaw16_bits_0 n) (t_turnoutlaw16_bits_0 n) n s K r ?_
  rw [← h]
  unfold loopT
  simp only [i_turnoutlaw16_bits_0]
theorem m_turnoutlaw16_bits (n : Nat) (a0 : ByteArray) (a1 : Int) (a2 : Int) : runFT Try.prog cf_turnoutlaw16_bits p_turnoutlaw16_bits (ls_turnoutlaw16_bits n) Try.f18 (bodyOf Try.f18) (EK.encs e_turnoutlaw16_bits ((a0, (a1, (a2, ()))), ()).1) (HK.encs h_turnoutlaw16_bits ((a0, (a1, (a2, ()))), ()).2) = M_turnoutlaw16_bits n a0 a1 a2 := by kernel_rfl
theorem g_turnoutlaw16_bits (n : Nat) (a0 : ByteArray) (a1 : Int) (a2 : Int) {r : Res} (h : M_turnoutlaw16_bits n a0 a1 a2 = some r) : runF Try.prog cf_turnoutlaw16_bits n p_turnoutlaw16_bits 18 (EK.encs e_turnoutlaw16_bits ((a0, (a1, (a2, ()))), ()).1) (HK.encs h_turnoutlaw16_bits ((a0, (a1, (a2, ()))), ()).2) = some r := by
  have hb : LOk Try.prog cf_turnoutlaw16_bits Try.f18.ntmps 0 n p_turnoutlaw16_bits (ls_turnoutlaw16_bits n) (bodyOf Try.f18) := ⟨trivial, ⟨⟨trivial, ⟨⟨trivial, trivial⟩, trivial⟩⟩, ⟨trivial, ⟨⟨trivial, (o_turnoutlaw16_bits_0 n)⟩, ⟨trivial, trivial⟩⟩⟩⟩⟩
  exact runFT_some Try.prog (c := bodyOf Try.f18) Try.func18 (show Try.f18.body = some (bodyOf Try.f18) from rfl) (show (3 : Nat) ≤ 39 by decide) hb ((m_turnoutlaw16_bits n a0 a1 a2).trans h) rfl (by kernel_rfl)
noncomputable def c_turnoutlaw16_bits : Spec := specQ e_turnoutlaw16_bits h_turnoutlaw16_bits ro_turnoutlaw16_bits rh_turnoutlaw16_bits fun a b => Q_turnoutlaw16_bits a.1 a.2.1 a.2.2.1
theorem k_turnoutlaw16_bits (hm : Try.prog.follows .mixedOrders = true) : SpecOk Try.prog 18 c_turnoutlaw16_bits := specQ_ok (pol := p_turnoutlaw16_bits) hm (cf := cf_turnoutlaw16_bits) (tab_ok specs_nil) fun a b r h => ⟨FUEL, g_turnoutlaw16_bits FUEL a.1 a.2.1 a.2.2.1 (decRes_some h)⟩
def s_turnoutlaw16_WalkGraph_r : Sig := ⟨[4], [.ty .bool], []⟩
def s_turnoutlaw16_WalkGraph_h0 : Sig := ⟨[0, 1, 5, 7, 8, 9, 10], [.ty (.slice NodeT), .ty .str, .hs 0 0, .ty (.int .i64), .ty (.int .i64), .ty (.int .i64), .ty (.int .i64)], [.row HeadT]⟩
def s_turnoutlaw16_WalkGraph_h2 : Sig := ⟨[0, 1, 5, 7, 8, 9, 10, 11, 13, 15], [.ty (.slice NodeT), .ty .str, .hs 0 0, .ty (.int .i64), .ty (.int .i64), .ty (.int .i64), .ty (.int .i64), .ptr 1 0 0, .ty (.int .i64), .ty (.int .i64)], [.row HeadT, .cell NodeT]⟩
def s_turnoutlaw16_WalkGraph_t2 : Sig := ⟨[0, 1, 5, 7, 8, 9, 10, 11, 13], [.ty (.slice NodeT), .ty .str, .hs 0 0, .ty (.int .i64), .ty (.int .i64), .ty (.int .i64), .ty (.int .i64), .ptr 1 0 0, .ty (.int .i64)], [.row HeadT, .cell NodeT]⟩
def s_turnoutlaw16_WalkGraph_t0 : Sig := ⟨[0, 1, 5, 7, 8, 9], [.ty (.slice NodeT), .ty .str, .hs 0 0, .ty (.int .i64), .ty (.int .i64), .ty (.int .i64)], [.row HeadT]⟩
def p_turnoutlaw16_WalkGraph : Pol := ⟨fun i => if i = 0 then some [(0, .keep), (1, .keep), (5, (.own HeadT)), (7, .keep), (8, .keep), (9, .keep), (10, .keep)] else if i = 2 then some [(0, .keep), (1, .keep), (5, (.own HeadT)), (7, .keep), (8, .keep), (9, .keep), (10, .keep), (11, (.own NodeT)), (13, .keep), (15, .keep)] else none, fun i => if i = 2 then some [(0, .keep), (1, .keep), (5, (.own HeadT)), (7, .keep), (8, .keep), (9, .keep), (10, .keep), (11, (.own NodeT)), (13, .keep)] else if i = 0 then some [(0, .keep), (1, .keep), (5, (.own HeadT)), (7, .keep), (8, .keep), (9, .keep)] else none, some [(4, .keep)], [.keep], []⟩
def e_turnoutlaw16_WalkGraph : List EK := [.ty (.slice NodeT), .ty .str]
def h_turnoutlaw16_WalkGraph : List HK := []
noncomputable def cf_turnoutlaw16_WalkGraph : CallF := mkCF [(9, c_turnoutlaw16_large), (10, c_turnoutlaw16_awake), (12, c_walk_Walk), (16, c_graph_May), (17, c_graph_Find), (15, c_walk_Size), (18, c_turnoutlaw16_bits), (19, c_graph_Next)] [(9, [(.slice NodeT)]), (10, []), (12, [(.slice NodeT), .str]), (16, [(.slice NodeT)]), (17, [(.slice NodeT), (.int .i64)]), (15, [NodeT, .str, (.int .i64)]), (18, [.str, (.int .i64), (.int .i64)]), (19, [(.slice NodeT), (.int .i64), (.int .u32)])]
noncomputable def ls_turnoutlaw16_WalkGraph (n : Nat) : Loops := fun i => if i = 2 then some (loopT 0 (p_turnoutlaw16_WalkGraph.head 2) s_turnoutlaw16_WalkGraph_h2 fun K v => L_turnoutlaw16_WalkGraph_2 n (fun z0 => K .rt (s_turnoutlaw16_WalkGraph_r.enc ((z0, ()), ()))) (fun _ => K (.ex 2) (s_turnoutlaw16_WalkGraph_t2.enc ((v.1.1, (v.1.2.1, (v.1.2.2.1, (v.1.2.2.2.1, (v.1.2.2.2.2.1, (v.1.2.2.2.2.2.1, (v.1.2.2.2.2.2.2.1, ((), (v.1.2.2.2.2.2.2.2.2.1, ()))))))))), (v.2.1, (v.2.2.1, ()))))) v.1.1 v.1.2.1 v.1.2.2.1 v.1.2.2.2.1 v.1.2.2.2.2.1 v.1.2.2.2.2.2.1 v.1.2.2.2.2.2.2.1 v.1.2.2.2.2.2.2.2.2.1 v.2.1 v.2.2.1 n v.1.2.2.2.2.2.2.2.2.2.1)
  else if i = 0 then some (loopT 0 (p_turnoutlaw16_WalkGraph.head 0) s_turnoutlaw16_WalkGraph_h0 fun K v => L_turnoutlaw16_WalkGraph_0 n (fun z0 => K .rt (s_turnoutlaw16_WalkGraph_r.enc ((z0, ()), ()))) (fun z4 z5 => K (.ex 0) (s_turnoutlaw16_WalkGraph_t0.enc ((v.1.1, (v.1.2.1, (v.1.2.2.1, (v.1.2.2.2.1, (z4, (z5, ())))))), (v.2.1, ())))) v.1.1 v.1.2.1 v.1.2.2.1 v.1.2.2.2.1 v.2.1 n v.1.2.2.2.2.1 v.1.2.2.2.2.2.1 v.1.2.2.2.2.2.2.1)
  else  none
noncomputable def b_turnoutlaw16_WalkGraph_2 : Code := partOf (bodyOf Try.f5) [1, 1, 1, 1, 1, 0, 1, 0, 0, 1, 0, 0, 1, 1, 1, 0, 1, 0, 0]
theorem t_turnoutlaw16_WalkGraph_2 (n : Nat) (K : Cont) (rec : Sig.sem s_turnoutlaw16_WalkGraph_h2 → Option Res) (v : Sig.sem s_turnoutlaw16_WalkGraph_h2) : runT Try.prog cf_turnoutlaw16_WalkGraph Try.f5.ntmps 0 p_turnoutlaw16_WalkGraph (ls_turnoutlaw16_WalkGraph n) b_turnoutlaw16_WalkGraph_2 (s_turnoutlaw16_WalkGraph_h2.enc v) (turnK 0 (p_turnoutlaw16_WalkGraph.head 2) s_turnoutlaw16_WalkGraph_h2 rec K) = F_turnoutlaw16_WalkGraph_2 n (fun z0 => K .rt (s_turnoutlaw16_WalkGraph_r.enc ((z0, ()), ()))) (fun _ => K (.ex 2) (s_turnoutlaw16_WalkGraph_t2.enc ((v.1.1, (v.1.2.1, (v.1.2.2.1, (v.1.2.2.2.1, (v.1.2.2.2.2.1, (v.1.2.2.2.2.2.1, (v.1.2.2.2.2.2.2.1, ((), (v.1.2.2.2.2.2.2.2.2.1, ()))))))))), (v.2.1, (v.2.2.1, ()))))) v.1.1 v.1.2.1 v.1.2.2.1 v.1.2.2.2.1 v.1.2.2.2.2.1 v.1.2.2.2.2.2.1 v.1.2.2.2.2.2.2.1 v.1.2.2.2.2.2.2.2.2.1 v.2.1 v.2.2.1 (fun z8 => rec ((v.1.1, (v.1.2.1, (v.1.2.2.1, (v.1.2.2.2.1, (v.1.2.2.2.2.1, (v.1.2.2.2.2.2.1, (v.1.2.2.2.2.2.2.1, ((), (v.1.2.2.2.2.2.2.2.2.1, (z8, ())))))))))), (v.2.1, (v.2.2.1, ())))) v.1.2.2.2.2.2.2.2.2.2.1 := by kernel_rfl
noncomputable def V_turnoutlaw16_WalkGraph_2 (n : Nat) (K : Cont) (rec : Sig.sem s_turnoutlaw16_WalkGraph_h2 → Option Res) (v : Sig.sem s_turnoutlaw16_WalkGraph_h2) : Option Res := F_turnoutlaw16_WalkGraph_2 n (fun z0 => K .rt (s_turnoutlaw16_WalkGraph_r.enc ((z0, ()), ()))) (fun _ => K (.ex 2) (s_turnoutlaw16_WalkGraph_t2.enc ((v.1.1, (v.1.2.1, (v.1.2.2.1, (v.1.2.2.2.1, (v.1.2.2.2.2.1, (v.1.2.2.2.2.2.1, (v.1.2.2.2.2.2.2.1, ((), (v.1.2.2.2.2.2.2.2.2.1, ()))))))))), (v.2.1, (v.2.2.1, ()))))) v.1.1 v.1.2.1 v.1.2.2.1 v.1.2.2.2.1 v.1.2.2.2.2.1 v.1.2.2.2.2.2.1 v.1.2.2.2.2.2.2.1 v.1.2.2.2.2.2.2.2.2.1 v.2.1 v.2.2.1 (fun z8 => rec ((v.1.1, (v.1.2.1, (v.1.2.2.1, (v.1.2.2.2.1, (v.1.2.2.2.2.1, (v.1.2.2.2.2.2.1, (v.1.2.2.2.2.2.2.1, ((), (v.1.2.2.2.2.2.2.2.2.1, (z8, ())))))))))), (v.2.1, (v.2.2.1, ())))) v.1.2.2.2.2.2.2.2.2.2.1
noncomputable def W_turnoutlaw16_WalkGraph_2 (n : Nat) (K : Cont) (m : Nat) (v : Sig.sem s_turnoutlaw16_WalkGraph_h2) : Option Res := L_turnoutlaw16_WalkGraph_2 n (fun z0 => K .rt (s_turnoutlaw16_WalkGraph_r.enc ((z0, ()), ()))) (fun _ => K (.ex 2) (s_turnoutlaw16_WalkGraph_t2.enc ((v.1.1, (v.1.2.1, (v.1.2.2.1, (v.1.2.2.2.1, (v.1.2.2.2.2.1, (v.1.2.2.2.2.2.1, (v.1.2.2.2.2.2.2.1, ((), (v.1.2.2.2.2.2.2.2.2.1, ()))))))))), (v.2.1, (v.2.2.1, ()))))) v.1.1 v.1.2.1 v.1.2.2.1 v.1.2.2.2.1 v.1.2.2.2.2.1 v.1.2.2.2.2.2.1 v.1.2.2.2.2.2.2.1 v.1.2.2.2.2.2.2.2.2.1 v.2.1 v.2.2.1 m v.1.2.2.2.2.2.2.2.2.2.1
theorem i_turnoutlaw16_WalkGraph_2 (n : Nat) (K : Cont) : ∀ m v, iter (V_turnoutlaw16_WalkGraph_2 n K) m v = W_turnoutlaw16_WalkGraph_2 n K m v := by
  intro m
  induction m with
  | zero => intro v; rfl
  | succ m ih =>
    intro v
    show V_turnoutlaw16_WalkGraph_2 n K (iter (V_turnoutlaw16_WalkGraph_2 n K) m) v = V_turnoutlaw16_WalkGraph_2 n K (W_turnoutlaw16_WalkGraph_2 n K m) v
    rw [show iter (V_turnoutlaw16_WalkGraph_2 n K) m = W_turnoutlaw16_WalkGraph_2 n K m from funext ih]
theorem o_turnoutlaw16_WalkGraph_2 (n : Nat) : ∀ L, ls_turnoutlaw16_WalkGraph n 2 = some L → ∀ s K r, L s K = some r → ∃ x s', loopN (run Try.prog cf_turnoutlaw16_WalkGraph Try.f5.ntmps 0 n p_turnoutlaw16_WalkGraph none b_turnoutlaw16_WalkGraph_2) (gc 0 (p_turnoutlaw16_WalkGraph.head 2)) n s = some (x, s') ∧ K x s' = some r := by
  intro L hL s K r h
  have hL : some (loopT 0 (p_turnoutlaw16_WalkGraph.head 2) s_turnoutlaw16_WalkGraph_h2 fun K v => W_turnoutlaw16_WalkGraph_2 n K n v) = some L := hL
  cases hL
  have hb : LOk Try.prog cf_turnoutlaw16_WalkGraph Try.f5.ntmps 0 n p_turnoutlaw16_WalkGraph (ls_turnoutlaw16_WalkGraph n) b_turnoutlaw16_WalkGraph_2 := ⟨⟨trivial, ⟨trivial, trivial⟩⟩, ⟨⟨trivial, ⟨⟨trivial, trivial⟩, trivial⟩⟩, trivial⟩⟩
  refine loopT_ok hb (V_turnoutlaw16_WalkGraph_2 n) (t_turnoutlaw16_WalkGraph_2 n) n s K r ?_
  rw [← h]
  unfold loopT
  simp only [i_turnoutlaw16_WalkGraph_2]
noncomputable def b_turnoutlaw16_WalkGraph_0 : Code := partOf (bodyOf Try.f5) [1, 1, 1, 1, 1, 0, 1, 0, 0]
theorem t_turnoutlaw16_WalkGraph_0 (n : Nat) (K : Cont) (rec : Sig.sem s_turnoutlaw16_WalkGraph_h0 → Option Res) (v : Sig.sem s_turnoutlaw16_WalkGraph_h0) : runT Try.prog cf_turnoutlaw16_WalkGraph Try.f5.ntmps 0 p_turnoutlaw16_WalkGraph (ls_turnoutlaw16_WalkGraph n) b_turnoutlaw16_WalkGraph_0 (s_turnoutlaw16_WalkGraph_h0.enc v) (turnK 0 (p_turnoutlaw16_WalkGraph.head 0) s_turnoutlaw16_WalkGraph_h0 rec K) = F_turnoutlaw16_WalkGraph_0 n (fun z0 => K .rt (s_turnoutlaw16_WalkGraph_r.enc ((z0, ()), ()))) (fun z4 z5 => K (.ex 0) (s_turnoutlaw16_WalkGraph_t0.enc ((v.1.1, (v.1.2.1, (v.1.2.2.1, (v.1.2.2.2.1, (z4, (z5, ())))))), (v.2.1, ())))) v.1.1 v.1.2.1 v.1.2.2.1 v.1.2.2.2.1 v.2.1 (fun z4 z5 z6 => rec ((v.1.1, (v.1.2.1, (v.1.2.2.1, (v.1.2.2.2.1, (z4, (z5, (z6, ()))))))), (v.2.1, ()))) v.1.2.2.2.2.1 v.1.2.2.2.2.2.1 v.1.2.2.2.2.2.2.1 := by kernel_rfl
noncomputable def V_turnoutlaw16_WalkGraph_0 (n : Nat) (K : Cont) (rec : Sig.sem s_turnoutlaw16_WalkGraph_h0 → Option Res) (v : Sig.sem s_turnoutlaw16_WalkGraph_h0) : Option Res := F_turnoutlaw16_WalkGraph_0 n (fun z0 => K .rt (s_turnoutlaw16_WalkGraph_r.enc ((z0, ()), ()))) (fun z4 z5 => K (.ex 0) (s_turnoutlaw16_WalkGraph_t0.enc ((v.1.1, (v.1.2.1, (v.1.2.2.1, (v.1.2.2.2.1, (z4, (z5, ())))))), (v.2.1, ())))) v.1.1 v.1.2.1 v.1.2.2.1 v.1.2.2.2.1 v.2.1 (fun z4 z5 z6 => rec ((v.1.1, (v.1.2.1, (v.1.2.2.1, (v.1.2.2.2.1, (z4, (z5, (z6, ()))))))), (v.2.1, ()))) v.1.2.2.2.2.1 v.1.2.2.2.2.2.1 v.1.2.2.2.2.2.2.1
noncomputable def W_turnoutlaw16_WalkGraph_0 (n : Nat) (K : Cont) (m : Nat) (v : Sig.sem s_turnoutlaw16_WalkGraph_h0) : Option Res := L_turnoutlaw16_WalkGraph_0 n (fun z0 => K .rt (s_turnoutlaw16_WalkGraph_r.enc ((z0, ()), ()))) (fun z4 z5 => K (.ex 0) (s_turnoutlaw16_WalkGraph_t0.enc ((v.1.1, (v.1.2.1, (v.1.2.2.1, (v.1.2.2.2.1, (z4, (z5, ())))))), (v.2.1, ())))) v.1.1 v.1.2.1 v.1.2.2.1 v.1.2.2.2.1 v.2.1 m v.1.2.2.2.2.1 v.1.2.2.2.2.2.1 v.1.2.2.2.2.2.2.1
theorem i_turnoutlaw16_WalkGraph_0 (n : Nat) (K : Cont) : ∀ m v, iter (V_turnoutlaw16_WalkGraph_0 n K) m v = W_turnoutlaw16_WalkGraph_0 n K m v := by
  intro m
  induction m with
  | zero => intro v; rfl
  | succ m ih =>
    intro v
    show V_turnoutlaw16_WalkGraph_0 n K (iter (V_turnoutlaw16_WalkGraph_0 n K) m) v = V_turnoutlaw16_WalkGraph_0 n K (W_turnoutlaw16_WalkGraph_0 n K m) v
    rw [show iter (V_turnoutlaw16_WalkGraph_0 n K) m = W_turnoutlaw16_WalkGraph_0 n K m from funext ih]
theorem o_turnoutlaw16_WalkGraph_0 (n : Nat) : ∀ L, ls_turnoutlaw16_WalkGraph n 0 = some L → ∀ s K r, L s K = some r → ∃ x s', loopN (run Try.prog cf_turnoutlaw16_WalkGraph Try.f5.ntmps 0 n p_turnoutlaw16_WalkGraph none b_turnoutlaw16_WalkGraph_0) (gc 0 (p_turnoutlaw16_WalkGraph.head 0)) n s = some (x, s') ∧ K x s' = some r := by
  intro L hL s K r h
  have hL : some (loopT 0 (p_turnoutlaw16_WalkGraph.head 0) s_turnoutlaw16_WalkGraph_h0 fun K v => W_turnoutlaw16_WalkGraph_0 n K n v) = some L := hL
  cases hL
  have hb : LOk Try.prog cf_turnoutlaw16_WalkGraph Try.f5.ntmps 0 n p_turnoutlaw16_WalkGraph (ls_turnoutlaw16_WalkGraph n) b_turnoutlaw16_WalkGraph_0 := ⟨⟨trivial, ⟨trivial, trivial⟩⟩, ⟨⟨trivial, ⟨trivial, ⟨⟨trivial, ⟨⟨trivial, trivial⟩, trivial⟩⟩, ⟨⟨trivial, (o_turnoutlaw16_WalkGraph_2 n)⟩, ⟨trivial, ⟨⟨trivial, ⟨trivial, trivial⟩⟩, ⟨⟨trivial, ⟨⟨trivial, trivial⟩, trivial⟩⟩, ⟨trivial, trivial⟩⟩⟩⟩⟩⟩⟩⟩, trivial⟩⟩
  refine loopT_ok hb (V_turnoutlaw16_WalkGraph_0 n) (t_turnoutlaw16_WalkGraph_0 n) n s K r ?_
  rw [← h]
  unfold loopT
  simp only [i_turnoutlaw16_WalkGraph_0]
theorem m_turnoutlaw16_WalkGraph (n : Nat) (a0 : (List NodeS)) (a1 : ByteArray) : runFT Try.prog cf_turnoutlaw16_WalkGraph p_turnoutlaw16_WalkGraph (ls_turnoutlaw16_WalkGraph n) Try.f5 (bodyOf Try.f5) (EK.encs e_turnoutlaw16_WalkGraph ((a0, (a1, ())), ()).1) (HK.encs h_turnoutlaw16_WalkGraph ((a0, (a1, ())), ()).2) = M_turnoutlaw16_WalkGraph n a0 a1 := by kernel_rfl
theorem g_turnoutlaw16_WalkGraph (n : Nat) (a0 : (List NodeS)) (a1 : ByteArray) {r : Res} (h : M_turnoutlaw16_WalkGraph n a0 a1 = some r) : runF Try.prog cf_turnoutlaw16_WalkGraph n p_turnoutlaw16_WalkGraph 5 (EK.encs e_turnoutlaw16_WalkGraph ((a0, (a1, ())), ()).1) (HK.encs h_turnoutlaw16_WalkGraph ((a0, (a1, ())), ()).2) = some r := by
  have hb : LOk Try.prog cf_turnoutlaw16_WalkGraph Try.f5.ntmps 0 n p_turnoutlaw16_WalkGraph (ls_turnoutlaw16_WalkGraph n) (bodyOf Try.f5) := ⟨trivial, ⟨⟨trivial, ⟨⟨trivial, trivial⟩, trivial⟩⟩, ⟨trivial, ⟨⟨trivial, ⟨⟨trivial, trivial⟩, trivial⟩⟩, ⟨trivial, ⟨⟨trivial, (o_turnoutlaw16_WalkGraph_0 n)⟩, ⟨trivial, ⟨⟨trivial, ⟨⟨trivial, trivial⟩, ⟨trivial, ⟨⟨trivial, trivial⟩, trivial⟩⟩⟩⟩, ⟨trivial, ⟨trivial, ⟨trivial, trivial⟩⟩⟩⟩⟩⟩⟩⟩⟩⟩⟩
  exact runFT_some Try.prog (c := bodyOf Try.f5) Try.func5 (show Try.f5.body = some (bodyOf Try.f5) from rfl) (show (2 : Nat) ≤ 190 by decide) hb ((m_turnoutlaw16_WalkGraph n a0 a1).trans h) rfl (by kernel_rfl)
noncomputable def c_turnoutlaw16_WalkGraph : Spec := specQ e_turnoutlaw16_WalkGraph h_turnoutlaw16_WalkGraph ro_turnoutlaw16_WalkGraph rh_turnoutlaw16_WalkGraph fun a b => Q_turnoutlaw16_WalkGraph a.1 a.2.1
theorem k_turnoutlaw16_WalkGraph (hm : Try.prog.follows .mixedOrders = true) : SpecOk Try.prog 5 c_turnoutlaw16_WalkGraph := specQ_ok (pol := p_turnoutlaw16_WalkGraph) hm (cf := cf_turnoutlaw16_WalkGraph) (tab_ok (specs_cons (k_turnoutlaw16_large hm) (specs_cons (k_turnoutlaw16_awake hm) (specs_cons (k_walk_Walk hm) (specs_cons (k_graph_May hm) (specs_cons (k_graph_Find hm) (specs_cons (k_walk_Size hm) (specs_cons (k_turnoutlaw16_bits hm) (specs_cons (k_graph_Next hm) specs_nil))))))))) fun a b r h => ⟨FUEL, g_turnoutlaw16_WalkGraph FUEL a.1 a.2.1 (decRes_some h)⟩
def s_turnoutlaw16_WalkBehind_r : Sig := ⟨[6], [.ty .bool], []⟩
def p_turnoutlaw16_WalkBehind : Pol := ⟨fun i => none, fun i => none, some [(6, .keep)], [.keep], []⟩
def e_turnoutlaw16_WalkBehind : List EK := [.ty (.slice NodeT), .ty .str, .ty .str]
def h_turnoutlaw16_WalkBehind : List HK := []
noncomputable def cf_turnoutlaw16_WalkBehind : CallF := mkCF [(9, c_turnoutlaw16_large), (10, c_turnoutlaw16_awake), (12, c_walk_Walk), (13, c_turnoutref16_Heads)] [(9, [(.slice NodeT)]), (10, []), (12, [(.slice NodeT), .str]), (13, [(.slice HeadT), (.slice HeadT)])]
noncomputable def ls_turnoutlaw16_WalkBehind (n : Nat) : Loops := fun i =>  none
theorem m_turnoutlaw16_WalkBehind (n : Nat) (a0 : (List NodeS)) (a1 : ByteArray) (a2 : ByteArray) : runFT Try.prog cf_turnoutlaw16_WalkBehind p_turnoutlaw16_WalkBehind (ls_turnoutlaw16_WalkBehind n) Try.f6 (bodyOf Try.f6) (EK.encs e_turnoutlaw16_WalkBehind ((a0, (a1, (a2, ()))), ()).1) (HK.encs h_turnoutlaw16_WalkBehind ((a0, (a1, (a2, ()))), ()).2) = M_turnoutlaw16_WalkBehind n a0 a1 a2 := by kernel_rfl
theorem g_turnoutlaw16_WalkBehind (n : Nat) (a0 : (List NodeS)) (a1 : ByteArray) (a2 : ByteArray) {r : Res} (h : M_turnoutlaw16_WalkBehind n a0 a1 a2 = some r) : runF Try.prog cf_turnoutlaw16_WalkBehind n p_turnoutlaw16_WalkBehind 6 (EK.encs e_turnoutlaw16_WalkBehind ((a0, (a1, (a2, ()))), ()).1) (HK.encs h_turnoutlaw16_WalkBehind ((a0, (a1, (a2, ()))), ()).2) = some r := by
  have hb : LOk Try.prog cf_turnoutlaw16_WalkBehind Try.f6.ntmps 0 n p_turnoutlaw16_WalkBehind (ls_turnoutlaw16_WalkBehind n) (bodyOf Try.f6) := ⟨trivial, ⟨⟨trivial, ⟨⟨trivial, trivial⟩, trivial⟩⟩, ⟨trivial, ⟨trivial, ⟨⟨trivial, ⟨⟨trivial, trivial⟩, trivial⟩⟩, ⟨trivial, trivial⟩⟩⟩⟩⟩⟩
  exact runFT_some Try.prog (c := bodyOf Try.f6) Try.func6 (show Try.f6.body = some (bodyOf Try.f6) from rfl) (show (3 : Nat) ≤ 84 by decide) hb ((m_turnoutlaw16_WalkBehind n a0 a1 a2).trans h) rfl (by kernel_rfl)
noncomputable def c_turnoutlaw16_WalkBehind : Spec := specQ e_turnoutlaw16_WalkBehind h_turnoutlaw16_WalkBehind ro_turnoutlaw16_WalkBehind rh_turnoutlaw16_WalkBehind fun a b => Q_turnoutlaw16_WalkBehind a.1 a.2.1 a.2.2.1
theorem k_turnoutlaw16_WalkBehind (hm : Try.prog.follows .mixedOrders = true) : SpecOk Try.prog 6 c_turnoutlaw16_WalkBehind := specQ_ok (pol := p_turnoutlaw16_WalkBehind) hm (cf := cf_turnoutlaw16_WalkBehind) (tab_ok (specs_cons (k_turnoutlaw16_large hm) (specs_cons (k_turnoutlaw16_awake hm) (specs_cons (k_walk_Walk hm) (specs_cons (k_turnoutref16_Heads hm) specs_nil))))) fun a b r h => ⟨FUEL, g_turnoutlaw16_WalkBehind FUEL a.1 a.2.1 a.2.2.1 (decRes_some h)⟩
def s_turnoutlaw16_WalkCut_r : Sig := ⟨[6], [.ty .bool], []⟩
def p_turnoutlaw16_WalkCut : Pol := ⟨fun i => none, fun i => none, some [(6, .keep)], [.keep], []⟩
def e_turnoutlaw16_WalkCut : List EK := [.ty (.slice NodeT), .ty .str, .ty (.int .i64)]
def h_turnoutlaw16_WalkCut : List HK := []
noncomputable def cf_turnoutlaw16_WalkCut : CallF := mkCF [(9, c_turnoutlaw16_large), (10, c_turnoutlaw16_awake), (12, c_walk_Walk), (13, c_turnoutref16_Heads)] [(9, [(.slice NodeT)]), (10, []), (12, [(.slice NodeT), .str]), (13, [(.slice HeadT), (.slice HeadT)])]
noncomputable def ls_turnoutlaw16_WalkCut (n : Nat) : Loops := fun i =>  none
theorem m_turnoutlaw16_WalkCut (n : Nat) (a0 : (List NodeS)) (a1 : ByteArray) (a2 : Int) : runFT Try.prog cf_turnoutlaw16_WalkCut p_turnoutlaw16_WalkCut (ls_turnoutlaw16_WalkCut n) Try.f7 (bodyOf Try.f7) (EK.encs e_turnoutlaw16_WalkCut ((a0, (a1, (a2, ()))), ()).1) (HK.encs h_turnoutlaw16_WalkCut ((a0, (a1, (a2, ()))), ()).2) = M_turnoutlaw16_WalkCut n a0 a1 a2 := by kernel_rfl
theorem g_turnoutlaw16_WalkCut (n : Nat) (a0 : (List NodeS)) (a1 : ByteArray) (a2 : Int) {r : Res} (h : M_turnoutlaw16_WalkCut n a0 a1 a2 = some r) : runF Try.prog cf_turnoutlaw16_WalkCut n p_turnoutlaw16_WalkCut 7 (EK.encs e_turnoutlaw16_WalkCut ((a0, (a1, (a2, ()))), ()).1) (HK.encs h_turnoutlaw16_WalkCut ((a0, (a1, (a2, ()))), ()).2) = some r := by
  have hb : LOk Try.prog cf_turnoutlaw16_WalkCut Try.f7.ntmps 0 n p_turnoutlaw16_WalkCut (ls_turnoutlaw16_WalkCut n) (bodyOf Try.f7) := ⟨trivial, ⟨⟨trivial, ⟨⟨trivial, trivial⟩, trivial⟩⟩, ⟨trivial, ⟨trivial, ⟨trivial, ⟨⟨trivial, ⟨⟨trivial, trivial⟩, trivial⟩⟩, ⟨trivial, trivial⟩⟩⟩⟩⟩⟩⟩
  exact runFT_some Try.prog (c := bodyOf Try.f7) Try.func7 (show Try.f7.body = some (bodyOf Try.f7) from rfl) (show (3 : Nat) ≤ 88 by decide) hb ((m_turnoutlaw16_WalkCut n a0 a1 a2).trans h) rfl (by kernel_rfl)
noncomputable def c_turnoutlaw16_WalkCut : Spec := specQ e_turnoutlaw16_WalkCut h_turnoutlaw16_WalkCut ro_turnoutlaw16_WalkCut rh_turnoutlaw16_WalkCut fun a b => Q_turnoutlaw16_WalkCut a.1 a.2.1 a.2.2.1
theorem k_turnoutlaw16_WalkCut (hm : Try.prog.follows .mixedOrders = true) : SpecOk Try.prog 7 c_turnoutlaw16_WalkCut := specQ_ok (pol := p_turnoutlaw16_WalkCut) hm (cf := cf_turnoutlaw16_WalkCut) (tab_ok (specs_cons (k_turnoutlaw16_large hm) (specs_cons (k_turnoutlaw16_awake hm) (specs_cons (k_walk_Walk hm) (specs_cons (k_turnoutref16_Heads hm) specs_nil))))) fun a b r h => ⟨FUEL, g_turnoutlaw16_WalkCut FUEL a.1 a.2.1 a.2.2.1 (decRes_some h)⟩
def s_graph_Longest_r : Sig := ⟨[2], [.ty (.int .i64)], []⟩
def p_graph_Longest : Pol := ⟨fun i => none, fun i => none, some [(2, .keep)], [.keep], []⟩
def e_graph_Longest : List EK := [.ty (.slice NodeT)]
def h_graph_Longest : List HK := []
noncomputable def cf_graph_Longest : CallF := mkCF [(16, c_graph_May), (30, c_graph_longest), (42, c_graph_longest_walk)] [(16, [(.slice NodeT)]), (30, [(.slice NodeT)])]
noncomputable def ls_graph_Longest (n : Nat) : Loops := fun i =>  none
theorem m_graph_Longest (n : Nat) (a0 : (List NodeS)) : runFT Try.prog cf_graph_Longest p_graph_Longest (ls_graph_Longest n) Try.f20 (bodyOf Try.f20) (EK.encs e_graph_Longest ((a0, ()), ()).1) (HK.encs h_graph_Longest ((a0, ()), ()).2) = M_graph_Longest n a0 := by kernel_rfl
theorem g_graph_Longest (n : Nat) (a0 : (List NodeS)) {r : Res} (h : M_graph_Longest n a0 = some r) : runF Try.prog cf_graph_Longest n p_graph_Longest 20 (EK.encs e_graph_Longest ((a0, ()), ()).1) (HK.encs h_graph_Longest ((a0, ()), ()).2) = some r := by
  have hb : LOk Try.prog cf_graph_Longest Try.f20.ntmps 0 n p_graph_Longest (ls_graph_Longest n) (bodyOf Try.f20) := ⟨trivial, ⟨⟨trivial, ⟨⟨trivial, trivial⟩, trivial⟩⟩, ⟨trivial, ⟨trivial, trivial⟩⟩⟩⟩
  exact runFT_some Try.prog (c := bodyOf Try.f20) Try.func20 (show Try.f20.body = some (bodyOf Try.f20) from rfl) (show (1 : Nat) ≤ 15 by decide) hb ((m_graph_Longest n a0).trans h) rfl (by kernel_rfl)
noncomputable def c_graph_Longest : Spec := specQ e_graph_Longest h_graph_Longest ro_graph_Longest rh_graph_Longest fun a b => Q_graph_Longest a.1
theorem k_graph_Longest (hm : Try.prog.follows .mixedOrders = true) : SpecOk Try.prog 20 c_graph_Longest := specQ_ok (pol := p_graph_Longest) hm (cf := cf_graph_Longest) (tab_ok (specs_cons (k_graph_May hm) (specs_cons (k_graph_longest hm) (specs_cons (k_graph_longest_walk hm) specs_nil)))) fun a b r h => ⟨FUEL, g_graph_Longest FUEL a.1 (decRes_some h)⟩
def s_turnoutlaw16_WalkSteps_r : Sig := ⟨[4], [.ty .bool], []⟩
def p_turnoutlaw16_WalkSteps : Pol := ⟨fun i => none, fun i => none, some [(4, .keep)], [.keep], []⟩
def e_turnoutlaw16_WalkSteps : List EK := [.ty (.slice NodeT), .ty .str]
def h_turnoutlaw16_WalkSteps : List HK := []
noncomputable def cf_turnoutlaw16_WalkSteps : CallF := mkCF [(9, c_turnoutlaw16_large), (10, c_turnoutlaw16_awake), (12, c_walk_Walk), (20, c_graph_Longest), (16, c_graph_May)] [(9, [(.slice NodeT)]), (10, []), (12, [(.slice NodeT), .str]), (20, [(.slice NodeT)]), (16, [(.slice NodeT)])]
noncomputable def ls_turnoutlaw16_WalkSteps (n : Nat) : Loops := fun i =>  none
theorem m_turnoutlaw16_WalkSteps (n : Nat) (a0 : (List NodeS)) (a1 : ByteArray) : runFT Try.prog cf_turnoutlaw16_WalkSteps p_turnoutlaw16_WalkSteps (ls_turnoutlaw16_WalkSteps n) Try.f8 (bodyOf Try.f8) (EK.encs e_turnoutlaw16_WalkSteps ((a0, (a1, ())), ()).1) (HK.encs h_turnoutlaw16_WalkSteps ((a0, (a1, ())), ()).2) = M_turnoutlaw16_WalkSteps n a0 a1 := by kernel_rfl
theorem g_turnoutlaw16_WalkSteps (n : Nat) (a0 : (List NodeS)) (a1 : ByteArray) {r : Res} (h : M_turnoutlaw16_WalkSteps n a0 a1 = some r) : runF Try.prog cf_turnoutlaw16_WalkSteps n p_turnoutlaw16_WalkSteps 8 (EK.encs e_turnoutlaw16_WalkSteps ((a0, (a1, ())), ()).1) (HK.encs h_turnoutlaw16_WalkSteps ((a0, (a1, ())), ()).2) = some r := by
  have hb : LOk Try.prog cf_turnoutlaw16_WalkSteps Try.f8.ntmps 0 n p_turnoutlaw16_WalkSteps (ls_turnoutlaw16_WalkSteps n) (bodyOf Try.f8) := ⟨trivial, ⟨⟨trivial, ⟨⟨trivial, trivial⟩, trivial⟩⟩, ⟨trivial, ⟨⟨trivial, ⟨⟨trivial, trivial⟩, trivial⟩⟩, ⟨⟨trivial, ⟨⟨trivial, trivial⟩, trivial⟩⟩, ⟨trivial, trivial⟩⟩⟩⟩⟩⟩
  exact runFT_some Try.prog (c := bodyOf Try.f8) Try.func8 (show Try.f8.body = some (bodyOf Try.f8) from rfl) (show (2 : Nat) ≤ 79 by decide) hb ((m_turnoutlaw16_WalkSteps n a0 a1).trans h) rfl (by kernel_rfl)
noncomputable def c_turnoutlaw16_WalkSteps : Spec := specQ e_turnoutlaw16_WalkSteps h_turnoutlaw16_WalkSteps ro_turnoutlaw16_WalkSteps rh_turnoutlaw16_WalkSteps fun a b => Q_turnoutlaw16_WalkSteps a.1 a.2.1
theorem k_turnoutlaw16_WalkSteps (hm : Try.prog.follows .mixedOrders = true) : SpecOk Try.prog 8 c_turnoutlaw16_WalkSteps := specQ_ok (pol := p_turnoutlaw16_WalkSteps) hm (cf := cf_turnoutlaw16_WalkSteps) (tab_ok (specs_cons (k_turnoutlaw16_large hm) (specs_cons (k_turnoutlaw16_awake hm) (specs_cons (k_walk_Walk hm) (specs_cons (k_graph_Longest hm) (specs_cons (k_graph_May hm) specs_nil)))))) fun a b r h => ⟨FUEL, g_turnoutlaw16_WalkSteps FUEL a.1 a.2.1 (decRes_some h)⟩
end Go.AMach
