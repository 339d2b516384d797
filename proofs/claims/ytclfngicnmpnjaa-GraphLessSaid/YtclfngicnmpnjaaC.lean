/- A part of the walk. -/
import Derived.Test.YtclfngicnmpnjaaD
import Derived.Test.YtclfngicnmpnjaaProg
namespace Go.AMach
set_option linter.unusedVariables false
set_option linter.unusedSimpArgs false
set_option linter.unnecessarySimpa false
open Go Go.Proofs
set_option linter.unusedVariables false
def s_turnoutlaw15_some_r : Sig := ⟨[2], [.hs 0 0], [.row NodeT]⟩
def p_turnoutlaw15_some : Pol := ⟨fun i => none, fun i => none, some [(2, (.own NodeT))], [(.own NodeT)]⟩
def e_turnoutlaw15_some : List EK := [.ty (.int .i64)]
def h_turnoutlaw15_some : List HK := []
noncomputable def cf_turnoutlaw15_some : CallF := mkCF [] []
noncomputable def ls_turnoutlaw15_some (n : Nat) : Loops := fun i =>  none
theorem m_turnoutlaw15_some (n : Nat) (a0 : Int) : runFT Try.prog cf_turnoutlaw15_some p_turnoutlaw15_some (ls_turnoutlaw15_some n) Try.f22 (bodyOf Try.f22) (EK.encs e_turnoutlaw15_some ((a0, ()), ()).1) (HK.encs h_turnoutlaw15_some ((a0, ()), ()).2) = M_turnoutlaw15_some n a0 := by kernel_rfl
theorem g_turnoutlaw15_some (n : Nat) (a0 : Int) {r : Res} (h : M_turnoutlaw15_some n a0 = some r) : runF Try.prog cf_turnoutlaw15_some n p_turnoutlaw15_some 22 (EK.encs e_turnoutlaw15_some ((a0, ()), ()).1) (HK.encs h_turnoutlaw15_some ((a0, ()), ()).2) = some r := by
  have hb : LOk Try.prog cf_turnoutlaw15_some Try.f22.ntmps 0 n p_turnoutlaw15_some (ls_turnoutlaw15_some n) (bodyOf Try.f22) := ⟨trivial, ⟨trivial, trivial⟩⟩
  exact runFT_some Try.prog (c := bodyOf Try.f22) Try.func22 (show Try.f22.body = some (bodyOf Try.f22) from rfl) (show (1 : Nat) ≤ 14 by decide) hb ((m_turnoutlaw15_some n a0).trans h)
noncomputable def c_turnoutlaw15_some : Spec := specQ e_turnoutlaw15_some h_turnoutlaw15_some ro_turnoutlaw15_some rh_turnoutlaw15_some fun a b => Q_turnoutlaw15_some a.1
theorem k_turnoutlaw15_some (hm : Try.prog.follows .mixedOrders = true) : SpecOk Try.prog 22 c_turnoutlaw15_some := specQ_ok (pol := p_turnoutlaw15_some) hm (cf := cf_turnoutlaw15_some) (tab_ok specs_nil) fun a b r h => ⟨FUEL, g_turnoutlaw15_some FUEL a.1 (decRes_some h)⟩
def s_graph_to_r : Sig := ⟨[2], [.ty .bool], []⟩
def p_graph_to : Pol := ⟨fun i => none, fun i => none, some [(2, .keep)], [.keep]⟩
def e_graph_to : List EK := [.ty (.int .i64)]
def h_graph_to : List HK := []
noncomputable def cf_graph_to : CallF := mkCF [] []
noncomputable def ls_graph_to (n : Nat) : Loops := fun i =>  none
theorem m_graph_to (n : Nat) (a0 : Int) : runFT Try.prog cf_graph_to p_graph_to (ls_graph_to n) Try.f23 (bodyOf Try.f23) (EK.encs e_graph_to ((a0, ()), ()).1) (HK.encs h_graph_to ((a0, ()), ()).2) = M_graph_to n a0 := by kernel_rfl
theorem g_graph_to (n : Nat) (a0 : Int) {r : Res} (h : M_graph_to n a0 = some r) : runF Try.prog cf_graph_to n p_graph_to 23 (EK.encs e_graph_to ((a0, ()), ()).1) (HK.encs h_graph_to ((a0, ()), ()).2) = some r := by
  have hb : LOk Try.prog cf_graph_to Try.f23.ntmps 0 n p_graph_to (ls_graph_to n) (bodyOf Try.f23) := ⟨trivial, ⟨trivial, trivial⟩⟩
  exact runFT_some Try.prog (c := bodyOf Try.f23) Try.func23 (show Try.f23.body = some (bodyOf Try.f23) from rfl) (show (1 : Nat) ≤ 9 by decide) hb ((m_graph_to n a0).trans h)
noncomputable def c_graph_to : Spec := specQ e_graph_to h_graph_to ro_graph_to rh_graph_to fun a b => Q_graph_to a.1
theorem k_graph_to (hm : Try.prog.follows .mixedOrders = true) : SpecOk Try.prog 23 c_graph_to := specQ_ok (pol := p_graph_to) hm (cf := cf_graph_to) (tab_ok specs_nil) fun a b r h => ⟨FUEL, g_graph_to FUEL a.1 (decRes_some h)⟩
def s_graph_span_may_r : Sig := ⟨[2], [.ty .bool], []⟩
def p_graph_span_may : Pol := ⟨fun i => none, fun i => none, some [(2, .keep)], [.keep]⟩
def e_graph_span_may : List EK := [.agg SpanT]
def h_graph_span_may : List HK := []
noncomputable def cf_graph_span_may : CallF := mkCF [] []
noncomputable def ls_graph_span_may (n : Nat) : Loops := fun i =>  none
theorem m_graph_span_may (n : Nat) (a0 : SpanS) : runFT Try.prog cf_graph_span_may p_graph_span_may (ls_graph_span_may n) Try.f24 (bodyOf Try.f24) (EK.encs e_graph_span_may ((a0, ()), ()).1) (HK.encs h_graph_span_may ((a0, ()), ()).2) = M_graph_span_may n a0 := by kernel_rfl
theorem g_graph_span_may (n : Nat) (a0 : SpanS) {r : Res} (h : M_graph_span_may n a0 = some r) : runF Try.prog cf_graph_span_may n p_graph_span_may 24 (EK.encs e_graph_span_may ((a0, ()), ()).1) (HK.encs h_graph_span_may ((a0, ()), ()).2) = some r := by
  have hb : LOk Try.prog cf_graph_span_may Try.f24.ntmps 0 n p_graph_span_may (ls_graph_span_may n) (bodyOf Try.f24) := ⟨trivial, ⟨⟨trivial, ⟨⟨trivial, trivial⟩, trivial⟩⟩, ⟨trivial, trivial⟩⟩⟩
  exact runFT_some Try.prog (c := bodyOf Try.f24) Try.func24 (show Try.f24.body = some (bodyOf Try.f24) from rfl) (show (1 : Nat) ≤ 29 by decide) hb ((m_graph_span_may n a0).trans h)
noncomputable def c_graph_span_may : Spec := specQ e_graph_span_may h_graph_span_may ro_graph_span_may rh_graph_span_may fun a b => Q_graph_span_may a.1
theorem k_graph_span_may (hm : Try.prog.follows .mixedOrders = true) : SpecOk Try.prog 24 c_graph_span_may := specQ_ok (pol := p_graph_span_may) hm (cf := cf_graph_span_may) (tab_ok specs_nil) fun a b r h => ⟨FUEL, g_graph_span_may FUEL a.1 (decRes_some h)⟩
def s_graph_unit_r : Sig := ⟨[2], [.ty .bool], []⟩
def p_graph_unit : Pol := ⟨fun i => none, fun i => none, some [(2, .keep)], [.keep]⟩
def e_graph_unit : List EK := [.agg NodeT]
def h_graph_unit : List HK := []
noncomputable def cf_graph_unit : CallF := mkCF [] []
noncomputable def ls_graph_unit (n : Nat) : Loops := fun i =>  none
theorem m_graph_unit (n : Nat) (a0 : NodeS) : runFT Try.prog cf_graph_unit p_graph_unit (ls_graph_unit n) Try.f25 (bodyOf Try.f25) (EK.encs e_graph_unit ((a0, ()), ()).1) (HK.encs h_graph_unit ((a0, ()), ()).2) = M_graph_unit n a0 := by kernel_rfl
theorem g_graph_unit (n : Nat) (a0 : NodeS) {r : Res} (h : M_graph_unit n a0 = some r) : runF Try.prog cf_graph_unit n p_graph_unit 25 (EK.encs e_graph_unit ((a0, ()), ()).1) (HK.encs h_graph_unit ((a0, ()), ()).2) = some r := by
  have hb : LOk Try.prog cf_graph_unit Try.f25.ntmps 0 n p_graph_unit (ls_graph_unit n) (bodyOf Try.f25) := ⟨trivial, ⟨⟨trivial, ⟨⟨trivial, trivial⟩, trivial⟩⟩, ⟨trivial, trivial⟩⟩⟩
  exact runFT_some Try.prog (c := bodyOf Try.f25) Try.func25 (show Try.f25.body = some (bodyOf Try.f25) from rfl) (show (1 : Nat) ≤ 17 by decide) hb ((m_graph_unit n a0).trans h)
noncomputable def c_graph_unit : Spec := specQ e_graph_unit h_graph_unit ro_graph_unit rh_graph_unit fun a b => Q_graph_unit a.1
theorem k_graph_unit (hm : Try.prog.follows .mixedOrders = true) : SpecOk Try.prog 25 c_graph_unit := specQ_ok (pol := p_graph_unit) hm (cf := cf_graph_unit) (tab_ok specs_nil) fun a b r h => ⟨FUEL, g_graph_unit FUEL a.1 (decRes_some h)⟩
def s_graph_Form_r : Sig := ⟨[2], [.ty .bool], []⟩
def s_graph_Form_h0 : Sig := ⟨[1, 57, 58, 59], [.ptr 0 0 0, .ty (.slice ArmT), .ty (.int .i64), .ty (.int .i64)], [.cell NodeT]⟩
def s_graph_Form_t0 : Sig := ⟨[], [], []⟩
def p_graph_Form : Pol := ⟨fun i => if i = 0 then some [(1, (.own NodeT)), (57, .keep), (58, .keep), (59, .keep)] else none, fun i => if i = 0 then some [] else none, some [(2, .keep)], [.keep]⟩
def e_graph_Form : List EK := [.agg NodeT]
def h_graph_Form : List HK := []
noncomputable def cf_graph_Form : CallF := mkCF [(23, c_graph_to), (24, c_graph_span_may), (25, c_graph_unit)] [(23, [(.int .i64)]), (24, [SpanT]), (25, [NodeT])]
noncomputable def ls_graph_Form (n : Nat) : Loops := fun i => if i = 0 then some (loopT 0 (p_graph_Form.head 0) s_graph_Form_h0 fun K v => L_graph_Form_0 n (fun z0 => K .rt (s_graph_Form_r.enc ((z0, ()), ()))) (fun _ => K (.ex 0) (s_graph_Form_t0.enc ((), ()))) v.1.2.1 v.1.2.2.1 v.2.1 n v.1.2.2.2.1)
  else  none
noncomputable def b_graph_Form_0 : Code := partOf (bodyOf Try.f10) [1, 1, 1, 0, 1, 0, 0]
theorem t_graph_Form_0 (n : Nat) (K : Cont) (rec : Sig.sem s_graph_Form_h0 → Option Res) (v : Sig.sem s_graph_Form_h0) : runT Try.prog cf_graph_Form Try.f10.ntmps 0 p_graph_Form (ls_graph_Form n) b_graph_Form_0 (s_graph_Form_h0.enc v) (turnK 0 (p_graph_Form.head 0) s_graph_Form_h0 rec K) = F_graph_Form_0 n (fun z0 => K .rt (s_graph_Form_r.enc ((z0, ()), ()))) (fun _ => K (.ex 0) (s_graph_Form_t0.enc ((), ()))) v.1.2.1 v.1.2.2.1 v.2.1 (fun z2 => rec (((), (v.1.2.1, (v.1.2.2.1, (z2, ())))), (v.2.1, ()))) v.1.2.2.2.1 := by kernel_rfl
noncomputable def V_graph_Form_0 (n : Nat) (K : Cont) (rec : Sig.sem s_graph_Form_h0 → Option Res) (v : Sig.sem s_graph_Form_h0) : Option Res := F_graph_Form_0 n (fun z0 => K .rt (s_graph_Form_r.enc ((z0, ()), ()))) (fun _ => K (.ex 0) (s_graph_Form_t0.enc ((), ()))) v.1.2.1 v.1.2.2.1 v.2.1 (fun z2 => rec (((), (v.1.2.1, (v.1.2.2.1, (z2, ())))), (v.2.1, ()))) v.1.2.2.2.1
noncomputable def W_graph_Form_0 (n : Nat) (K : Cont) (m : Nat) (v : Sig.sem s_graph_Form_h0) : Option Res := L_graph_Form_0 n (fun z0 => K .rt (s_graph_Form_r.enc ((z0, ()), ()))) (fun _ => K (.ex 0) (s_graph_Form_t0.enc ((), ()))) v.1.2.1 v.1.2.2.1 v.2.1 m v.1.2.2.2.1
theorem i_graph_Form_0 (n : Nat) (K : Cont) : ∀ m v, iter (V_graph_Form_0 n K) m v = W_graph_Form_0 n K m v := by
  intro m
  induction m with
  | zero => intro v; rfl
  | succ m ih =>
    intro v
    show V_graph_Form_0 n K (iter (V_graph_Form_0 n K) m) v = V_graph_Form_0 n K (W_graph_Form_0 n K m) v
    rw [show iter (V_graph_Form_0 n K) m = W_graph_Form_0 n K m from funext ih]
theorem o_graph_Form_0 (n : Nat) : ∀ L, ls_graph_Form n 0 = some L → ∀ s K r, L s K = some r → ∃ x s', loopN (run Try.prog cf_graph_Form Try.f10.ntmps 0 n p_graph_Form none b_graph_Form_0) (gc 0 (p_graph_Form.head 0)) n s = some (x, s') ∧ K x s' = some r := by
  intro L hL s K r h
  have hL : some (loopT 0 (p_graph_Form.head 0) s_graph_Form_h0 fun K v => W_graph_Form_0 n K n v) = some L := hL
  cases hL
  have hb : LOk Try.prog cf_graph_Form Try.f10.ntmps 0 n p_graph_Form (ls_graph_Form n) b_graph_Form_0 := ⟨trivial, ⟨⟨trivial, trivial⟩, ⟨⟨trivial, ⟨trivial, ⟨⟨trivial, trivial⟩, trivial⟩⟩⟩, trivial⟩⟩⟩
  refine loopT_ok hb (V_graph_Form_0 n) (t_graph_Form_0 n) n s K r ?_
  rw [← h]
  unfold loopT
  simp only [i_graph_Form_0]
theorem m_graph_Form (n : Nat) (a0 : NodeS) : runFT Try.prog cf_graph_Form p_graph_Form (ls_graph_Form n) Try.f10 (bodyOf Try.f10) (EK.encs e_graph_Form ((a0, ()), ()).1) (HK.encs h_graph_Form ((a0, ()), ()).2) = M_graph_Form n a0 := by kernel_rfl
theorem g_graph_Form (n : Nat) (a0 : NodeS) {r : Res} (h : M_graph_Form n a0 = some r) : runF Try.prog cf_graph_Form n p_graph_Form 10 (EK.encs e_graph_Form ((a0, ()), ()).1) (HK.encs h_graph_Form ((a0, ()), ()).2) = some r := by
  have hb : LOk Try.prog cf_graph_Form Try.f10.ntmps 0 n p_graph_Form (ls_graph_Form n) (bodyOf Try.f10) := ⟨trivial, ⟨⟨trivial, ⟨⟨trivial, trivial⟩, trivial⟩⟩, ⟨⟨trivial, ⟨⟨trivial, trivial⟩, trivial⟩⟩, ⟨⟨trivial, (o_graph_Form_0 n)⟩, ⟨trivial, trivial⟩⟩⟩⟩⟩
  exact runFT_some Try.prog (c := bodyOf Try.f10) Try.func10 (show Try.f10.body = some (bodyOf Try.f10) from rfl) (show (1 : Nat) ≤ 99 by decide) hb ((m_graph_Form n a0).trans h)
noncomputable def c_graph_Form : Spec := specQ e_graph_Form h_graph_Form ro_graph_Form rh_graph_Form fun a b => Q_graph_Form a.1
theorem k_graph_Form (hm : Try.prog.follows .mixedOrders = true) : SpecOk Try.prog 10 c_graph_Form := specQ_ok (pol := p_graph_Form) hm (cf := cf_graph_Form) (tab_ok (specs_cons (k_graph_to hm) (specs_cons (k_graph_span_may hm) (specs_cons (k_graph_unit hm) specs_nil)))) fun a b r h => ⟨FUEL, g_graph_Form FUEL a.1 (decRes_some h)⟩
def s_graph_form_h0 : Sig := ⟨[0, 5, 6, 7], [.ty (.slice NodeT), .ty (.slice NodeT), .ty (.int .i64), .ty (.int .i64)], []⟩
def s_graph_form_r : Sig := ⟨[2], [.ty .bool], []⟩
def s_graph_form_t0 : Sig := ⟨[], [], []⟩
def p_graph_form : Pol := ⟨fun i => if i = 0 then some [(0, .keep), (5, .keep), (6, .keep), (7, .keep)] else none, fun i => if i = 0 then some [] else none, some [(2, .keep)], [.keep]⟩
def e_graph_form : List EK := [.ty (.slice NodeT)]
def h_graph_form : List HK := []
noncomputable def cf_graph_form : CallF := mkCF [(10, c_graph_Form)] [(10, [NodeT])]
noncomputable def ls_graph_form (n : Nat) : Loops := fun i => if i = 0 then some (loopT 0 (p_graph_form.head 0) s_graph_form_h0 fun K v => L_graph_form_0 n (fun z0 => K .rt (s_graph_form_r.enc ((z0, ()), ()))) (fun _ => K (.ex 0) (s_graph_form_t0.enc ((), ()))) v.1.1 v.1.2.1 v.1.2.2.1 n v.1.2.2.2.1)
  else  none
noncomputable def b_graph_form_0 : Code := partOf (bodyOf Try.f26) [1, 0, 1, 0, 0]
theorem t_graph_form_0 (n : Nat) (K : Cont) (rec : Sig.sem s_graph_form_h0 → Option Res) (v : Sig.sem s_graph_form_h0) : runT Try.prog cf_graph_form Try.f26.ntmps 0 p_graph_form (ls_graph_form n) b_graph_form_0 (s_graph_form_h0.enc v) (turnK 0 (p_graph_form.head 0) s_graph_form_h0 rec K) = F_graph_form_0 n (fun z0 => K .rt (s_graph_form_r.enc ((z0, ()), ()))) (fun _ => K (.ex 0) (s_graph_form_t0.enc ((), ()))) v.1.1 v.1.2.1 v.1.2.2.1 (fun z3 => rec ((v.1.1, (v.1.2.1, (v.1.2.2.1, (z3, ())))), ())) v.1.2.2.2.1 := by kernel_rfl
noncomputable def V_graph_form_0 (n : Nat) (K : Cont) (rec : Sig.sem s_graph_form_h0 → Option Res) (v : Sig.sem s_graph_form_h0) : Option Res := F_graph_form_0 n (fun z0 => K .rt (s_graph_form_r.enc ((z0, ()), ()))) (fun _ => K (.ex 0) (s_graph_form_t0.enc ((), ()))) v.1.1 v.1.2.1 v.1.2.2.1 (fun z3 => rec ((v.1.1, (v.1.2.1, (v.1.2.2.1, (z3, ())))), ())) v.1.2.2.2.1
noncomputable def W_graph_form_0 (n : Nat) (K : Cont) (m : Nat) (v : Sig.sem s_graph_form_h0) : Option Res := L_graph_form_0 n (fun z0 => K .rt (s_graph_form_r.enc ((z0, ()), ()))) (fun _ => K (.ex 0) (s_graph_form_t0.enc ((), ()))) v.1.1 v.1.2.1 v.1.2.2.1 m v.1.2.2.2.1
theorem i_graph_form_0 (n : Nat) (K : Cont) : ∀ m v, iter (V_graph_form_0 n K) m v = W_graph_form_0 n K m v := by
  intro m
  induction m with
  | zero => intro v; rfl
  | succ m ih =>
    intro v
    show V_graph_form_0 n K (iter (V_graph_form_0 n K) m) v = V_graph_form_0 n K (W_graph_form_0 n K m) v
    rw [show iter (V_graph_form_0 n K) m = W_graph_form_0 n K m from funext ih]
theorem o_graph_form_0 (n : Nat) : ∀ L, ls_graph_form n 0 = some L → ∀ s K r, L s K = some r → ∃ x s', loopN (run Try.prog cf_graph_form Try.f26.ntmps 0 n p_graph_form none b_graph_form_0) (gc 0 (p_graph_form.head 0)) n s = some (x, s') ∧ K x s' = some r := by
  intro L hL s K r h
  have hL : some (loopT 0 (p_graph_form.head 0) s_graph_form_h0 fun K v => W_graph_form_0 n K n v) = some L := hL
  cases hL
  have hb : LOk Try.prog cf_graph_form Try.f26.ntmps 0 n p_graph_form (ls_graph_form n) b_graph_form_0 := ⟨trivial, ⟨⟨trivial, trivial⟩, ⟨⟨trivial, ⟨trivial, ⟨⟨trivial, trivial⟩, trivial⟩⟩⟩, trivial⟩⟩⟩
  refine loopT_ok hb (V_graph_form_0 n) (t_graph_form_0 n) n s K r ?_
  rw [← h]
  unfold loopT
  simp only [i_graph_form_0]
theorem m_graph_form (n : Nat) (a0 : (List NodeS)) : runFT Try.prog cf_graph_form p_graph_form (ls_graph_form n) Try.f26 (bodyOf Try.f26) (EK.encs e_graph_form ((a0, ()), ()).1) (HK.encs h_graph_form ((a0, ()), ()).2) = M_graph_form n a0 := by kernel_rfl
theorem g_graph_form (n : Nat) (a0 : (List NodeS)) {r : Res} (h : M_graph_form n a0 = some r) : runF Try.prog cf_graph_form n p_graph_form 26 (EK.encs e_graph_form ((a0, ()), ()).1) (HK.encs h_graph_form ((a0, ()), ()).2) = some r := by
  have hb : LOk Try.prog cf_graph_form Try.f26.ntmps 0 n p_graph_form (ls_graph_form n) (bodyOf Try.f26) := ⟨trivial, ⟨⟨trivial, (o_graph_form_0 n)⟩, ⟨trivial, trivial⟩⟩⟩
  exact runFT_some Try.prog (c := bodyOf Try.f26) Try.func26 (show Try.f26.body = some (bodyOf Try.f26) from rfl) (show (1 : Nat) ≤ 31 by decide) hb ((m_graph_form n a0).trans h)
noncomputable def c_graph_form : Spec := specQ e_graph_form h_graph_form ro_graph_form rh_graph_form fun a b => Q_graph_form a.1
theorem k_graph_form (hm : Try.prog.follows .mixedOrders = true) : SpecOk Try.prog 26 c_graph_form := specQ_ok (pol := p_graph_form) hm (cf := cf_graph_form) (tab_ok (specs_cons (k_graph_Form hm) specs_nil)) fun a b r h => ⟨FUEL, g_graph_form FUEL a.1 (decRes_some h)⟩
def s_graph_goes_h0 : Sig := ⟨[3, 10, 11, 12], [.hs 0 0, .ty (.slice ArmT), .ty (.int .i64), .ty (.int .i64)], [.row (.int .i64)]⟩
def s_graph_goes_t0 : Sig := ⟨[3], [.hs 0 0], [.row (.int .i64)]⟩
def s_graph_goes_r : Sig := ⟨[2], [.hs 0 0], [.row (.int .i64)]⟩
def p_graph_goes : Pol := ⟨fun i => if i = 0 then some [(3, (.own (.int .i64))), (10, .keep), (11, .keep), (12, .keep)] else none, fun i => if i = 0 then some [(3, (.own (.int .i64)))] else none, some [(2, (.own (.int .i64)))], [(.own (.int .i64))]⟩
def e_graph_goes : List EK := [.agg NodeT]
def h_graph_goes : List HK := []
noncomputable def cf_graph_goes : CallF := mkCF [] []
noncomputable def ls_graph_goes (n : Nat) : Loops := fun i => if i = 0 then some (loopT 0 (p_graph_goes.head 0) s_graph_goes_h0 fun K v => L_graph_goes_0 n (fun z0 z1 => K (.ex 0) (s_graph_goes_t0.enc ((z0, ()), (z1, ())))) v.1.2.1 v.1.2.2.1 n v.1.1 v.1.2.2.2.1 v.2.1)
  else  none
noncomputable def b_graph_goes_0 : Code := partOf (bodyOf Try.f30) [1, 1, 0, 1, 0, 0]
theorem t_graph_goes_0 (n : Nat) (K : Cont) (rec : Sig.sem s_graph_goes_h0 → Option Res) (v : Sig.sem s_graph_goes_h0) : runT Try.prog cf_graph_goes Try.f30.ntmps 0 p_graph_goes (ls_graph_goes n) b_graph_goes_0 (s_graph_goes_h0.enc v) (turnK 0 (p_graph_goes.head 0) s_graph_goes_h0 rec K) = F_graph_goes_0 n (fun z0 z1 => K (.ex 0) (s_graph_goes_t0.enc ((z0, ()), (z1, ())))) v.1.2.1 v.1.2.2.1 (fun z0 z3 z4 => rec ((z0, (v.1.2.1, (v.1.2.2.1, (z3, ())))), (z4, ()))) v.1.1 v.1.2.2.2.1 v.2.1 := by kernel_rfl
noncomputable def V_graph_goes_0 (n : Nat) (K : Cont) (rec : Sig.sem s_graph_goes_h0 → Option Res) (v : Sig.sem s_graph_goes_h0) : Option Res := F_graph_goes_0 n (fun z0 z1 => K (.ex 0) (s_graph_goes_t0.enc ((z0, ()), (z1, ())))) v.1.2.1 v.1.2.2.1 (fun z0 z3 z4 => rec ((z0, (v.1.2.1, (v.1.2.2.1, (z3, ())))), (z4, ()))) v.1.1 v.1.2.2.2.1 v.2.1
noncomputable def W_graph_goes_0 (n : Nat) (K : Cont) (m : Nat) (v : Sig.sem s_graph_goes_h0) : Option Res := L_graph_goes_0 n (fun z0 z1 => K (.ex 0) (s_graph_goes_t0.enc ((z0, ()), (z1, ())))) v.1.2.1 v.1.2.2.1 m v.1.1 v.1.2.2.2.1 v.2.1
theorem i_graph_goes_0 (n : Nat) (K : Cont) : ∀ m v, iter (V_graph_goes_0 n K) m v = W_graph_goes_0 n K m v := by
  intro m
  induction m with
  | zero => intro v; rfl
  | succ m ih =>
    intro v
    show V_graph_goes_0 n K (iter (V_graph_goes_0 n K) m) v = V_graph_goes_0 n K (W_graph_goes_0 n K m) v
    rw [show iter (V_graph_goes_0 n K) m = W_graph_goes_0 n K m from funext ih]
theorem o_graph_goes_0 (n : Nat) : ∀ L, ls_graph_goes n 0 = some L → ∀ s K r, L s K = some r → ∃ x s', loopN (run Try.prog cf_graph_goes Try.f30.ntmps 0 n p_graph_goes none b_graph_goes_0) (gc 0 (p_graph_goes.head 0)) n s = some (x, s') ∧ K x s' = some r := by
  intro L hL s K r h
  have hL : some (loopT 0 (p_graph_goes.head 0) s_graph_goes_h0 fun K v => W_graph_goes_0 n K n v) = some L := hL
  cases hL
  have hb : LOk Try.prog cf_graph_goes Try.f30.ntmps 0 n p_graph_goes (ls_graph_goes n) b_graph_goes_0 := ⟨trivial, ⟨⟨trivial, trivial⟩, ⟨⟨trivial, trivial⟩, trivial⟩⟩⟩
  refine loopT_ok hb (V_graph_goes_0 n) (t_graph_goes_0 n) n s K r ?_
  rw [← h]
  unfold loopT
  simp only [i_graph_goes_0]
theorem m_graph_goes (n : Nat) (a0 : NodeS) : runFT Try.prog cf_graph_goes p_graph_goes (ls_graph_goes n) Try.f30 (bodyOf Try.f30) (EK.encs e_graph_goes ((a0, ()), ()).1) (HK.encs h_graph_goes ((a0, ()), ()).2) = M_graph_goes n a0 := by kernel_rfl
theorem g_graph_goes (n : Nat) (a0 : NodeS) {r : Res} (h : M_graph_goes n a0 = some r) : runF Try.prog cf_graph_goes n p_graph_goes 30 (EK.encs e_graph_goes ((a0, ()), ()).1) (HK.encs h_graph_goes ((a0, ()), ()).2) = some r := by
  have hb : LOk Try.prog cf_graph_goes Try.f30.ntmps 0 n p_graph_goes (ls_graph_goes n) (bodyOf Try.f30) := ⟨trivial, ⟨trivial, ⟨⟨trivial, (o_graph_goes_0 n)⟩, ⟨trivial, trivial⟩⟩⟩⟩
  exact runFT_some Try.prog (c := bodyOf Try.f30) Try.func30 (show Try.f30.body = some (bodyOf Try.f30) from rfl) (show (1 : Nat) ≤ 23 by decide) hb ((m_graph_goes n a0).trans h)
noncomputable def c_graph_goes : Spec := specQ e_graph_goes h_graph_goes ro_graph_goes rh_graph_goes fun a b => Q_graph_goes a.1
theorem k_graph_goes (hm : Try.prog.follows .mixedOrders = true) : SpecOk Try.prog 30 c_graph_goes := specQ_ok (pol := p_graph_goes) hm (cf := cf_graph_goes) (tab_ok specs_nil) fun a b r h => ⟨FUEL, g_graph_goes FUEL a.1 (decRes_some h)⟩
def s_graph_Find_h0 : Sig := ⟨[1, 4, 8, 9, 10], [.ty (.int .i64), .ptr 0 0 0, .ty (.slice NodeT), .ty (.int .i64), .ty (.int .i64)], [.cell NodeT]⟩
def s_graph_Find_r : Sig := ⟨[4, 5], [.ptr 0 0 0, .ty .bool], [.cell NodeT]⟩
def s_graph_Find_t0 : Sig := ⟨[4], [.ptr 0 0 0], [.cell NodeT]⟩
def p_graph_Find : Pol := ⟨fun i => if i = 0 then some [(1, .keep), (4, (.own NodeT)), (8, .keep), (9, .keep), (10, .keep)] else none, fun i => if i = 0 then some [(4, (.own NodeT))] else none, some [(4, (.own NodeT)), (5, .keep)], [.keep, .keep]⟩
def e_graph_Find : List EK := [.ty (.slice NodeT), .ty (.int .i64)]
def h_graph_Find : List HK := []
noncomputable def cf_graph_Find : CallF := mkCF [] []
noncomputable def ls_graph_Find (n : Nat) : Loops := fun i => if i = 0 then some (loopT 0 (p_graph_Find.head 0) s_graph_Find_h0 fun K v => L_graph_Find_0 n (fun z0 z1 => K .rt (s_graph_Find_r.enc (((), (z0, ())), (z1, ())))) (fun _ => K (.ex 0) (s_graph_Find_t0.enc (((), ()), (v.2.1, ())))) v.1.1 v.1.2.2.1 v.1.2.2.2.1 v.2.1 n v.1.2.2.2.2.1)
  else  none
noncomputable def b_graph_Find_0 : Code := partOf (bodyOf Try.f17) [1, 0, 1, 0, 0]
theorem t_graph_Find_0 (n : Nat) (K : Cont) (rec : Sig.sem s_graph_Find_h0 → Option Res) (v : Sig.sem s_graph_Find_h0) : runT Try.prog cf_graph_Find Try.f17.ntmps 0 p_graph_Find (ls_graph_Find n) b_graph_Find_0 (s_graph_Find_h0.enc v) (turnK 0 (p_graph_Find.head 0) s_graph_Find_h0 rec K) = F_graph_Find_0 n (fun z0 z1 => K .rt (s_graph_Find_r.enc (((), (z0, ())), (z1, ())))) (fun _ => K (.ex 0) (s_graph_Find_t0.enc (((), ()), (v.2.1, ())))) v.1.1 v.1.2.2.1 v.1.2.2.2.1 v.2.1 (fun z3 => rec ((v.1.1, ((), (v.1.2.2.1, (v.1.2.2.2.1, (z3, ()))))), (v.2.1, ()))) v.1.2.2.2.2.1 := by kernel_rfl
noncomputable def V_graph_Find_0 (n : Nat) (K : Cont) (rec : Sig.sem s_graph_Find_h0 → Option Res) (v : Sig.sem s_graph_Find_h0) : Option Res := F_graph_Find_0 n (fun z0 z1 => K .rt (s_graph_Find_r.enc (((), (z0, ())), (z1, ())))) (fun _ => K (.ex 0) (s_graph_Find_t0.enc (((), ()), (v.2.1, ())))) v.1.1 v.1.2.2.1 v.1.2.2.2.1 v.2.1 (fun z3 => rec ((v.1.1, ((), (v.1.2.2.1, (v.1.2.2.2.1, (z3, ()))))), (v.2.1, ()))) v.1.2.2.2.2.1
noncomputable def W_graph_Find_0 (n : Nat) (K : Cont) (m : Nat) (v : Sig.sem s_graph_Find_h0) : Option Res := L_graph_Find_0 n (fun z0 z1 => K .rt (s_graph_Find_r.enc (((), (z0, ())), (z1, ())))) (fun _ => K (.ex 0) (s_graph_Find_t0.enc (((), ()), (v.2.1, ())))) v.1.1 v.1.2.2.1 v.1.2.2.2.1 v.2.1 m v.1.2.2.2.2.1
theorem i_graph_Find_0 (n : Nat) (K : Cont) : ∀ m v, iter (V_graph_Find_0 n K) m v = W_graph_Find_0 n K m v := by
  intro m
  induction m with
  | zero => intro v; rfl
  | succ m ih =>
    intro v
    show V_graph_Find_0 n K (iter (V_graph_Find_0 n K) m) v = V_graph_Find_0 n K (W_graph_Find_0 n K m) v
    rw [show iter (V_graph_Find_0 n K) m = W_graph_Find_0 n K m from funext ih]
theorem o_graph_Find_0 (n : Nat) : ∀ L, ls_graph_Find n 0 = some L → ∀ s K r, L s K = some r → ∃ x s', loopN (run Try.prog cf_graph_Find Try.f17.ntmps 0 n p_graph_Find none b_graph_Find_0) (gc 0 (p_graph_Find.head 0)) n s = some (x, s') ∧ K x s' = some r := by
  intro L hL s K r h
  have hL : some (loopT 0 (p_graph_Find.head 0) s_graph_Find_h0 fun K v => W_graph_Find_0 n K n v) = some L := hL
  cases hL
  have hb : LOk Try.prog cf_graph_Find Try.f17.ntmps 0 n p_graph_Find (ls_graph_Find n) b_graph_Find_0 := ⟨trivial, ⟨⟨trivial, trivial⟩, ⟨⟨trivial, ⟨trivial, ⟨⟨trivial, trivial⟩, trivial⟩⟩⟩, trivial⟩⟩⟩
  refine loopT_ok hb (V_graph_Find_0 n) (t_graph_Find_0 n) n s K r ?_
  rw [← h]
  unfold loopT
  simp only [i_graph_Find_0]
theorem m_graph_Find (n : Nat) (a0 : (List NodeS)) (a1 : Int) : runFT Try.prog cf_graph_Find p_graph_Find (ls_graph_Find n) Try.f17 (bodyOf Try.f17) (EK.encs e_graph_Find ((a0, (a1, ())), ()).1) (HK.encs h_graph_Find ((a0, (a1, ())), ()).2) = M_graph_Find n a0 a1 := by kernel_rfl
theorem g_graph_Find (n : Nat) (a0 : (List NodeS)) (a1 : Int) {r : Res} (h : M_graph_Find n a0 a1 = some r) : runF Try.prog cf_graph_Find n p_graph_Find 17 (EK.encs e_graph_Find ((a0, (a1, ())), ()).1) (HK.encs h_graph_Find ((a0, (a1, ())), ()).2) = some r := by
  have hb : LOk Try.prog cf_graph_Find Try.f17.ntmps 0 n p_graph_Find (ls_graph_Find n) (bodyOf Try.f17) := ⟨trivial, ⟨⟨trivial, (o_graph_Find_0 n)⟩, ⟨trivial, trivial⟩⟩⟩
  exact runFT_some Try.prog (c := bodyOf Try.f17) Try.func17 (show Try.f17.body = some (bodyOf Try.f17) from rfl) (show (2 : Nat) ≤ 21 by decide) hb ((m_graph_Find n a0 a1).trans h)
noncomputable def c_graph_Find : Spec := specQ e_graph_Find h_graph_Find ro_graph_Find rh_graph_Find fun a b => Q_graph_Find a.1 a.2.1
theorem k_graph_Find (hm : Try.prog.follows .mixedOrders = true) : SpecOk Try.prog 17 c_graph_Find := specQ_ok (pol := p_graph_Find) hm (cf := cf_graph_Find) (tab_ok specs_nil) fun a b r h => ⟨FUEL, g_graph_Find FUEL a.1 a.2.1 (decRes_some h)⟩
def s_graph_refs_h0 : Sig := ⟨[0, 9, 10, 11], [.ty (.slice NodeT), .ty (.slice NodeT), .ty (.int .i64), .ty (.int .i64)], []⟩
def s_graph_refs_h2 : Sig := ⟨[0, 9, 10, 11, 16, 17, 18], [.ty (.slice NodeT), .ty (.slice NodeT), .ty (.int .i64), .ty (.int .i64), .hs 0 0, .ty (.int .i64), .ty (.int .i64)], [.row (.int .i64)]⟩
def s_graph_refs_r : Sig := ⟨[2], [.ty .bool], []⟩
def s_graph_refs_t2 : Sig := ⟨[0, 9, 10, 11], [.ty (.slice NodeT), .ty (.slice NodeT), .ty (.int .i64), .ty (.int .i64)], []⟩
def s_graph_refs_t0 : Sig := ⟨[], [], []⟩
def p_graph_refs : Pol := ⟨fun i => if i = 0 then some [(0, .keep), (9, .keep), (10, .keep), (11, .keep)] else if i = 2 then some [(0, .keep), (9, .keep), (10, .keep), (11, .keep), (16, (.own (.int .i64))), (17, .keep), (18, .keep)] else none, fun i => if i = 2 then some [(0, .keep), (9, .keep), (10, .keep), (11, .keep)] else if i = 0 then some [] else none, some [(2, .keep)], [.keep]⟩
def e_graph_refs : List EK := [.ty (.slice NodeT)]
def h_graph_refs : List HK := []
noncomputable def cf_graph_refs : CallF := mkCF [(30, c_graph_goes), (17, c_graph_Find)] [(30, [NodeT]), (17, [(.slice NodeT), (.int .i64)])]
noncomputable def ls_graph_refs (n : Nat) : Loops := fun i => if i = 2 then some (loopT 0 (p_graph_refs.head 2) s_graph_refs_h2 fun K v => L_graph_refs_2 n (fun z0 => K .rt (s_graph_refs_r.enc ((z0, ()), ()))) (fun _ => K (.ex 2) (s_graph_refs_t2.enc ((v.1.1, (v.1.2.1, (v.1.2.2.1, (v.1.2.2.2.1, ())))), ()))) v.1.1 v.1.2.1 v.1.2.2.1 v.1.2.2.2.1 v.1.2.2.2.2.1 v.1.2.2.2.2.2.1 v.2.1 n v.1.2.2.2.2.2.2.1)
  else if i = 0 then some (loopT 0 (p_graph_refs.head 0) s_graph_refs_h0 fun K v => L_graph_refs_0 n (fun z0 => K .rt (s_graph_refs_r.enc ((z0, ()), ()))) (fun _ => K (.ex 0) (s_graph_refs_t0.enc ((), ()))) v.1.1 v.1.2.1 v.1.2.2.1 n v.1.2.2.2.1)
  else  none
noncomputable def b_graph_refs_2 : Code := partOf (bodyOf Try.f27) [1, 0, 1, 0, 0, 1, 1, 0, 0, 1, 1, 0, 0]
theorem t_graph_refs_2 (n : Nat) (K : Cont) (rec : Sig.sem s_graph_refs_h2 → Option Res) (v : Sig.sem s_graph_refs_h2) : runT Try.prog cf_graph_refs Try.f27.ntmps 0 p_graph_refs (ls_graph_refs n) b_graph_refs_2 (s_graph_refs_h2.enc v) (turnK 0 (p_graph_refs.head 2) s_graph_refs_h2 rec K) = F_graph_refs_2 n (fun z0 => K .rt (s_graph_refs_r.enc ((z0, ()), ()))) (fun _ => K (.ex 2) (s_graph_refs_t2.enc ((v.1.1, (v.1.2.1, (v.1.2.2.1, (v.1.2.2.2.1, ())))), ()))) v.1.1 v.1.2.1 v.1.2.2.1 v.1.2.2.2.1 v.1.2.2.2.2.1 v.1.2.2.2.2.2.1 v.2.1 (fun z6 => rec ((v.1.1, (v.1.2.1, (v.1.2.2.1, (v.1.2.2.2.1, (v.1.2.2.2.2.1, (v.1.2.2.2.2.2.1, (z6, ()))))))), (v.2.1, ()))) v.1.2.2.2.2.2.2.1 := by kernel_rfl
noncomputable def V_graph_refs_2 (n : Nat) (K : Cont) (rec : Sig.sem s_graph_refs_h2 → Option Res) (v : Sig.sem s_graph_refs_h2) : Option Res := F_graph_refs_2 n (fun z0 => K .rt (s_graph_refs_r.enc ((z0, ()), ()))) (fun _ => K (.ex 2) (s_graph_refs_t2.enc ((v.1.1, (v.1.2.1, (v.1.2.2.1, (v.1.2.2.2.1, ())))), ()))) v.1.1 v.1.2.1 v.1.2.2.1 v.1.2.2.2.1 v.1.2.2.2.2.1 v.1.2.2.2.2.2.1 v.2.1 (fun z6 => rec ((v.1.1, (v.1.2.1, (v.1.2.2.1, (v.1.2.2.2.1, (v.1.2.2.2.2.1, (v.1.2.2.2.2.2.1, (z6, ()))))))), (v.2.1, ()))) v.1.2.2.2.2.2.2.1
noncomputable def W_graph_refs_2 (n : Nat) (K : Cont) (m : Nat) (v : Sig.sem s_graph_refs_h2) : Option Res := L_graph_refs_2 n (fun z0 => K .rt (s_graph_refs_r.enc ((z0, ()), ()))) (fun _ => K (.ex 2) (s_graph_refs_t2.enc ((v.1.1, (v.1.2.1, (v.1.2.2.1, (v.1.2.2.2.1, ())))), ()))) v.1.1 v.1.2.1 v.1.2.2.1 v.1.2.2.2.1 v.1.2.2.2.2.1 v.1.2.2.2.2.2.1 v.2.1 m v.1.2.2.2.2.2.2.1
theorem i_graph_refs_2 (n : Nat) (K : Cont) : ∀ m v, iter (V_graph_refs_2 n K) m v = W_graph_refs_2 n K m v := by
  intro m
  induction m with
  | zero => intro v; rfl
  | succ m ih =>
    intro v
    show V_graph_refs_2 n K (iter (V_graph_refs_2 n K) m) v = V_graph_refs_2 n K (W_graph_refs_2 n K m) v
    rw [show iter (V_graph_refs_2 n K) m = W_graph_refs_2 n K m from funext ih]
theorem o_graph_refs_2 (n : Nat) : ∀ L, ls_graph_refs n 2 = some L → ∀ s K r, L s K = some r → ∃ x s', loopN (run Try.prog cf_graph_refs Try.f27.ntmps 0 n p_graph_refs none b_graph_refs_2) (gc 0 (p_graph_refs.head 2)) n s = some (x, s') ∧ K x s' = some r := by
  intro L hL s K r h
  have hL : some (loopT 0 (p_graph_refs.head 2) s_graph_refs_h2 fun K v => W_graph_refs_2 n K n v) = some L := hL
  cases hL
  have hb : LOk Try.prog cf_graph_refs Try.f27.ntmps 0 n p_graph_refs (ls_graph_refs n) b_graph_refs_2 := ⟨trivial, ⟨⟨trivial, trivial⟩, ⟨⟨trivial, ⟨trivial, ⟨trivial, ⟨⟨trivial, trivial⟩, trivial⟩⟩⟩⟩, trivial⟩⟩⟩
  refine loopT_ok hb (V_graph_refs_2 n) (t_graph_refs_2 n) n s K r ?_
  rw [← h]
  unfold loopT
  simp only [i_graph_refs_2]
noncomputable def b_graph_refs_0 : Code := partOf (bodyOf Try.f27) [1, 0, 1, 0, 0]
theorem t_graph_refs_0 (n : Nat) (K : Cont) (rec : Sig.sem s_graph_refs_h0 → Option Res) (v : Sig.sem s_graph_refs_h0) : runT Try.prog cf_graph_refs Try.f27.ntmps 0 p_graph_refs (ls_graph_refs n) b_graph_refs_0 (s_graph_refs_h0.enc v) (turnK 0 (p_graph_refs.head 0) s_graph_refs_h0 rec K) = F_graph_refs_0 n (fun z0 => K .rt (s_graph_refs_r.enc ((z0, ()), ()))) (fun _ => K (.ex 0) (s_graph_refs_t0.enc ((), ()))) v.1.1 v.1.2.1 v.1.2.2.1 (fun z3 => rec ((v.1.1, (v.1.2.1, (v.1.2.2.1, (z3, ())))), ())) v.1.2.2.2.1 := by kernel_rfl
noncomputable def V_graph_refs_0 (n : Nat) (K : Cont) (rec : Sig.sem s_graph_refs_h0 → Option Res) (v : Sig.sem s_graph_refs_h0) : Option Res := F_graph_refs_0 n (fun z0 => K .rt (s_graph_refs_r.enc ((z0, ()), ()))) (fun _ => K (.ex 0) (s_graph_refs_t0.enc ((), ()))) v.1.1 v.1.2.1 v.1.2.2.1 (fun z3 => rec ((v.1.1, (v.1.2.1, (v.1.2.2.1, (z3, ())))), ())) v.1.2.2.2.1
noncomputable def W_graph_refs_0 (n : Nat) (K : Cont) (m : Nat) (v : Sig.sem s_graph_refs_h0) : Option Res := L_graph_refs_0 n (fun z0 => K .rt (s_graph_refs_r.enc ((z0, ()), ()))) (fun _ => K (.ex 0) (s_graph_refs_t0.enc ((), ()))) v.1.1 v.1.2.1 v.1.2.2.1 m v.1.2.2.2.1
theorem i_graph_refs_0 (n : Nat) (K : Cont) : ∀ m v, iter (V_graph_refs_0 n K) m v = W_graph_refs_0 n K m v := by
  intro m
  induction m with
  | zero => intro v; rfl
  | succ m ih =>
    intro v
    show V_graph_refs_0 n K (iter (V_graph_refs_0 n K) m) v = V_graph_refs_0 n K (W_graph_refs_0 n K m) v
    rw [show iter (V_graph_refs_0 n K) m = W_graph_refs_0 n K m from funext ih]
theorem o_graph_refs_0 (n : Nat) : ∀ L, ls_graph_refs n 0 = some L → ∀ s K r, L s K = some r → ∃ x s', loopN (run Try.prog cf_graph_refs Try.f27.ntmps 0 n p_graph_refs none b_graph_refs_0) (gc 0 (p_graph_refs.head 0)) n s = some (x, s') ∧ K x s' = some r := by
  intro L hL s K r h
  have hL : some (loopT 0 (p_graph_refs.head 0) s_graph_refs_h0 fun K v => W_graph_refs_0 n K n v) = some L := hL
  cases hL
  have hb : LOk Try.prog cf_graph_refs Try.f27.ntmps 0 n p_graph_refs (ls_graph_refs n) b_graph_refs_0 := ⟨trivial, ⟨⟨trivial, trivial⟩, ⟨⟨trivial, ⟨trivial, (o_graph_refs_2 n)⟩⟩, trivial⟩⟩⟩
  refine loopT_ok hb (V_graph_refs_0 n) (t_graph_refs_0 n) n s K r ?_
  rw [← h]
  unfold loopT
  simp only [i_graph_refs_0]
theorem m_graph_refs (n : Nat) (a0 : (List NodeS)) : runFT Try.prog cf_graph_refs p_graph_refs (ls_graph_refs n) Try.f27 (bodyOf Try.f27) (EK.encs e_graph_refs ((a0, ()), ()).1) (HK.encs h_graph_refs ((a0, ()), ()).2) = M_graph_refs n a0 := by kernel_rfl
theorem g_graph_refs (n : Nat) (a0 : (List NodeS)) {r : Res} (h : M_graph_refs n a0 = some r) : runF Try.prog cf_graph_refs n p_graph_refs 27 (EK.encs e_graph_refs ((a0, ()), ()).1) (HK.encs h_graph_refs ((a0, ()), ()).2) = some r := by
  have hb : LOk Try.prog cf_graph_refs Try.f27.ntmps 0 n p_graph_refs (ls_graph_refs n) (bodyOf Try.f27) := ⟨trivial, ⟨⟨trivial, (o_graph_refs_0 n)⟩, ⟨trivial, trivial⟩⟩⟩
  exact runFT_some Try.prog (c := bodyOf Try.f27) Try.func27 (show Try.f27.body = some (bodyOf Try.f27) from rfl) (show (1 : Nat) ≤ 40 by decide) hb ((m_graph_refs n a0).trans h)
noncomputable def c_graph_refs : Spec := specQ e_graph_refs h_graph_refs ro_graph_refs rh_graph_refs fun a b => Q_graph_refs a.1
theorem k_graph_refs (hm : Try.prog.follows .mixedOrders = true) : SpecOk Try.prog 27 c_graph_refs := specQ_ok (pol := p_graph_refs) hm (cf := cf_graph_refs) (tab_ok (specs_cons (k_graph_goes hm) (specs_cons (k_graph_Find hm) specs_nil))) fun a b r h => ⟨FUEL, g_graph_refs FUEL a.1 (decRes_some h)⟩
def s_graph_longest_walk_r : Sig := ⟨[7], [.ty (.int .i64)], [.one true [.ty (.slice NodeT)], .one false [.mp 2], .mf (.int .i64) (.int .i64), .one true [.ty .bool], .one false [.mp 5], .mf (.int .i64) (.int .i64), .one false [.fn 31 [(0, 0, 0), (1, 0, 0), (3, 0, 0), (4, 0, 0), (6, 0, 0)]]]⟩
def s_graph_longest_walk_h1 : Sig := ⟨[0, 2, 4, 5, 10, 40, 41, 42], [.ty (.int .i64), .ptr 1 0 0, .ptr 4 0 0, .ptr 6 0 0, .ty (.int .i64), .hs 7 0, .ty (.int .i64), .ty (.int .i64)], [.one true [.ty (.slice NodeT)], .one false [.mp 2], .mf (.int .i64) (.int .i64), .one true [.ty .bool], .one false [.mp 5], .mf (.int .i64) (.int .i64), .one false [.fn 31 [(0, 0, 0), (1, 0, 0), (3, 0, 0), (4, 0, 0), (6, 0, 0)]], .row (.int .i64)]⟩
def s_graph_longest_walk_t1 : Sig := ⟨[0, 2, 4, 10], [.ty (.int .i64), .ptr 1 0 0, .ptr 4 0 0, .ty (.int .i64)], [.one true [.ty (.slice NodeT)], .one false [.mp 2], .mf (.int .i64) (.int .i64), .one true [.ty .bool], .one false [.mp 5], .mf (.int .i64) (.int .i64), .one false [.fn 31 [(0, 0, 0), (1, 0, 0), (3, 0, 0), (4, 0, 0), (6, 0, 0)]]]⟩
def p_graph_longest_walk : Pol := ⟨fun i => if i = 1 then some [(0, .keep), (2, .keep), (4, .keep), (5, .keep), (10, .keep), (40, (.own (.int .i64))), (41, .keep), (42, .keep)] else none, fun i => if i = 1 then some [(0, .keep), (2, .keep), (4, .keep), (10, .keep)] else none, some [(7, .keep)], [.keep]⟩
def e_graph_longest_walk : List EK := [.ty (.int .i64), .ptr 0 0 0, .ptr 1 0 0, .ptr 3 0 0, .ptr 4 0 0, .ptr 6 0 0]
def h_graph_longest_walk : List HK := [.one true [.ty (.slice NodeT)], .one false [.mp 2], .mf (.int .i64) (.int .i64), .one true [.ty .bool], .one false [.mp 5], .mf (.int .i64) (.int .i64), .one false [.fn 31 [(0, 0, 0), (1, 0, 0), (3, 0, 0), (4, 0, 0), (6, 0, 0)]]]
noncomputable def cf_graph_longest_walk (qr_graph_longest_walk : Int → (List NodeS) → (Int → Option (Int)) → Bool → (Int → Option (Int)) → Option (RS ro_graph_longest_walk rh_graph_longest_walk)) : CallF := mkCF [(17, c_graph_Find), (30, c_graph_goes), (31, (specQ e_graph_longest_walk h_graph_longest_walk ro_graph_longest_walk rh_graph_longest_walk fun a b => qr_graph_longest_walk a.1 b.1.1 b.2.2.1 b.2.2.2.1.1 b.2.2.2.2.2.1))] [(17, [(.slice NodeT), (.int .i64)]), (30, [NodeT])]
noncomputable def ls_graph_longest_walk (n : Nat) (qr_graph_longest_walk : Int → (List NodeS) → (Int → Option (Int)) → Bool → (Int → Option (Int)) → Option (RS ro_graph_longest_walk rh_graph_longest_walk)) : Loops := fun i => if i = 1 then some (loopT 7 (p_graph_longest_walk.head 1) s_graph_longest_walk_h1 fun K v => L_graph_longest_walk_1 n qr_graph_longest_walk (fun z1 z2 z3 z4 z5 => K (.ex 1) (s_graph_longest_walk_t1.enc ((v.1.1, ((), ((), (z1, ())))), ((z2, ()), (((), ()), (z3, ((z4, ()), (((), ()), (z5, (((), ()), ())))))))))) v.1.1 v.1.2.2.2.2.2.1 v.1.2.2.2.2.2.2.1 v.2.2.2.2.2.2.2.2.1 n v.1.2.2.2.2.1 v.1.2.2.2.2.2.2.2.1 v.2.1.1 v.2.2.2.1 v.2.2.2.2.1.1 v.2.2.2.2.2.2.1)
  else  none
noncomputable def b_graph_longest_walk_1 : Code := partOf (bodyOf Try.f31) [1, 1, 1, 1, 1, 0, 1, 0, 0]
theorem t_graph_longest_walk_1 (qr_graph_longest_walk : Int → (List NodeS) → (Int → Option (Int)) → Bool → (Int → Option (Int)) → Option (RS ro_graph_longest_walk rh_graph_longest_walk)) (n : Nat) (K : Cont) (rec : Sig.sem s_graph_longest_walk_h1 → Option Res) (v : Sig.sem s_graph_longest_walk_h1) : runT Try.prog (cf_graph_longest_walk qr_graph_longest_walk) Try.f31.ntmps 7 p_graph_longest_walk (ls_graph_longest_walk n qr_graph_longest_walk) b_graph_longest_walk_1 (s_graph_longest_walk_h1.enc v) (turnK 7 (p_graph_longest_walk.head 1) s_graph_longest_walk_h1 rec K) = F_graph_longest_walk_1 n qr_graph_longest_walk (fun z1 z2 z3 z4 z5 => K (.ex 1) (s_graph_longest_walk_t1.enc ((v.1.1, ((), ((), (z1, ())))), ((z2, ()), (((), ()), (z3, ((z4, ()), (((), ()), (z5, (((), ()), ())))))))))) v.1.1 v.1.2.2.2.2.2.1 v.1.2.2.2.2.2.2.1 v.2.2.2.2.2.2.2.2.1 (fun z1 z4 z5 z6 z7 z8 => rec ((v.1.1, ((), ((), ((), (z1, (v.1.2.2.2.2.2.1, (v.1.2.2.2.2.2.2.1, (z4, ())))))))), ((z5, ()), (((), ()), (z6, ((z7, ()), (((), ()), (z8, (((), ()), (v.2.2.2.2.2.2.2.2.1, ())))))))))) v.1.2.2.2.2.1 v.1.2.2.2.2.2.2.2.1 v.2.1.1 v.2.2.2.1 v.2.2.2.2.1.1 v.2.2.2.2.2.2.1 := by kernel_rfl
noncomputable def V_graph_longest_walk_1 (qr_graph_longest_walk : Int → (List NodeS) → (Int → Option (Int)) → Bool → (Int → Option (Int)) → Option (RS ro_graph_longest_walk rh_graph_longest_walk)) (n : Nat) (K : Cont) (rec : Sig.sem s_graph_longest_walk_h1 → Option Res) (v : Sig.sem s_graph_longest_walk_h1) : Option Res := F_graph_longest_walk_1 n qr_graph_longest_walk (fun z1 z2 z3 z4 z5 => K (.ex 1) (s_graph_longest_walk_t1.enc ((v.1.1, ((), ((), (z1, ())))), ((z2, ()), (((), ()), (z3, ((z4, ()), (((), ()), (z5, (((), ()), ())))))))))) v.1.1 v.1.2.2.2.2.2.1 v.1.2.2.2.2.2.2.1 v.2.2.2.2.2.2.2.2.1 (fun z1 z4 z5 z6 z7 z8 => rec ((v.1.1, ((), ((), ((), (z1, (v.1.2.2.2.2.2.1, (v.1.2.2.2.2.2.2.1, (z4, ())))))))), ((z5, ()), (((), ()), (z6, ((z7, ()), (((), ()), (z8, (((), ()), (v.2.2.2.2.2.2.2.2.1, ())))))))))) v.1.2.2.2.2.1 v.1.2.2.2.2.2.2.2.1 v.2.1.1 v.2.2.2.1 v.2.2.2.2.1.1 v.2.2.2.2.2.2.1
noncomputable def W_graph_longest_walk_1 (qr_graph_longest_walk : Int → (List NodeS) → (Int → Option (Int)) → Bool → (Int → Option (Int)) → Option (RS ro_graph_longest_walk rh_graph_longest_walk)) (n : Nat) (K : Cont) (m : Nat) (v : Sig.sem s_graph_longest_walk_h1) : Option Res := L_graph_longest_walk_1 n qr_graph_longest_walk (fun z1 z2 z3 z4 z5 => K (.ex 1) (s_graph_longest_walk_t1.enc ((v.1.1, ((), ((), (z1, ())))), ((z2, ()), (((), ()), (z3, ((z4, ()), (((), ()), (z5, (((), ()), ())))))))))) v.1.1 v.1.2.2.2.2.2.1 v.1.2.2.2.2.2.2.1 v.2.2.2.2.2.2.2.2.1 m v.1.2.2.2.2.1 v.1.2.2.2.2.2.2.2.1 v.2.1.1 v.2.2.2.1 v.2.2.2.2.1.1 v.2.2.2.2.2.2.1
theorem i_graph_longest_walk_1 (qr_graph_longest_walk : Int → (List NodeS) → (Int → Option (Int)) → Bool → (Int → Option (Int)) → Option (RS ro_graph_longest_walk rh_graph_longest_walk)) (n : Nat) (K : Cont) : ∀ m v, iter (V_graph_longest_walk_1 qr_graph_longest_walk n K) m v = W_graph_longest_walk_1 qr_graph_longest_walk n K m v := by
  intro m
  induction m with
  | zero => intro v; rfl
  | succ m ih =>
    intro v
    show V_graph_longest_walk_1 qr_graph_longest_walk n K (iter (V_graph_longest_walk_1 qr_graph_longest_walk n K) m) v = V_graph_longest_walk_1 qr_graph_longest_walk n K (W_graph_longest_walk_1 qr_graph_longest_walk n K m) v
    rw [show iter (V_graph_longest_walk_1 qr_graph_longest_walk n K) m = W_graph_longest_walk_1 qr_graph_longest_walk n K m from funext ih]
theorem o_graph_longest_walk_1 (qr_graph_longest_walk : Int → (List NodeS) → (Int → Option (Int)) → Bool → (Int → Option (Int)) → Option (RS ro_graph_longest_walk rh_graph_longest_walk)) (n : Nat) : ∀ L, ls_graph_longest_walk n qr_graph_longest_walk 1 = some L → ∀ s K r, L s K = some r → ∃ x s', loopN (run Try.prog (cf_graph_longest_walk qr_graph_longest_walk) Try.f31.ntmps 7 n p_graph_longest_walk none b_graph_longest_walk_1) (gc 7 (p_graph_longest_walk.head 1)) n s = some (x, s') ∧ K x s' = some r := by
  intro L hL s K r h
  have hL : some (loopT 7 (p_graph_longest_walk.head 1) s_graph_longest_walk_h1 fun K v => W_graph_longest_walk_1 qr_graph_longest_walk n K n v) = some L := hL
  cases hL
  have hb : LOk Try.prog (cf_graph_longest_walk qr_graph_longest_walk) Try.f31.ntmps 7 n p_graph_longest_walk (ls_graph_longest_walk n qr_graph_longest_walk) b_graph_longest_walk_1 := ⟨trivial, ⟨⟨trivial, trivial⟩, ⟨⟨trivial, trivial⟩, trivial⟩⟩⟩
  refine loopT_ok hb (V_graph_longest_walk_1 qr_graph_longest_walk n) (t_graph_longest_walk_1 qr_graph_longest_walk n) n s K r ?_
  rw [← h]
  unfold loopT
  simp only [i_graph_longest_walk_1]
theorem m_graph_longest_walk (n : Nat) (qr_graph_longest_walk : Int → (List NodeS) → (Int → Option (Int)) → Bool → (Int → Option (Int)) → Option (RS ro_graph_longest_walk rh_graph_longest_walk)) (a0 : Int) (a1 : (List NodeS)) (a2 : (Int → Option (Int))) (a3 : Bool) (a4 : (Int → Option (Int))) : runFT Try.prog (cf_graph_longest_walk qr_graph_longest_walk) p_graph_longest_walk (ls_graph_longest_walk n qr_graph_longest_walk) Try.f31 (bodyOf Try.f31) (EK.encs e_graph_longest_walk ((a0, ((), ((), ((), ((), ((), ())))))), ((a1, ()), (((), ()), (a2, ((a3, ()), (((), ()), (a4, (((), ()), ())))))))).1) (HK.encs h_graph_longest_walk ((a0, ((), ((), ((), ((), ((), ())))))), ((a1, ()), (((), ()), (a2, ((a3, ()), (((), ()), (a4, (((), ()), ())))))))).2) = M_graph_longest_walk n qr_graph_longest_walk a0 a1 a2 a3 a4 := by kernel_rfl
theorem g_graph_longest_walk (n : Nat) (qr_graph_longest_walk : Int → (List NodeS) → (Int → Option (Int)) → Bool → (Int → Option (Int)) → Option (RS ro_graph_longest_walk rh_graph_longest_walk)) (a0 : Int) (a1 : (List NodeS)) (a2 : (Int → Option (Int))) (a3 : Bool) (a4 : (Int → Option (Int))) {r : Res} (h : M_graph_longest_walk n qr_graph_longest_walk a0 a1 a2 a3 a4 = some r) : runF Try.prog (cf_graph_longest_walk qr_graph_longest_walk) n p_graph_longest_walk 31 (EK.encs e_graph_longest_walk ((a0, ((), ((), ((), ((), ((), ())))))), ((a1, ()), (((), ()), (a2, ((a3, ()), (((), ()), (a4, (((), ()), ())))))))).1) (HK.encs h_graph_longest_walk ((a0, ((), ((), ((), ((), ((), ())))))), ((a1, ()), (((), ()), (a2, ((a3, ()), (((), ()), (a4, (((), ()), ())))))))).2) = some r := by
  have hb : LOk Try.prog (cf_graph_longest_walk qr_graph_longest_walk) Try.f31.ntmps 7 n p_graph_longest_walk (ls_graph_longest_walk n qr_graph_longest_walk) (bodyOf Try.f31) := ⟨trivial, ⟨trivial, ⟨⟨trivial, ⟨⟨trivial, trivial⟩, ⟨trivial, ⟨⟨trivial, ⟨trivial, trivial⟩⟩, ⟨trivial, ⟨⟨trivial, trivial⟩, trivial⟩⟩⟩⟩⟩⟩, ⟨trivial, ⟨trivial, ⟨⟨trivial, (o_graph_longest_walk_1 qr_graph_longest_walk n)⟩, ⟨trivial, ⟨trivial, ⟨trivial, trivial⟩⟩⟩⟩⟩⟩⟩⟩⟩
  exact runFT_some Try.prog (c := bodyOf Try.f31) Try.func31 (show Try.f31.body = some (bodyOf Try.f31) from rfl) (show (6 : Nat) ≤ 62 by decide) hb ((m_graph_longest_walk n qr_graph_longest_walk a0 a1 a2 a3 a4).trans h)
noncomputable def c_graph_longest_walk : Spec := specQ e_graph_longest_walk h_graph_longest_walk ro_graph_longest_walk rh_graph_longest_walk fun a b => Q_graph_longest_walk a.1 b.1.1 b.2.2.1 b.2.2.2.1.1 b.2.2.2.2.2.1
theorem kr_graph_longest_walk (hm : Try.prog.follows .mixedOrders = true) (qr_graph_longest_walk : Int → (List NodeS) → (Int → Option (Int)) → Bool → (Int → Option (Int)) → Option (RS ro_graph_longest_walk rh_graph_longest_walk)) (hr : SpecOk Try.prog 31 (specQ e_graph_longest_walk h_graph_longest_walk ro_graph_longest_walk rh_graph_longest_walk fun a b => qr_graph_longest_walk a.1 b.1.1 b.2.2.1 b.2.2.2.1.1 b.2.2.2.2.2.1)) : CallSound Try.prog (cf_graph_longest_walk qr_graph_longest_walk) := tab_ok (specs_cons (k_graph_Find hm) (specs_cons (k_graph_goes hm) (specs_cons (hr) specs_nil)))
theorem kd_graph_longest_walk (hm : Try.prog.follows .mixedOrders = true) : ∀ dp, SpecOk Try.prog 31 (specQ e_graph_longest_walk h_graph_longest_walk ro_graph_longest_walk rh_graph_longest_walk fun a b => Qd_graph_longest_walk dp a.1 b.1.1 b.2.2.1 b.2.2.2.1.1 b.2.2.2.2.2.1)
  | 0 => specQ_ok (pol := p_graph_longest_walk) hm (cf := mkCF [] []) (tab_ok specs_nil) fun a b r h => by cases h
  | dp + 1 => specQ_ok (pol := p_graph_longest_walk) hm (kr_graph_longest_walk hm (Qd_graph_longest_walk dp) (kd_graph_longest_walk hm dp)) fun a b r h => ⟨FUEL, g_graph_longest_walk FUEL (Qd_graph_longest_walk dp) a.1 b.1.1 b.2.2.1 b.2.2.2.1.1 b.2.2.2.2.2.1 (decRes_some h)⟩
theorem k_graph_longest_walk (hm : Try.prog.follows .mixedOrders = true) : SpecOk Try.prog 31 c_graph_longest_walk := kd_graph_longest_walk hm FUEL
def s_graph_longest_h0 : Sig := ⟨[6, 7, 13, 14, 15], [.ptr 0 0 0, .ptr 1 0 0, .ty (.slice NodeT), .ty (.int .i64), .ty (.int .i64)], [.one true [.ty .bool], .one false [.fn 31 [(2, 0, 0), (3, 0, 0), (0, 0, 0), (5, 0, 0), (1, 0, 0)]], .one true [.ty (.slice NodeT)], .one false [.mp 4], .mf (.int .i64) (.int .i64), .one false [.mp 6], .mf (.int .i64) (.int .i64)]⟩
def s_graph_longest_t0 : Sig := ⟨[6, 7], [.ptr 0 0 0, .ptr 1 0 0], [.one true [.ty .bool], .one false [.fn 31 [(2, 0, 0), (3, 0, 0), (0, 0, 0), (5, 0, 0), (1, 0, 0)]], .one true [.ty (.slice NodeT)], .one false [.mp 4], .mf (.int .i64) (.int .i64), .one false [.mp 6], .mf (.int .i64) (.int .i64)]⟩
def s_graph_longest_r : Sig := ⟨[2, 3], [.fn 31 [(0, 0, 0), (1, 0, 0), (3, 0, 0), (4, 0, 0), (6, 0, 0)], .ty .bool], [.one true [.ty (.slice NodeT)], .one false [.mp 2], .mf (.int .i64) (.int .i64), .one true [.ty .bool], .one false [.mp 5], .mf (.int .i64) (.int .i64), .one false [.fn 31 [(0, 0, 0), (1, 0, 0), (3, 0, 0), (4, 0, 0), (6, 0, 0)]]]⟩
def p_graph_longest : Pol := ⟨fun i => if i = 0 then some [(6, .keep), (7, .keep), (13, .keep), (14, .keep), (15, .keep)] else none, fun i => if i = 0 then some [(6, .keep), (7, .keep)] else none, some [(2, .keep), (3, .keep)], [.keep, .keep]⟩
def e_graph_longest : List EK := [.ty (.slice NodeT)]
def h_graph_longest : List HK := []
noncomputable def cf_graph_longest : CallF := mkCF [(31, c_graph_longest_walk)] []
noncomputable def ls_graph_longest (n : Nat) : Loops := fun i => if i = 0 then some (loopT 0 (p_graph_longest.head 0) s_graph_longest_h0 fun K v => L_graph_longest_0 n (fun z0 z1 z2 z3 => K (.ex 0) (s_graph_longest_t0.enc (((), ((), ())), ((z0, ()), (((), ()), ((z1, ()), (((), ()), (z2, (((), ()), (z3, ())))))))))) v.1.2.2.1 v.1.2.2.2.1 n v.1.2.2.2.2.1 v.2.1.1 v.2.2.2.1.1 v.2.2.2.2.2.1 v.2.2.2.2.2.2.2.1)
  else  none
noncomputable def b_graph_longest_0 : Code := partOf (bodyOf Try.f28) [1, 1, 1, 1, 1, 0, 1, 0, 0]
theorem t_graph_longest_0 (n : Nat) (K : Cont) (rec : Sig.sem s_graph_longest_h0 → Option Res) (v : Sig.sem s_graph_longest_h0) : runT Try.prog cf_graph_longest Try.f28.ntmps 0 p_graph_longest (ls_graph_longest n) b_graph_longest_0 (s_graph_longest_h0.enc v) (turnK 0 (p_graph_longest.head 0) s_graph_longest_h0 rec K) = F_graph_longest_0 n (fun z0 z1 z2 z3 => K (.ex 0) (s_graph_longest_t0.enc (((), ((), ())), ((z0, ()), (((), ()), ((z1, ()), (((), ()), (z2, (((), ()), (z3, ())))))))))) v.1.2.2.1 v.1.2.2.2.1 (fun z2 z3 z4 z5 z6 => rec (((), ((), (v.1.2.2.1, (v.1.2.2.2.1, (z2, ()))))), ((z3, ()), (((), ()), ((z4, ()), (((), ()), (z5, (((), ()), (z6, ()))))))))) v.1.2.2.2.2.1 v.2.1.1 v.2.2.2.1.1 v.2.2.2.2.2.1 v.2.2.2.2.2.2.2.1 := by kernel_rfl
noncomputable def V_graph_longest_0 (n : Nat) (K : Cont) (rec : Sig.sem s_graph_longest_h0 → Option Res) (v : Sig.sem s_graph_longest_h0) : Option Res := F_graph_longest_0 n (fun z0 z1 z2 z3 => K (.ex 0) (s_graph_longest_t0.enc (((), ((), ())), ((z0, ()), (((), ()), ((z1, ()), (((), ()), (z2, (((), ()), (z3, ())))))))))) v.1.2.2.1 v.1.2.2.2.1 (fun z2 z3 z4 z5 z6 => rec (((), ((), (v.1.2.2.1, (v.1.2.2.2.1, (z2, ()))))), ((z3, ()), (((), ()), ((z4, ()), (((), ()), (z5, (((), ()), (z6, ()))))))))) v.1.2.2.2.2.1 v.2.1.1 v.2.2.2.1.1 v.2.2.2.2.2.1 v.2.2.2.2.2.2.2.1
noncomputable def W_graph_longest_0 (n : Nat) (K : Cont) (m : Nat) (v : Sig.sem s_graph_longest_h0) : Option Res := L_graph_longest_0 n (fun z0 z1 z2 z3 => K (.ex 0) (s_graph_longest_t0.enc (((), ((), ())), ((z0, ()), (((), ()), ((z1, ()), (((), ()), (z2, (((), ()), (z3, ())))))))))) v.1.2.2.1 v.1.2.2.2.1 m v.1.2.2.2.2.1 v.2.1.1 v.2.2.2.1.1 v.2.2.2.2.2.1 v.2.2.2.2.2.2.2.1
theorem i_graph_longest_0 (n : Nat) (K : Cont) : ∀ m v, iter (V_graph_longest_0 n K) m v = W_graph_longest_0 n K m v := by
  intro m
  induction m with
  | zero => intro v; rfl
  | succ m ih =>
    intro v
    show V_graph_longest_0 n K (iter (V_graph_longest_0 n K) m) v = V_graph_longest_0 n K (W_graph_longest_0 n K m) v
    rw [show iter (V_graph_longest_0 n K) m = W_graph_longest_0 n K m from funext ih]
theorem o_graph_longest_0 (n : Nat) : ∀ L, ls_graph_longest n 0 = some L → ∀ s K r, L s K = some r → ∃ x s', loopN (run Try.prog cf_graph_longest Try.f28.ntmps 0 n p_graph_longest none b_graph_longest_0) (gc 0 (p_graph_longest.head 0)) n s = some (x, s') ∧ K x s' = some r := by
  intro L hL s K r h
  have hL : some (loopT 0 (p_graph_longest.head 0) s_graph_longest_h0 fun K v => W_graph_longest_0 n K n v) = some L := hL
  cases hL
  have hb : LOk Try.prog cf_graph_longest Try.f28.ntmps 0 n p_graph_longest (ls_graph_longest n) b_graph_longest_0 := ⟨trivial, ⟨⟨trivial, trivial⟩, ⟨⟨trivial, trivial⟩, trivial⟩⟩⟩
  refine loopT_ok hb (V_graph_longest_0 n) (t_graph_longest_0 n) n s K r ?_
  rw [← h]
  unfold loopT
  simp only [i_graph_longest_0]
theorem m_graph_longest (n : Nat) (a0 : (List NodeS)) : runFT Try.prog cf_graph_longest p_graph_longest (ls_graph_longest n) Try.f28 (bodyOf Try.f28) (EK.encs e_graph_longest ((a0, ()), ()).1) (HK.encs h_graph_longest ((a0, ()), ()).2) = M_graph_longest n a0 := by kernel_rfl
theorem g_graph_longest (n : Nat) (a0 : (List NodeS)) {r : Res} (h : M_graph_longest n a0 = some r) : runF Try.prog cf_graph_longest n p_graph_longest 28 (EK.encs e_graph_longest ((a0, ()), ()).1) (HK.encs h_graph_longest ((a0, ()), ()).2) = some r := by
  have hb : LOk Try.prog cf_graph_longest Try.f28.ntmps 0 n p_graph_longest (ls_graph_longest n) (bodyOf Try.f28) := ⟨trivial, ⟨trivial, ⟨trivial, ⟨trivial, ⟨trivial, ⟨⟨trivial, (o_graph_longest_0 n)⟩, ⟨trivial, trivial⟩⟩⟩⟩⟩⟩⟩
  exact runFT_some Try.prog (c := bodyOf Try.f28) Try.func28 (show Try.f28.body = some (bodyOf Try.f28) from rfl) (show (1 : Nat) ≤ 26 by decide) hb ((m_graph_longest n a0).trans h)
noncomputable def c_graph_longest : Spec := specQ e_graph_longest h_graph_longest ro_graph_longest rh_graph_longest fun a b => Q_graph_longest a.1
theorem k_graph_longest (hm : Try.prog.follows .mixedOrders = true) : SpecOk Try.prog 28 c_graph_longest := specQ_ok (pol := p_graph_longest) hm (cf := cf_graph_longest) (tab_ok (specs_cons (k_graph_longest_walk hm) specs_nil)) fun a b r h => ⟨FUEL, g_graph_longest FUEL a.1 (decRes_some h)⟩
def s_graph_May_r : Sig := ⟨[2], [.ty (.int .i64)], []⟩
def p_graph_May : Pol := ⟨fun i => none, fun i => none, some [(2, .keep)], [.keep]⟩
def e_graph_May : List EK := [.ty (.slice NodeT)]
def h_graph_May : List HK := []
noncomputable def cf_graph_May : CallF := mkCF [(26, c_graph_form), (27, c_graph_refs), (28, c_graph_longest)] [(26, [(.slice NodeT)]), (27, [(.slice NodeT)]), (28, [(.slice NodeT)])]
noncomputable def ls_graph_May (n : Nat) : Loops := fun i =>  none
theorem m_graph_May (n : Nat) (a0 : (List NodeS)) : runFT Try.prog cf_graph_May p_graph_May (ls_graph_May n) Try.f11 (bodyOf Try.f11) (EK.encs e_graph_May ((a0, ()), ()).1) (HK.encs h_graph_May ((a0, ()), ()).2) = M_graph_May n a0 := by kernel_rfl
theorem g_graph_May (n : Nat) (a0 : (List NodeS)) {r : Res} (h : M_graph_May n a0 = some r) : runF Try.prog cf_graph_May n p_graph_May 11 (EK.encs e_graph_May ((a0, ()), ()).1) (HK.encs h_graph_May ((a0, ()), ()).2) = some r := by
  have hb : LOk Try.prog cf_graph_May Try.f11.ntmps 0 n p_graph_May (ls_graph_May n) (bodyOf Try.f11) := ⟨trivial, ⟨⟨trivial, ⟨⟨trivial, trivial⟩, ⟨trivial, ⟨⟨trivial, trivial⟩, ⟨trivial, ⟨⟨trivial, trivial⟩, trivial⟩⟩⟩⟩⟩⟩, ⟨⟨trivial, ⟨trivial, ⟨⟨trivial, trivial⟩, trivial⟩⟩⟩, ⟨trivial, trivial⟩⟩⟩⟩
  exact runFT_some Try.prog (c := bodyOf Try.f11) Try.func11 (show Try.f11.body = some (bodyOf Try.f11) from rfl) (show (1 : Nat) ≤ 24 by decide) hb ((m_graph_May n a0).trans h)
noncomputable def c_graph_May : Spec := specQ e_graph_May h_graph_May ro_graph_May rh_graph_May fun a b => Q_graph_May a.1
theorem k_graph_May (hm : Try.prog.follows .mixedOrders = true) : SpecOk Try.prog 11 c_graph_May := specQ_ok (pol := p_graph_May) hm (cf := cf_graph_May) (tab_ok (specs_cons (k_graph_form hm) (specs_cons (k_graph_refs hm) (specs_cons (k_graph_longest hm) specs_nil)))) fun a b r h => ⟨FUEL, g_graph_May FUEL a.1 (decRes_some h)⟩
def s_graph_Longest_r : Sig := ⟨[2], [.ty (.int .i64)], []⟩
def p_graph_Longest : Pol := ⟨fun i => none, fun i => none, some [(2, .keep)], [.keep]⟩
def e_graph_Longest : List EK := [.ty (.slice NodeT)]
def h_graph_Longest : List HK := []
noncomputable def cf_graph_Longest : CallF := mkCF [(11, c_graph_May), (28, c_graph_longest), (31, c_graph_longest_walk)] [(11, [(.slice NodeT)]), (28, [(.slice NodeT)])]
noncomputable def ls_graph_Longest (n : Nat) : Loops := fun i =>  none
theorem m_graph_Longest (n : Nat) (a0 : (List NodeS)) : runFT Try.prog cf_graph_Longest p_graph_Longest (ls_graph_Longest n) Try.f12 (bodyOf Try.f12) (EK.encs e_graph_Longest ((a0, ()), ()).1) (HK.encs h_graph_Longest ((a0, ()), ()).2) = M_graph_Longest n a0 := by kernel_rfl
theorem g_graph_Longest (n : Nat) (a0 : (List NodeS)) {r : Res} (h : M_graph_Longest n a0 = some r) : runF Try.prog cf_graph_Longest n p_graph_Longest 12 (EK.encs e_graph_Longest ((a0, ()), ()).1) (HK.encs h_graph_Longest ((a0, ()), ()).2) = some r := by
  have hb : LOk Try.prog cf_graph_Longest Try.f12.ntmps 0 n p_graph_Longest (ls_graph_Longest n) (bodyOf Try.f12) := ⟨trivial, ⟨⟨trivial, ⟨⟨trivial, trivial⟩, trivial⟩⟩, ⟨trivial, ⟨trivial, trivial⟩⟩⟩⟩
  exact runFT_some Try.prog (c := bodyOf Try.f12) Try.func12 (show Try.f12.body = some (bodyOf Try.f12) from rfl) (show (1 : Nat) ≤ 15 by decide) hb ((m_graph_Longest n a0).trans h)
noncomputable def c_graph_Longest : Spec := specQ e_graph_Longest h_graph_Longest ro_graph_Longest rh_graph_Longest fun a b => Q_graph_Longest a.1
theorem k_graph_Longest (hm : Try.prog.follows .mixedOrders = true) : SpecOk Try.prog 12 c_graph_Longest := specQ_ok (pol := p_graph_Longest) hm (cf := cf_graph_Longest) (tab_ok (specs_cons (k_graph_May hm) (specs_cons (k_graph_longest hm) (specs_cons (k_graph_longest_walk hm) specs_nil)))) fun a b r h => ⟨FUEL, g_graph_Longest FUEL a.1 (decRes_some h)⟩
def s_graph_Next_h0 : Sig := ⟨[2, 7, 18, 19, 20], [.ty (.int .u32), .ptr 0 0 0, .ty (.slice ArmT), .ty (.int .i64), .ty (.int .i64)], [.cell NodeT]⟩
def s_graph_Next_r : Sig := ⟨[6], [.ty (.int .i64)], []⟩
def s_graph_Next_t0 : Sig := ⟨[7], [.ptr 0 0 0], [.cell NodeT]⟩
def p_graph_Next : Pol := ⟨fun i => if i = 0 then some [(2, .keep), (7, (.own NodeT)), (18, .keep), (19, .keep), (20, .keep)] else none, fun i => if i = 0 then some [(7, (.own NodeT))] else none, some [(6, .keep)], [.keep]⟩
def e_graph_Next : List EK := [.ty (.slice NodeT), .ty (.int .i64), .ty (.int .u32)]
def h_graph_Next : List HK := []
noncomputable def cf_graph_Next : CallF := mkCF [(17, c_graph_Find)] [(17, [(.slice NodeT), (.int .i64)])]
noncomputable def ls_graph_Next (n : Nat) : Loops := fun i => if i = 0 then some (loopT 0 (p_graph_Next.head 0) s_graph_Next_h0 fun K v => L_graph_Next_0 n (fun z0 => K .rt (s_graph_Next_r.enc ((z0, ()), ()))) (fun _ => K (.ex 0) (s_graph_Next_t0.enc (((), ()), (v.2.1, ())))) v.1.1 v.1.2.2.1 v.1.2.2.2.1 v.2.1 n v.1.2.2.2.2.1)
  else  none
noncomputable def b_graph_Next_0 : Code := partOf (bodyOf Try.f13) [1, 1, 0, 1, 0, 0]
theorem t_graph_Next_0 (n : Nat) (K : Cont) (rec : Sig.sem s_graph_Next_h0 → Option Res) (v : Sig.sem s_graph_Next_h0) : runT Try.prog cf_graph_Next Try.f13.ntmps 0 p_graph_Next (ls_graph_Next n) b_graph_Next_0 (s_graph_Next_h0.enc v) (turnK 0 (p_graph_Next.head 0) s_graph_Next_h0 rec K) = F_graph_Next_0 n (fun z0 => K .rt (s_graph_Next_r.enc ((z0, ()), ()))) (fun _ => K (.ex 0) (s_graph_Next_t0.enc (((), ()), (v.2.1, ())))) v.1.1 v.1.2.2.1 v.1.2.2.2.1 v.2.1 (fun z3 => rec ((v.1.1, ((), (v.1.2.2.1, (v.1.2.2.2.1, (z3, ()))))), (v.2.1, ()))) v.1.2.2.2.2.1 := by kernel_rfl
noncomputable def V_graph_Next_0 (n : Nat) (K : Cont) (rec : Sig.sem s_graph_Next_h0 → Option Res) (v : Sig.sem s_graph_Next_h0) : Option Res := F_graph_Next_0 n (fun z0 => K .rt (s_graph_Next_r.enc ((z0, ()), ()))) (fun _ => K (.ex 0) (s_graph_Next_t0.enc (((), ()), (v.2.1, ())))) v.1.1 v.1.2.2.1 v.1.2.2.2.1 v.2.1 (fun z3 => rec ((v.1.1, ((), (v.1.2.2.1, (v.1.2.2.2.1, (z3, ()))))), (v.2.1, ()))) v.1.2.2.2.2.1
noncomputable def W_graph_Next_0 (n : Nat) (K : Cont) (m : Nat) (v : Sig.sem s_graph_Next_h0) : Option Res := L_graph_Next_0 n (fun z0 => K .rt (s_graph_Next_r.enc ((z0, ()), ()))) (fun _ => K (.ex 0) (s_graph_Next_t0.enc (((), ()), (v.2.1, ())))) v.1.1 v.1.2.2.1 v.1.2.2.2.1 v.2.1 m v.1.2.2.2.2.1
theorem i_graph_Next_0 (n : Nat) (K : Cont) : ∀ m v, iter (V_graph_Next_0 n K) m v = W_graph_Next_0 n K m v := by
  intro m
  induction m with
  | zero => intro v; rfl
  | succ m ih =>
    intro v
    show V_graph_Next_0 n K (iter (V_graph_Next_0 n K) m) v = V_graph_Next_0 n K (W_graph_Next_0 n K m) v
    rw [show iter (V_graph_Next_0 n K) m = W_graph_Next_0 n K m from funext ih]
theorem o_graph_Next_0 (n : Nat) : ∀ L, ls_graph_Next n 0 = some L → ∀ s K r, L s K = some r → ∃ x s', loopN (run Try.prog cf_graph_Next Try.f13.ntmps 0 n p_graph_Next none b_graph_Next_0) (gc 0 (p_graph_Next.head 0)) n s = some (x, s') ∧ K x s' = some r := by
  intro L hL s K r h
  have hL : some (loopT 0 (p_graph_Next.head 0) s_graph_Next_h0 fun K v => W_graph_Next_0 n K n v) = some L := hL
  cases hL
  have hb : LOk Try.prog cf_graph_Next Try.f13.ntmps 0 n p_graph_Next (ls_graph_Next n) b_graph_Next_0 := ⟨trivial, ⟨⟨trivial, trivial⟩, ⟨⟨trivial, ⟨trivial, ⟨⟨trivial, trivial⟩, trivial⟩⟩⟩, trivial⟩⟩⟩
  refine loopT_ok hb (V_graph_Next_0 n) (t_graph_Next_0 n) n s K r ?_
  rw [← h]
  unfold loopT
  simp only [i_graph_Next_0]
theorem m_graph_Next (n : Nat) (a0 : (List NodeS)) (a1 : Int) (a2 : Int) : runFT Try.prog cf_graph_Next p_graph_Next (ls_graph_Next n) Try.f13 (bodyOf Try.f13) (EK.encs e_graph_Next ((a0, (a1, (a2, ()))), ()).1) (HK.encs h_graph_Next ((a0, (a1, (a2, ()))), ()).2) = M_graph_Next n a0 a1 a2 := by kernel_rfl
theorem g_graph_Next (n : Nat) (a0 : (List NodeS)) (a1 : Int) (a2 : Int) {r : Res} (h : M_graph_Next n a0 a1 a2 = some r) : runF Try.prog cf_graph_Next n p_graph_Next 13 (EK.encs e_graph_Next ((a0, (a1, (a2, ()))), ()).1) (HK.encs h_graph_Next ((a0, (a1, (a2, ()))), ()).2) = some r := by
  have hb : LOk Try.prog cf_graph_Next Try.f13.ntmps 0 n p_graph_Next (ls_graph_Next n) (bodyOf Try.f13) := ⟨trivial, ⟨trivial, ⟨⟨trivial, (o_graph_Next_0 n)⟩, ⟨trivial, trivial⟩⟩⟩⟩
  exact runFT_some Try.prog (c := bodyOf Try.f13) Try.func13 (show Try.f13.body = some (bodyOf Try.f13) from rfl) (show (3 : Nat) ≤ 33 by decide) hb ((m_graph_Next n a0 a1 a2).trans h)
noncomputable def c_graph_Next : Spec := specQ e_graph_Next h_graph_Next ro_graph_Next rh_graph_Next fun a b => Q_graph_Next a.1 a.2.1 a.2.2.1
theorem k_graph_Next (hm : Try.prog.follows .mixedOrders = true) : SpecOk Try.prog 13 c_graph_Next := specQ_ok (pol := p_graph_Next) hm (cf := cf_graph_Next) (tab_ok (specs_cons (k_graph_Find hm) specs_nil)) fun a b r h => ⟨FUEL, g_graph_Next FUEL a.1 a.2.1 a.2.2.1 (decRes_some h)⟩
def s_turnoutlaw15_awake_r : Sig := ⟨[0], [.ty .bool], []⟩
def p_turnoutlaw15_awake : Pol := ⟨fun i => none, fun i => none, some [(0, .keep)], [.keep]⟩
def e_turnoutlaw15_awake : List EK := []
def h_turnoutlaw15_awake : List HK := []
noncomputable def cf_turnoutlaw15_awake : CallF := mkCF [(22, c_turnoutlaw15_some), (11, c_graph_May), (12, c_graph_Longest), (13, c_graph_Next)] [(22, [(.int .i64)]), (11, [(.slice NodeT)]), (12, [(.slice NodeT)]), (13, [(.slice NodeT), (.int .i64), (.int .u32)])]
noncomputable def ls_turnoutlaw15_awake (n : Nat) : Loops := fun i =>  none
theorem m_turnoutlaw15_awake (n : Nat) : runFT Try.prog cf_turnoutlaw15_awake p_turnoutlaw15_awake (ls_turnoutlaw15_awake n) Try.f9 (bodyOf Try.f9) (EK.encs e_turnoutlaw15_awake ((), ()).1) (HK.encs h_turnoutlaw15_awake ((), ()).2) = M_turnoutlaw15_awake n := by kernel_rfl
theorem g_turnoutlaw15_awake (n : Nat) {r : Res} (h : M_turnoutlaw15_awake n = some r) : runF Try.prog cf_turnoutlaw15_awake n p_turnoutlaw15_awake 9 (EK.encs e_turnoutlaw15_awake ((), ()).1) (HK.encs h_turnoutlaw15_awake ((), ()).2) = some r := by
  have hb : LOk Try.prog cf_turnoutlaw15_awake Try.f9.ntmps 0 n p_turnoutlaw15_awake (ls_turnoutlaw15_awake n) (bodyOf Try.f9) := ⟨trivial, ⟨trivial, ⟨trivial, trivial⟩⟩⟩
  exact runFT_some Try.prog (c := bodyOf Try.f9) Try.func9 (show Try.f9.body = some (bodyOf Try.f9) from rfl) (show (0 : Nat) ≤ 49 by decide) hb ((m_turnoutlaw15_awake n).trans h)
noncomputable def c_turnoutlaw15_awake : Spec := specQ e_turnoutlaw15_awake h_turnoutlaw15_awake ro_turnoutlaw15_awake rh_turnoutlaw15_awake fun a b => Q_turnoutlaw15_awake
theorem k_turnoutlaw15_awake (hm : Try.prog.follows .mixedOrders = true) : SpecOk Try.prog 9 c_turnoutlaw15_awake := specQ_ok (pol := p_turnoutlaw15_awake) hm (cf := cf_turnoutlaw15_awake) (tab_ok (specs_cons (k_turnoutlaw15_some hm) (specs_cons (k_graph_May hm) (specs_cons (k_graph_Longest hm) (specs_cons (k_graph_Next hm) specs_nil))))) fun a b r h => ⟨FUEL, g_turnoutlaw15_awake FUEL (decRes_some h)⟩
def s_turnoutlaw15_GraphNames_r : Sig := ⟨[0], [.ty .bool], []⟩
def s_turnoutlaw15_GraphNames_h0 : Sig := ⟨[1, 2], [.hs 0 0, .ty (.int .i64)], [.row ArmT]⟩
def s_turnoutlaw15_GraphNames_t0 : Sig := ⟨[1], [.hs 0 0], [.row ArmT]⟩
def s_turnoutlaw15_GraphNames_h2 : Sig := ⟨[1, 46, 47, 48], [.ty (.slice ArmT), .hs 0 0, .ty (.int .i64), .ty (.int .i64)], [.row NodeT]⟩
def s_turnoutlaw15_GraphNames_t2 : Sig := ⟨[1], [.ty (.slice ArmT)], []⟩
def s_turnoutlaw15_GraphNames_h4 : Sig := ⟨[98, 99, 100], [.hs 0 0, .ty (.int .i64), .ty (.int .i64)], [.row NodeT]⟩
def s_turnoutlaw15_GraphNames_t4 : Sig := ⟨[], [], []⟩
def s_turnoutlaw15_GraphNames_h6 : Sig := ⟨[7, 8], [.hs 0 0, .ty (.int .i64)], [.row NodeT]⟩
def s_turnoutlaw15_GraphNames_t6 : Sig := ⟨[7], [.hs 0 0], [.row NodeT]⟩
def p_turnoutlaw15_GraphNames : Pol := ⟨fun i => if i = 0 then some [(1, (.own ArmT)), (2, .keep)] else if i = 2 then some [(1, (.data (.slice ArmT))), (46, (.own NodeT)), (47, .keep), (48, .keep)] else if i = 4 then some [(98, (.own NodeT)), (99, .keep), (100, .keep)] else if i = 6 then some [(7, (.own NodeT)), (8, .keep)] else none, fun i => if i = 0 then some [(1, (.own ArmT))] else if i = 2 then some [(1, (.data (.slice ArmT)))] else if i = 4 then some [] else if i = 6 then some [(7, (.own NodeT))] else none, some [(0, .keep)], [.keep]⟩
def e_turnoutlaw15_GraphNames : List EK := []
def h_turnoutlaw15_GraphNames : List HK := []
noncomputable def cf_turnoutlaw15_GraphNames : CallF := mkCF [(9, c_turnoutlaw15_awake), (10, c_graph_Form), (11, c_graph_May), (12, c_graph_Longest), (13, c_graph_Next)] [(9, []), (10, [NodeT]), (11, [(.slice NodeT)]), (12, [(.slice NodeT)]), (13, [(.slice NodeT), (.int .i64), (.int .u32)])]
noncomputable def ls_turnoutlaw15_GraphNames (n : Nat) : Loops := fun i => if i = 0 then some (loopT 0 (p_turnoutlaw15_GraphNames.head 0) s_turnoutlaw15_GraphNames_h0 fun K v => L_turnoutlaw15_GraphNames_0 n (fun z1 => K (.ex 0) (s_turnoutlaw15_GraphNames_t0.enc ((v.1.1, ()), (z1, ())))) v.1.1 n v.1.2.1 v.2.1)
  else if i = 2 then some (loopT 0 (p_turnoutlaw15_GraphNames.head 2) s_turnoutlaw15_GraphNames_h2 fun K v => L_turnoutlaw15_GraphNames_2 n (fun z0 => K .rt (s_turnoutlaw15_GraphNames_r.enc ((z0, ()), ()))) (fun _ => K (.ex 2) (s_turnoutlaw15_GraphNames_t2.enc ((v.1.1, ()), ()))) v.1.1 v.1.2.1 v.1.2.2.1 v.2.1 n v.1.2.2.2.1)
  else if i = 4 then some (loopT 0 (p_turnoutlaw15_GraphNames.head 4) s_turnoutlaw15_GraphNames_h4 fun K v => L_turnoutlaw15_GraphNames_4 n (fun z0 => K .rt (s_turnoutlaw15_GraphNames_r.enc ((z0, ()), ()))) (fun _ => K (.ex 4) (s_turnoutlaw15_GraphNames_t4.enc ((), ()))) v.1.1 v.1.2.1 v.2.1 n v.1.2.2.1)
  else if i = 6 then some (loopT 0 (p_turnoutlaw15_GraphNames.head 6) s_turnoutlaw15_GraphNames_h6 fun K v => L_turnoutlaw15_GraphNames_6 n (fun z0 z1 => K (.ex 6) (s_turnoutlaw15_GraphNames_t6.enc ((z0, ()), (z1, ())))) n v.1.1 v.1.2.1 v.2.1)
  else  none
noncomputable def b_turnoutlaw15_GraphNames_0 : Code := partOf (bodyOf Try.f3) [1, 1, 1, 0, 1, 0, 0]
theorem t_turnoutlaw15_GraphNames_0 (n : Nat) (K : Cont) (rec : Sig.sem s_turnoutlaw15_GraphNames_h0 → Option Res) (v : Sig.sem s_turnoutlaw15_GraphNames_h0) : runT Try.prog cf_turnoutlaw15_GraphNames Try.f3.ntmps 0 p_turnoutlaw15_GraphNames (ls_turnoutlaw15_GraphNames n) b_turnoutlaw15_GraphNames_0 (s_turnoutlaw15_GraphNames_h0.enc v) (turnK 0 (p_turnoutlaw15_GraphNames.head 0) s_turnoutlaw15_GraphNames_h0 rec K) = F_turnoutlaw15_GraphNames_0 n (fun z1 => K (.ex 0) (s_turnoutlaw15_GraphNames_t0.enc ((v.1.1, ()), (z1, ())))) v.1.1 (fun z1 z2 => rec ((v.1.1, (z1, ())), (z2, ()))) v.1.2.1 v.2.1 := by kernel_rfl
noncomputable def V_turnoutlaw15_GraphNames_0 (n : Nat) (K : Cont) (rec : Sig.sem s_turnoutlaw15_GraphNames_h0 → Option Res) (v : Sig.sem s_turnoutlaw15_GraphNames_h0) : Option Res := F_turnoutlaw15_GraphNames_0 n (fun z1 => K (.ex 0) (s_turnoutlaw15_GraphNames_t0.enc ((v.1.1, ()), (z1, ())))) v.1.1 (fun z1 z2 => rec ((v.1.1, (z1, ())), (z2, ()))) v.1.2.1 v.2.1
noncomputable def W_turnoutlaw15_GraphNames_0 (n : Nat) (K : Cont) (m : Nat) (v : Sig.sem s_turnoutlaw15_GraphNames_h0) : Option Res := L_turnoutlaw15_GraphNames_0 n (fun z1 => K (.ex 0) (s_turnoutlaw15_GraphNames_t0.enc ((v.1.1, ()), (z1, ())))) v.1.1 m v.1.2.1 v.2.1
theorem i_turnoutlaw15_GraphNames_0 (n : Nat) (K : Cont) : ∀ m v, iter (V_turnoutlaw15_GraphNames_0 n K) m v = W_turnoutlaw15_GraphNames_0 n K m v := by
  intro m
  induction m with
  | zero => intro v; rfl
  | succ m ih =>
    intro v
    show V_turnoutlaw15_GraphNames_0 n K (iter (V_turnoutlaw15_GraphNames_0 n K) m) v = V_turnoutlaw15_GraphNames_0 n K (W_turnoutlaw15_GraphNames_0 n K m) v
    rw [show iter (V_turnoutlaw15_GraphNames_0 n K) m = W_turnoutlaw15_GraphNames_0 n K m from funext ih]
theorem o_turnoutlaw15_GraphNames_0 (n : Nat) : ∀ L, ls_turnoutlaw15_GraphNames n 0 = some L → ∀ s K r, L s K = some r → ∃ x s', loopN (run Try.prog cf_turnoutlaw15_GraphNames Try.f3.ntmps 0 n p_turnoutlaw15_GraphNames none b_turnoutlaw15_GraphNames_0) (gc 0 (p_turnoutlaw15_GraphNames.head 0)) n s = some (x, s') ∧ K x s' = some r := by
  intro L hL s K r h
  have hL : some (loopT 0 (p_turnoutlaw15_GraphNames.head 0) s_turnoutlaw15_GraphNames_h0 fun K v => W_turnoutlaw15_GraphNames_0 n K n v) = some L := hL
  cases hL
  have hb : LOk Try.prog cf_turnoutlaw15_GraphNames Try.f3.ntmps 0 n p_turnoutlaw15_GraphNames (ls_turnoutlaw15_GraphNames n) b_turnoutlaw15_GraphNames_0 := ⟨⟨trivial, ⟨trivial, trivial⟩⟩, ⟨trivial, trivial⟩⟩
  refine loopT_ok hb (V_turnoutlaw15_GraphNames_0 n) (t_turnoutlaw15_GraphNames_0 n) n s K r ?_
  rw [← h]
  unfold loopT
  simp only [i_turnoutlaw15_GraphNames_0]
noncomputable def b_turnoutlaw15_GraphNames_2 : Code := partOf (bodyOf Try.f3) [1, 1, 1, 1, 0, 1, 0, 0]
theorem t_turnoutlaw15_GraphNames_2 (n : Nat) (K : Cont) (rec : Sig.sem s_turnoutlaw15_GraphNames_h2 → Option Res) (v : Sig.sem s_turnoutlaw15_GraphNames_h2) : runT Try.prog cf_turnoutlaw15_GraphNames Try.f3.ntmps 0 p_turnoutlaw15_GraphNames (ls_turnoutlaw15_GraphNames n) b_turnoutlaw15_GraphNames_2 (s_turnoutlaw15_GraphNames_h2.enc v) (turnK 0 (p_turnoutlaw15_GraphNames.head 2) s_turnoutlaw15_GraphNames_h2 rec K) = F_turnoutlaw15_GraphNames_2 n (fun z0 => K .rt (s_turnoutlaw15_GraphNames_r.enc ((z0, ()), ()))) (fun _ => K (.ex 2) (s_turnoutlaw15_GraphNames_t2.enc ((v.1.1, ()), ()))) v.1.1 v.1.2.1 v.1.2.2.1 v.2.1 (fun z3 => rec ((v.1.1, (v.1.2.1, (v.1.2.2.1, (z3, ())))), (v.2.1, ()))) v.1.2.2.2.1 := by kernel_rfl
noncomputable def V_turnoutlaw15_GraphNames_2 (n : Nat) (K : Cont) (rec : Sig.sem s_turnoutlaw15_GraphNames_h2 → Option Res) (v : Sig.sem s_turnoutlaw15_GraphNames_h2) : Option Res := F_turnoutlaw15_GraphNames_2 n (fun z0 => K .rt (s_turnoutlaw15_GraphNames_r.enc ((z0, ()), ()))) (fun _ => K (.ex 2) (s_turnoutlaw15_GraphNames_t2.enc ((v.1.1, ()), ()))) v.1.1 v.1.2.1 v.1.2.2.1 v.2.1 (fun z3 => rec ((v.1.1, (v.1.2.1, (v.1.2.2.1, (z3, ())))), (v.2.1, ()))) v.1.2.2.2.1
noncomputable def W_turnoutlaw15_GraphNames_2 (n : Nat) (K : Cont) (m : Nat) (v : Sig.sem s_turnoutlaw15_GraphNames_h2) : Option Res := L_turnoutlaw15_GraphNames_2 n (fun z0 => K .rt (s_turnoutlaw15_GraphNames_r.enc ((z0, ()), ()))) (fun _ => K (.ex 2) (s_turnoutlaw15_GraphNames_t2.enc ((v.1.1, ()), ()))) v.1.1 v.1.2.1 v.1.2.2.1 v.2.1 m v.1.2.2.2.1
theorem i_turnoutlaw15_GraphNames_2 (n : Nat) (K : Cont) : ∀ m v, iter (V_turnoutlaw15_GraphNames_2 n K) m v = W_turnoutlaw15_GraphNames_2 n K m v := by
  intro m
  induction m with
  | zero => intro v; rfl
  | succ m ih =>
    intro v
    show V_turnoutlaw15_GraphNames_2 n K (iter (V_turnoutlaw15_GraphNames_2 n K) m) v = V_turnoutlaw15_GraphNames_2 n K (W_turnoutlaw15_GraphNames_2 n K m) v
    rw [show iter (V_turnoutlaw15_GraphNames_2 n K) m = W_turnoutlaw15_GraphNames_2 n K m from funext ih]
theorem o_turnoutlaw15_GraphNames_2 (n : Nat) : ∀ L, ls_turnoutlaw15_GraphNames n 2 = some L → ∀ s K r, L s K = some r → ∃ x s', loopN (run Try.prog cf_turnoutlaw15_GraphNames Try.f3.ntmps 0 n p_turnoutlaw15_GraphNames none b_turnoutlaw15_GraphNames_2) (gc 0 (p_turnoutlaw15_GraphNames.head 2)) n s = some (x, s') ∧ K x s' = some r := by
  intro L hL s K r h
  have hL : some (loopT 0 (p_turnoutlaw15_GraphNames.head 2) s_turnoutlaw15_GraphNames_h2 fun K v => W_turnoutlaw15_GraphNames_2 n K n v) = some L := hL
  cases hL
  have hb : LOk Try.prog cf_turnoutlaw15_GraphNames Try.f3.ntmps 0 n p_turnoutlaw15_GraphNames (ls_turnoutlaw15_GraphNames n) b_turnoutlaw15_GraphNames_2 := ⟨trivial, ⟨⟨trivial, trivial⟩, ⟨⟨trivial, ⟨trivial, ⟨⟨trivial, trivial⟩, trivial⟩⟩⟩, trivial⟩⟩⟩
  refine loopT_ok hb (V_turnoutlaw15_GraphNames_2 n) (t_turnoutlaw15_GraphNames_2 n) n s K r ?_
  rw [← h]
  unfold loopT
  simp only [i_turnoutlaw15_GraphNames_2]
noncomputable def b_turnoutlaw15_GraphNames_4 : Code := partOf (bodyOf Try.f3) [1, 1, 1, 1, 1, 0, 1, 0, 0]
theorem t_turnoutlaw15_GraphNames_4 (n : Nat) (K : Cont) (rec : Sig.sem s_turnoutlaw15_GraphNames_h4 → Option Res) (v : Sig.sem s_turnoutlaw15_GraphNames_h4) : runT Try.prog cf_turnoutlaw15_GraphNames Try.f3.ntmps 0 p_turnoutlaw15_GraphNames (ls_turnoutlaw15_GraphNames n) b_turnoutlaw15_GraphNames_4 (s_turnoutlaw15_GraphNames_h4.enc v) (turnK 0 (p_turnoutlaw15_GraphNames.head 4) s_turnoutlaw15_GraphNames_h4 rec K) = F_turnoutlaw15_GraphNames_4 n (fun z0 => K .rt (s_turnoutlaw15_GraphNames_r.enc ((z0, ()), ()))) (fun _ => K (.ex 4) (s_turnoutlaw15_GraphNames_t4.enc ((), ()))) v.1.1 v.1.2.1 v.2.1 (fun z2 => rec ((v.1.1, (v.1.2.1, (z2, ()))), (v.2.1, ()))) v.1.2.2.1 := by kernel_rfl
noncomputable def V_turnoutlaw15_GraphNames_4 (n : Nat) (K : Cont) (rec : Sig.sem s_turnoutlaw15_GraphNames_h4 → Option Res) (v : Sig.sem s_turnoutlaw15_GraphNames_h4) : Option Res := F_turnoutlaw15_GraphNames_4 n (fun z0 => K .rt (s_turnoutlaw15_GraphNames_r.enc ((z0, ()), ()))) (fun _ => K (.ex 4) (s_turnoutlaw15_GraphNames_t4.enc ((), ()))) v.1.1 v.1.2.1 v.2.1 (fun z2 => rec ((v.1.1, (v.1.2.1, (z2, ()))), (v.2.1, ()))) v.1.2.2.1
noncomputable def W_turnoutlaw15_GraphNames_4 (n : Nat) (K : Cont) (m : Nat) (v : Sig.sem s_turnoutlaw15_GraphNames_h4) : Option Res := L_turnoutlaw15_GraphNames_4 n (fun z0 => K .rt (s_turnoutlaw15_GraphNames_r.enc ((z0, ()), ()))) (fun _ => K (.ex 4) (s_turnoutlaw15_GraphNames_t4.enc ((), ()))) v.1.1 v.1.2.1 v.2.1 m v.1.2.2.1
theorem i_turnoutlaw15_GraphNames_4 (n : Nat) (K : Cont) : ∀ m v, iter (V_turnoutlaw15_GraphNames_4 n K) m v = W_turnoutlaw15_GraphNames_4 n K m v := by
  intro m
  induction m with
  | zero => intro v; rfl
  | succ m ih =>
    intro v
    show V_turnoutlaw15_GraphNames_4 n K (iter (V_turnoutlaw15_GraphNames_4 n K) m) v = V_turnoutlaw15_GraphNames_4 n K (W_turnoutlaw15_GraphNames_4 n K m) v
    rw [show iter (V_turnoutlaw15_GraphNames_4 n K) m = W_turnoutlaw15_GraphNames_4 n K m from funext ih]
theorem o_turnoutlaw15_GraphNames_4 (n : Nat) : ∀ L, ls_turnoutlaw15_GraphNames n 4 = some L → ∀ s K r, L s K = some r → ∃ x s', loopN (run Try.prog cf_turnoutlaw15_GraphNames Try.f3.ntmps 0 n p_turnoutlaw15_GraphNames none b_turnoutlaw15_GraphNames_4) (gc 0 (p_turnoutlaw15_GraphNames.head 4)) n s = some (x, s') ∧ K x s' = some r := by
  intro L hL s K r h
  have hL : some (loopT 0 (p_turnoutlaw15_GraphNames.head 4) s_turnoutlaw15_GraphNames_h4 fun K v => W_turnoutlaw15_GraphNames_4 n K n v) = some L := hL
  cases hL
  have hb : LOk Try.prog cf_turnoutlaw15_GraphNames Try.f3.ntmps 0 n p_turnoutlaw15_GraphNames (ls_turnoutlaw15_GraphNames n) b_turnoutlaw15_GraphNames_4 := ⟨trivial, ⟨⟨trivial, trivial⟩, ⟨⟨trivial, ⟨trivial, ⟨⟨trivial, trivial⟩, trivial⟩⟩⟩, trivial⟩⟩⟩
  refine loopT_ok hb (V_turnoutlaw15_GraphNames_4 n) (t_turnoutlaw15_GraphNames_4 n) n s K r ?_
  rw [← h]
  unfold loopT
  simp only [i_turnoutlaw15_GraphNames_4]
noncomputable def b_turnoutlaw15_GraphNames_6 : Code := partOf (bodyOf Try.f3) [1, 1, 1, 1, 1, 1, 1, 0, 1, 0, 0]
theorem t_turnoutlaw15_GraphNames_6 (n : Nat) (K : Cont) (rec : Sig.sem s_turnoutlaw15_GraphNames_h6 → Option Res) (v : Sig.sem s_turnoutlaw15_GraphNames_h6) : runT Try.prog cf_turnoutlaw15_GraphNames Try.f3.ntmps 0 p_turnoutlaw15_GraphNames (ls_turnoutlaw15_GraphNames n) b_turnoutlaw15_GraphNames_6 (s_turnoutlaw15_GraphNames_h6.enc v) (turnK 0 (p_turnoutlaw15_GraphNames.head 6) s_turnoutlaw15_GraphNames_h6 rec K) = F_turnoutlaw15_GraphNames_6 n (fun z0 z1 => K (.ex 6) (s_turnoutlaw15_GraphNames_t6.enc ((z0, ()), (z1, ())))) (fun z0 z1 z2 => rec ((z0, (z1, ())), (z2, ()))) v.1.1 v.1.2.1 v.2.1 := by kernel_rfl
noncomputable def V_turnoutlaw15_GraphNames_6 (n : Nat) (K : Cont) (rec : Sig.sem s_turnoutlaw15_GraphNames_h6 → Option Res) (v : Sig.sem s_turnoutlaw15_GraphNames_h6) : Option Res := F_turnoutlaw15_GraphNames_6 n (fun z0 z1 => K (.ex 6) (s_turnoutlaw15_GraphNames_t6.enc ((z0, ()), (z1, ())))) (fun z0 z1 z2 => rec ((z0, (z1, ())), (z2, ()))) v.1.1 v.1.2.1 v.2.1
noncomputable def W_turnoutlaw15_GraphNames_6 (n : Nat) (K : Cont) (m : Nat) (v : Sig.sem s_turnoutlaw15_GraphNames_h6) : Option Res := L_turnoutlaw15_GraphNames_6 n (fun z0 z1 => K (.ex 6) (s_turnoutlaw15_GraphNames_t6.enc ((z0, ()), (z1, ())))) m v.1.1 v.1.2.1 v.2.1
theorem i_turnoutlaw15_GraphNames_6 (n : Nat) (K : Cont) : ∀ m v, iter (V_turnoutlaw15_GraphNames_6 n K) m v = W_turnoutlaw15_GraphNames_6 n K m v := by
  intro m
  induction m with
  | zero => intro v; rfl
  | succ m ih =>
    intro v
    show V_turnoutlaw15_GraphNames_6 n K (iter (V_turnoutlaw15_GraphNames_6 n K) m) v = V_turnoutlaw15_GraphNames_6 n K (W_turnoutlaw15_GraphNames_6 n K m) v
    rw [show iter (V_turnoutlaw15_GraphNames_6 n K) m = W_turnoutlaw15_GraphNames_6 n K m from funext ih]
theorem o_turnoutlaw15_GraphNames_6 (n : Nat) : ∀ L, ls_turnoutlaw15_GraphNames n 6 = some L → ∀ s K r, L s K = some r → ∃ x s', loopN (run Try.prog cf_turnoutlaw15_GraphNames Try.f3.ntmps 0 n p_turnoutlaw15_GraphNames none b_turnoutlaw15_GraphNames_6) (gc 0 (p_turnoutlaw15_GraphNames.head 6)) n s = some (x, s') ∧ K x s' = some r := by
  intro L hL s K r h
  have hL : some (loopT 0 (p_turnoutlaw15_GraphNames.head 6) s_turnoutlaw15_GraphNames_h6 fun K v => W_turnoutlaw15_GraphNames_6 n K n v) = some L := hL
  cases hL
  have hb : LOk Try.prog cf_turnoutlaw15_GraphNames Try.f3.ntmps 0 n p_turnoutlaw15_GraphNames (ls_turnoutlaw15_GraphNames n) b_turnoutlaw15_GraphNames_6 := ⟨⟨trivial, ⟨trivial, trivial⟩⟩, ⟨trivial, trivial⟩⟩
  refine loopT_ok hb (V_turnoutlaw15_GraphNames_6 n) (t_turnoutlaw15_GraphNames_6 n) n s K r ?_
  rw [← h]
  unfold loopT
  simp only [i_turnoutlaw15_GraphNames_6]
theorem m_turnoutlaw15_GraphNames (n : Nat) : runFT Try.prog cf_turnoutlaw15_GraphNames p_turnoutlaw15_GraphNames (ls_turnoutlaw15_GraphNames n) Try.f3 (bodyOf Try.f3) (EK.encs e_turnoutlaw15_GraphNames ((), ()).1) (HK.encs h_turnoutlaw15_GraphNames ((), ()).2) = M_turnoutlaw15_GraphNames n := by kernel_rfl
theorem g_turnoutlaw15_GraphNames (n : Nat) {r : Res} (h : M_turnoutlaw15_GraphNames n = some r) : runF Try.prog cf_turnoutlaw15_GraphNames n p_turnoutlaw15_GraphNames 3 (EK.encs e_turnoutlaw15_GraphNames ((), ()).1) (HK.encs h_turnoutlaw15_GraphNames ((), ()).2) = some r := by
  have hb : LOk Try.prog cf_turnoutlaw15_GraphNames Try.f3.ntmps 0 n p_turnoutlaw15_GraphNames (ls_turnoutlaw15_GraphNames n) (bodyOf Try.f3) := ⟨trivial, ⟨⟨trivial, ⟨⟨trivial, trivial⟩, trivial⟩⟩, ⟨trivial, ⟨⟨trivial, (o_turnoutlaw15_GraphNames_0 n)⟩, ⟨⟨trivial, (o_turnoutlaw15_GraphNames_2 n)⟩, ⟨⟨trivial, (o_turnoutlaw15_GraphNames_4 n)⟩, ⟨trivial, ⟨⟨trivial, (o_turnoutlaw15_GraphNames_6 n)⟩, ⟨⟨trivial, ⟨⟨trivial, trivial⟩, trivial⟩⟩, ⟨trivial, ⟨⟨trivial, ⟨⟨trivial, trivial⟩, trivial⟩⟩, ⟨trivial, ⟨⟨trivial, ⟨⟨trivial, trivial⟩, trivial⟩⟩, ⟨trivial, trivial⟩⟩⟩⟩⟩⟩⟩⟩⟩⟩⟩⟩⟩⟩
  exact runFT_some Try.prog (c := bodyOf Try.f3) Try.func3 (show Try.f3.body = some (bodyOf Try.f3) from rfl) (show (0 : Nat) ≤ 194 by decide) hb ((m_turnoutlaw15_GraphNames n).trans h)
noncomputable def c_turnoutlaw15_GraphNames : Spec := specQ e_turnoutlaw15_GraphNames h_turnoutlaw15_GraphNames ro_turnoutlaw15_GraphNames rh_turnoutlaw15_GraphNames fun a b => Q_turnoutlaw15_GraphNames
theorem k_turnoutlaw15_GraphNames (hm : Try.prog.follows .mixedOrders = true) : SpecOk Try.prog 3 c_turnoutlaw15_GraphNames := specQ_ok (pol := p_turnoutlaw15_GraphNames) hm (cf := cf_turnoutlaw15_GraphNames) (tab_ok (specs_cons (k_turnoutlaw15_awake hm) (specs_cons (k_graph_Form hm) (specs_cons (k_graph_May hm) (specs_cons (k_graph_Longest hm) (specs_cons (k_graph_Next hm) specs_nil)))))) fun a b r h => ⟨FUEL, g_turnoutlaw15_GraphNames FUEL (decRes_some h)⟩
def s_turnoutlaw15_Long_h0 : Sig := ⟨[0, 3, 4], [.ty (.slice NodeT), .ty (.int .i64), .ty (.int .i64)], []⟩
def s_turnoutlaw15_Long_t0 : Sig := ⟨[3], [.ty (.int .i64)], []⟩
def s_turnoutlaw15_Long_r : Sig := ⟨[2], [.ty .bool], []⟩
def p_turnoutlaw15_Long : Pol := ⟨fun i => if i = 0 then some [(0, .keep), (3, .keep), (4, .keep)] else none, fun i => if i = 0 then some [(3, .keep)] else none, some [(2, .keep)], [.keep]⟩
def e_turnoutlaw15_Long : List EK := [.ty (.slice NodeT)]
def h_turnoutlaw15_Long : List HK := []
noncomputable def cf_turnoutlaw15_Long : CallF := mkCF [] []
noncomputable def ls_turnoutlaw15_Long (n : Nat) : Loops := fun i => if i = 0 then some (loopT 0 (p_turnoutlaw15_Long.head 0) s_turnoutlaw15_Long_h0 fun K v => L_turnoutlaw15_Long_0 n (fun z0 => K (.ex 0) (s_turnoutlaw15_Long_t0.enc ((z0, ()), ()))) v.1.1 n v.1.2.1 v.1.2.2.1)
  else  none
noncomputable def b_turnoutlaw15_Long_0 : Code := partOf (bodyOf Try.f14) [1, 1, 0, 1, 0, 0]
theorem t_turnoutlaw15_Long_0 (n : Nat) (K : Cont) (rec : Sig.sem s_turnoutlaw15_Long_h0 → Option Res) (v : Sig.sem s_turnoutlaw15_Long_h0) : runT Try.prog cf_turnoutlaw15_Long Try.f14.ntmps 0 p_turnoutlaw15_Long (ls_turnoutlaw15_Long n) b_turnoutlaw15_Long_0 (s_turnoutlaw15_Long_h0.enc v) (turnK 0 (p_turnoutlaw15_Long.head 0) s_turnoutlaw15_Long_h0 rec K) = F_turnoutlaw15_Long_0 n (fun z0 => K (.ex 0) (s_turnoutlaw15_Long_t0.enc ((z0, ()), ()))) v.1.1 (fun z1 z2 => rec ((v.1.1, (z1, (z2, ()))), ())) v.1.2.1 v.1.2.2.1 := by kernel_rfl
noncomputable def V_turnoutlaw15_Long_0 (n : Nat) (K : Cont) (rec : Sig.sem s_turnoutlaw15_Long_h0 → Option Res) (v : Sig.sem s_turnoutlaw15_Long_h0) : Option Res := F_turnoutlaw15_Long_0 n (fun z0 => K (.ex 0) (s_turnoutlaw15_Long_t0.enc ((z0, ()), ()))) v.1.1 (fun z1 z2 => rec ((v.1.1, (z1, (z2, ()))), ())) v.1.2.1 v.1.2.2.1
noncomputable def W_turnoutlaw15_Long_0 (n : Nat) (K : Cont) (m : Nat) (v : Sig.sem s_turnoutlaw15_Long_h0) : Option Res := L_turnoutlaw15_Long_0 n (fun z0 => K (.ex 0) (s_turnoutlaw15_Long_t0.enc ((z0, ()), ()))) v.1.1 m v.1.2.1 v.1.2.2.1
theorem i_turnoutlaw15_Long_0 (n : Nat) (K : Cont) : ∀ m v, iter (V_turnoutlaw15_Long_0 n K) m v = W_turnoutlaw15_Long_0 n K m v := by
  intro m
  induction m with
  | zero => intro v; rfl
  | succ m ih =>
    intro v
    show V_turnoutlaw15_Long_0 n K (iter (V_turnoutlaw15_Long_0 n K) m) v = V_turnoutlaw15_Long_0 n K (W_turnoutlaw15_Long_0 n K m) v
    rw [show iter (V_turnoutlaw15_Long_0 n K) m = W_turnoutlaw15_Long_0 n K m from funext ih]
theorem o_turnoutlaw15_Long_0 (n : Nat) : ∀ L, ls_turnoutlaw15_Long n 0 = some L → ∀ s K r, L s K = some r → ∃ x s', loopN (run Try.prog cf_turnoutlaw15_Long Try.f14.ntmps 0 n p_turnoutlaw15_Long none b_turnoutlaw15_Long_0) (gc 0 (p_turnoutlaw15_Long.head 0)) n s = some (x, s') ∧ K x s' = some r := by
  intro L hL s K r h
  have hL : some (loopT 0 (p_turnoutlaw15_Long.head 0) s_turnoutlaw15_Long_h0 fun K v => W_turnoutlaw15_Long_0 n K n v) = some L := hL
  cases hL
  have hb : LOk Try.prog cf_turnoutlaw15_Long Try.f14.ntmps 0 n p_turnoutlaw15_Long (ls_turnoutlaw15_Long n) b_turnoutlaw15_Long_0 := ⟨⟨trivial, ⟨trivial, trivial⟩⟩, ⟨trivial, trivial⟩⟩
  refine loopT_ok hb (V_turnoutlaw15_Long_0 n) (t_turnoutlaw15_Long_0 n) n s K r ?_
  rw [← h]
  unfold loopT
  simp only [i_turnoutlaw15_Long_0]
theorem m_turnoutlaw15_Long (n : Nat) (a0 : (List NodeS)) : runFT Try.prog cf_turnoutlaw15_Long p_turnoutlaw15_Long (ls_turnoutlaw15_Long n) Try.f14 (bodyOf Try.f14) (EK.encs e_turnoutlaw15_Long ((a0, ()), ()).1) (HK.encs h_turnoutlaw15_Long ((a0, ()), ()).2) = M_turnoutlaw15_Long n a0 := by kernel_rfl
theorem g_turnoutlaw15_Long (n : Nat) (a0 : (List NodeS)) {r : Res} (h : M_turnoutlaw15_Long n a0 = some r) : runF Try.prog cf_turnoutlaw15_Long n p_turnoutlaw15_Long 14 (EK.encs e_turnoutlaw15_Long ((a0, ()), ()).1) (HK.encs h_turnoutlaw15_Long ((a0, ()), ()).2) = some r := by
  have hb : LOk Try.prog cf_turnoutlaw15_Long Try.f14.ntmps 0 n p_turnoutlaw15_Long (ls_turnoutlaw15_Long n) (bodyOf Try.f14) := ⟨trivial, ⟨trivial, ⟨⟨trivial, (o_turnoutlaw15_Long_0 n)⟩, ⟨trivial, trivial⟩⟩⟩⟩
  exact runFT_some Try.prog (c := bodyOf Try.f14) Try.func14 (show Try.f14.body = some (bodyOf Try.f14) from rfl) (show (1 : Nat) ≤ 27 by decide) hb ((m_turnoutlaw15_Long n a0).trans h)
noncomputable def c_turnoutlaw15_Long : Spec := specQ e_turnoutlaw15_Long h_turnoutlaw15_Long ro_turnoutlaw15_Long rh_turnoutlaw15_Long fun a b => Q_turnoutlaw15_Long a.1
theorem k_turnoutlaw15_Long (hm : Try.prog.follows .mixedOrders = true) : SpecOk Try.prog 14 c_turnoutlaw15_Long := specQ_ok (pol := p_turnoutlaw15_Long) hm (cf := cf_turnoutlaw15_Long) (tab_ok specs_nil) fun a b r h => ⟨FUEL, g_turnoutlaw15_Long FUEL a.1 (decRes_some h)⟩
def s_turnoutref15_Form_r : Sig := ⟨[2], [.ty .bool], []⟩
def s_turnoutref15_Form_h0 : Sig := ⟨[1, 3, 4], [.ptr 0 0 0, .ty (.int .u64), .ty (.int .i64)], [.cell NodeT]⟩
def s_turnoutref15_Form_t0 : Sig := ⟨[1, 3], [.ptr 0 0 0, .ty (.int .u64)], [.cell NodeT]⟩
def s_turnoutref15_Form_h2 : Sig := ⟨[1, 3, 5], [.ptr 0 0 0, .ty (.int .u64), .ty (.int .i64)], [.cell NodeT]⟩
def s_turnoutref15_Form_t2 : Sig := ⟨[], [], []⟩
def p_turnoutref15_Form : Pol := ⟨fun i => if i = 0 then some [(1, (.own NodeT)), (3, .keep), (4, .keep)] else if i = 2 then some [(1, (.own NodeT)), (3, .keep), (5, .keep)] else none, fun i => if i = 0 then some [(1, (.own NodeT)), (3, .keep)] else if i = 2 then some [] else none, some [(2, .keep)], [.keep]⟩
def e_turnoutref15_Form : List EK := [.agg NodeT]
def h_turnoutref15_Form : List HK := []
noncomputable def cf_turnoutref15_Form : CallF := mkCF [] []
noncomputable def ls_turnoutref15_Form (n : Nat) : Loops := fun i => if i = 0 then some (loopT 0 (p_turnoutref15_Form.head 0) s_turnoutref15_Form_h0 fun K v => L_turnoutref15_Form_0 n (fun z0 => K (.ex 0) (s_turnoutref15_Form_t0.enc (((), (z0, ())), (v.2.1, ())))) v.2.1 n v.1.2.1 v.1.2.2.1)
  else if i = 2 then some (loopT 0 (p_turnoutref15_Form.head 2) s_turnoutref15_Form_h2 fun K v => L_turnoutref15_Form_2 n (fun z0 => K .rt (s_turnoutref15_Form_r.enc ((z0, ()), ()))) (fun _ => K (.ex 2) (s_turnoutref15_Form_t2.enc ((), ()))) v.1.2.1 v.2.1 n v.1.2.2.1)
  else  none
noncomputable def b_turnoutref15_Form_0 : Code := partOf (bodyOf Try.f15) [1, 1, 1, 1, 1, 0, 1, 0, 0]
theorem t_turnoutref15_Form_0 (n : Nat) (K : Cont) (rec : Sig.sem s_turnoutref15_Form_h0 → Option Res) (v : Sig.sem s_turnoutref15_Form_h0) : runT Try.prog cf_turnoutref15_Form Try.f15.ntmps 0 p_turnoutref15_Form (ls_turnoutref15_Form n) b_turnoutref15_Form_0 (s_turnoutref15_Form_h0.enc v) (turnK 0 (p_turnoutref15_Form.head 0) s_turnoutref15_Form_h0 rec K) = F_turnoutref15_Form_0 n (fun z0 => K (.ex 0) (s_turnoutref15_Form_t0.enc (((), (z0, ())), (v.2.1, ())))) v.2.1 (fun z0 z1 => rec (((), (z0, (z1, ()))), (v.2.1, ()))) v.1.2.1 v.1.2.2.1 := by kernel_rfl
noncomputable def V_turnoutref15_Form_0 (n : Nat) (K : Cont) (rec : Sig.sem s_turnoutref15_Form_h0 → Option Res) (v : Sig.sem s_turnoutref15_Form_h0) : Option Res := F_turnoutref15_Form_0 n (fun z0 => K (.ex 0) (s_turnoutref15_Form_t0.enc (((), (z0, ())), (v.2.1, ())))) v.2.1 (fun z0 z1 => rec (((), (z0, (z1, ()))), (v.2.1, ()))) v.1.2.1 v.1.2.2.1
noncomputable def W_turnoutref15_Form_0 (n : Nat) (K : Cont) (m : Nat) (v : Sig.sem s_turnoutref15_Form_h0) : Option Res := L_turnoutref15_Form_0 n (fun z0 => K (.ex 0) (s_turnoutref15_Form_t0.enc (((), (z0, ())), (v.2.1, ())))) v.2.1 m v.1.2.1 v.1.2.2.1
theorem i_turnoutref15_Form_0 (n : Nat) (K : Cont) : ∀ m v, iter (V_turnoutref15_Form_0 n K) m v = W_turnoutref15_Form_0 n K m v := by
  intro m
  induction m with
  | zero => intro v; rfl
  | succ m ih =>
    intro v
    show V_turnoutref15_Form_0 n K (iter (V_turnoutref15_Form_0 n K) m) v = V_turnoutref15_Form_0 n K (W_turnoutref15_Form_0 n K m) v
    rw [show iter (V_turnoutref15_Form_0 n K) m = W_turnoutref15_Form_0 n K m from funext ih]
theorem o_turnoutref15_Form_0 (n : Nat) : ∀ L, ls_turnoutref15_Form n 0 = some L → ∀ s K r, L s K = some r → ∃ x s', loopN (run Try.prog cf_turnoutref15_Form Try.f15.ntmps 0 n p_turnoutref15_Form none b_turnoutref15_Form_0) (gc 0 (p_turnoutref15_Form.head 0)) n s = some (x, s') ∧ K x s' = some r := by
  intro L hL s K r h
  have hL : some (loopT 0 (p_turnoutref15_Form.head 0) s_turnoutref15_Form_h0 fun K v => W_turnoutref15_Form_0 n K n v) = some L := hL
  cases hL
  have hb : LOk Try.prog cf_turnoutref15_Form Try.f15.ntmps 0 n p_turnoutref15_Form (ls_turnoutref15_Form n) b_turnoutref15_Form_0 := ⟨⟨trivial, ⟨trivial, trivial⟩⟩, ⟨trivial, trivial⟩⟩
  refine loopT_ok hb (V_turnoutref15_Form_0 n) (t_turnoutref15_Form_0 n) n s K r ?_
  rw [← h]
  unfold loopT
  simp only [i_turnoutref15_Form_0]
noncomputable def b_turnoutref15_Form_2 : Code := partOf (bodyOf Try.f15) [1, 1, 1, 1, 1, 1, 0, 1, 0, 0]
theorem t_turnoutref15_Form_2 (n : Nat) (K : Cont) (rec : Sig.sem s_turnoutref15_Form_h2 → Option Res) (v : Sig.sem s_turnoutref15_Form_h2) : runT Try.prog cf_turnoutref15_Form Try.f15.ntmps 0 p_turnoutref15_Form (ls_turnoutref15_Form n) b_turnoutref15_Form_2 (s_turnoutref15_Form_h2.enc v) (turnK 0 (p_turnoutref15_Form.head 2) s_turnoutref15_Form_h2 rec K) = F_turnoutref15_Form_2 n (fun z0 => K .rt (s_turnoutref15_Form_r.enc ((z0, ()), ()))) (fun _ => K (.ex 2) (s_turnoutref15_Form_t2.enc ((), ()))) v.1.2.1 v.2.1 (fun z1 => rec (((), (v.1.2.1, (z1, ()))), (v.2.1, ()))) v.1.2.2.1 := by kernel_rfl
noncomputable def V_turnoutref15_Form_2 (n : Nat) (K : Cont) (rec : Sig.sem s_turnoutref15_Form_h2 → Option Res) (v : Sig.sem s_turnoutref15_Form_h2) : Option Res := F_turnoutref15_Form_2 n (fun z0 => K .rt (s_turnoutref15_Form_r.enc ((z0, ()), ()))) (fun _ => K (.ex 2) (s_turnoutref15_Form_t2.enc ((), ()))) v.1.2.1 v.2.1 (fun z1 => rec (((), (v.1.2.1, (z1, ()))), (v.2.1, ()))) v.1.2.2.1
noncomputable def W_turnoutref15_Form_2 (n : Nat) (K : Cont) (m : Nat) (v : Sig.sem s_turnoutref15_Form_h2) : Option Res := L_turnoutref15_Form_2 n (fun z0 => K .rt (s_turnoutref15_Form_r.enc ((z0, ()), ()))) (fun _ => K (.ex 2) (s_turnoutref15_Form_t2.enc ((), ()))) v.1.2.1 v.2.1 m v.1.2.2.1
theorem i_turnoutref15_Form_2 (n : Nat) (K : Cont) : ∀ m v, iter (V_turnoutref15_Form_2 n K) m v = W_turnoutref15_Form_2 n K m v := by
  intro m
  induction m with
  | zero => intro v; rfl
  | succ m ih =>
    intro v
    show V_turnoutref15_Form_2 n K (iter (V_turnoutref15_Form_2 n K) m) v = V_turnoutref15_Form_2 n K (W_turnoutref15_Form_2 n K m) v
    rw [show iter (V_turnoutref15_Form_2 n K) m = W_turnoutref15_Form_2 n K m from funext ih]
theorem o_turnoutref15_Form_2 (n : Nat) : ∀ L, ls_turnoutref15_Form n 2 = some L → ∀ s K r, L s K = some r → ∃ x s', loopN (run Try.prog cf_turnoutref15_Form Try.f15.ntmps 0 n p_turnoutref15_Form none b_turnoutref15_Form_2) (gc 0 (p_turnoutref15_Form.head 2)) n s = some (x, s') ∧ K x s' = some r := by
  intro L hL s K r h
  have hL : some (loopT 0 (p_turnoutref15_Form.head 2) s_turnoutref15_Form_h2 fun K v => W_turnoutref15_Form_2 n K n v) = some L := hL
  cases hL
  have hb : LOk Try.prog cf_turnoutref15_Form Try.f15.ntmps 0 n p_turnoutref15_Form (ls_turnoutref15_Form n) b_turnoutref15_Form_2 := ⟨⟨trivial, ⟨trivial, trivial⟩⟩, ⟨⟨trivial, ⟨trivial, ⟨⟨trivial, trivial⟩, trivial⟩⟩⟩, trivial⟩⟩
  refine loopT_ok hb (V_turnoutref15_Form_2 n) (t_turnoutref15_Form_2 n) n s K r ?_
  rw [← h]
  unfold loopT
  simp only [i_turnoutref15_Form_2]
theorem m_turnoutref15_Form (n : Nat) (a0 : NodeS) : runFT Try.prog cf_turnoutref15_Form p_turnoutref15_Form (ls_turnoutref15_Form n) Try.f15 (bodyOf Try.f15) (EK.encs e_turnoutref15_Form ((a0, ()), ()).1) (HK.encs h_turnoutref15_Form ((a0, ()), ()).2) = M_turnoutref15_Form n a0 := by kernel_rfl
theorem g_turnoutref15_Form (n : Nat) (a0 : NodeS) {r : Res} (h : M_turnoutref15_Form n a0 = some r) : runF Try.prog cf_turnoutref15_Form n p_turnoutref15_Form 15 (EK.encs e_turnoutref15_Form ((a0, ()), ()).1) (HK.encs h_turnoutref15_Form ((a0, ()), ()).2) = some r := by
  have hb : LOk Try.prog cf_turnoutref15_Form Try.f15.ntmps 0 n p_turnoutref15_Form (ls_turnoutref15_Form n) (bodyOf Try.f15) := ⟨trivial, ⟨⟨trivial, ⟨⟨trivial, trivial⟩, trivial⟩⟩, ⟨⟨trivial, ⟨⟨trivial, trivial⟩, trivial⟩⟩, ⟨⟨trivial, ⟨⟨trivial, trivial⟩, trivial⟩⟩, ⟨trivial, ⟨⟨trivial, (o_turnoutref15_Form_0 n)⟩, ⟨⟨trivial, (o_turnoutref15_Form_2 n)⟩, ⟨trivial, trivial⟩⟩⟩⟩⟩⟩⟩⟩
  exact runFT_some Try.prog (c := bodyOf Try.f15) Try.func15 (show Try.f15.body = some (bodyOf Try.f15) from rfl) (show (1 : Nat) ≤ 179 by decide) hb ((m_turnoutref15_Form n a0).trans h)
noncomputable def c_turnoutref15_Form : Spec := specQ e_turnoutref15_Form h_turnoutref15_Form ro_turnoutref15_Form rh_turnoutref15_Form fun a b => Q_turnoutref15_Form a.1
theorem k_turnoutref15_Form (hm : Try.prog.follows .mixedOrders = true) : SpecOk Try.prog 15 c_turnoutref15_Form := specQ_ok (pol := p_turnoutref15_Form) hm (cf := cf_turnoutref15_Form) (tab_ok specs_nil) fun a b r h => ⟨FUEL, g_turnoutref15_Form FUEL a.1 (decRes_some h)⟩
def s_turnoutlaw15_GraphForms_r : Sig := ⟨[2], [.ty .bool], []⟩
def p_turnoutlaw15_GraphForms : Pol := ⟨fun i => none, fun i => none, some [(2, .keep)], [.keep]⟩
def e_turnoutlaw15_GraphForms : List EK := [.agg NodeT]
def h_turnoutlaw15_GraphForms : List HK := []
noncomputable def cf_turnoutlaw15_GraphForms : CallF := mkCF [(14, c_turnoutlaw15_Long), (9, c_turnoutlaw15_awake), (10, c_graph_Form), (15, c_turnoutref15_Form)] [(14, [(.slice NodeT)]), (9, []), (10, [NodeT]), (15, [NodeT])]
noncomputable def ls_turnoutlaw15_GraphForms (n : Nat) : Loops := fun i =>  none
theorem m_turnoutlaw15_GraphForms (n : Nat) (a0 : NodeS) : runFT Try.prog cf_turnoutlaw15_GraphForms p_turnoutlaw15_GraphForms (ls_turnoutlaw15_GraphForms n) Try.f4 (bodyOf Try.f4) (EK.encs e_turnoutlaw15_GraphForms ((a0, ()), ()).1) (HK.encs h_turnoutlaw15_GraphForms ((a0, ()), ()).2) = M_turnoutlaw15_GraphForms n a0 := by kernel_rfl
theorem g_turnoutlaw15_GraphForms (n : Nat) (a0 : NodeS) {r : Res} (h : M_turnoutlaw15_GraphForms n a0 = some r) : runF Try.prog cf_turnoutlaw15_GraphForms n p_turnoutlaw15_GraphForms 4 (EK.encs e_turnoutlaw15_GraphForms ((a0, ()), ()).1) (HK.encs h_turnoutlaw15_GraphForms ((a0, ()), ()).2) = some r := by
  have hb : LOk Try.prog cf_turnoutlaw15_GraphForms Try.f4.ntmps 0 n p_turnoutlaw15_GraphForms (ls_turnoutlaw15_GraphForms n) (bodyOf Try.f4) := ⟨trivial, ⟨⟨trivial, ⟨⟨trivial, trivial⟩, trivial⟩⟩, ⟨trivial, trivial⟩⟩⟩
  exact runFT_some Try.prog (c := bodyOf Try.f4) Try.func4 (show Try.f4.body = some (bodyOf Try.f4) from rfl) (show (1 : Nat) ≤ 15 by decide) hb ((m_turnoutlaw15_GraphForms n a0).trans h)
noncomputable def c_turnoutlaw15_GraphForms : Spec := specQ e_turnoutlaw15_GraphForms h_turnoutlaw15_GraphForms ro_turnoutlaw15_GraphForms rh_turnoutlaw15_GraphForms fun a b => Q_turnoutlaw15_GraphForms a.1
theorem k_turnoutlaw15_GraphForms (hm : Try.prog.follows .mixedOrders = true) : SpecOk Try.prog 4 c_turnoutlaw15_GraphForms := specQ_ok (pol := p_turnoutlaw15_GraphForms) hm (cf := cf_turnoutlaw15_GraphForms) (tab_ok (specs_cons (k_turnoutlaw15_Long hm) (specs_cons (k_turnoutlaw15_awake hm) (specs_cons (k_graph_Form hm) (specs_cons (k_turnoutref15_Form hm) specs_nil))))) fun a b r h => ⟨FUEL, g_turnoutlaw15_GraphForms FUEL a.1 (decRes_some h)⟩
def s_turnoutref15_Goes_h0 : Sig := ⟨[1, 3, 4], [.ptr 0 0 0, .hs 1 0, .ty (.int .i64)], [.cell NodeT, .row (.int .i64)]⟩
def s_turnoutref15_Goes_t0 : Sig := ⟨[1, 3], [.ptr 0 0 0, .hs 1 0], [.cell NodeT, .row (.int .i64)]⟩
def s_turnoutref15_Goes_r : Sig := ⟨[2], [.hs 0 0], [.row (.int .i64)]⟩
def p_turnoutref15_Goes : Pol := ⟨fun i => if i = 0 then some [(1, (.own NodeT)), (3, (.own (.int .i64))), (4, .keep)] else none, fun i => if i = 0 then some [(1, (.own NodeT)), (3, (.own (.int .i64)))] else none, some [(2, (.own (.int .i64)))], [(.own (.int .i64))]⟩
def e_turnoutref15_Goes : List EK := [.agg NodeT]
def h_turnoutref15_Goes : List HK := []
noncomputable def cf_turnoutref15_Goes : CallF := mkCF [] []
noncomputable def ls_turnoutref15_Goes (n : Nat) : Loops := fun i => if i = 0 then some (loopT 0 (p_turnoutref15_Goes.head 0) s_turnoutref15_Goes_h0 fun K v => L_turnoutref15_Goes_0 n (fun z0 z2 => K (.ex 0) (s_turnoutref15_Goes_t0.enc (((), (z0, ())), (v.2.1, (z2, ()))))) v.2.1 n v.1.2.1 v.1.2.2.1 v.2.2.1)
  else  none
noncomputable def b_turnoutref15_Goes_0 : Code := partOf (bodyOf Try.f19) [1, 1, 0, 1, 0, 0]
theorem t_turnoutref15_Goes_0 (n : Nat) (K : Cont) (rec : Sig.sem s_turnoutref15_Goes_h0 → Option Res) (v : Sig.sem s_turnoutref15_Goes_h0) : runT Try.prog cf_turnoutref15_Goes Try.f19.ntmps 0 p_turnoutref15_Goes (ls_turnoutref15_Goes n) b_turnoutref15_Goes_0 (s_turnoutref15_Goes_h0.enc v) (turnK 0 (p_turnoutref15_Goes.head 0) s_turnoutref15_Goes_h0 rec K) = F_turnoutref15_Goes_0 n (fun z0 z2 => K (.ex 0) (s_turnoutref15_Goes_t0.enc (((), (z0, ())), (v.2.1, (z2, ()))))) v.2.1 (fun z0 z1 z3 => rec (((), (z0, (z1, ()))), (v.2.1, (z3, ())))) v.1.2.1 v.1.2.2.1 v.2.2.1 := by kernel_rfl
noncomputable def V_turnoutref15_Goes_0 (n : Nat) (K : Cont) (rec : Sig.sem s_turnoutref15_Goes_h0 → Option Res) (v : Sig.sem s_turnoutref15_Goes_h0) : Option Res := F_turnoutref15_Goes_0 n (fun z0 z2 => K (.ex 0) (s_turnoutref15_Goes_t0.enc (((), (z0, ())), (v.2.1, (z2, ()))))) v.2.1 (fun z0 z1 z3 => rec (((), (z0, (z1, ()))), (v.2.1, (z3, ())))) v.1.2.1 v.1.2.2.1 v.2.2.1
noncomputable def W_turnoutref15_Goes_0 (n : Nat) (K : Cont) (m : Nat) (v : Sig.sem s_turnoutref15_Goes_h0) : Option Res := L_turnoutref15_Goes_0 n (fun z0 z2 => K (.ex 0) (s_turnoutref15_Goes_t0.enc (((), (z0, ())), (v.2.1, (z2, ()))))) v.2.1 m v.1.2.1 v.1.2.2.1 v.2.2.1
theorem i_turnoutref15_Goes_0 (n : Nat) (K : Cont) : ∀ m v, iter (V_turnoutref15_Goes_0 n K) m v = W_turnoutref15_Goes_0 n K m v := by
  intro m
  induction m with
  | zero => intro v; rfl
  | succ m ih =>
    intro v
    show V_turnoutref15_Goes_0 n K (iter (V_turnoutref15_Goes_0 n K) m) v = V_turnoutref15_Goes_0 n K (W_turnoutref15_Goes_0 n K m) v
    rw [show iter (V_turnoutref15_Goes_0 n K) m = W_turnoutref15_Goes_0 n K m from funext ih]
theorem o_turnoutref15_Goes_0 (n : Nat) : ∀ L, ls_turnoutref15_Goes n 0 = some L → ∀ s K r, L s K = some r → ∃ x s', loopN (run Try.prog cf_turnoutref15_Goes Try.f19.ntmps 0 n p_turnoutref15_Goes none b_turnoutref15_Goes_0) (gc 0 (p_turnoutref15_Goes.head 0)) n s = some (x, s') ∧ K x s' = some r := by
  intro L hL s K r h
  have hL : some (loopT 0 (p_turnoutref15_Goes.head 0) s_turnoutref15_Goes_h0 fun K v => W_turnoutref15_Goes_0 n K n v) = some L := hL
  cases hL
  have hb : LOk Try.prog cf_turnoutref15_Goes Try.f19.ntmps 0 n p_turnoutref15_Goes (ls_turnoutref15_Goes n) b_turnoutref15_Goes_0 := ⟨⟨trivial, ⟨trivial, trivial⟩⟩, ⟨trivial, trivial⟩⟩
  refine loopT_ok hb (V_turnoutref15_Goes_0 n) (t_turnoutref15_Goes_0 n) n s K r ?_
  rw [← h]
  unfold loopT
  simp only [i_turnoutref15_Goes_0]
theorem m_turnoutref15_Goes (n : Nat) (a0 : NodeS) : runFT Try.prog cf_turnoutref15_Goes p_turnoutref15_Goes (ls_turnoutref15_Goes n) Try.f19 (bodyOf Try.f19) (EK.encs e_turnoutref15_Goes ((a0, ()), ()).1) (HK.encs h_turnoutref15_Goes ((a0, ()), ()).2) = M_turnoutref15_Goes n a0 := by kernel_rfl
theorem g_turnoutref15_Goes (n : Nat) (a0 : NodeS) {r : Res} (h : M_turnoutref15_Goes n a0 = some r) : runF Try.prog cf_turnoutref15_Goes n p_turnoutref15_Goes 19 (EK.encs e_turnoutref15_Goes ((a0, ()), ()).1) (HK.encs h_turnoutref15_Goes ((a0, ()), ()).2) = some r := by
  have hb : LOk Try.prog cf_turnoutref15_Goes Try.f19.ntmps 0 n p_turnoutref15_Goes (ls_turnoutref15_Goes n) (bodyOf Try.f19) := ⟨trivial, ⟨trivial, ⟨⟨trivial, (o_turnoutref15_Goes_0 n)⟩, ⟨trivial, trivial⟩⟩⟩⟩
  exact runFT_some Try.prog (c := bodyOf Try.f19) Try.func19 (show Try.f19.body = some (bodyOf Try.f19) from rfl) (show (1 : Nat) ≤ 26 by decide) hb ((m_turnoutref15_Goes n a0).trans h)
noncomputable def c_turnoutref15_Goes : Spec := specQ e_turnoutref15_Goes h_turnoutref15_Goes ro_turnoutref15_Goes rh_turnoutref15_Goes fun a b => Q_turnoutref15_Goes a.1
theorem k_turnoutref15_Goes (hm : Try.prog.follows .mixedOrders = true) : SpecOk Try.prog 19 c_turnoutref15_Goes := specQ_ok (pol := p_turnoutref15_Goes) hm (cf := cf_turnoutref15_Goes) (tab_ok specs_nil) fun a b r h => ⟨FUEL, g_turnoutref15_Goes FUEL a.1 (decRes_some h)⟩
def s_turnoutlaw15_way_h0 : Sig := ⟨[0, 1, 6, 7, 8], [.ty (.slice NodeT), .ty (.slice (.int .u8)), .hs 0 0, .ty (.int .i64), .ty (.int .i64)], [.row (.int .i64)]⟩
def s_turnoutlaw15_way_r : Sig := ⟨[4, 5], [.ty (.int .i64), .ty (.int .i64)], []⟩
def s_turnoutlaw15_way_h2 : Sig := ⟨[0, 1, 6, 7, 8, 9, 11], [.ty (.slice NodeT), .ty (.slice (.int .u8)), .hs 0 0, .ty (.int .i64), .ty (.int .i64), .ptr 1 0 0, .ty (.int .i64)], [.row (.int .i64), .cell NodeT]⟩
def s_turnoutlaw15_way_t2 : Sig := ⟨[0, 1, 6, 7, 8, 9], [.ty (.slice NodeT), .ty (.slice (.int .u8)), .hs 0 0, .ty (.int .i64), .ty (.int .i64), .ptr 1 0 0], [.row (.int .i64), .cell NodeT]⟩
def s_turnoutlaw15_way_t0 : Sig := ⟨[7], [.ty (.int .i64)], []⟩
def p_turnoutlaw15_way : Pol := ⟨fun i => if i = 0 then some [(0, .keep), (1, .keep), (6, (.own (.int .i64))), (7, .keep), (8, .keep)] else if i = 2 then some [(0, .keep), (1, .keep), (6, (.own (.int .i64))), (7, .keep), (8, .keep), (9, (.own NodeT)), (11, .keep)] else none, fun i => if i = 2 then some [(0, .keep), (1, .keep), (6, (.own (.int .i64))), (7, .keep), (8, .keep), (9, (.own NodeT))] else if i = 0 then some [(7, .keep)] else none, some [(4, .keep), (5, .keep)], [.keep, .keep]⟩
def e_turnoutlaw15_way : List EK := [.ty (.slice NodeT), .ty (.slice (.int .u8))]
def h_turnoutlaw15_way : List HK := []
noncomputable def cf_turnoutlaw15_way : CallF := mkCF [(17, c_graph_Find), (19, c_turnoutref15_Goes)] [(17, [(.slice NodeT), (.int .i64)]), (19, [NodeT])]
noncomputable def ls_turnoutlaw15_way (n : Nat) : Loops := fun i => if i = 2 then some (loopT 0 (p_turnoutlaw15_way.head 2) s_turnoutlaw15_way_h2 fun K v => L_turnoutlaw15_way_2 n (fun z0 => K .rt (s_turnoutlaw15_way_r.enc ((z0, (v.1.2.2.2.1, ())), ()))) (fun _ => K (.ex 2) (s_turnoutlaw15_way_t2.enc ((v.1.1, (v.1.2.1, (v.1.2.2.1, (v.1.2.2.2.1, (v.1.2.2.2.2.1, ((), ())))))), (v.2.1, (v.2.2.1, ()))))) v.1.1 v.1.2.1 v.1.2.2.1 v.1.2.2.2.1 v.1.2.2.2.2.1 v.2.1 v.2.2.1 n v.1.2.2.2.2.2.2.1)
  else if i = 0 then some (loopT 0 (p_turnoutlaw15_way.head 0) s_turnoutlaw15_way_h0 fun K v => L_turnoutlaw15_way_0 n (fun z0 z1 => K .rt (s_turnoutlaw15_way_r.enc ((z0, (z1, ())), ()))) (fun z0 => K (.ex 0) (s_turnoutlaw15_way_t0.enc ((z0, ()), ()))) v.1.1 v.1.2.1 n v.1.2.2.1 v.1.2.2.2.1 v.1.2.2.2.2.1 v.2.1)
  else  none
noncomputable def b_turnoutlaw15_way_2 : Code := partOf (bodyOf Try.f16) [1, 1, 1, 0, 1, 0, 0, 1, 0, 0, 1, 1, 0, 1, 0, 0]
theorem t_turnoutlaw15_way_2 (n : Nat) (K : Cont) (rec : Sig.sem s_turnoutlaw15_way_h2 → Option Res) (v : Sig.sem s_turnoutlaw15_way_h2) : runT Try.prog cf_turnoutlaw15_way Try.f16.ntmps 0 p_turnoutlaw15_way (ls_turnoutlaw15_way n) b_turnoutlaw15_way_2 (s_turnoutlaw15_way_h2.enc v) (turnK 0 (p_turnoutlaw15_way.head 2) s_turnoutlaw15_way_h2 rec K) = F_turnoutlaw15_way_2 n (fun z0 => K .rt (s_turnoutlaw15_way_r.enc ((z0, (v.1.2.2.2.1, ())), ()))) (fun _ => K (.ex 2) (s_turnoutlaw15_way_t2.enc ((v.1.1, (v.1.2.1, (v.1.2.2.1, (v.1.2.2.2.1, (v.1.2.2.2.2.1, ((), ())))))), (v.2.1, (v.2.2.1, ()))))) v.1.1 v.1.2.1 v.1.2.2.1 v.1.2.2.2.1 v.1.2.2.2.2.1 v.2.1 v.2.2.1 (fun z5 => rec ((v.1.1, (v.1.2.1, (v.1.2.2.1, (v.1.2.2.2.1, (v.1.2.2.2.2.1, ((), (z5, ()))))))), (v.2.1, (v.2.2.1, ())))) v.1.2.2.2.2.2.2.1 := by kernel_rfl
noncomputable def V_turnoutlaw15_way_2 (n : Nat) (K : Cont) (rec : Sig.sem s_turnoutlaw15_way_h2 → Option Res) (v : Sig.sem s_turnoutlaw15_way_h2) : Option Res := F_turnoutlaw15_way_2 n (fun z0 => K .rt (s_turnoutlaw15_way_r.enc ((z0, (v.1.2.2.2.1, ())), ()))) (fun _ => K (.ex 2) (s_turnoutlaw15_way_t2.enc ((v.1.1, (v.1.2.1, (v.1.2.2.1, (v.1.2.2.2.1, (v.1.2.2.2.2.1, ((), ())))))), (v.2.1, (v.2.2.1, ()))))) v.1.1 v.1.2.1 v.1.2.2.1 v.1.2.2.2.1 v.1.2.2.2.2.1 v.2.1 v.2.2.1 (fun z5 => rec ((v.1.1, (v.1.2.1, (v.1.2.2.1, (v.1.2.2.2.1, (v.1.2.2.2.2.1, ((), (z5, ()))))))), (v.2.1, (v.2.2.1, ())))) v.1.2.2.2.2.2.2.1
noncomputable def W_turnoutlaw15_way_2 (n : Nat) (K : Cont) (m : Nat) (v : Sig.sem s_turnoutlaw15_way_h2) : Option Res := L_turnoutlaw15_way_2 n (fun z0 => K .rt (s_turnoutlaw15_way_r.enc ((z0, (v.1.2.2.2.1, ())), ()))) (fun _ => K (.ex 2) (s_turnoutlaw15_way_t2.enc ((v.1.1, (v.1.2.1, (v.1.2.2.1, (v.1.2.2.2.1, (v.1.2.2.2.2.1, ((), ())))))), (v.2.1, (v.2.2.1, ()))))) v.1.1 v.1.2.1 v.1.2.2.1 v.1.2.2.2.1 v.1.2.2.2.2.1 v.2.1 v.2.2.1 m v.1.2.2.2.2.2.2.1
theorem i_turnoutlaw15_way_2 (n : Nat) (K : Cont) : ∀ m v, iter (V_turnoutlaw15_way_2 n K) m v = W_turnoutlaw15_way_2 n K m v := by
  intro m
  induction m with
  | zero => intro v; rfl
  | succ m ih =>
    intro v
    show V_turnoutlaw15_way_2 n K (iter (V_turnoutlaw15_way_2 n K) m) v = V_turnoutlaw15_way_2 n K (W_turnoutlaw15_way_2 n K m) v
    rw [show iter (V_turnoutlaw15_way_2 n K) m = W_turnoutlaw15_way_2 n K m from funext ih]
theorem o_turnoutlaw15_way_2 (n : Nat) : ∀ L, ls_turnoutlaw15_way n 2 = some L → ∀ s K r, L s K = some r → ∃ x s', loopN (run Try.prog cf_turnoutlaw15_way Try.f16.ntmps 0 n p_turnoutlaw15_way none b_turnoutlaw15_way_2) (gc 0 (p_turnoutlaw15_way.head 2)) n s = some (x, s') ∧ K x s' = some r := by
  intro L hL s K r h
  have hL : some (loopT 0 (p_turnoutlaw15_way.head 2) s_turnoutlaw15_way_h2 fun K v => W_turnoutlaw15_way_2 n K n v) = some L := hL
  cases hL
  have hb : LOk Try.prog cf_turnoutlaw15_way Try.f16.ntmps 0 n p_turnoutlaw15_way (ls_turnoutlaw15_way n) b_turnoutlaw15_way_2 := ⟨⟨trivial, ⟨trivial, trivial⟩⟩, ⟨⟨trivial, ⟨⟨trivial, trivial⟩, trivial⟩⟩, trivial⟩⟩
  refine loopT_ok hb (V_turnoutlaw15_way_2 n) (t_turnoutlaw15_way_2 n) n s K r ?_
  rw [← h]
  unfold loopT
  simp only [i_turnoutlaw15_way_2]
noncomputable def b_turnoutlaw15_way_0 : Code := partOf (bodyOf Try.f16) [1, 1, 1, 0, 1, 0, 0]
theorem t_turnoutlaw15_way_0 (n : Nat) (K : Cont) (rec : Sig.sem s_turnoutlaw15_way_h0 → Option Res) (v : Sig.sem s_turnoutlaw15_way_h0) : runT Try.prog cf_turnoutlaw15_way Try.f16.ntmps 0 p_turnoutlaw15_way (ls_turnoutlaw15_way n) b_turnoutlaw15_way_0 (s_turnoutlaw15_way_h0.enc v) (turnK 0 (p_turnoutlaw15_way.head 0) s_turnoutlaw15_way_h0 rec K) = F_turnoutlaw15_way_0 n (fun z0 z1 => K .rt (s_turnoutlaw15_way_r.enc ((z0, (z1, ())), ()))) (fun z0 => K (.ex 0) (s_turnoutlaw15_way_t0.enc ((z0, ()), ()))) v.1.1 v.1.2.1 (fun z2 z3 z4 z5 => rec ((v.1.1, (v.1.2.1, (z2, (z3, (z4, ()))))), (z5, ()))) v.1.2.2.1 v.1.2.2.2.1 v.1.2.2.2.2.1 v.2.1 := by kernel_rfl
noncomputable def V_turnoutlaw15_way_0 (n : Nat) (K : Cont) (rec : Sig.sem s_turnoutlaw15_way_h0 → Option Res) (v : Sig.sem s_turnoutlaw15_way_h0) : Option Res := F_turnoutlaw15_way_0 n (fun z0 z1 => K .rt (s_turnoutlaw15_way_r.enc ((z0, (z1, ())), ()))) (fun z0 => K (.ex 0) (s_turnoutlaw15_way_t0.enc ((z0, ()), ()))) v.1.1 v.1.2.1 (fun z2 z3 z4 z5 => rec ((v.1.1, (v.1.2.1, (z2, (z3, (z4, ()))))), (z5, ()))) v.1.2.2.1 v.1.2.2.2.1 v.1.2.2.2.2.1 v.2.1
noncomputable def W_turnoutlaw15_way_0 (n : Nat) (K : Cont) (m : Nat) (v : Sig.sem s_turnoutlaw15_way_h0) : Option Res := L_turnoutlaw15_way_0 n (fun z0 z1 => K .rt (s_turnoutlaw15_way_r.enc ((z0, (z1, ())), ()))) (fun z0 => K (.ex 0) (s_turnoutlaw15_way_t0.enc ((z0, ()), ()))) v.1.1 v.1.2.1 m v.1.2.2.1 v.1.2.2.2.1 v.1.2.2.2.2.1 v.2.1
theorem i_turnoutlaw15_way_0 (n : Nat) (K : Cont) : ∀ m v, iter (V_turnoutlaw15_way_0 n K) m v = W_turnoutlaw15_way_0 n K m v := by
  intro m
  induction m with
  | zero => intro v; rfl
  | succ m ih =>
    intro v
    show V_turnoutlaw15_way_0 n K (iter (V_turnoutlaw15_way_0 n K) m) v = V_turnoutlaw15_way_0 n K (W_turnoutlaw15_way_0 n K m) v
    rw [show iter (V_turnoutlaw15_way_0 n K) m = W_turnoutlaw15_way_0 n K m from funext ih]
theorem o_turnoutlaw15_way_0 (n : Nat) : ∀ L, ls_turnoutlaw15_way n 0 = some L → ∀ s K r, L s K = some r → ∃ x s', loopN (run Try.prog cf_turnoutlaw15_way Try.f16.ntmps 0 n p_turnoutlaw15_way none b_turnoutlaw15_way_0) (gc 0 (p_turnoutlaw15_way.head 0)) n s = some (x, s') ∧ K x s' = some r := by
  intro L hL s K r h
  have hL : some (loopT 0 (p_turnoutlaw15_way.head 0) s_turnoutlaw15_way_h0 fun K v => W_turnoutlaw15_way_0 n K n v) = some L := hL
  cases hL
  have hb : LOk Try.prog cf_turnoutlaw15_way Try.f16.ntmps 0 n p_turnoutlaw15_way (ls_turnoutlaw15_way n) b_turnoutlaw15_way_0 := ⟨⟨trivial, ⟨trivial, trivial⟩⟩, ⟨⟨trivial, ⟨⟨trivial, ⟨⟨trivial, trivial⟩, trivial⟩⟩, ⟨⟨trivial, (o_turnoutlaw15_way_2 n)⟩, ⟨trivial, ⟨trivial, ⟨trivial, ⟨⟨trivial, ⟨trivial, trivial⟩⟩, trivial⟩⟩⟩⟩⟩⟩⟩, trivial⟩⟩
  refine loopT_ok hb (V_turnoutlaw15_way_0 n) (t_turnoutlaw15_way_0 n) n s K r ?_
  rw [← h]
  unfold loopT
  simp only [i_turnoutlaw15_way_0]
theorem m_turnoutlaw15_way (n : Nat) (a0 : (List NodeS)) (a1 : (List Int)) : runFT Try.prog cf_turnoutlaw15_way p_turnoutlaw15_way (ls_turnoutlaw15_way n) Try.f16 (bodyOf Try.f16) (EK.encs e_turnoutlaw15_way ((a0, (a1, ())), ()).1) (HK.encs h_turnoutlaw15_way ((a0, (a1, ())), ()).2) = M_turnoutlaw15_way n a0 a1 := by kernel_rfl
theorem g_turnoutlaw15_way (n : Nat) (a0 : (List NodeS)) (a1 : (List Int)) {r : Res} (h : M_turnoutlaw15_way n a0 a1 = some r) : runF Try.prog cf_turnoutlaw15_way n p_turnoutlaw15_way 16 (EK.encs e_turnoutlaw15_way ((a0, (a1, ())), ()).1) (HK.encs h_turnoutlaw15_way ((a0, (a1, ())), ()).2) = some r := by
  have hb : LOk Try.prog cf_turnoutlaw15_way Try.f16.ntmps 0 n p_turnoutlaw15_way (ls_turnoutlaw15_way n) (bodyOf Try.f16) := ⟨trivial, ⟨trivial, ⟨trivial, ⟨⟨trivial, (o_turnoutlaw15_way_0 n)⟩, ⟨trivial, trivial⟩⟩⟩⟩⟩
  exact runFT_some Try.prog (c := bodyOf Try.f16) Try.func16 (show Try.f16.body = some (bodyOf Try.f16) from rfl) (show (2 : Nat) ≤ 66 by decide) hb ((m_turnoutlaw15_way n a0 a1).trans h)
noncomputable def c_turnoutlaw15_way : Spec := specQ e_turnoutlaw15_way h_turnoutlaw15_way ro_turnoutlaw15_way rh_turnoutlaw15_way fun a b => Q_turnoutlaw15_way a.1 a.2.1
theorem k_turnoutlaw15_way (hm : Try.prog.follows .mixedOrders = true) : SpecOk Try.prog 16 c_turnoutlaw15_way := specQ_ok (pol := p_turnoutlaw15_way) hm (cf := cf_turnoutlaw15_way) (tab_ok (specs_cons (k_graph_Find hm) (specs_cons (k_turnoutref15_Goes hm) specs_nil))) fun a b r h => ⟨FUEL, g_turnoutlaw15_way FUEL a.1 a.2.1 (decRes_some h)⟩
def s_turnoutlaw15_turned_r : Sig := ⟨[4], [.ty (.int .i64)], []⟩
def p_turnoutlaw15_turned : Pol := ⟨fun i => none, fun i => none, some [(4, .keep)], [.keep]⟩
def e_turnoutlaw15_turned : List EK := [.ty (.int .i64), .ty (.int .i64)]
def h_turnoutlaw15_turned : List HK := []
noncomputable def cf_turnoutlaw15_turned : CallF := mkCF [] []
noncomputable def ls_turnoutlaw15_turned (n : Nat) : Loops := fun i =>  none
theorem m_turnoutlaw15_turned (n : Nat) (a0 : Int) (a1 : Int) : runFT Try.prog cf_turnoutlaw15_turned p_turnoutlaw15_turned (ls_turnoutlaw15_turned n) Try.f29 (bodyOf Try.f29) (EK.encs e_turnoutlaw15_turned ((a0, (a1, ())), ()).1) (HK.encs h_turnoutlaw15_turned ((a0, (a1, ())), ()).2) = M_turnoutlaw15_turned n a0 a1 := by kernel_rfl
theorem g_turnoutlaw15_turned (n : Nat) (a0 : Int) (a1 : Int) {r : Res} (h : M_turnoutlaw15_turned n a0 a1 = some r) : runF Try.prog cf_turnoutlaw15_turned n p_turnoutlaw15_turned 29 (EK.encs e_turnoutlaw15_turned ((a0, (a1, ())), ()).1) (HK.encs h_turnoutlaw15_turned ((a0, (a1, ())), ()).2) = some r := by
  have hb : LOk Try.prog cf_turnoutlaw15_turned Try.f29.ntmps 0 n p_turnoutlaw15_turned (ls_turnoutlaw15_turned n) (bodyOf Try.f29) := ⟨trivial, ⟨⟨trivial, ⟨⟨trivial, trivial⟩, trivial⟩⟩, ⟨⟨trivial, ⟨⟨trivial, trivial⟩, trivial⟩⟩, ⟨trivial, trivial⟩⟩⟩⟩
  exact runFT_some Try.prog (c := bodyOf Try.f29) Try.func29 (show Try.f29.body = some (bodyOf Try.f29) from rfl) (show (2 : Nat) ≤ 12 by decide) hb ((m_turnoutlaw15_turned n a0 a1).trans h)
noncomputable def c_turnoutlaw15_turned : Spec := specQ e_turnoutlaw15_turned h_turnoutlaw15_turned ro_turnoutlaw15_turned rh_turnoutlaw15_turned fun a b => Q_turnoutlaw15_turned a.1 a.2.1
theorem k_turnoutlaw15_turned (hm : Try.prog.follows .mixedOrders = true) : SpecOk Try.prog 29 c_turnoutlaw15_turned := specQ_ok (pol := p_turnoutlaw15_turned) hm (cf := cf_turnoutlaw15_turned) (tab_ok specs_nil) fun a b r h => ⟨FUEL, g_turnoutlaw15_turned FUEL a.1 a.2.1 (decRes_some h)⟩
def s_turnoutlaw15_from_r : Sig := ⟨[4], [.ty (.int .i64)], []⟩
def s_turnoutlaw15_from_h0 : Sig := ⟨[0, 1, 7, 8], [.ty (.slice NodeT), .ty (.int .i64), .hs 0 0, .ty (.int .i64)], [.row NodeT]⟩
def s_turnoutlaw15_from_h2 : Sig := ⟨[0, 1, 7, 8, 9, 10], [.ty (.slice NodeT), .ty (.int .i64), .hs 0 0, .ty (.int .i64), .ptr 1 0 0, .ty (.int .i64)], [.row NodeT, .one false [.ty (.int .i64), .ty (.int .i64), .ty (.int .i64), .ty (.int .i64), .ty (.int .i64), .ty (.int .i64), .ty (.int .i64), .hs 2 0, .ty (.int .i64)], .row ArmT]⟩
def s_turnoutlaw15_from_t2 : Sig := ⟨[0, 1, 7, 8, 9], [.ty (.slice NodeT), .ty (.int .i64), .hs 0 0, .ty (.int .i64), .ptr 1 0 0], [.row NodeT, .one false [.ty (.int .i64), .ty (.int .i64), .ty (.int .i64), .ty (.int .i64), .ty (.int .i64), .ty (.int .i64), .ty (.int .i64), .hs 2 0, .ty (.int .i64)], .row ArmT]⟩
def s_turnoutlaw15_from_h4 : Sig := ⟨[0, 1, 7, 8, 9, 11], [.ty (.slice NodeT), .ty (.int .i64), .hs 0 0, .ty (.int .i64), .ptr 1 0 0, .ty (.int .i64)], [.row NodeT, .one false [.ty (.int .i64), .ty (.int .i64), .ty (.int .i64), .ty (.int .i64), .ty (.int .i64), .ty (.int .i64), .ty (.int .i64), .hs 2 0, .ty (.int .i64)], .row ArmT]⟩
def s_turnoutlaw15_from_t4 : Sig := ⟨[0, 1, 7, 8, 9, 11], [.ty (.slice NodeT), .ty (.int .i64), .hs 0 0, .ty (.int .i64), .ptr 1 0 0, .ty (.int .i64)], [.row NodeT, .one false [.ty (.int .i64), .ty (.int .i64), .ty (.int .i64), .ty (.int .i64), .ty (.int .i64), .ty (.int .i64), .ty (.int .i64), .hs 2 0, .ty (.int .i64)], .row ArmT]⟩
def s_turnoutlaw15_from_t0 : Sig := ⟨[7], [.hs 0 0], [.row NodeT]⟩
def p_turnoutlaw15_from : Pol := ⟨fun i => if i = 0 then some [(0, .keep), (1, .keep), (7, (.own NodeT)), (8, .keep)] else if i = 2 then some [(0, .keep), (1, .keep), (7, (.own NodeT)), (8, .keep), (9, .keep), (10, .keep)] else if i = 4 then some [(0, .keep), (1, .keep), (7, (.own NodeT)), (8, .keep), (9, .keep), (11, .keep)] else none, fun i => if i = 2 then some [(0, .keep), (1, .keep), (7, (.own NodeT)), (8, .keep), (9, .keep)] else if i = 4 then some [(0, .keep), (1, .keep), (7, (.own NodeT)), (8, .keep), (9, .keep), (11, .keep)] else if i = 0 then some [(7, (.own NodeT))] else none, some [(4, .keep)], [.keep]⟩
def e_turnoutlaw15_from : List EK := [.ty (.slice NodeT), .ty (.int .i64)]
def h_turnoutlaw15_from : List HK := []
noncomputable def cf_turnoutlaw15_from : CallF := mkCF [(17, c_graph_Find), (29, c_turnoutlaw15_turned), (12, c_graph_Longest)] [(17, [(.slice NodeT), (.int .i64)]), (29, [(.int .i64), (.int .i64)]), (12, [(.slice NodeT)])]
noncomputable def ls_turnoutlaw15_from (n : Nat) : Loops := fun i => if i = 2 then some (loopT 0 (p_turnoutlaw15_from.head 2) s_turnoutlaw15_from_h2 fun K v => L_turnoutlaw15_from_2 n (fun z14 => K (.ex 2) (s_turnoutlaw15_from_t2.enc ((v.1.1, (v.1.2.1, (v.1.2.2.1, (v.1.2.2.2.1, ((), ()))))), (v.2.1, ((v.2.2.1.1, (v.2.2.1.2.1, (v.2.2.1.2.2.1, (v.2.2.1.2.2.2.1, (v.2.2.1.2.2.2.2.1, (v.2.2.1.2.2.2.2.2.1, (v.2.2.1.2.2.2.2.2.2.1, (v.2.2.1.2.2.2.2.2.2.2.1, (v.2.2.1.2.2.2.2.2.2.2.2.1, ()))))))))), (z14, ())))))) v.1.1 v.1.2.1 v.1.2.2.1 v.1.2.2.2.1 v.2.1 v.2.2.1.1 v.2.2.1.2.1 v.2.2.1.2.2.1 v.2.2.1.2.2.2.1 v.2.2.1.2.2.2.2.1 v.2.2.1.2.2.2.2.2.1 v.2.2.1.2.2.2.2.2.2.1 v.2.2.1.2.2.2.2.2.2.2.1 v.2.2.1.2.2.2.2.2.2.2.2.1 n v.1.2.2.2.2.2.1 v.2.2.2.1)
  else if i = 4 then some (loopT 0 (p_turnoutlaw15_from.head 4) s_turnoutlaw15_from_h4 fun K v => L_turnoutlaw15_from_4 n (fun z4 => K (.ex 4) (s_turnoutlaw15_from_t4.enc ((v.1.1, (v.1.2.1, (v.1.2.2.1, (v.1.2.2.2.1, ((), (z4, ())))))), (v.2.1, ((v.2.2.1.1, (v.2.2.1.2.1, (v.2.2.1.2.2.1, (v.2.2.1.2.2.2.1, (v.2.2.1.2.2.2.2.1, (v.2.2.1.2.2.2.2.2.1, (v.2.2.1.2.2.2.2.2.2.1, (v.2.2.1.2.2.2.2.2.2.2.1, (v.2.2.1.2.2.2.2.2.2.2.2.1, ()))))))))), (v.2.2.2.1, ())))))) v.1.1 v.1.2.1 v.1.2.2.1 v.1.2.2.2.1 v.2.1 v.2.2.1.1 v.2.2.1.2.1 v.2.2.1.2.2.1 v.2.2.1.2.2.2.1 v.2.2.1.2.2.2.2.1 v.2.2.1.2.2.2.2.2.1 v.2.2.1.2.2.2.2.2.2.1 v.2.2.1.2.2.2.2.2.2.2.1 v.2.2.1.2.2.2.2.2.2.2.2.1 v.2.2.2.1 n v.1.2.2.2.2.2.1)
  else if i = 0 then some (loopT 0 (p_turnoutlaw15_from.head 0) s_turnoutlaw15_from_h0 fun K v => L_turnoutlaw15_from_0 n (fun z0 z1 => K (.ex 0) (s_turnoutlaw15_from_t0.enc ((z0, ()), (z1, ())))) v.1.1 v.1.2.1 n v.1.2.2.1 v.1.2.2.2.1 v.2.1)
  else  none
noncomputable def b_turnoutlaw15_from_2 : Code := partOf (bodyOf Try.f18) [1, 1, 1, 1, 0, 1, 0, 0, 1, 0, 0, 1, 1, 1, 1, 0, 1, 0, 0]
theorem t_turnoutlaw15_from_2 (n : Nat) (K : Cont) (rec : Sig.sem s_turnoutlaw15_from_h2 → Option Res) (v : Sig.sem s_turnoutlaw15_from_h2) : runT Try.prog cf_turnoutlaw15_from Try.f18.ntmps 0 p_turnoutlaw15_from (ls_turnoutlaw15_from n) b_turnoutlaw15_from_2 (s_turnoutlaw15_from_h2.enc v) (turnK 0 (p_turnoutlaw15_from.head 2) s_turnoutlaw15_from_h2 rec K) = F_turnoutlaw15_from_2 n (fun z14 => K (.ex 2) (s_turnoutlaw15_from_t2.enc ((v.1.1, (v.1.2.1, (v.1.2.2.1, (v.1.2.2.2.1, ((), ()))))), (v.2.1, ((v.2.2.1.1, (v.2.2.1.2.1, (v.2.2.1.2.2.1, (v.2.2.1.2.2.2.1, (v.2.2.1.2.2.2.2.1, (v.2.2.1.2.2.2.2.2.1, (v.2.2.1.2.2.2.2.2.2.1, (v.2.2.1.2.2.2.2.2.2.2.1, (v.2.2.1.2.2.2.2.2.2.2.2.1, ()))))))))), (z14, ())))))) v.1.1 v.1.2.1 v.1.2.2.1 v.1.2.2.2.1 v.2.1 v.2.2.1.1 v.2.2.1.2.1 v.2.2.1.2.2.1 v.2.2.1.2.2.2.1 v.2.2.1.2.2.2.2.1 v.2.2.1.2.2.2.2.2.1 v.2.2.1.2.2.2.2.2.2.1 v.2.2.1.2.2.2.2.2.2.2.1 v.2.2.1.2.2.2.2.2.2.2.2.1 (fun z4 z15 => rec ((v.1.1, (v.1.2.1, (v.1.2.2.1, (v.1.2.2.2.1, ((), (z4, ())))))), (v.2.1, ((v.2.2.1.1, (v.2.2.1.2.1, (v.2.2.1.2.2.1, (v.2.2.1.2.2.2.1, (v.2.2.1.2.2.2.2.1, (v.2.2.1.2.2.2.2.2.1, (v.2.2.1.2.2.2.2.2.2.1, (v.2.2.1.2.2.2.2.2.2.2.1, (v.2.2.1.2.2.2.2.2.2.2.2.1, ()))))))))), (z15, ()))))) v.1.2.2.2.2.2.1 v.2.2.2.1 := by kernel_rfl
noncomputable def V_turnoutlaw15_from_2 (n : Nat) (K : Cont) (rec : Sig.sem s_turnoutlaw15_from_h2 → Option Res) (v : Sig.sem s_turnoutlaw15_from_h2) : Option Res := F_turnoutlaw15_from_2 n (fun z14 => K (.ex 2) (s_turnoutlaw15_from_t2.enc ((v.1.1, (v.1.2.1, (v.1.2.2.1, (v.1.2.2.2.1, ((), ()))))), (v.2.1, ((v.2.2.1.1, (v.2.2.1.2.1, (v.2.2.1.2.2.1, (v.2.2.1.2.2.2.1, (v.2.2.1.2.2.2.2.1, (v.2.2.1.2.2.2.2.2.1, (v.2.2.1.2.2.2.2.2.2.1, (v.2.2.1.2.2.2.2.2.2.2.1, (v.2.2.1.2.2.2.2.2.2.2.2.1, ()))))))))), (z14, ())))))) v.1.1 v.1.2.1 v.1.2.2.1 v.1.2.2.2.1 v.2.1 v.2.2.1.1 v.2.2.1.2.1 v.2.2.1.2.2.1 v.2.2.1.2.2.2.1 v.2.2.1.2.2.2.2.1 v.2.2.1.2.2.2.2.2.1 v.2.2.1.2.2.2.2.2.2.1 v.2.2.1.2.2.2.2.2.2.2.1 v.2.2.1.2.2.2.2.2.2.2.2.1 (fun z4 z15 => rec ((v.1.1, (v.1.2.1, (v.1.2.2.1, (v.1.2.2.2.1, ((), (z4, ())))))), (v.2.1, ((v.2.2.1.1, (v.2.2.1.2.1, (v.2.2.1.2.2.1, (v.2.2.1.2.2.2.1, (v.2.2.1.2.2.2.2.1, (v.2.2.1.2.2.2.2.2.1, (v.2.2.1.2.2.2.2.2.2.1, (v.2.2.1.2.2.2.2.2.2.2.1, (v.2.2.1.2.2.2.2.2.2.2.2.1, ()))))))))), (z15, ()))))) v.1.2.2.2.2.2.1 v.2.2.2.1
noncomputable def W_turnoutlaw15_from_2 (n : Nat) (K : Cont) (m : Nat) (v : Sig.sem s_turnoutlaw15_from_h2) : Option Res := L_turnoutlaw15_from_2 n (fun z14 => K (.ex 2) (s_turnoutlaw15_from_t2.enc ((v.1.1, (v.1.2.1, (v.1.2.2.1, (v.1.2.2.2.1, ((), ()))))), (v.2.1, ((v.2.2.1.1, (v.2.2.1.2.1, (v.2.2.1.2.2.1, (v.2.2.1.2.2.2.1, (v.2.2.1.2.2.2.2.1, (v.2.2.1.2.2.2.2.2.1, (v.2.2.1.2.2.2.2.2.2.1, (v.2.2.1.2.2.2.2.2.2.2.1, (v.2.2.1.2.2.2.2.2.2.2.2.1, ()))))))))), (z14, ())))))) v.1.1 v.1.2.1 v.1.2.2.1 v.1.2.2.2.1 v.2.1 v.2.2.1.1 v.2.2.1.2.1 v.2.2.1.2.2.1 v.2.2.1.2.2.2.1 v.2.2.1.2.2.2.2.1 v.2.2.1.2.2.2.2.2.1 v.2.2.1.2.2.2.2.2.2.1 v.2.2.1.2.2.2.2.2.2.2.1 v.2.2.1.2.2.2.2.2.2.2.2.1 m v.1.2.2.2.2.2.1 v.2.2.2.1
theorem i_turnoutlaw15_from_2 (n : Nat) (K : Cont) : ∀ m v, iter (V_turnoutlaw15_from_2 n K) m v = W_turnoutlaw15_from_2 n K m v := by
  intro m
  induction m with
  | zero => intro v; rfl
  | succ m ih =>
    intro v
    show V_turnoutlaw15_from_2 n K (iter (V_turnoutlaw15_from_2 n K) m) v = V_turnoutlaw15_from_2 n K (W_turnoutlaw15_from_2 n K m) v
    rw [show iter (V_turnoutlaw15_from_2 n K) m = W_turnoutlaw15_from_2 n K m from funext ih]
theorem o_turnoutlaw15_from_2 (n : Nat) : ∀ L, ls_turnoutlaw15_from n 2 = some L → ∀ s K r, L s K = some r → ∃ x s', loopN (run Try.prog cf_turnoutlaw15_from Try.f18.ntmps 0 n p_turnoutlaw15_from none b_turnoutlaw15_from_2) (gc 0 (p_turnoutlaw15_from.head 2)) n s = some (x, s') ∧ K x s' = some r := by
  intro L hL s K r h
  have hL : some (loopT 0 (p_turnoutlaw15_from.head 2) s_turnoutlaw15_from_h2 fun K v => W_turnoutlaw15_from_2 n K n v) = some L := hL
  cases hL
  have hb : LOk Try.prog cf_turnoutlaw15_from Try.f18.ntmps 0 n p_turnoutlaw15_from (ls_turnoutlaw15_from n) b_turnoutlaw15_from_2 := ⟨⟨trivial, ⟨trivial, trivial⟩⟩, ⟨trivial, trivial⟩⟩
  refine loopT_ok hb (V_turnoutlaw15_from_2 n) (t_turnoutlaw15_from_2 n) n s K r ?_
  rw [← h]
  unfold loopT
  simp only [i_turnoutlaw15_from_2]
noncomputable def b_turnoutlaw15_from_4 : Code := partOf (bodyOf Try.f18) [1, 1, 1, 1, 0, 1, 0, 0, 1, 0, 0, 1, 1, 1, 1, 1, 1, 0, 0, 0]
theorem t_turnoutlaw15_from_4 (n : Nat) (K : Cont) (rec : Sig.sem s_turnoutlaw15_from_h4 → Option Res) (v : Sig.sem s_turnoutlaw15_from_h4) : runT Try.prog cf_turnoutlaw15_from Try.f18.ntmps 0 p_turnoutlaw15_from (ls_turnoutlaw15_from n) b_turnoutlaw15_from_4 (s_turnoutlaw15_from_h4.enc v) (turnK 0 (p_turnoutlaw15_from.head 4) s_turnoutlaw15_from_h4 rec K) = F_turnoutlaw15_from_4 n (fun z4 => K (.ex 4) (s_turnoutlaw15_from_t4.enc ((v.1.1, (v.1.2.1, (v.1.2.2.1, (v.1.2.2.2.1, ((), (z4, ())))))), (v.2.1, ((v.2.2.1.1, (v.2.2.1.2.1, (v.2.2.1.2.2.1, (v.2.2.1.2.2.2.1, (v.2.2.1.2.2.2.2.1, (v.2.2.1.2.2.2.2.2.1, (v.2.2.1.2.2.2.2.2.2.1, (v.2.2.1.2.2.2.2.2.2.2.1, (v.2.2.1.2.2.2.2.2.2.2.2.1, ()))))))))), (v.2.2.2.1, ())))))) v.1.1 v.1.2.1 v.1.2.2.1 v.1.2.2.2.1 v.2.1 v.2.2.1.1 v.2.2.1.2.1 v.2.2.1.2.2.1 v.2.2.1.2.2.2.1 v.2.2.1.2.2.2.2.1 v.2.2.1.2.2.2.2.2.1 v.2.2.1.2.2.2.2.2.2.1 v.2.2.1.2.2.2.2.2.2.2.1 v.2.2.1.2.2.2.2.2.2.2.2.1 v.2.2.2.1 (fun z4 => rec ((v.1.1, (v.1.2.1, (v.1.2.2.1, (v.1.2.2.2.1, ((), (z4, ())))))), (v.2.1, ((v.2.2.1.1, (v.2.2.1.2.1, (v.2.2.1.2.2.1, (v.2.2.1.2.2.2.1, (v.2.2.1.2.2.2.2.1, (v.2.2.1.2.2.2.2.2.1, (v.2.2.1.2.2.2.2.2.2.1, (v.2.2.1.2.2.2.2.2.2.2.1, (v.2.2.1.2.2.2.2.2.2.2.2.1, ()))))))))), (v.2.2.2.1, ()))))) v.1.2.2.2.2.2.1 := by kernel_rfl
noncomputable def V_turnoutlaw15_from_4 (n : Nat) (K : Cont) (rec : Sig.sem s_turnoutlaw15_from_h4 → Option Res) (v : Sig.sem s_turnoutlaw15_from_h4) : Option Res := F_turnoutlaw15_from_4 n (fun z4 => K (.ex 4) (s_turnoutlaw15_from_t4.enc ((v.1.1, (v.1.2.1, (v.1.2.2.1, (v.1.2.2.2.1, ((), (z4, ())))))), (v.2.1, ((v.2.2.1.1, (v.2.2.1.2.1, (v.2.2.1.2.2.1, (v.2.2.1.2.2.2.1, (v.2.2.1.2.2.2.2.1, (v.2.2.1.2.2.2.2.2.1, (v.2.2.1.2.2.2.2.2.2.1, (v.2.2.1.2.2.2.2.2.2.2.1, (v.2.2.1.2.2.2.2.2.2.2.2.1, ()))))))))), (v.2.2.2.1, ())))))) v.1.1 v.1.2.1 v.1.2.2.1 v.1.2.2.2.1 v.2.1 v.2.2.1.1 v.2.2.1.2.1 v.2.2.1.2.2.1 v.2.2.1.2.2.2.1 v.2.2.1.2.2.2.2.1 v.2.2.1.2.2.2.2.2.1 v.2.2.1.2.2.2.2.2.2.1 v.2.2.1.2.2.2.2.2.2.2.1 v.2.2.1.2.2.2.2.2.2.2.2.1 v.2.2.2.1 (fun z4 => rec ((v.1.1, (v.1.2.1, (v.1.2.2.1, (v.1.2.2.2.1, ((), (z4, ())))))), (v.2.1, ((v.2.2.1.1, (v.2.2.1.2.1, (v.2.2.1.2.2.1, (v.2.2.1.2.2.2.1, (v.2.2.1.2.2.2.2.1, (v.2.2.1.2.2.2.2.2.1, (v.2.2.1.2.2.2.2.2.2.1, (v.2.2.1.2.2.2.2.2.2.2.1, (v.2.2.1.2.2.2.2.2.2.2.2.1, ()))))))))), (v.2.2.2.1, ()))))) v.1.2.2.2.2.2.1
noncomputable def W_turnoutlaw15_from_4 (n : Nat) (K : Cont) (m : Nat) (v : Sig.sem s_turnoutlaw15_from_h4) : Option Res := L_turnoutlaw15_from_4 n (fun z4 => K (.ex 4) (s_turnoutlaw15_from_t4.enc ((v.1.1, (v.1.2.1, (v.1.2.2.1, (v.1.2.2.2.1, ((), (z4, ())))))), (v.2.1, ((v.2.2.1.1, (v.2.2.1.2.1, (v.2.2.1.2.2.1, (v.2.2.1.2.2.2.1, (v.2.2.1.2.2.2.2.1, (v.2.2.1.2.2.2.2.2.1, (v.2.2.1.2.2.2.2.2.2.1, (v.2.2.1.2.2.2.2.2.2.2.1, (v.2.2.1.2.2.2.2.2.2.2.2.1, ()))))))))), (v.2.2.2.1, ())))))) v.1.1 v.1.2.1 v.1.2.2.1 v.1.2.2.2.1 v.2.1 v.2.2.1.1 v.2.2.1.2.1 v.2.2.1.2.2.1 v.2.2.1.2.2.2.1 v.2.2.1.2.2.2.2.1 v.2.2.1.2.2.2.2.2.1 v.2.2.1.2.2.2.2.2.2.1 v.2.2.1.2.2.2.2.2.2.2.1 v.2.2.1.2.2.2.2.2.2.2.2.1 v.2.2.2.1 m v.1.2.2.2.2.2.1
theorem i_turnoutlaw15_from_4 (n : Nat) (K : Cont) : ∀ m v, iter (V_turnoutlaw15_from_4 n K) m v = W_turnoutlaw15_from_4 n K m v := by
  intro m
  induction m with
  | zero => intro v; rfl
  | succ m ih =>
    intro v
    show V_turnoutlaw15_from_4 n K (iter (V_turnoutlaw15_from_4 n K) m) v = V_turnoutlaw15_from_4 n K (W_turnoutlaw15_from_4 n K m) v
    rw [show iter (V_turnoutlaw15_from_4 n K) m = W_turnoutlaw15_from_4 n K m from funext ih]
theorem o_turnoutlaw15_from_4 (n : Nat) : ∀ L, ls_turnoutlaw15_from n 4 = some L → ∀ s K r, L s K = some r → ∃ x s', loopN (run Try.prog cf_turnoutlaw15_from Try.f18.ntmps 0 n p_turnoutlaw15_from none b_turnoutlaw15_from_4) (gc 0 (p_turnoutlaw15_from.head 4)) n s = some (x, s') ∧ K x s' = some r := by
  intro L hL s K r h
  have hL : some (loopT 0 (p_turnoutlaw15_from.head 4) s_turnoutlaw15_from_h4 fun K v => W_turnoutlaw15_from_4 n K n v) = some L := hL
  cases hL
  have hb : LOk Try.prog cf_turnoutlaw15_from Try.f18.ntmps 0 n p_turnoutlaw15_from (ls_turnoutlaw15_from n) b_turnoutlaw15_from_4 := ⟨⟨trivial, ⟨trivial, trivial⟩⟩, trivial⟩
  refine loopT_ok hb (V_turnoutlaw15_from_4 n) (t_turnoutlaw15_from_4 n) n s K r ?_
  rw [← h]
  unfold loopT
  simp only [i_turnoutlaw15_from_4]
noncomputable def b_turnoutlaw15_from_0 : Code := partOf (bodyOf Try.f18) [1, 1, 1, 1, 0, 1, 0, 0]
theorem t_turnoutlaw15_from_0 (n : Nat) (K : Cont) (rec : Sig.sem s_turnoutlaw15_from_h0 → Option Res) (v : Sig.sem s_turnoutlaw15_from_h0) : runT Try.prog cf_turnoutlaw15_from Try.f18.ntmps 0 p_turnoutlaw15_from (ls_turnoutlaw15_from n) b_turnoutlaw15_from_0 (s_turnoutlaw15_from_h0.enc v) (turnK 0 (p_turnoutlaw15_from.head 0) s_turnoutlaw15_from_h0 rec K) = F_turnoutlaw15_from_0 n (fun z0 z1 => K (.ex 0) (s_turnoutlaw15_from_t0.enc ((z0, ()), (z1, ())))) v.1.1 v.1.2.1 (fun z2 z3 z4 => rec ((v.1.1, (v.1.2.1, (z2, (z3, ())))), (z4, ()))) v.1.2.2.1 v.1.2.2.2.1 v.2.1 := by kernel_rfl
noncomputable def V_turnoutlaw15_from_0 (n : Nat) (K : Cont) (rec : Sig.sem s_turnoutlaw15_from_h0 → Option Res) (v : Sig.sem s_turnoutlaw15_from_h0) : Option Res := F_turnoutlaw15_from_0 n (fun z0 z1 => K (.ex 0) (s_turnoutlaw15_from_t0.enc ((z0, ()), (z1, ())))) v.1.1 v.1.2.1 (fun z2 z3 z4 => rec ((v.1.1, (v.1.2.1, (z2, (z3, ())))), (z4, ()))) v.1.2.2.1 v.1.2.2.2.1 v.2.1
noncomputable def W_turnoutlaw15_from_0 (n : Nat) (K : Cont) (m : Nat) (v : Sig.sem s_turnoutlaw15_from_h0) : Option Res := L_turnoutlaw15_from_0 n (fun z0 z1 => K (.ex 0) (s_turnoutlaw15_from_t0.enc ((z0, ()), (z1, ())))) v.1.1 v.1.2.1 m v.1.2.2.1 v.1.2.2.2.1 v.2.1
theorem i_turnoutlaw15_from_0 (n : Nat) (K : Cont) : ∀ m v, iter (V_turnoutlaw15_from_0 n K) m v = W_turnoutlaw15_from_0 n K m v := by
  intro m
  induction m with
  | zero => intro v; rfl
  | succ m ih =>
    intro v
    show V_turnoutlaw15_from_0 n K (iter (V_turnoutlaw15_from_0 n K) m) v = V_turnoutlaw15_from_0 n K (W_turnoutlaw15_from_0 n K m) v
    rw [show iter (V_turnoutlaw15_from_0 n K) m = W_turnoutlaw15_from_0 n K m from funext ih]
theorem o_turnoutlaw15_from_0 (n : Nat) : ∀ L, ls_turnoutlaw15_from n 0 = some L → ∀ s K r, L s K = some r → ∃ x s', loopN (run Try.prog cf_turnoutlaw15_from Try.f18.ntmps 0 n p_turnoutlaw15_from none b_turnoutlaw15_from_0) (gc 0 (p_turnoutlaw15_from.head 0)) n s = some (x, s') ∧ K x s' = some r := by
  intro L hL s K r h
  have hL : some (loopT 0 (p_turnoutlaw15_from.head 0) s_turnoutlaw15_from_h0 fun K v => W_turnoutlaw15_from_0 n K n v) = some L := hL
  cases hL
  have hb : LOk Try.prog cf_turnoutlaw15_from Try.f18.ntmps 0 n p_turnoutlaw15_from (ls_turnoutlaw15_from n) b_turnoutlaw15_from_0 := ⟨⟨trivial, ⟨trivial, trivial⟩⟩, ⟨⟨trivial, ⟨trivial, ⟨trivial, ⟨trivial, ⟨⟨trivial, (o_turnoutlaw15_from_2 n)⟩, ⟨trivial, ⟨(o_turnoutlaw15_from_4 n), trivial⟩⟩⟩⟩⟩⟩⟩, trivial⟩⟩
  refine loopT_ok hb (V_turnoutlaw15_from_0 n) (t_turnoutlaw15_from_0 n) n s K r ?_
  rw [← h]
  unfold loopT
  simp only [i_turnoutlaw15_from_0]
theorem m_turnoutlaw15_from (n : Nat) (a0 : (List NodeS)) (a1 : Int) : runFT Try.prog cf_turnoutlaw15_from p_turnoutlaw15_from (ls_turnoutlaw15_from n) Try.f18 (bodyOf Try.f18) (EK.encs e_turnoutlaw15_from ((a0, (a1, ())), ()).1) (HK.encs h_turnoutlaw15_from ((a0, (a1, ())), ()).2) = M_turnoutlaw15_from n a0 a1 := by kernel_rfl
theorem g_turnoutlaw15_from (n : Nat) (a0 : (List NodeS)) (a1 : Int) {r : Res} (h : M_turnoutlaw15_from n a0 a1 = some r) : runF Try.prog cf_turnoutlaw15_from n p_turnoutlaw15_from 18 (EK.encs e_turnoutlaw15_from ((a0, (a1, ())), ()).1) (HK.encs h_turnoutlaw15_from ((a0, (a1, ())), ()).2) = some r := by
  have hb : LOk Try.prog cf_turnoutlaw15_from Try.f18.ntmps 0 n p_turnoutlaw15_from (ls_turnoutlaw15_from n) (bodyOf Try.f18) := ⟨trivial, ⟨trivial, ⟨⟨trivial, ⟨⟨trivial, trivial⟩, trivial⟩⟩, ⟨trivial, ⟨⟨trivial, (o_turnoutlaw15_from_0 n)⟩, ⟨trivial, trivial⟩⟩⟩⟩⟩⟩
  exact runFT_some Try.prog (c := bodyOf Try.f18) Try.func18 (show Try.f18.body = some (bodyOf Try.f18) from rfl) (show (2 : Nat) ≤ 95 by decide) hb ((m_turnoutlaw15_from n a0 a1).trans h)
noncomputable def c_turnoutlaw15_from : Spec := specQ e_turnoutlaw15_from h_turnoutlaw15_from ro_turnoutlaw15_from rh_turnoutlaw15_from fun a b => Q_turnoutlaw15_from a.1 a.2.1
theorem k_turnoutlaw15_from (hm : Try.prog.follows .mixedOrders = true) : SpecOk Try.prog 18 c_turnoutlaw15_from := specQ_ok (pol := p_turnoutlaw15_from) hm (cf := cf_turnoutlaw15_from) (tab_ok (specs_cons (k_graph_Find hm) (specs_cons (k_turnoutlaw15_turned hm) (specs_cons (k_graph_Longest hm) specs_nil)))) fun a b r h => ⟨FUEL, g_turnoutlaw15_from FUEL a.1 a.2.1 (decRes_some h)⟩
def s_turnoutlaw15_GraphLongest_r : Sig := ⟨[4], [.ty .bool], []⟩
def s_turnoutlaw15_GraphLongest_h0 : Sig := ⟨[0, 7, 8, 9], [.ty (.slice NodeT), .ty (.int .i64), .ty (.int .i64), .ty (.int .i64)], []⟩
def s_turnoutlaw15_GraphLongest_h2 : Sig := ⟨[0, 7, 8, 9, 12, 13], [.ty (.slice NodeT), .ty (.int .i64), .ty (.int .i64), .ty (.int .i64), .hs 0 0, .ty (.int .i64)], [.row (.int .i64)]⟩
def s_turnoutlaw15_GraphLongest_t2 : Sig := ⟨[0, 7, 8, 9], [.ty (.slice NodeT), .ty (.int .i64), .ty (.int .i64), .ty (.int .i64)], []⟩
def s_turnoutlaw15_GraphLongest_t0 : Sig := ⟨[0, 7, 8], [.ty (.slice NodeT), .ty (.int .i64), .ty (.int .i64)], []⟩
def p_turnoutlaw15_GraphLongest : Pol := ⟨fun i => if i = 0 then some [(0, .keep), (7, .keep), (8, .keep), (9, .keep)] else if i = 2 then some [(0, .keep), (7, .keep), (8, .keep), (9, .keep), (12, (.own (.int .i64))), (13, .keep)] else none, fun i => if i = 2 then some [(0, .keep), (7, .keep), (8, .keep), (9, .keep)] else if i = 0 then some [(0, .keep), (7, .keep), (8, .keep)] else none, some [(4, .keep)], [.keep]⟩
def e_turnoutlaw15_GraphLongest : List EK := [.ty (.slice NodeT), .ty (.slice (.int .u8))]
def h_turnoutlaw15_GraphLongest : List HK := []
noncomputable def cf_turnoutlaw15_GraphLongest : CallF := mkCF [(14, c_turnoutlaw15_Long), (9, c_turnoutlaw15_awake), (11, c_graph_May), (12, c_graph_Longest), (16, c_turnoutlaw15_way), (17, c_graph_Find), (18, c_turnoutlaw15_from), (19, c_turnoutref15_Goes)] [(14, [(.slice NodeT)]), (9, []), (11, [(.slice NodeT)]), (12, [(.slice NodeT)]), (16, [(.slice NodeT), (.slice (.int .u8))]), (17, [(.slice NodeT), (.int .i64)]), (18, [(.slice NodeT), (.int .i64)]), (19, [NodeT])]
noncomputable def ls_turnoutlaw15_GraphLongest (n : Nat) : Loops := fun i => if i = 2 then some (loopT 0 (p_turnoutlaw15_GraphLongest.head 2) s_turnoutlaw15_GraphLongest_h2 fun K v => L_turnoutlaw15_GraphLongest_2 n (fun z2 => K (.ex 2) (s_turnoutlaw15_GraphLongest_t2.enc ((v.1.1, (v.1.2.1, (z2, (v.1.2.2.2.1, ())))), ()))) v.1.1 v.1.2.1 v.1.2.2.2.1 v.1.2.2.2.2.1 v.2.1 n v.1.2.2.1 v.1.2.2.2.2.2.1)
  else if i = 0 then some (loopT 0 (p_turnoutlaw15_GraphLongest.head 0) s_turnoutlaw15_GraphLongest_h0 fun K v => L_turnoutlaw15_GraphLongest_0 n (fun z0 => K .rt (s_turnoutlaw15_GraphLongest_r.enc ((z0, ()), ()))) (fun z2 => K (.ex 0) (s_turnoutlaw15_GraphLongest_t0.enc ((v.1.1, (v.1.2.1, (z2, ()))), ()))) v.1.1 v.1.2.1 n v.1.2.2.1 v.1.2.2.2.1)
  else  none
noncomputable def b_turnoutlaw15_GraphLongest_2 : Code := partOf (bodyOf Try.f5) [1, 1, 1, 1, 1, 1, 1, 0, 1, 0, 0, 1, 0, 0, 1, 1, 1, 1, 0, 0]
theorem t_turnoutlaw15_GraphLongest_2 (n : Nat) (K : Cont) (rec : Sig.sem s_turnoutlaw15_GraphLongest_h2 → Option Res) (v : Sig.sem s_turnoutlaw15_GraphLongest_h2) : runT Try.prog cf_turnoutlaw15_GraphLongest Try.f5.ntmps 0 p_turnoutlaw15_GraphLongest (ls_turnoutlaw15_GraphLongest n) b_turnoutlaw15_GraphLongest_2 (s_turnoutlaw15_GraphLongest_h2.enc v) (turnK 0 (p_turnoutlaw15_GraphLongest.head 2) s_turnoutlaw15_GraphLongest_h2 rec K) = F_turnoutlaw15_GraphLongest_2 n (fun z2 => K (.ex 2) (s_turnoutlaw15_GraphLongest_t2.enc ((v.1.1, (v.1.2.1, (z2, (v.1.2.2.2.1, ())))), ()))) v.1.1 v.1.2.1 v.1.2.2.2.1 v.1.2.2.2.2.1 v.2.1 (fun z2 z5 => rec ((v.1.1, (v.1.2.1, (z2, (v.1.2.2.2.1, (v.1.2.2.2.2.1, (z5, ())))))), (v.2.1, ()))) v.1.2.2.1 v.1.2.2.2.2.2.1 := by kernel_rfl
noncomputable def V_turnoutlaw15_GraphLongest_2 (n : Nat) (K : Cont) (rec : Sig.sem s_turnoutlaw15_GraphLongest_h2 → Option Res) (v : Sig.sem s_turnoutlaw15_GraphLongest_h2) : Option Res := F_turnoutlaw15_GraphLongest_2 n (fun z2 => K (.ex 2) (s_turnoutlaw15_GraphLongest_t2.enc ((v.1.1, (v.1.2.1, (z2, (v.1.2.2.2.1, ())))), ()))) v.1.1 v.1.2.1 v.1.2.2.2.1 v.1.2.2.2.2.1 v.2.1 (fun z2 z5 => rec ((v.1.1, (v.1.2.1, (z2, (v.1.2.2.2.1, (v.1.2.2.2.2.1, (z5, ())))))), (v.2.1, ()))) v.1.2.2.1 v.1.2.2.2.2.2.1
noncomputable def W_turnoutlaw15_GraphLongest_2 (n : Nat) (K : Cont) (m : Nat) (v : Sig.sem s_turnoutlaw15_GraphLongest_h2) : Option Res := L_turnoutlaw15_GraphLongest_2 n (fun z2 => K (.ex 2) (s_turnoutlaw15_GraphLongest_t2.enc ((v.1.1, (v.1.2.1, (z2, (v.1.2.2.2.1, ())))), ()))) v.1.1 v.1.2.1 v.1.2.2.2.1 v.1.2.2.2.2.1 v.2.1 m v.1.2.2.1 v.1.2.2.2.2.2.1
theorem i_turnoutlaw15_GraphLongest_2 (n : Nat) (K : Cont) : ∀ m v, iter (V_turnoutlaw15_GraphLongest_2 n K) m v = W_turnoutlaw15_GraphLongest_2 n K m v := by
  intro m
  induction m with
  | zero => intro v; rfl
  | succ m ih =>
    intro v
    show V_turnoutlaw15_GraphLongest_2 n K (iter (V_turnoutlaw15_GraphLongest_2 n K) m) v = V_turnoutlaw15_GraphLongest_2 n K (W_turnoutlaw15_GraphLongest_2 n K m) v
    rw [show iter (V_turnoutlaw15_GraphLongest_2 n K) m = W_turnoutlaw15_GraphLongest_2 n K m from funext ih]
theorem o_turnoutlaw15_GraphLongest_2 (n : Nat) : ∀ L, ls_turnoutlaw15_GraphLongest n 2 = some L → ∀ s K r, L s K = some r → ∃ x s', loopN (run Try.prog cf_turnoutlaw15_GraphLongest Try.f5.ntmps 0 n p_turnoutlaw15_GraphLongest none b_turnoutlaw15_GraphLongest_2) (gc 0 (p_turnoutlaw15_GraphLongest.head 2)) n s = some (x, s') ∧ K x s' = some r := by
  intro L hL s K r h
  have hL : some (loopT 0 (p_turnoutlaw15_GraphLongest.head 2) s_turnoutlaw15_GraphLongest_h2 fun K v => W_turnoutlaw15_GraphLongest_2 n K n v) = some L := hL
  cases hL
  have hb : LOk Try.prog cf_turnoutlaw15_GraphLongest Try.f5.ntmps 0 n p_turnoutlaw15_GraphLongest (ls_turnoutlaw15_GraphLongest n) b_turnoutlaw15_GraphLongest_2 := ⟨⟨trivial, ⟨trivial, trivial⟩⟩, ⟨⟨trivial, ⟨trivial, trivial⟩⟩, trivial⟩⟩
  refine loopT_ok hb (V_turnoutlaw15_GraphLongest_2 n) (t_turnoutlaw15_GraphLongest_2 n) n s K r ?_
  rw [← h]
  unfold loopT
  simp only [i_turnoutlaw15_GraphLongest_2]
noncomputable def b_turnoutlaw15_GraphLongest_0 : Code := partOf (bodyOf Try.f5) [1, 1, 1, 1, 1, 1, 1, 0, 1, 0, 0]
theorem t_turnoutlaw15_GraphLongest_0 (n : Nat) (K : Cont) (rec : Sig.sem s_turnoutlaw15_GraphLongest_h0 → Option Res) (v : Sig.sem s_turnoutlaw15_GraphLongest_h0) : runT Try.prog cf_turnoutlaw15_GraphLongest Try.f5.ntmps 0 p_turnoutlaw15_GraphLongest (ls_turnoutlaw15_GraphLongest n) b_turnoutlaw15_GraphLongest_0 (s_turnoutlaw15_GraphLongest_h0.enc v) (turnK 0 (p_turnoutlaw15_GraphLongest.head 0) s_turnoutlaw15_GraphLongest_h0 rec K) = F_turnoutlaw15_GraphLongest_0 n (fun z0 => K .rt (s_turnoutlaw15_GraphLongest_r.enc ((z0, ()), ()))) (fun z2 => K (.ex 0) (s_turnoutlaw15_GraphLongest_t0.enc ((v.1.1, (v.1.2.1, (z2, ()))), ()))) v.1.1 v.1.2.1 (fun z2 z3 => rec ((v.1.1, (v.1.2.1, (z2, (z3, ())))), ())) v.1.2.2.1 v.1.2.2.2.1 := by kernel_rfl
noncomputable def V_turnoutlaw15_GraphLongest_0 (n : Nat) (K : Cont) (rec : Sig.sem s_turnoutlaw15_GraphLongest_h0 → Option Res) (v : Sig.sem s_turnoutlaw15_GraphLongest_h0) : Option Res := F_turnoutlaw15_GraphLongest_0 n (fun z0 => K .rt (s_turnoutlaw15_GraphLongest_r.enc ((z0, ()), ()))) (fun z2 => K (.ex 0) (s_turnoutlaw15_GraphLongest_t0.enc ((v.1.1, (v.1.2.1, (z2, ()))), ()))) v.1.1 v.1.2.1 (fun z2 z3 => rec ((v.1.1, (v.1.2.1, (z2, (z3, ())))), ())) v.1.2.2.1 v.1.2.2.2.1
noncomputable def W_turnoutlaw15_GraphLongest_0 (n : Nat) (K : Cont) (m : Nat) (v : Sig.sem s_turnoutlaw15_GraphLongest_h0) : Option Res := L_turnoutlaw15_GraphLongest_0 n (fun z0 => K .rt (s_turnoutlaw15_GraphLongest_r.enc ((z0, ()), ()))) (fun z2 => K (.ex 0) (s_turnoutlaw15_GraphLongest_t0.enc ((v.1.1, (v.1.2.1, (z2, ()))), ()))) v.1.1 v.1.2.1 m v.1.2.2.1 v.1.2.2.2.1
theorem i_turnoutlaw15_GraphLongest_0 (n : Nat) (K : Cont) : ∀ m v, iter (V_turnoutlaw15_GraphLongest_0 n K) m v = W_turnoutlaw15_GraphLongest_0 n K m v := by
  intro m
  induction m with
  | zero => intro v; rfl
  | succ m ih =>
    intro v
    show V_turnoutlaw15_GraphLongest_0 n K (iter (V_turnoutlaw15_GraphLongest_0 n K) m) v = V_turnoutlaw15_GraphLongest_0 n K (W_turnoutlaw15_GraphLongest_0 n K m) v
    rw [show iter (V_turnoutlaw15_GraphLongest_0 n K) m = W_turnoutlaw15_GraphLongest_0 n K m from funext ih]
theorem o_turnoutlaw15_GraphLongest_0 (n : Nat) : ∀ L, ls_turnoutlaw15_GraphLongest n 0 = some L → ∀ s K r, L s K = some r → ∃ x s', loopN (run Try.prog cf_turnoutlaw15_GraphLongest Try.f5.ntmps 0 n p_turnoutlaw15_GraphLongest none b_turnoutlaw15_GraphLongest_0) (gc 0 (p_turnoutlaw15_GraphLongest.head 0)) n s = some (x, s') ∧ K x s' = some r := by
  intro L hL s K r h
  have hL : some (loopT 0 (p_turnoutlaw15_GraphLongest.head 0) s_turnoutlaw15_GraphLongest_h0 fun K v => W_turnoutlaw15_GraphLongest_0 n K n v) = some L := hL
  cases hL
  have hb : LOk Try.prog cf_turnoutlaw15_GraphLongest Try.f5.ntmps 0 n p_turnoutlaw15_GraphLongest (ls_turnoutlaw15_GraphLongest n) b_turnoutlaw15_GraphLongest_0 := ⟨⟨trivial, ⟨trivial, trivial⟩⟩, ⟨⟨trivial, ⟨⟨trivial, ⟨⟨trivial, trivial⟩, trivial⟩⟩, ⟨trivial, ⟨trivial, (o_turnoutlaw15_GraphLongest_2 n)⟩⟩⟩⟩, trivial⟩⟩
  refine loopT_ok hb (V_turnoutlaw15_GraphLongest_0 n) (t_turnoutlaw15_GraphLongest_0 n) n s K r ?_
  rw [← h]
  unfold loopT
  simp only [i_turnoutlaw15_GraphLongest_0]
theorem m_turnoutlaw15_GraphLongest (n : Nat) (a0 : (List NodeS)) (a1 : (List Int)) : runFT Try.prog cf_turnoutlaw15_GraphLongest p_turnoutlaw15_GraphLongest (ls_turnoutlaw15_GraphLongest n) Try.f5 (bodyOf Try.f5) (EK.encs e_turnoutlaw15_GraphLongest ((a0, (a1, ())), ()).1) (HK.encs h_turnoutlaw15_GraphLongest ((a0, (a1, ())), ()).2) = M_turnoutlaw15_GraphLongest n a0 a1 := by kernel_rfl
theorem g_turnoutlaw15_GraphLongest (n : Nat) (a0 : (List NodeS)) (a1 : (List Int)) {r : Res} (h : M_turnoutlaw15_GraphLongest n a0 a1 = some r) : runF Try.prog cf_turnoutlaw15_GraphLongest n p_turnoutlaw15_GraphLongest 5 (EK.encs e_turnoutlaw15_GraphLongest ((a0, (a1, ())), ()).1) (HK.encs h_turnoutlaw15_GraphLongest ((a0, (a1, ())), ()).2) = some r := by
  have hb : LOk Try.prog cf_turnoutlaw15_GraphLongest Try.f5.ntmps 0 n p_turnoutlaw15_GraphLongest (ls_turnoutlaw15_GraphLongest n) (bodyOf Try.f5) := ⟨trivial, ⟨⟨trivial, ⟨⟨trivial, trivial⟩, trivial⟩⟩, ⟨⟨trivial, ⟨⟨trivial, trivial⟩, trivial⟩⟩, ⟨trivial, ⟨trivial, ⟨⟨trivial, ⟨⟨trivial, trivial⟩, trivial⟩⟩, ⟨trivial, ⟨⟨trivial, (o_turnoutlaw15_GraphLongest_0 n)⟩, ⟨trivial, trivial⟩⟩⟩⟩⟩⟩⟩⟩⟩
  exact runFT_some Try.prog (c := bodyOf Try.f5) Try.func5 (show Try.f5.body = some (bodyOf Try.f5) from rfl) (show (2 : Nat) ≤ 96 by decide) hb ((m_turnoutlaw15_GraphLongest n a0 a1).trans h)
noncomputable def c_turnoutlaw15_GraphLongest : Spec := specQ e_turnoutlaw15_GraphLongest h_turnoutlaw15_GraphLongest ro_turnoutlaw15_GraphLongest rh_turnoutlaw15_GraphLongest fun a b => Q_turnoutlaw15_GraphLongest a.1 a.2.1
theorem k_turnoutlaw15_GraphLongest (hm : Try.prog.follows .mixedOrders = true) : SpecOk Try.prog 5 c_turnoutlaw15_GraphLongest := specQ_ok (pol := p_turnoutlaw15_GraphLongest) hm (cf := cf_turnoutlaw15_GraphLongest) (tab_ok (specs_cons (k_turnoutlaw15_Long hm) (specs_cons (k_turnoutlaw15_awake hm) (specs_cons (k_graph_May hm) (specs_cons (k_graph_Longest hm) (specs_cons (k_turnoutlaw15_way hm) (specs_cons (k_graph_Find hm) (specs_cons (k_turnoutlaw15_from hm) (specs_cons (k_turnoutref15_Goes hm) specs_nil))))))))) fun a b r h => ⟨FUEL, g_turnoutlaw15_GraphLongest FUEL a.1 a.2.1 (decRes_some h)⟩
def s_turnoutlaw15_GraphEnds_r : Sig := ⟨[6], [.ty .bool], []⟩
def s_turnoutlaw15_GraphEnds_h0 : Sig := ⟨[0, 2, 9], [.ty (.slice NodeT), .ty (.slice (.int .u32)), .ty (.int .i64)], []⟩
def s_turnoutlaw15_GraphEnds_h2 : Sig := ⟨[0, 2, 9, 10, 11], [.ty (.slice NodeT), .ty (.slice (.int .u32)), .ty (.int .i64), .ty (.int .i64), .ty (.int .i64)], []⟩
def s_turnoutlaw15_GraphEnds_t2 : Sig := ⟨[0, 2, 9, 10], [.ty (.slice NodeT), .ty (.slice (.int .u32)), .ty (.int .i64), .ty (.int .i64)], []⟩
def s_turnoutlaw15_GraphEnds_t0 : Sig := ⟨[], [], []⟩
def p_turnoutlaw15_GraphEnds : Pol := ⟨fun i => if i = 0 then some [(0, .keep), (2, .keep), (9, .keep)] else if i = 2 then some [(0, .keep), (2, .keep), (9, .keep), (10, .keep), (11, .keep)] else none, fun i => if i = 2 then some [(0, .keep), (2, .keep), (9, .keep), (10, .keep)] else if i = 0 then some [] else none, some [(6, .keep)], [.keep]⟩
def e_turnoutlaw15_GraphEnds : List EK := [.ty (.slice NodeT), .ty (.slice (.int .u8)), .ty (.slice (.int .u32))]
def h_turnoutlaw15_GraphEnds : List HK := []
noncomputable def cf_turnoutlaw15_GraphEnds : CallF := mkCF [(14, c_turnoutlaw15_Long), (9, c_turnoutlaw15_awake), (11, c_graph_May), (16, c_turnoutlaw15_way), (13, c_graph_Next)] [(14, [(.slice NodeT)]), (9, []), (11, [(.slice NodeT)]), (16, [(.slice NodeT), (.slice (.int .u8))]), (13, [(.slice NodeT), (.int .i64), (.int .u32)])]
noncomputable def ls_turnoutlaw15_GraphEnds (n : Nat) : Loops := fun i => if i = 2 then some (loopT 0 (p_turnoutlaw15_GraphEnds.head 2) s_turnoutlaw15_GraphEnds_h2 fun K v => L_turnoutlaw15_GraphEnds_2 n (fun z3 => K (.ex 2) (s_turnoutlaw15_GraphEnds_t2.enc ((v.1.1, (v.1.2.1, (v.1.2.2.1, (z3, ())))), ()))) v.1.1 v.1.2.1 v.1.2.2.1 n v.1.2.2.2.1 v.1.2.2.2.2.1)
  else if i = 0 then some (loopT 0 (p_turnoutlaw15_GraphEnds.head 0) s_turnoutlaw15_GraphEnds_h0 fun K v => L_turnoutlaw15_GraphEnds_0 n (fun z0 => K .rt (s_turnoutlaw15_GraphEnds_r.enc ((z0, ()), ()))) (fun _ => K (.ex 0) (s_turnoutlaw15_GraphEnds_t0.enc ((), ()))) v.1.1 v.1.2.1 n v.1.2.2.1)
  else  none
noncomputable def b_turnoutlaw15_GraphEnds_2 : Code := partOf (bodyOf Try.f6) [1, 1, 1, 1, 1, 0, 1, 0, 0, 1, 0, 0, 1, 0, 1, 0, 0]
theorem t_turnoutlaw15_GraphEnds_2 (n : Nat) (K : Cont) (rec : Sig.sem s_turnoutlaw15_GraphEnds_h2 → Option Res) (v : Sig.sem s_turnoutlaw15_GraphEnds_h2) : runT Try.prog cf_turnoutlaw15_GraphEnds Try.f6.ntmps 0 p_turnoutlaw15_GraphEnds (ls_turnoutlaw15_GraphEnds n) b_turnoutlaw15_GraphEnds_2 (s_turnoutlaw15_GraphEnds_h2.enc v) (turnK 0 (p_turnoutlaw15_GraphEnds.head 2) s_turnoutlaw15_GraphEnds_h2 rec K) = F_turnoutlaw15_GraphEnds_2 n (fun z3 => K (.ex 2) (s_turnoutlaw15_GraphEnds_t2.enc ((v.1.1, (v.1.2.1, (v.1.2.2.1, (z3, ())))), ()))) v.1.1 v.1.2.1 v.1.2.2.1 (fun z3 z4 => rec ((v.1.1, (v.1.2.1, (v.1.2.2.1, (z3, (z4, ()))))), ())) v.1.2.2.2.1 v.1.2.2.2.2.1 := by kernel_rfl
noncomputable def V_turnoutlaw15_GraphEnds_2 (n : Nat) (K : Cont) (rec : Sig.sem s_turnoutlaw15_GraphEnds_h2 → Option Res) (v : Sig.sem s_turnoutlaw15_GraphEnds_h2) : Option Res := F_turnoutlaw15_GraphEnds_2 n (fun z3 => K (.ex 2) (s_turnoutlaw15_GraphEnds_t2.enc ((v.1.1, (v.1.2.1, (v.1.2.2.1, (z3, ())))), ()))) v.1.1 v.1.2.1 v.1.2.2.1 (fun z3 z4 => rec ((v.1.1, (v.1.2.1, (v.1.2.2.1, (z3, (z4, ()))))), ())) v.1.2.2.2.1 v.1.2.2.2.2.1
noncomputable def W_turnoutlaw15_GraphEnds_2 (n : Nat) (K : Cont) (m : Nat) (v : Sig.sem s_turnoutlaw15_GraphEnds_h2) : Option Res := L_turnoutlaw15_GraphEnds_2 n (fun z3 => K (.ex 2) (s_turnoutlaw15_GraphEnds_t2.enc ((v.1.1, (v.1.2.1, (v.1.2.2.1, (z3, ())))), ()))) v.1.1 v.1.2.1 v.1.2.2.1 m v.1.2.2.2.1 v.1.2.2.2.2.1
theorem i_turnoutlaw15_GraphEnds_2 (n : Nat) (K : Cont) : ∀ m v, iter (V_turnoutlaw15_GraphEnds_2 n K) m v = W_turnoutlaw15_GraphEnds_2 n K m v := by
  intro m
  induction m with
  | zero => intro v; rfl
  | succ m ih =>
    intro v
    show V_turnoutlaw15_GraphEnds_2 n K (iter (V_turnoutlaw15_GraphEnds_2 n K) m) v = V_turnoutlaw15_GraphEnds_2 n K (W_turnoutlaw15_GraphEnds_2 n K m) v
    rw [show iter (V_turnoutlaw15_GraphEnds_2 n K) m = W_turnoutlaw15_GraphEnds_2 n K m from funext ih]
theorem o_turnoutlaw15_GraphEnds_2 (n : Nat) : ∀ L, ls_turnoutlaw15_GraphEnds n 2 = some L → ∀ s K r, L s K = some r → ∃ x s', loopN (run Try.prog cf_turnoutlaw15_GraphEnds Try.f6.ntmps 0 n p_turnoutlaw15_GraphEnds none b_turnoutlaw15_GraphEnds_2) (gc 0 (p_turnoutlaw15_GraphEnds.head 2)) n s = some (x, s') ∧ K x s' = some r := by
  intro L hL s K r h
  have hL : some (loopT 0 (p_turnoutlaw15_GraphEnds.head 2) s_turnoutlaw15_GraphEnds_h2 fun K v => W_turnoutlaw15_GraphEnds_2 n K n v) = some L := hL
  cases hL
  have hb : LOk Try.prog cf_turnoutlaw15_GraphEnds Try.f6.ntmps 0 n p_turnoutlaw15_GraphEnds (ls_turnoutlaw15_GraphEnds n) b_turnoutlaw15_GraphEnds_2 := ⟨⟨trivial, ⟨trivial, trivial⟩⟩, ⟨⟨trivial, ⟨⟨trivial, ⟨trivial, trivial⟩⟩, trivial⟩⟩, trivial⟩⟩
  refine loopT_ok hb (V_turnoutlaw15_GraphEnds_2 n) (t_turnoutlaw15_GraphEnds_2 n) n s K r ?_
  rw [← h]
  unfold loopT
  simp only [i_turnoutlaw15_GraphEnds_2]
noncomputable def b_turnoutlaw15_GraphEnds_0 : Code := partOf (bodyOf Try.f6) [1, 1, 1, 1, 1, 0, 1, 0, 0]
theorem t_turnoutlaw15_GraphEnds_0 (n : Nat) (K : Cont) (rec : Sig.sem s_turnoutlaw15_GraphEnds_h0 → Option Res) (v : Sig.sem s_turnoutlaw15_GraphEnds_h0) : runT Try.prog cf_turnoutlaw15_GraphEnds Try.f6.ntmps 0 p_turnoutlaw15_GraphEnds (ls_turnoutlaw15_GraphEnds n) b_turnoutlaw15_GraphEnds_0 (s_turnoutlaw15_GraphEnds_h0.enc v) (turnK 0 (p_turnoutlaw15_GraphEnds.head 0) s_turnoutlaw15_GraphEnds_h0 rec K) = F_turnoutlaw15_GraphEnds_0 n (fun z0 => K .rt (s_turnoutlaw15_GraphEnds_r.enc ((z0, ()), ()))) (fun _ => K (.ex 0) (s_turnoutlaw15_GraphEnds_t0.enc ((), ()))) v.1.1 v.1.2.1 (fun z2 => rec ((v.1.1, (v.1.2.1, (z2, ()))), ())) v.1.2.2.1 := by kernel_rfl
noncomputable def V_turnoutlaw15_GraphEnds_0 (n : Nat) (K : Cont) (rec : Sig.sem s_turnoutlaw15_GraphEnds_h0 → Option Res) (v : Sig.sem s_turnoutlaw15_GraphEnds_h0) : Option Res := F_turnoutlaw15_GraphEnds_0 n (fun z0 => K .rt (s_turnoutlaw15_GraphEnds_r.enc ((z0, ()), ()))) (fun _ => K (.ex 0) (s_turnoutlaw15_GraphEnds_t0.enc ((), ()))) v.1.1 v.1.2.1 (fun z2 => rec ((v.1.1, (v.1.2.1, (z2, ()))), ())) v.1.2.2.1
noncomputable def W_turnoutlaw15_GraphEnds_0 (n : Nat) (K : Cont) (m : Nat) (v : Sig.sem s_turnoutlaw15_GraphEnds_h0) : Option Res := L_turnoutlaw15_GraphEnds_0 n (fun z0 => K .rt (s_turnoutlaw15_GraphEnds_r.enc ((z0, ()), ()))) (fun _ => K (.ex 0) (s_turnoutlaw15_GraphEnds_t0.enc ((), ()))) v.1.1 v.1.2.1 m v.1.2.2.1
theorem i_turnoutlaw15_GraphEnds_0 (n : Nat) (K : Cont) : ∀ m v, iter (V_turnoutlaw15_GraphEnds_0 n K) m v = W_turnoutlaw15_GraphEnds_0 n K m v := by
  intro m
  induction m with
  | zero => intro v; rfl
  | succ m ih =>
    intro v
    show V_turnoutlaw15_GraphEnds_0 n K (iter (V_turnoutlaw15_GraphEnds_0 n K) m) v = V_turnoutlaw15_GraphEnds_0 n K (W_turnoutlaw15_GraphEnds_0 n K m) v
    rw [show iter (V_turnoutlaw15_GraphEnds_0 n K) m = W_turnoutlaw15_GraphEnds_0 n K m from funext ih]
theorem o_turnoutlaw15_GraphEnds_0 (n : Nat) : ∀ L, ls_turnoutlaw15_GraphEnds n 0 = some L → ∀ s K r, L s K = some r → ∃ x s', loopN (run Try.prog cf_turnoutlaw15_GraphEnds Try.f6.ntmps 0 n p_turnoutlaw15_GraphEnds none b_turnoutlaw15_GraphEnds_0) (gc 0 (p_turnoutlaw15_GraphEnds.head 0)) n s = some (x, s') ∧ K x s' = some r := by
  intro L hL s K r h
  have hL : some (loopT 0 (p_turnoutlaw15_GraphEnds.head 0) s_turnoutlaw15_GraphEnds_h0 fun K v => W_turnoutlaw15_GraphEnds_0 n K n v) = some L := hL
  cases hL
  have hb : LOk Try.prog cf_turnoutlaw15_GraphEnds Try.f6.ntmps 0 n p_turnoutlaw15_GraphEnds (ls_turnoutlaw15_GraphEnds n) b_turnoutlaw15_GraphEnds_0 := ⟨⟨trivial, ⟨trivial, trivial⟩⟩, ⟨⟨trivial, ⟨⟨trivial, (o_turnoutlaw15_GraphEnds_2 n)⟩, ⟨trivial, ⟨⟨trivial, trivial⟩, trivial⟩⟩⟩⟩, trivial⟩⟩
  refine loopT_ok hb (V_turnoutlaw15_GraphEnds_0 n) (t_turnoutlaw15_GraphEnds_0 n) n s K r ?_
  rw [← h]
  unfold loopT
  simp only [i_turnoutlaw15_GraphEnds_0]
theorem m_turnoutlaw15_GraphEnds (n : Nat) (a0 : (List NodeS)) (a1 : (List Int)) (a2 : (List Int)) : runFT Try.prog cf_turnoutlaw15_GraphEnds p_turnoutlaw15_GraphEnds (ls_turnoutlaw15_GraphEnds n) Try.f6 (bodyOf Try.f6) (EK.encs e_turnoutlaw15_GraphEnds ((a0, (a1, (a2, ()))), ()).1) (HK.encs h_turnoutlaw15_GraphEnds ((a0, (a1, (a2, ()))), ()).2) = M_turnoutlaw15_GraphEnds n a0 a1 a2 := by kernel_rfl
theorem g_turnoutlaw15_GraphEnds (n : Nat) (a0 : (List NodeS)) (a1 : (List Int)) (a2 : (List Int)) {r : Res} (h : M_turnoutlaw15_GraphEnds n a0 a1 a2 = some r) : runF Try.prog cf_turnoutlaw15_GraphEnds n p_turnoutlaw15_GraphEnds 6 (EK.encs e_turnoutlaw15_GraphEnds ((a0, (a1, (a2, ()))), ()).1) (HK.encs h_turnoutlaw15_GraphEnds ((a0, (a1, (a2, ()))), ()).2) = some r := by
  have hb : LOk Try.prog cf_turnoutlaw15_GraphEnds Try.f6.ntmps 0 n p_turnoutlaw15_GraphEnds (ls_turnoutlaw15_GraphEnds n) (bodyOf Try.f6) := ⟨trivial, ⟨⟨trivial, ⟨⟨trivial, trivial⟩, trivial⟩⟩, ⟨⟨trivial, ⟨⟨trivial, trivial⟩, trivial⟩⟩, ⟨trivial, ⟨⟨trivial, ⟨⟨trivial, trivial⟩, trivial⟩⟩, ⟨⟨trivial, (o_turnoutlaw15_GraphEnds_0 n)⟩, ⟨trivial, trivial⟩⟩⟩⟩⟩⟩⟩
  exact runFT_some Try.prog (c := bodyOf Try.f6) Try.func6 (show Try.f6.body = some (bodyOf Try.f6) from rfl) (show (3 : Nat) ≤ 96 by decide) hb ((m_turnoutlaw15_GraphEnds n a0 a1 a2).trans h)
noncomputable def c_turnoutlaw15_GraphEnds : Spec := specQ e_turnoutlaw15_GraphEnds h_turnoutlaw15_GraphEnds ro_turnoutlaw15_GraphEnds rh_turnoutlaw15_GraphEnds fun a b => Q_turnoutlaw15_GraphEnds a.1 a.2.1 a.2.2.1
theorem k_turnoutlaw15_GraphEnds (hm : Try.prog.follows .mixedOrders = true) : SpecOk Try.prog 6 c_turnoutlaw15_GraphEnds := specQ_ok (pol := p_turnoutlaw15_GraphEnds) hm (cf := cf_turnoutlaw15_GraphEnds) (tab_ok (specs_cons (k_turnoutlaw15_Long hm) (specs_cons (k_turnoutlaw15_awake hm) (specs_cons (k_graph_May hm) (specs_cons (k_turnoutlaw15_way hm) (specs_cons (k_graph_Next hm) specs_nil)))))) fun a b r h => ⟨FUEL, g_turnoutlaw15_GraphEnds FUEL a.1 a.2.1 a.2.2.1 (decRes_some h)⟩
def s_turnoutlaw15_without_r : Sig := ⟨[4], [.hs 0 0], [.row NodeT]⟩
def p_turnoutlaw15_without : Pol := ⟨fun i => none, fun i => none, some [(4, (.own NodeT))], [(.own NodeT)]⟩
def e_turnoutlaw15_without : List EK := [.ty (.slice NodeT), .ty (.int .i64)]
def h_turnoutlaw15_without : List HK := []
noncomputable def cf_turnoutlaw15_without : CallF := mkCF [] []
noncomputable def ls_turnoutlaw15_without (n : Nat) : Loops := fun i =>  none
theorem m_turnoutlaw15_without (n : Nat) (a0 : (List NodeS)) (a1 : Int) : runFT Try.prog cf_turnoutlaw15_without p_turnoutlaw15_without (ls_turnoutlaw15_without n) Try.f20 (bodyOf Try.f20) (EK.encs e_turnoutlaw15_without ((a0, (a1, ())), ()).1) (HK.encs h_turnoutlaw15_without ((a0, (a1, ())), ()).2) = M_turnoutlaw15_without n a0 a1 := by kernel_rfl
theorem g_turnoutlaw15_without (n : Nat) (a0 : (List NodeS)) (a1 : Int) {r : Res} (h : M_turnoutlaw15_without n a0 a1 = some r) : runF Try.prog cf_turnoutlaw15_without n p_turnoutlaw15_without 20 (EK.encs e_turnoutlaw15_without ((a0, (a1, ())), ()).1) (HK.encs h_turnoutlaw15_without ((a0, (a1, ())), ()).2) = some r := by
  have hb : LOk Try.prog cf_turnoutlaw15_without Try.f20.ntmps 0 n p_turnoutlaw15_without (ls_turnoutlaw15_without n) (bodyOf Try.f20) := ⟨trivial, ⟨trivial, trivial⟩⟩
  exact runFT_some Try.prog (c := bodyOf Try.f20) Try.func20 (show Try.f20.body = some (bodyOf Try.f20) from rfl) (show (2 : Nat) ≤ 15 by decide) hb ((m_turnoutlaw15_without n a0 a1).trans h)
noncomputable def c_turnoutlaw15_without : Spec := specQ e_turnoutlaw15_without h_turnoutlaw15_without ro_turnoutlaw15_without rh_turnoutlaw15_without fun a b => Q_turnoutlaw15_without a.1 a.2.1
theorem k_turnoutlaw15_without (hm : Try.prog.follows .mixedOrders = true) : SpecOk Try.prog 20 c_turnoutlaw15_without := specQ_ok (pol := p_turnoutlaw15_without) hm (cf := cf_turnoutlaw15_without) (tab_ok specs_nil) fun a b r h => ⟨FUEL, g_turnoutlaw15_without FUEL a.1 a.2.1 (decRes_some h)⟩
def s_turnoutlaw15_named_h0 : Sig := ⟨[0, 1, 5], [.ty (.slice NodeT), .ty (.int .i64), .ty (.int .i64)], []⟩
def s_turnoutlaw15_named_h2 : Sig := ⟨[0, 1, 5, 6, 7], [.ty (.slice NodeT), .ty (.int .i64), .ty (.int .i64), .hs 0 0, .ty (.int .i64)], [.row (.int .i64)]⟩
def s_turnoutlaw15_named_r : Sig := ⟨[4], [.ty .bool], []⟩
def s_turnoutlaw15_named_t2 : Sig := ⟨[0, 1, 5], [.ty (.slice NodeT), .ty (.int .i64), .ty (.int .i64)], []⟩
def s_turnoutlaw15_named_t0 : Sig := ⟨[], [], []⟩
def p_turnoutlaw15_named : Pol := ⟨fun i => if i = 0 then some [(0, .keep), (1, .keep), (5, .keep)] else if i = 2 then some [(0, .keep), (1, .keep), (5, .keep), (6, (.own (.int .i64))), (7, .keep)] else none, fun i => if i = 2 then some [(0, .keep), (1, .keep), (5, .keep)] else if i = 0 then some [] else none, some [(4, .keep)], [.keep]⟩
def e_turnoutlaw15_named : List EK := [.ty (.slice NodeT), .ty (.int .i64)]
def h_turnoutlaw15_named : List HK := []
noncomputable def cf_turnoutlaw15_named : CallF := mkCF [(19, c_turnoutref15_Goes)] [(19, [NodeT])]
noncomputable def ls_turnoutlaw15_named (n : Nat) : Loops := fun i => if i = 2 then some (loopT 0 (p_turnoutlaw15_named.head 2) s_turnoutlaw15_named_h2 fun K v => L_turnoutlaw15_named_2 n (fun z0 => K .rt (s_turnoutlaw15_named_r.enc ((z0, ()), ()))) (fun _ => K (.ex 2) (s_turnoutlaw15_named_t2.enc ((v.1.1, (v.1.2.1, (v.1.2.2.1, ()))), ()))) v.1.1 v.1.2.1 v.1.2.2.1 v.1.2.2.2.1 v.2.1 n v.1.2.2.2.2.1)
  else if i = 0 then some (loopT 0 (p_turnoutlaw15_named.head 0) s_turnoutlaw15_named_h0 fun K v => L_turnoutlaw15_named_0 n (fun z0 => K .rt (s_turnoutlaw15_named_r.enc ((z0, ()), ()))) (fun _ => K (.ex 0) (s_turnoutlaw15_named_t0.enc ((), ()))) v.1.1 v.1.2.1 n v.1.2.2.1)
  else  none
noncomputable def b_turnoutlaw15_named_2 : Code := partOf (bodyOf Try.f21) [1, 0, 1, 0, 0, 1, 0, 0, 1, 1, 0, 0]
theorem t_turnoutlaw15_named_2 (n : Nat) (K : Cont) (rec : Sig.sem s_turnoutlaw15_named_h2 → Option Res) (v : Sig.sem s_turnoutlaw15_named_h2) : runT Try.prog cf_turnoutlaw15_named Try.f21.ntmps 0 p_turnoutlaw15_named (ls_turnoutlaw15_named n) b_turnoutlaw15_named_2 (s_turnoutlaw15_named_h2.enc v) (turnK 0 (p_turnoutlaw15_named.head 2) s_turnoutlaw15_named_h2 rec K) = F_turnoutlaw15_named_2 n (fun z0 => K .rt (s_turnoutlaw15_named_r.enc ((z0, ()), ()))) (fun _ => K (.ex 2) (s_turnoutlaw15_named_t2.enc ((v.1.1, (v.1.2.1, (v.1.2.2.1, ()))), ()))) v.1.1 v.1.2.1 v.1.2.2.1 v.1.2.2.2.1 v.2.1 (fun z4 => rec ((v.1.1, (v.1.2.1, (v.1.2.2.1, (v.1.2.2.2.1, (z4, ()))))), (v.2.1, ()))) v.1.2.2.2.2.1 := by kernel_rfl
noncomputable def V_turnoutlaw15_named_2 (n : Nat) (K : Cont) (rec : Sig.sem s_turnoutlaw15_named_h2 → Option Res) (v : Sig.sem s_turnoutlaw15_named_h2) : Option Res := F_turnoutlaw15_named_2 n (fun z0 => K .rt (s_turnoutlaw15_named_r.enc ((z0, ()), ()))) (fun _ => K (.ex 2) (s_turnoutlaw15_named_t2.enc ((v.1.1, (v.1.2.1, (v.1.2.2.1, ()))), ()))) v.1.1 v.1.2.1 v.1.2.2.1 v.1.2.2.2.1 v.2.1 (fun z4 => rec ((v.1.1, (v.1.2.1, (v.1.2.2.1, (v.1.2.2.2.1, (z4, ()))))), (v.2.1, ()))) v.1.2.2.2.2.1
noncomputable def W_turnoutlaw15_named_2 (n : Nat) (K : Cont) (m : Nat) (v : Sig.sem s_turnoutlaw15_named_h2) : Option Res := L_turnoutlaw15_named_2 n (fun z0 => K .rt (s_turnoutlaw15_named_r.enc ((z0, ()), ()))) (fun _ => K (.ex 2) (s_turnoutlaw15_named_t2.enc ((v.1.1, (v.1.2.1, (v.1.2.2.1, ()))), ()))) v.1.1 v.1.2.1 v.1.2.2.1 v.1.2.2.2.1 v.2.1 m v.1.2.2.2.2.1
theorem i_turnoutlaw15_named_2 (n : Nat) (K : Cont) : ∀ m v, iter (V_turnoutlaw15_named_2 n K) m v = W_turnoutlaw15_named_2 n K m v := by
  intro m
  induction m with
  | zero => intro v; rfl
  | succ m ih =>
    intro v
    show V_turnoutlaw15_named_2 n K (iter (V_turnoutlaw15_named_2 n K) m) v = V_turnoutlaw15_named_2 n K (W_turnoutlaw15_named_2 n K m) v
    rw [show iter (V_turnoutlaw15_named_2 n K) m = W_turnoutlaw15_named_2 n K m from funext ih]
theorem o_turnoutlaw15_named_2 (n : Nat) : ∀ L, ls_turnoutlaw15_named n 2 = some L → ∀ s K r, L s K = some r → ∃ x s', loopN (run Try.prog cf_turnoutlaw15_named Try.f21.ntmps 0 n p_turnoutlaw15_named none b_turnoutlaw15_named_2) (gc 0 (p_turnoutlaw15_named.head 2)) n s = some (x, s') ∧ K x s' = some r := by
  intro L hL s K r h
  have hL : some (loopT 0 (p_turnoutlaw15_named.head 2) s_turnoutlaw15_named_h2 fun K v => W_turnoutlaw15_named_2 n K n v) = some L := hL
  cases hL
  have hb : LOk Try.prog cf_turnoutlaw15_named Try.f21.ntmps 0 n p_turnoutlaw15_named (ls_turnoutlaw15_named n) b_turnoutlaw15_named_2 := ⟨⟨trivial, ⟨trivial, trivial⟩⟩, ⟨⟨trivial, ⟨⟨trivial, trivial⟩, trivial⟩⟩, trivial⟩⟩
  refine loopT_ok hb (V_turnoutlaw15_named_2 n) (t_turnoutlaw15_named_2 n) n s K r ?_
  rw [← h]
  unfold loopT
  simp only [i_turnoutlaw15_named_2]
noncomputable def b_turnoutlaw15_named_0 : Code := partOf (bodyOf Try.f21) [1, 0, 1, 0, 0]
theorem t_turnoutlaw15_named_0 (n : Nat) (K : Cont) (rec : Sig.sem s_turnoutlaw15_named_h0 → Option Res) (v : Sig.sem s_turnoutlaw15_named_h0) : runT Try.prog cf_turnoutlaw15_named Try.f21.ntmps 0 p_turnoutlaw15_named (ls_turnoutlaw15_named n) b_turnoutlaw15_named_0 (s_turnoutlaw15_named_h0.enc v) (turnK 0 (p_turnoutlaw15_named.head 0) s_turnoutlaw15_named_h0 rec K) = F_turnoutlaw15_named_0 n (fun z0 => K .rt (s_turnoutlaw15_named_r.enc ((z0, ()), ()))) (fun _ => K (.ex 0) (s_turnoutlaw15_named_t0.enc ((), ()))) v.1.1 v.1.2.1 (fun z2 => rec ((v.1.1, (v.1.2.1, (z2, ()))), ())) v.1.2.2.1 := by kernel_rfl
noncomputable def V_turnoutlaw15_named_0 (n : Nat) (K : Cont) (rec : Sig.sem s_turnoutlaw15_named_h0 → Option Res) (v : Sig.sem s_turnoutlaw15_named_h0) : Option Res := F_turnoutlaw15_named_0 n (fun z0 => K .rt (s_turnoutlaw15_named_r.enc ((z0, ()), ()))) (fun _ => K (.ex 0) (s_turnoutlaw15_named_t0.enc ((), ()))) v.1.1 v.1.2.1 (fun z2 => rec ((v.1.1, (v.1.2.1, (z2, ()))), ())) v.1.2.2.1
noncomputable def W_turnoutlaw15_named_0 (n : Nat) (K : Cont) (m : Nat) (v : Sig.sem s_turnoutlaw15_named_h0) : Option Res := L_turnoutlaw15_named_0 n (fun z0 => K .rt (s_turnoutlaw15_named_r.enc ((z0, ()), ()))) (fun _ => K (.ex 0) (s_turnoutlaw15_named_t0.enc ((), ()))) v.1.1 v.1.2.1 m v.1.2.2.1
theorem i_turnoutlaw15_named_0 (n : Nat) (K : Cont) : ∀ m v, iter (V_turnoutlaw15_named_0 n K) m v = W_turnoutlaw15_named_0 n K m v := by
  intro m
  induction m with
  | zero => intro v; rfl
  | succ m ih =>
    intro v
    show V_turnoutlaw15_named_0 n K (iter (V_turnoutlaw15_named_0 n K) m) v = V_turnoutlaw15_named_0 n K (W_turnoutlaw15_named_0 n K m) v
    rw [show iter (V_turnoutlaw15_named_0 n K) m = W_turnoutlaw15_named_0 n K m from funext ih]
theorem o_turnoutlaw15_named_0 (n : Nat) : ∀ L, ls_turnoutlaw15_named n 0 = some L → ∀ s K r, L s K = some r → ∃ x s', loopN (run Try.prog cf_turnoutlaw15_named Try.f21.ntmps 0 n p_turnoutlaw15_named none b_turnoutlaw15_named_0) (gc 0 (p_turnoutlaw15_named.head 0)) n s = some (x, s') ∧ K x s' = some r := by
  intro L hL s K r h
  have hL : some (loopT 0 (p_turnoutlaw15_named.head 0) s_turnoutlaw15_named_h0 fun K v => W_turnoutlaw15_named_0 n K n v) = some L := hL
  cases hL
  have hb : LOk Try.prog cf_turnoutlaw15_named Try.f21.ntmps 0 n p_turnoutlaw15_named (ls_turnoutlaw15_named n) b_turnoutlaw15_named_0 := ⟨⟨trivial, ⟨trivial, trivial⟩⟩, ⟨⟨trivial, ⟨trivial, (o_turnoutlaw15_named_2 n)⟩⟩, trivial⟩⟩
  refine loopT_ok hb (V_turnoutlaw15_named_0 n) (t_turnoutlaw15_named_0 n) n s K r ?_
  rw [← h]
  unfold loopT
  simp only [i_turnoutlaw15_named_0]
theorem m_turnoutlaw15_named (n : Nat) (a0 : (List NodeS)) (a1 : Int) : runFT Try.prog cf_turnoutlaw15_named p_turnoutlaw15_named (ls_turnoutlaw15_named n) Try.f21 (bodyOf Try.f21) (EK.encs e_turnoutlaw15_named ((a0, (a1, ())), ()).1) (HK.encs h_turnoutlaw15_named ((a0, (a1, ())), ()).2) = M_turnoutlaw15_named n a0 a1 := by kernel_rfl
theorem g_turnoutlaw15_named (n : Nat) (a0 : (List NodeS)) (a1 : Int) {r : Res} (h : M_turnoutlaw15_named n a0 a1 = some r) : runF Try.prog cf_turnoutlaw15_named n p_turnoutlaw15_named 21 (EK.encs e_turnoutlaw15_named ((a0, (a1, ())), ()).1) (HK.encs h_turnoutlaw15_named ((a0, (a1, ())), ()).2) = some r := by
  have hb : LOk Try.prog cf_turnoutlaw15_named Try.f21.ntmps 0 n p_turnoutlaw15_named (ls_turnoutlaw15_named n) (bodyOf Try.f21) := ⟨trivial, ⟨⟨trivial, (o_turnoutlaw15_named_0 n)⟩, ⟨trivial, trivial⟩⟩⟩
  exact runFT_some Try.prog (c := bodyOf Try.f21) Try.func21 (show Try.f21.body = some (bodyOf Try.f21) from rfl) (show (2 : Nat) ≤ 31 by decide) hb ((m_turnoutlaw15_named n a0 a1).trans h)
noncomputable def c_turnoutlaw15_named : Spec := specQ e_turnoutlaw15_named h_turnoutlaw15_named ro_turnoutlaw15_named rh_turnoutlaw15_named fun a b => Q_turnoutlaw15_named a.1 a.2.1
theorem k_turnoutlaw15_named (hm : Try.prog.follows .mixedOrders = true) : SpecOk Try.prog 21 c_turnoutlaw15_named := specQ_ok (pol := p_turnoutlaw15_named) hm (cf := cf_turnoutlaw15_named) (tab_ok (specs_cons (k_turnoutref15_Goes hm) specs_nil)) fun a b r h => ⟨FUEL, g_turnoutlaw15_named FUEL a.1 a.2.1 (decRes_some h)⟩
def s_turnoutlaw15_GraphLess_r : Sig := ⟨[4], [.ty .bool], []⟩
def s_turnoutlaw15_GraphLess_h0 : Sig := ⟨[0, 6, 7, 8, 9], [.ty (.slice NodeT), .hs 0 0, .ty (.int .i64), .hs 1 0, .ty (.int .i64)], [.row NodeT, .row (.int .i64)]⟩
def s_turnoutlaw15_GraphLess_t0 : Sig := ⟨[0, 6, 7], [.ty (.slice NodeT), .hs 0 0, .ty (.int .i64)], [.row NodeT]⟩
def p_turnoutlaw15_GraphLess : Pol := ⟨fun i => if i = 0 then some [(0, .keep), (6, (.own NodeT)), (7, .keep), (8, (.own (.int .i64))), (9, .keep)] else none, fun i => if i = 0 then some [(0, .keep), (6, (.own NodeT)), (7, .keep)] else none, some [(4, .keep)], [.keep]⟩
def e_turnoutlaw15_GraphLess : List EK := [.ty (.slice NodeT), .ty (.int .i64)]
def h_turnoutlaw15_GraphLess : List HK := []
noncomputable def cf_turnoutlaw15_GraphLess : CallF := mkCF [(14, c_turnoutlaw15_Long), (9, c_turnoutlaw15_awake), (11, c_graph_May), (20, c_turnoutlaw15_without), (21, c_turnoutlaw15_named), (12, c_graph_Longest), (19, c_turnoutref15_Goes), (18, c_turnoutlaw15_from)] [(14, [(.slice NodeT)]), (9, []), (11, [(.slice NodeT)]), (20, [(.slice NodeT), (.int .i64)]), (21, [(.slice NodeT), (.int .i64)]), (12, [(.slice NodeT)]), (19, [NodeT]), (18, [(.slice NodeT), (.int .i64)])]
noncomputable def ls_turnoutlaw15_GraphLess (n : Nat) : Loops := fun i => if i = 0 then some (loopT 0 (p_turnoutlaw15_GraphLess.head 0) s_turnoutlaw15_GraphLess_h0 fun K v => L_turnoutlaw15_GraphLess_0 n (fun z2 => K (.ex 0) (s_turnoutlaw15_GraphLess_t0.enc ((v.1.1, (v.1.2.1, (z2, ()))), (v.2.1, ())))) v.1.1 v.1.2.1 v.1.2.2.2.1 v.2.1 v.2.2.1 n v.1.2.2.1 v.1.2.2.2.2.1)
  else  none
noncomputable def b_turnoutlaw15_GraphLess_0 : Code := partOf (bodyOf Try.f7) [1, 1, 1, 1, 1, 1, 1, 1, 1, 1, 0, 1, 0, 0]
theorem t_turnoutlaw15_GraphLess_0 (n : Nat) (K : Cont) (rec : Sig.sem s_turnoutlaw15_GraphLess_h0 → Option Res) (v : Sig.sem s_turnoutlaw15_GraphLess_h0) : runT Try.prog cf_turnoutlaw15_GraphLess Try.f7.ntmps 0 p_turnoutlaw15_GraphLess (ls_turnoutlaw15_GraphLess n) b_turnoutlaw15_GraphLess_0 (s_turnoutlaw15_GraphLess_h0.enc v) (turnK 0 (p_turnoutlaw15_GraphLess.head 0) s_turnoutlaw15_GraphLess_h0 rec K) = F_turnoutlaw15_GraphLess_0 n (fun z2 => K (.ex 0) (s_turnoutlaw15_GraphLess_t0.enc ((v.1.1, (v.1.2.1, (z2, ()))), (v.2.1, ())))) v.1.1 v.1.2.1 v.1.2.2.2.1 v.2.1 v.2.2.1 (fun z2 z4 => rec ((v.1.1, (v.1.2.1, (z2, (v.1.2.2.2.1, (z4, ()))))), (v.2.1, (v.2.2.1, ())))) v.1.2.2.1 v.1.2.2.2.2.1 := by kernel_rfl
noncomputable def V_turnoutlaw15_GraphLess_0 (n : Nat) (K : Cont) (rec : Sig.sem s_turnoutlaw15_GraphLess_h0 → Option Res) (v : Sig.sem s_turnoutlaw15_GraphLess_h0) : Option Res := F_turnoutlaw15_GraphLess_0 n (fun z2 => K (.ex 0) (s_turnoutlaw15_GraphLess_t0.enc ((v.1.1, (v.1.2.1, (z2, ()))), (v.2.1, ())))) v.1.1 v.1.2.1 v.1.2.2.2.1 v.2.1 v.2.2.1 (fun z2 z4 => rec ((v.1.1, (v.1.2.1, (z2, (v.1.2.2.2.1, (z4, ()))))), (v.2.1, (v.2.2.1, ())))) v.1.2.2.1 v.1.2.2.2.2.1
noncomputable def W_turnoutlaw15_GraphLess_0 (n : Nat) (K : Cont) (m : Nat) (v : Sig.sem s_turnoutlaw15_GraphLess_h0) : Option Res := L_turnoutlaw15_GraphLess_0 n (fun z2 => K (.ex 0) (s_turnoutlaw15_GraphLess_t0.enc ((v.1.1, (v.1.2.1, (z2, ()))), (v.2.1, ())))) v.1.1 v.1.2.1 v.1.2.2.2.1 v.2.1 v.2.2.1 m v.1.2.2.1 v.1.2.2.2.2.1
theorem i_turnoutlaw15_GraphLess_0 (n : Nat) (K : Cont) : ∀ m v, iter (V_turnoutlaw15_GraphLess_0 n K) m v = W_turnoutlaw15_GraphLess_0 n K m v := by
  intro m
  induction m with
  | zero => intro v; rfl
  | succ m ih =>
    intro v
    show V_turnoutlaw15_GraphLess_0 n K (iter (V_turnoutlaw15_GraphLess_0 n K) m) v = V_turnoutlaw15_GraphLess_0 n K (W_turnoutlaw15_GraphLess_0 n K m) v
    rw [show iter (V_turnoutlaw15_GraphLess_0 n K) m = W_turnoutlaw15_GraphLess_0 n K m from funext ih]
theorem o_turnoutlaw15_GraphLess_0 (n : Nat) : ∀ L, ls_turnoutlaw15_GraphLess n 0 = some L → ∀ s K r, L s K = some r → ∃ x s', loopN (run Try.prog cf_turnoutlaw15_GraphLess Try.f7.ntmps 0 n p_turnoutlaw15_GraphLess none b_turnoutlaw15_GraphLess_0) (gc 0 (p_turnoutlaw15_GraphLess.head 0)) n s = some (x, s') ∧ K x s' = some r := by
  intro L hL s K r h
  have hL : some (loopT 0 (p_turnoutlaw15_GraphLess.head 0) s_turnoutlaw15_GraphLess_h0 fun K v => W_turnoutlaw15_GraphLess_0 n K n v) = some L := hL
  cases hL
  have hb : LOk Try.prog cf_turnoutlaw15_GraphLess Try.f7.ntmps 0 n p_turnoutlaw15_GraphLess (ls_turnoutlaw15_GraphLess n) b_turnoutlaw15_GraphLess_0 := ⟨⟨trivial, ⟨trivial, trivial⟩⟩, ⟨trivial, trivial⟩⟩
  refine loopT_ok hb (V_turnoutlaw15_GraphLess_0 n) (t_turnoutlaw15_GraphLess_0 n) n s K r ?_
  rw [← h]
  unfold loopT
  simp only [i_turnoutlaw15_GraphLess_0]
theorem m_turnoutlaw15_GraphLess (n : Nat) (a0 : (List NodeS)) (a1 : Int) : runFT Try.prog cf_turnoutlaw15_GraphLess p_turnoutlaw15_GraphLess (ls_turnoutlaw15_GraphLess n) Try.f7 (bodyOf Try.f7) (EK.encs e_turnoutlaw15_GraphLess ((a0, (a1, ())), ()).1) (HK.encs h_turnoutlaw15_GraphLess ((a0, (a1, ())), ()).2) = M_turnoutlaw15_GraphLess n a0 a1 := by kernel_rfl
theorem g_turnoutlaw15_GraphLess (n : Nat) (a0 : (List NodeS)) (a1 : Int) {r : Res} (h : M_turnoutlaw15_GraphLess n a0 a1 = some r) : runF Try.prog cf_turnoutlaw15_GraphLess n p_turnoutlaw15_GraphLess 7 (EK.encs e_turnoutlaw15_GraphLess ((a0, (a1, ())), ()).1) (HK.encs h_turnoutlaw15_GraphLess ((a0, (a1, ())), ()).2) = some r := by
  have hb : LOk Try.prog cf_turnoutlaw15_GraphLess Try.f7.ntmps 0 n p_turnoutlaw15_GraphLess (ls_turnoutlaw15_GraphLess n) (bodyOf Try.f7) := ⟨trivial, ⟨⟨trivial, ⟨⟨trivial, trivial⟩, trivial⟩⟩, ⟨⟨trivial, ⟨⟨trivial, trivial⟩, trivial⟩⟩, ⟨trivial, ⟨trivial, ⟨⟨trivial, ⟨⟨trivial, trivial⟩, trivial⟩⟩, ⟨⟨trivial, ⟨⟨trivial, trivial⟩, trivial⟩⟩, ⟨⟨trivial, ⟨⟨trivial, trivial⟩, trivial⟩⟩, ⟨trivial, ⟨trivial, ⟨⟨trivial, (o_turnoutlaw15_GraphLess_0 n)⟩, ⟨trivial, trivial⟩⟩⟩⟩⟩⟩⟩⟩⟩⟩⟩⟩
  exact runFT_some Try.prog (c := bodyOf Try.f7) Try.func7 (show Try.f7.body = some (bodyOf Try.f7) from rfl) (show (2 : Nat) ≤ 93 by decide) hb ((m_turnoutlaw15_GraphLess n a0 a1).trans h)
noncomputable def c_turnoutlaw15_GraphLess : Spec := specQ e_turnoutlaw15_GraphLess h_turnoutlaw15_GraphLess ro_turnoutlaw15_GraphLess rh_turnoutlaw15_GraphLess fun a b => Q_turnoutlaw15_GraphLess a.1 a.2.1
theorem k_turnoutlaw15_GraphLess (hm : Try.prog.follows .mixedOrders = true) : SpecOk Try.prog 7 c_turnoutlaw15_GraphLess := specQ_ok (pol := p_turnoutlaw15_GraphLess) hm (cf := cf_turnoutlaw15_GraphLess) (tab_ok (specs_cons (k_turnoutlaw15_Long hm) (specs_cons (k_turnoutlaw15_awake hm) (specs_cons (k_graph_May hm) (specs_cons (k_turnoutlaw15_without hm) (specs_cons (k_turnoutlaw15_named hm) (specs_cons (k_graph_Longest hm) (specs_cons (k_turnoutref15_Goes hm) (specs_cons (k_turnoutlaw15_from hm) specs_nil))))))))) fun a b r h => ⟨FUEL, g_turnoutlaw15_GraphLess FUEL a.1 a.2.1 (decRes_some h)⟩
def s_turnoutlaw15_GraphRing_r : Sig := ⟨[8], [.ty .bool], []⟩
def s_turnoutlaw15_GraphRing_h0 : Sig := ⟨[0, 1, 2, 3, 9, 10, 11], [.ty (.slice NodeT), .ty (.slice (.int .u8)), .ty (.int .i64), .ty (.int .i64), .hs 0 0, .ty (.int .i64), .ty (.int .i64)], [.row (.int .i64)]⟩
def s_turnoutlaw15_GraphRing_t0 : Sig := ⟨[0, 2, 3, 9], [.ty (.slice NodeT), .ty (.int .i64), .ty (.int .i64), .hs 0 0], [.row (.int .i64)]⟩
def s_turnoutlaw15_GraphRing_h2 : Sig := ⟨[9, 16, 17, 18, 19], [.hs 0 0, .ty (.int .i64), .ty (.int .i64), .hs 1 0, .ty (.int .i64)], [.row (.int .i64), .row NodeT]⟩
def s_turnoutlaw15_GraphRing_t2 : Sig := ⟨[18], [.hs 0 0], [.row NodeT]⟩
def p_turnoutlaw15_GraphRing : Pol := ⟨fun i => if i = 0 then some [(0, .keep), (1, .keep), (2, .keep), (3, .keep), (9, (.own (.int .i64))), (10, .keep), (11, .keep)] else if i = 2 then some [(9, (.own (.int .i64))), (16, .keep), (17, .keep), (18, (.own NodeT)), (19, .keep)] else none, fun i => if i = 0 then some [(0, .keep), (2, .keep), (3, .keep), (9, (.own (.int .i64)))] else if i = 2 then some [(18, (.own NodeT))] else none, some [(8, .keep)], [.keep]⟩
def e_turnoutlaw15_GraphRing : List EK := [.ty (.slice NodeT), .ty (.slice (.int .u8)), .ty (.int .i64), .ty (.int .i64)]
def h_turnoutlaw15_GraphRing : List HK := []
noncomputable def cf_turnoutlaw15_GraphRing : CallF := mkCF [(14, c_turnoutlaw15_Long), (9, c_turnoutlaw15_awake), (11, c_graph_May), (17, c_graph_Find), (19, c_turnoutref15_Goes), (12, c_graph_Longest)] [(14, [(.slice NodeT)]), (9, []), (11, [(.slice NodeT)]), (17, [(.slice NodeT), (.int .i64)]), (19, [NodeT]), (12, [(.slice NodeT)])]
noncomputable def ls_turnoutlaw15_GraphRing (n : Nat) : Loops := fun i => if i = 0 then some (loopT 0 (p_turnoutlaw15_GraphRing.head 0) s_turnoutlaw15_GraphRing_h0 fun K v => L_turnoutlaw15_GraphRing_0 n (fun z3 z4 => K (.ex 0) (s_turnoutlaw15_GraphRing_t0.enc ((v.1.1, (v.1.2.2.1, (v.1.2.2.2.1, (z3, ())))), (z4, ())))) v.1.1 v.1.2.1 v.1.2.2.1 v.1.2.2.2.1 n v.1.2.2.2.2.1 v.1.2.2.2.2.2.1 v.1.2.2.2.2.2.2.1 v.2.1)
  else if i = 2 then some (loopT 0 (p_turnoutlaw15_GraphRing.head 2) s_turnoutlaw15_GraphRing_h2 fun K v => L_turnoutlaw15_GraphRing_2 n (fun z1 => K (.ex 2) (s_turnoutlaw15_GraphRing_t2.enc ((v.1.2.2.2.1, ()), (z1, ())))) v.1.1 v.1.2.1 v.1.2.2.1 v.1.2.2.2.1 v.2.1 n v.1.2.2.2.2.1 v.2.2.1)
  else  none
noncomputable def b_turnoutlaw15_GraphRing_0 : Code := partOf (bodyOf Try.f8) [1, 1, 1, 1, 1, 0, 1, 0, 0]
theorem t_turnoutlaw15_GraphRing_0 (n : Nat) (K : Cont) (rec : Sig.sem s_turnoutlaw15_GraphRing_h0 → Option Res) (v : Sig.sem s_turnoutlaw15_GraphRing_h0) : runT Try.prog cf_turnoutlaw15_GraphRing Try.f8.ntmps 0 p_turnoutlaw15_GraphRing (ls_turnoutlaw15_GraphRing n) b_turnoutlaw15_GraphRing_0 (s_turnoutlaw15_GraphRing_h0.enc v) (turnK 0 (p_turnoutlaw15_GraphRing.head 0) s_turnoutlaw15_GraphRing_h0 rec K) = F_turnoutlaw15_GraphRing_0 n (fun z3 z4 => K (.ex 0) (s_turnoutlaw15_GraphRing_t0.enc ((v.1.1, (v.1.2.2.1, (v.1.2.2.2.1, (z3, ())))), (z4, ())))) v.1.1 v.1.2.1 v.1.2.2.1 v.1.2.2.2.1 (fun z4 z5 z6 z7 => rec ((v.1.1, (v.1.2.1, (v.1.2.2.1, (v.1.2.2.2.1, (z4, (z5, (z6, ()))))))), (z7, ()))) v.1.2.2.2.2.1 v.1.2.2.2.2.2.1 v.1.2.2.2.2.2.2.1 v.2.1 := by kernel_rfl
noncomputable def V_turnoutlaw15_GraphRing_0 (n : Nat) (K : Cont) (rec : Sig.sem s_turnoutlaw15_GraphRing_h0 → Option Res) (v : Sig.sem s_turnoutlaw15_GraphRing_h0) : Option Res := F_turnoutlaw15_GraphRing_0 n (fun z3 z4 => K (.ex 0) (s_turnoutlaw15_GraphRing_t0.enc ((v.1.1, (v.1.2.2.1, (v.1.2.2.2.1, (z3, ())))), (z4, ())))) v.1.1 v.1.2.1 v.1.2.2.1 v.1.2.2.2.1 (fun z4 z5 z6 z7 => rec ((v.1.1, (v.1.2.1, (v.1.2.2.1, (v.1.2.2.2.1, (z4, (z5, (z6, ()))))))), (z7, ()))) v.1.2.2.2.2.1 v.1.2.2.2.2.2.1 v.1.2.2.2.2.2.2.1 v.2.1
noncomputable def W_turnoutlaw15_GraphRing_0 (n : Nat) (K : Cont) (m : Nat) (v : Sig.sem s_turnoutlaw15_GraphRing_h0) : Option Res := L_turnoutlaw15_GraphRing_0 n (fun z3 z4 => K (.ex 0) (s_turnoutlaw15_GraphRing_t0.enc ((v.1.1, (v.1.2.2.1, (v.1.2.2.2.1, (z3, ())))), (z4, ())))) v.1.1 v.1.2.1 v.1.2.2.1 v.1.2.2.2.1 m v.1.2.2.2.2.1 v.1.2.2.2.2.2.1 v.1.2.2.2.2.2.2.1 v.2.1
theorem i_turnoutlaw15_GraphRing_0 (n : Nat) (K : Cont) : ∀ m v, iter (V_turnoutlaw15_GraphRing_0 n K) m v = W_turnoutlaw15_GraphRing_0 n K m v := by
  intro m
  induction m with
  | zero => intro v; rfl
  | succ m ih =>
    intro v
    show V_turnoutlaw15_GraphRing_0 n K (iter (V_turnoutlaw15_GraphRing_0 n K) m) v = V_turnoutlaw15_GraphRing_0 n K (W_turnoutlaw15_GraphRing_0 n K m) v
    rw [show iter (V_turnoutlaw15_GraphRing_0 n K) m = W_turnoutlaw15_GraphRing_0 n K m from funext ih]
theorem o_turnoutlaw15_GraphRing_0 (n : Nat) : ∀ L, ls_turnoutlaw15_GraphRing n 0 = some L → ∀ s K r, L s K = some r → ∃ x s', loopN (run Try.prog cf_turnoutlaw15_GraphRing Try.f8.ntmps 0 n p_turnoutlaw15_GraphRing none b_turnoutlaw15_GraphRing_0) (gc 0 (p_turnoutlaw15_GraphRing.head 0)) n s = some (x, s') ∧ K x s' = some r := by
  intro L hL s K r h
  have hL : some (loopT 0 (p_turnoutlaw15_GraphRing.head 0) s_turnoutlaw15_GraphRing_h0 fun K v => W_turnoutlaw15_GraphRing_0 n K n v) = some L := hL
  cases hL
  have hb : LOk Try.prog cf_turnoutlaw15_GraphRing Try.f8.ntmps 0 n p_turnoutlaw15_GraphRing (ls_turnoutlaw15_GraphRing n) b_turnoutlaw15_GraphRing_0 := ⟨⟨trivial, ⟨trivial, trivial⟩⟩, ⟨⟨trivial, ⟨⟨trivial, ⟨trivial, trivial⟩⟩, ⟨trivial, ⟨trivial, ⟨trivial, ⟨⟨trivial, ⟨trivial, trivial⟩⟩, trivial⟩⟩⟩⟩⟩⟩, trivial⟩⟩
  refine loopT_ok hb (V_turnoutlaw15_GraphRing_0 n) (t_turnoutlaw15_GraphRing_0 n) n s K r ?_
  rw [← h]
  unfold loopT
  simp only [i_turnoutlaw15_GraphRing_0]
noncomputable def b_turnoutlaw15_GraphRing_2 : Code := partOf (bodyOf Try.f8) [1, 1, 1, 1, 1, 1, 1, 1, 1, 1, 0, 1, 0, 0]
theorem t_turnoutlaw15_GraphRing_2 (n : Nat) (K : Cont) (rec : Sig.sem s_turnoutlaw15_GraphRing_h2 → Option Res) (v : Sig.sem s_turnoutlaw15_GraphRing_h2) : runT Try.prog cf_turnoutlaw15_GraphRing Try.f8.ntmps 0 p_turnoutlaw15_GraphRing (ls_turnoutlaw15_GraphRing n) b_turnoutlaw15_GraphRing_2 (s_turnoutlaw15_GraphRing_h2.enc v) (turnK 0 (p_turnoutlaw15_GraphRing.head 2) s_turnoutlaw15_GraphRing_h2 rec K) = F_turnoutlaw15_GraphRing_2 n (fun z1 => K (.ex 2) (s_turnoutlaw15_GraphRing_t2.enc ((v.1.2.2.2.1, ()), (z1, ())))) v.1.1 v.1.2.1 v.1.2.2.1 v.1.2.2.2.1 v.2.1 (fun z4 z6 => rec ((v.1.1, (v.1.2.1, (v.1.2.2.1, (v.1.2.2.2.1, (z4, ()))))), (v.2.1, (z6, ())))) v.1.2.2.2.2.1 v.2.2.1 := by kernel_rfl
noncomputable def V_turnoutlaw15_GraphRing_2 (n : Nat) (K : Cont) (rec : Sig.sem s_turnoutlaw15_GraphRing_h2 → Option Res) (v : Sig.sem s_turnoutlaw15_GraphRing_h2) : Option Res := F_turnoutlaw15_GraphRing_2 n (fun z1 => K (.ex 2) (s_turnoutlaw15_GraphRing_t2.enc ((v.1.2.2.2.1, ()), (z1, ())))) v.1.1 v.1.2.1 v.1.2.2.1 v.1.2.2.2.1 v.2.1 (fun z4 z6 => rec ((v.1.1, (v.1.2.1, (v.1.2.2.1, (v.1.2.2.2.1, (z4, ()))))), (v.2.1, (z6, ())))) v.1.2.2.2.2.1 v.2.2.1
noncomputable def W_turnoutlaw15_GraphRing_2 (n : Nat) (K : Cont) (m : Nat) (v : Sig.sem s_turnoutlaw15_GraphRing_h2) : Option Res := L_turnoutlaw15_GraphRing_2 n (fun z1 => K (.ex 2) (s_turnoutlaw15_GraphRing_t2.enc ((v.1.2.2.2.1, ()), (z1, ())))) v.1.1 v.1.2.1 v.1.2.2.1 v.1.2.2.2.1 v.2.1 m v.1.2.2.2.2.1 v.2.2.1
theorem i_turnoutlaw15_GraphRing_2 (n : Nat) (K : Cont) : ∀ m v, iter (V_turnoutlaw15_GraphRing_2 n K) m v = W_turnoutlaw15_GraphRing_2 n K m v := by
  intro m
  induction m with
  | zero => intro v; rfl
  | succ m ih =>
    intro v
    show V_turnoutlaw15_GraphRing_2 n K (iter (V_turnoutlaw15_GraphRing_2 n K) m) v = V_turnoutlaw15_GraphRing_2 n K (W_turnoutlaw15_GraphRing_2 n K m) v
    rw [show iter (V_turnoutlaw15_GraphRing_2 n K) m = W_turnoutlaw15_GraphRing_2 n K m from funext ih]
theorem o_turnoutlaw15_GraphRing_2 (n : Nat) : ∀ L, ls_turnoutlaw15_GraphRing n 2 = some L → ∀ s K r, L s K = some r → ∃ x s', loopN (run Try.prog cf_turnoutlaw15_GraphRing Try.f8.ntmps 0 n p_turnoutlaw15_GraphRing none b_turnoutlaw15_GraphRing_2) (gc 0 (p_turnoutlaw15_GraphRing.head 2)) n s = some (x, s') ∧ K x s' = some r := by
  intro L hL s K r h
  have hL : some (loopT 0 (p_turnoutlaw15_GraphRing.head 2) s_turnoutlaw15_GraphRing_h2 fun K v => W_turnoutlaw15_GraphRing_2 n K n v) = some L := hL
  cases hL
  have hb : LOk Try.prog cf_turnoutlaw15_GraphRing Try.f8.ntmps 0 n p_turnoutlaw15_GraphRing (ls_turnoutlaw15_GraphRing n) b_turnoutlaw15_GraphRing_2 := ⟨⟨trivial, ⟨trivial, trivial⟩⟩, ⟨⟨trivial, ⟨trivial, trivial⟩⟩, trivial⟩⟩
  refine loopT_ok hb (V_turnoutlaw15_GraphRing_2 n) (t_turnoutlaw15_GraphRing_2 n) n s K r ?_
  rw [← h]
  unfold loopT
  simp only [i_turnoutlaw15_GraphRing_2]
theorem m_turnoutlaw15_GraphRing (n : Nat) (a0 : (List NodeS)) (a1 : (List Int)) (a2 : Int) (a3 : Int) : runFT Try.prog cf_turnoutlaw15_GraphRing p_turnoutlaw15_GraphRing (ls_turnoutlaw15_GraphRing n) Try.f8 (bodyOf Try.f8) (EK.encs e_turnoutlaw15_GraphRing ((a0, (a1, (a2, (a3, ())))), ()).1) (HK.encs h_turnoutlaw15_GraphRing ((a0, (a1, (a2, (a3, ())))), ()).2) = M_turnoutlaw15_GraphRing n a0 a1 a2 a3 := by kernel_rfl
theorem g_turnoutlaw15_GraphRing (n : Nat) (a0 : (List NodeS)) (a1 : (List Int)) (a2 : Int) (a3 : Int) {r : Res} (h : M_turnoutlaw15_GraphRing n a0 a1 a2 a3 = some r) : runF Try.prog cf_turnoutlaw15_GraphRing n p_turnoutlaw15_GraphRing 8 (EK.encs e_turnoutlaw15_GraphRing ((a0, (a1, (a2, (a3, ())))), ()).1) (HK.encs h_turnoutlaw15_GraphRing ((a0, (a1, (a2, (a3, ())))), ()).2) = some r := by
  have hb : LOk Try.prog cf_turnoutlaw15_GraphRing Try.f8.ntmps 0 n p_turnoutlaw15_GraphRing (ls_turnoutlaw15_GraphRing n) (bodyOf Try.f8) := ⟨trivial, ⟨⟨trivial, ⟨⟨trivial, trivial⟩, trivial⟩⟩, ⟨⟨trivial, ⟨⟨trivial, trivial⟩, trivial⟩⟩, ⟨trivial, ⟨trivial, ⟨⟨trivial, (o_turnoutlaw15_GraphRing_0 n)⟩, ⟨⟨trivial, ⟨⟨trivial, trivial⟩, trivial⟩⟩, ⟨trivial, ⟨trivial, ⟨trivial, ⟨⟨trivial, (o_turnoutlaw15_GraphRing_2 n)⟩, ⟨trivial, trivial⟩⟩⟩⟩⟩⟩⟩⟩⟩⟩⟩⟩
  exact runFT_some Try.prog (c := bodyOf Try.f8) Try.func8 (show Try.f8.body = some (bodyOf Try.f8) from rfl) (show (4 : Nat) ≤ 133 by decide) hb ((m_turnoutlaw15_GraphRing n a0 a1 a2 a3).trans h)
noncomputable def c_turnoutlaw15_GraphRing : Spec := specQ e_turnoutlaw15_GraphRing h_turnoutlaw15_GraphRing ro_turnoutlaw15_GraphRing rh_turnoutlaw15_GraphRing fun a b => Q_turnoutlaw15_GraphRing a.1 a.2.1 a.2.2.1 a.2.2.2.1
theorem k_turnoutlaw15_GraphRing (hm : Try.prog.follows .mixedOrders = true) : SpecOk Try.prog 8 c_turnoutlaw15_GraphRing := specQ_ok (pol := p_turnoutlaw15_GraphRing) hm (cf := cf_turnoutlaw15_GraphRing) (tab_ok (specs_cons (k_turnoutlaw15_Long hm) (specs_cons (k_turnoutlaw15_awake hm) (specs_cons (k_graph_May hm) (specs_cons (k_graph_Find hm) (specs_cons (k_turnoutref15_Goes hm) (specs_cons (k_graph_Longest hm) specs_nil))))))) fun a b r h => ⟨FUEL, g_turnoutlaw15_GraphRing FUEL a.1 a.2.1 a.2.2.1 a.2.2.2.1 (decRes_some h)⟩
end Go.AMach
