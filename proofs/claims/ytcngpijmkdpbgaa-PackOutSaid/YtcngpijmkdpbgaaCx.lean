/- A part of the walk. -/
import Derived.Test.YtcngpijmkdpbgaaCxa
namespace Go.AMach
set_option linter.unusedVariables false
set_option linter.unusedSimpArgs false
set_option linter.unnecessarySimpa false
open Go Go.Proofs
set_option linter.unusedVariables false
def s_z27_h0 : Sig := ⟨[3, 4, 9, 10, 11], [.ty (.int .u64), .ty .bool, .ty (.slice .str), .ty (.int .i64), .ty (.int .i64)], []⟩
def s_z27_h2 : Sig := ⟨[3, 4, 6, 9, 10, 11, 16, 17], [.ty (.int .u64), .ty .bool, .ty .str, .ty (.slice .str), .ty (.int .i64), .ty (.int .i64), .ty (.int .i64), .ty (.int .i64)], []⟩
def s_z27_t2 : Sig := ⟨[3, 4, 9, 10, 11], [.ty (.int .u64), .ty .bool, .ty (.slice .str), .ty (.int .i64), .ty (.int .i64)], []⟩
def s_z27_t0 : Sig := ⟨[3], [.ty (.int .u64)], []⟩
def s_z27_r : Sig := ⟨[2], [.ty (.int .u16)], []⟩
def p_z27 : Pol := ⟨fun i => if i = 0 then some [(3, .keep), (4, .keep), (9, .keep), (10, .keep), (11, .keep)] else if i = 2 then some [(3, .keep), (4, .keep), (6, .keep), (9, .keep), (10, .keep), (11, .keep), (16, .keep), (17, .keep)] else none, fun i => if i = 2 then some [(3, .keep), (4, .keep), (9, .keep), (10, .keep), (11, .keep)] else if i = 0 then some [(3, .keep)] else none, some [(2, .keep)], [.keep], []⟩
def e_z27 : List EK := [.ty (.slice .str)]
def h_z27 : List HK := []
noncomputable def cf_z27 : CallF := mkCF [(66, c_z26)] [(66, [(.int .u64)])]
noncomputable def ls_z27 (n : Nat) : Loops := fun i => if i = 2 then some (loopT 0 (p_z27.head 2) s_z27_h2 fun K v => L_z27_2 n (fun z0 z1 => K (.ex 2) (s_z27_t2.enc ((z0, (z1, (v.1.2.2.2.1, (v.1.2.2.2.2.1, (v.1.2.2.2.2.2.1, ()))))), ()))) v.1.2.2.1 v.1.2.2.2.2.2.2.1 n v.1.1 v.1.2.1 v.1.2.2.2.2.2.2.2.1)
  else if i = 0 then some (loopT 0 (p_z27.head 0) s_z27_h0 fun K v => L_z27_0 n (fun z0 => K (.ex 0) (s_z27_t0.enc ((z0, ()), ()))) v.1.2.2.1 v.1.2.2.2.1 n v.1.1 v.1.2.1 v.1.2.2.2.2.1)
  else  none
noncomputable def b_z27_2 : Code := partOf (bodyOf Try.f55) [1, 1, 0, 1, 0, 0, 1, 1, 0, 0, 1, 0, 1, 0, 0]
noncomputable def V_z27_2 (n : Nat) (K : Cont) (rec : Sig.sem s_z27_h2 → Option Res) (v : Sig.sem s_z27_h2) : Option Res := F_z27_2 n (fun z0 z1 => K (.ex 2) (s_z27_t2.enc ((z0, (z1, (v.1.2.2.2.1, (v.1.2.2.2.2.1, (v.1.2.2.2.2.2.1, ()))))), ()))) v.1.2.2.1 v.1.2.2.2.2.2.2.1 (fun z0 z1 z7 => rec ((z0, (z1, (v.1.2.2.1, (v.1.2.2.2.1, (v.1.2.2.2.2.1, (v.1.2.2.2.2.2.1, (v.1.2.2.2.2.2.2.1, (z7, ())))))))), ())) v.1.1 v.1.2.1 v.1.2.2.2.2.2.2.2.1
theorem t_z27_2 (n : Nat) (K : Cont) (rec : Sig.sem s_z27_h2 → Option Res) (v : Sig.sem s_z27_h2) : runT Try.prog cf_z27 Try.f55.ntmps 0 p_z27 (ls_z27 n) b_z27_2 (s_z27_h2.enc v) (turnK 0 (p_z27.head 2) s_z27_h2 rec K) = V_z27_2 n K rec v := by kernel_rfl
noncomputable def W_z27_2 (n : Nat) (K : Cont) (m : Nat) (v : Sig.sem s_z27_h2) : Option Res := L_z27_2 n (fun z0 z1 => K (.ex 2) (s_z27_t2.enc ((z0, (z1, (v.1.2.2.2.1, (v.1.2.2.2.2.1, (v.1.2.2.2.2.2.1, ()))))), ()))) v.1.2.2.1 v.1.2.2.2.2.2.2.1 m v.1.1 v.1.2.1 v.1.2.2.2.2.2.2.2.1
theorem i_z27_2 (n : Nat) (K : Cont) : ∀ m v, iter (V_z27_2 n K) m v = W_z27_2 n K m v := by
  intro m
  induction m with
  | zero => intro v; rfl
  | succ m ih =>
    intro v
    show V_z27_2 n K (iter (V_z27_2 n K) m) v = V_z27_2 n K (W_z27_2 n K m) v
    rw [show iter (V_z27_2 n K) m = W_z27_2 n K m from funext ih]
theorem o_z27_2 (n : Nat) : ∀ L, ls_z27 n 2 = some L → ∀ s K r, L s K = some r → ∃ x s', loopN (run Try.prog cf_z27 Try.f55.ntmps 0 n p_z27 none b_z27_2) (gc 0 (p_z27.head 2)) n s = some (x, s') ∧ K x s' = some r := by
  intro L hL s K r h
  have hL : some (loopT 0 (p_z27.head 2) s_z27_h2 fun K v => W_z27_2 n K n v) = some L := hL
  cases hL
  have hb : LOk Try.prog cf_z27 Try.f55.ntmps 0 n p_z27 (ls_z27 n) b_z27_2 := ⟨trivial, ⟨⟨trivial, trivial⟩, ⟨⟨trivial, ⟨trivial, ⟨⟨trivial, ⟨trivial, trivial⟩⟩, ⟨trivial, trivial⟩⟩⟩⟩, trivial⟩⟩⟩
  refine loopT_ok hb (V_z27_2 n) (t_z27_2 n) n s K r ?_
  rw [← h]
  unfold loopT
  simp only [i_z27_2]
noncomputable def b_z27_0 : Code := partOf (bodyOf Try.f55) [1, 1, 0, 1, 0, 0]
noncomputable def V_z27_0 (n : Nat) (K : Cont) (rec : Sig.sem s_z27_h0 → Option Res) (v : Sig.sem s_z27_h0) : Option Res := F_z27_0 n (fun z0 => K (.ex 0) (s_z27_t0.enc ((z0, ()), ()))) v.1.2.2.1 v.1.2.2.2.1 (fun z0 z1 z4 => rec ((z0, (z1, (v.1.2.2.1, (v.1.2.2.2.1, (z4, ()))))), ())) v.1.1 v.1.2.1 v.1.2.2.2.2.1
theorem t_z27_0 (n : Nat) (K : Cont) (rec : Sig.sem s_z27_h0 → Option Res) (v : Sig.sem s_z27_h0) : runT Try.prog cf_z27 Try.f55.ntmps 0 p_z27 (ls_z27 n) b_z27_0 (s_z27_h0.enc v) (turnK 0 (p_z27.head 0) s_z27_h0 rec K) = V_z27_0 n K rec v := by kernel_rfl
noncomputable def W_z27_0 (n : Nat) (K : Cont) (m : Nat) (v : Sig.sem s_z27_h0) : Option Res := L_z27_0 n (fun z0 => K (.ex 0) (s_z27_t0.enc ((z0, ()), ()))) v.1.2.2.1 v.1.2.2.2.1 m v.1.1 v.1.2.1 v.1.2.2.2.2.1
theorem i_z27_0 (n : Nat) (K : Cont) : ∀ m v, iter (V_z27_0 n K) m v = W_z27_0 n K m v := by
  intro m
  induction m with
  | zero => intro v; rfl
  | succ m ih =>
    intro v
    show V_z27_0 n K (iter (V_z27_0 n K) m) v = V_z27_0 n K (W_z27_0 n K m) v
    rw [show iter (V_z27_0 n K) m = W_z27_0 n K m from funext ih]
theorem o_z27_0 (n : Nat) : ∀ L, ls_z27 n 0 = some L → ∀ s K r, L s K = some r → ∃ x s', loopN (run Try.prog cf_z27 Try.f55.ntmps 0 n p_z27 none b_z27_0) (gc 0 (p_z27.head 0)) n s = some (x, s') ∧ K x s' = some r := by
  intro L hL s K r h
  have hL : some (loopT 0 (p_z27.head 0) s_z27_h0 fun K v => W_z27_0 n K n v) = some L := hL
  cases hL
  have hb : LOk Try.prog cf_z27 Try.f55.ntmps 0 n p_z27 (ls_z27 n) b_z27_0 := ⟨trivial, ⟨⟨trivial, trivial⟩, ⟨⟨trivial, ⟨⟨trivial, (o_z27_2 n)⟩, trivial⟩⟩, trivial⟩⟩⟩
  refine loopT_ok hb (V_z27_0 n) (t_z27_0 n) n s K r ?_
  rw [← h]
  unfold loopT
  simp only [i_z27_0]
theorem m_z27 (n : Nat) (a0 : (List ByteArray)) : runFT Try.prog cf_z27 p_z27 (ls_z27 n) Try.f55 (bodyOf Try.f55) (EK.encs e_z27 ((a0, ()), ()).1) (HK.encs h_z27 ((a0, ()), ()).2) = M_z27 n a0 := by kernel_rfl
theorem g_z27 (n : Nat) (a0 : (List ByteArray)) {r : Res} (h : M_z27 n a0 = some r) : runF Try.prog cf_z27 n p_z27 55 (EK.encs e_z27 ((a0, ()), ()).1) (HK.encs h_z27 ((a0, ()), ()).2) = some r := by
  have hb : LOk Try.prog cf_z27 Try.f55.ntmps 0 n p_z27 (ls_z27 n) (bodyOf Try.f55) := ⟨trivial, ⟨trivial, ⟨⟨trivial, (o_z27_0 n)⟩, ⟨trivial, trivial⟩⟩⟩⟩
  exact runFT_some Try.prog (c := bodyOf Try.f55) Try.func55 (show Try.f55.body = some (bodyOf Try.f55) from rfl) (show (1 : Nat) ≤ 39 by decide) hb ((m_z27 n a0).trans h) rfl (by kernel_rfl)
noncomputable def c_z27 : Spec := specQ e_z27 h_z27 ro_z27 rh_z27 fun a b => Q_z27 a.1
theorem k_z27 (hm : Try.prog.follows .mixedOrders = true) : SpecOk Try.prog 55 c_z27 := specQ_ok (pol := p_z27) hm (cf := cf_z27) (tab_ok (specs_cons (k_z26 hm) specs_nil)) fun a b r h => ⟨FUEL, g_z27 FUEL a.1 (decRes_some h)⟩
def s_z28_r : Sig := ⟨[6, 7], [.ty (.int .u16), .ty (.int .i64)], [.one false [.hs 1 0], .row (.int .u8)]⟩
def p_z28 : Pol := ⟨fun i => none, fun i => none, some [(6, .keep), (7, .keep)], [.keep, .keep], []⟩
def e_z28 : List EK := [.ptr 0 0 0, .ty (.int .i64), .ty (.int .i64)]
def h_z28 : List HK := [.one false [.hs 1 0], .row (.int .u8)]
noncomputable def cf_z28 : CallF := mkCF [(61, c_z1j), (55, c_z27)] [(55, [(.slice .str)])]
noncomputable def ls_z28 (n : Nat) : Loops := fun i =>  none
theorem m_z28 (n : Nat) (a0 : Int) (a1 : Int) (a2 : Nat) (a3 : (List Int)) : runFT Try.prog cf_z28 p_z28 (ls_z28 n) Try.f53 (bodyOf Try.f53) (EK.encs e_z28 (((), (a0, (a1, ()))), ((a2, ()), (a3, ()))).1) (HK.encs h_z28 (((), (a0, (a1, ()))), ((a2, ()), (a3, ()))).2) = M_z28 n a0 a1 a2 a3 := by kernel_rfl
theorem g_z28 (n : Nat) (a0 : Int) (a1 : Int) (a2 : Nat) (a3 : (List Int)) {r : Res} (h : M_z28 n a0 a1 a2 a3 = some r) : runF Try.prog cf_z28 n p_z28 53 (EK.encs e_z28 (((), (a0, (a1, ()))), ((a2, ()), (a3, ()))).1) (HK.encs h_z28 (((), (a0, (a1, ()))), ((a2, ()), (a3, ()))).2) = some r := by
  have hb : LOk Try.prog cf_z28 Try.f53.ntmps 2 n p_z28 (ls_z28 n) (bodyOf Try.f53) := ⟨trivial, ⟨⟨trivial, ⟨trivial, ⟨⟨trivial, trivial⟩, trivial⟩⟩⟩, ⟨trivial, trivial⟩⟩⟩
  exact runFT_some Try.prog (c := bodyOf Try.f53) Try.func53 (show Try.f53.body = some (bodyOf Try.f53) from rfl) (show (3 : Nat) ≤ 28 by decide) hb ((m_z28 n a0 a1 a2 a3).trans h) rfl (by kernel_rfl)
noncomputable def c_z28 : Spec := specQ e_z28 h_z28 ro_z28 rh_z28 fun a b => Q_z28 a.2.1 a.2.2.1 b.1.1 b.2.1
theorem k_z28 (hm : Try.prog.follows .mixedOrders = true) : SpecOk Try.prog 53 c_z28 := specQ_ok (pol := p_z28) hm (cf := cf_z28) (tab_ok (specs_cons (k_z1j hm) (specs_cons (k_z27 hm) specs_nil))) fun a b r h => ⟨FUEL, g_z28 FUEL a.2.1 a.2.2.1 b.1.1 b.2.1 (decRes_some h)⟩
def s_z29_r : Sig := ⟨[8], [.ty (.int .i64)], [.one false [.ptr 1 0 0, .hs 3 0, .ptr 4 0 0, .ty (.int .i64)], .one false [.hs 2 0], .row (.int .u8), .row HeadT, .one false [.hs 5 0], .row (.int .u8)]⟩
def p_z29 : Pol := ⟨fun i => none, fun i => none, some [(8, .keep)], [.keep], []⟩
def e_z29 : List EK := [.ptr 0 0 0, .agg FieldT, .agg FieldT, .ty (.int .i64)]
def h_z29 : List HK := [.one false [.ptr 1 0 0, .hs 3 0, .ptr 4 0 0, .ty (.int .i64)], .one false [.hs 2 0], .row (.int .u8), .row HeadT, .one false [.hs 5 0], .row (.int .u8)]
noncomputable def cf_z29 : CallF := mkCF [(41, c_z1i), (16, c_z1v), (53, c_z28), (23, c_z25), (54, c_z0k)] [(54, [(.int .u64)])]
noncomputable def ls_z29 (n : Nat) : Loops := fun i =>  none
theorem m_z29 (n : Nat) (a0 : FieldS) (a1 : FieldS) (a2 : Int) (a3 : Nat) (a4 : Int) (a5 : Nat) (a6 : (List Int)) (a7 : (List HeadS)) (a8 : Nat) (a9 : (List Int)) : runFT Try.prog cf_z29 p_z29 (ls_z29 n) Try.f27 (bodyOf Try.f27) (EK.encs e_z29 (((), (a0, (a1, (a2, ())))), (((), (a3, ((), (a4, ())))), ((a5, ()), (a6, (a7, ((a8, ()), (a9, ()))))))).1) (HK.encs h_z29 (((), (a0, (a1, (a2, ())))), (((), (a3, ((), (a4, ())))), ((a5, ()), (a6, (a7, ((a8, ()), (a9, ()))))))).2) = M_z29 n a0 a1 a2 a3 a4 a5 a6 a7 a8 a9 := by kernel_rfl
theorem g_z29 (n : Nat) (a0 : FieldS) (a1 : FieldS) (a2 : Int) (a3 : Nat) (a4 : Int) (a5 : Nat) (a6 : (List Int)) (a7 : (List HeadS)) (a8 : Nat) (a9 : (List Int)) {r : Res} (h : M_z29 n a0 a1 a2 a3 a4 a5 a6 a7 a8 a9 = some r) : runF Try.prog cf_z29 n p_z29 27 (EK.encs e_z29 (((), (a0, (a1, (a2, ())))), (((), (a3, ((), (a4, ())))), ((a5, ()), (a6, (a7, ((a8, ()), (a9, ()))))))).1) (HK.encs h_z29 (((), (a0, (a1, (a2, ())))), (((), (a3, ((), (a4, ())))), ((a5, ()), (a6, (a7, ((a8, ()), (a9, ()))))))).2) = some r := by
  have hb : LOk Try.prog cf_z29 Try.f27.ntmps 6 n p_z29 (ls_z29 n) (bodyOf Try.f27) := ⟨trivial, ⟨trivial, ⟨⟨trivial, ⟨⟨trivial, trivial⟩, trivial⟩⟩, ⟨⟨trivial, ⟨trivial, trivial⟩⟩, ⟨⟨trivial, ⟨trivial, ⟨⟨trivial, trivial⟩, trivial⟩⟩⟩, ⟨⟨trivial, ⟨trivial, ⟨⟨trivial, trivial⟩, trivial⟩⟩⟩, ⟨trivial, ⟨trivial, trivial⟩⟩⟩⟩⟩⟩⟩⟩
  exact runFT_some Try.prog (c := bodyOf Try.f27) Try.func27 (show Try.f27.body = some (bodyOf Try.f27) from rfl) (show (4 : Nat) ≤ 69 by decide) hb ((m_z29 n a0 a1 a2 a3 a4 a5 a6 a7 a8 a9).trans h) rfl (by kernel_rfl)
noncomputable def c_z29 : Spec := specQ e_z29 h_z29 ro_z29 rh_z29 fun a b => Q_z29 a.2.1 a.2.2.1 a.2.2.2.1 b.1.2.1 b.1.2.2.2.1 b.2.1.1 b.2.2.1 b.2.2.2.1 b.2.2.2.2.1.1 b.2.2.2.2.2.1
theorem k_z29 (hm : Try.prog.follows .mixedOrders = true) : SpecOk Try.prog 27 c_z29 := specQ_ok (pol := p_z29) hm (cf := cf_z29) (tab_ok (specs_cons (k_z1i hm) (specs_cons (k_z1v hm) (specs_cons (k_z28 hm) (specs_cons (k_z25 hm) (specs_cons (k_z0k hm) specs_nil)))))) fun a b r h => ⟨FUEL, g_z29 FUEL a.2.1 a.2.2.1 a.2.2.2.1 b.1.2.1 b.1.2.2.2.1 b.2.1.1 b.2.2.1 b.2.2.2.1 b.2.2.2.2.1.1 b.2.2.2.2.2.1 (decRes_some h)⟩
def s_z2a_r : Sig := ⟨[2], [.ty .bool], []⟩
def p_z2a : Pol := ⟨fun i => none, fun i => none, some [(2, .keep)], [.keep], []⟩
def e_z2a : List EK := [.ty .str]
def h_z2a : List HK := []
noncomputable def cf_z2a : CallF := mkCF [(55, c_z27)] [(55, [(.slice .str)])]
noncomputable def ls_z2a (n : Nat) : Loops := fun i =>  none
theorem m_z2a (n : Nat) (a0 : ByteArray) : runFT Try.prog cf_z2a p_z2a (ls_z2a n) Try.f28 (bodyOf Try.f28) (EK.encs e_z2a ((a0, ()), ()).1) (HK.encs h_z2a ((a0, ()), ()).2) = M_z2a n a0 := by kernel_rfl
theorem g_z2a (n : Nat) (a0 : ByteArray) {r : Res} (h : M_z2a n a0 = some r) : runF Try.prog cf_z2a n p_z2a 28 (EK.encs e_z2a ((a0, ()), ()).1) (HK.encs h_z2a ((a0, ()), ()).2) = some r := by
  have hb : LOk Try.prog cf_z2a Try.f28.ntmps 0 n p_z2a (ls_z2a n) (bodyOf Try.f28) := ⟨trivial, ⟨trivial, trivial⟩⟩
  exact runFT_some Try.prog (c := bodyOf Try.f28) Try.func28 (show Try.f28.body = some (bodyOf Try.f28) from rfl) (show (1 : Nat) ≤ 7 by decide) hb ((m_z2a n a0).trans h) rfl (by kernel_rfl)
noncomputable def c_z2a : Spec := specQ e_z2a h_z2a ro_z2a rh_z2a fun a b => Q_z2a a.1
theorem k_z2a (hm : Try.prog.follows .mixedOrders = true) : SpecOk Try.prog 28 c_z2a := specQ_ok (pol := p_z2a) hm (cf := cf_z2a) (tab_ok (specs_cons (k_z27 hm) specs_nil)) fun a b r h => ⟨FUEL, g_z2a FUEL a.1 (decRes_some h)⟩
end Go.AMach
