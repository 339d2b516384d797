/- A part of the walk. -/
import Derived.Test.YtcngpijmkdpbgaaGreatCxa
namespace Go.AMach
set_option linter.unusedVariables false
set_option linter.unusedSimpArgs false
set_option linter.unnecessarySimpa false
open Go Go.Proofs
set_option linter.unusedVariables false
def juT : Sig := ⟨[4, 5, 6], [.hs 0 0, .ty (.int .i64), .ty (.int .i64)], [.row jaq]⟩
def jdo : Sig := ⟨[0, 1, 7, 8, 9, 10], [.ty (.slice jay), .ty .str, .hs 0 0, .ty (.int .i64), .ty (.int .i64), .ty (.int .i64)], [.row jaq]⟩
def jdn : Sig := ⟨[0, 1, 7, 8, 9, 10, 11, 12], [.ty (.slice jay), .ty .str, .hs 0 0, .ty (.int .i64), .ty (.int .i64), .ty (.int .i64), .ptr 1 0 0, .ty (.int .i64)], [.row jaq, .cell jay]⟩
def jph : Sig := ⟨[0, 1, 7, 8, 9, 10, 11], [.ty (.slice jay), .ty .str, .hs 0 0, .ty (.int .i64), .ty (.int .i64), .ty (.int .i64), .ptr 1 0 0], [.row jaq, .cell jay]⟩
def jdm : Sig := ⟨[0, 1, 7, 9, 10, 11, 13, 15, 16, 18], [.ty (.slice jay), .ty .str, .hs 0 0, .ty (.int .i64), .ty (.int .i64), .ptr 1 0 0, .ty (.int .i64), .ty (.int .i64), .ty (.int .i64), .ty (.int .i64)], [.row jaq, .cell jay]⟩
def jpg : Sig := ⟨[0, 1, 7, 9, 10, 13, 15], [.ty (.slice jay), .ty .str, .hs 0 0, .ty (.int .i64), .ty (.int .i64), .ty (.int .i64), .ty (.int .i64)], [.row jaq]⟩
def jdV : Pol := ⟨fun i => if i = 0 then some [(0, .keep), (1, .keep), (7, (.own jaq)), (8, .keep), (9, .keep), (10, .keep)] else if i = 2 then some [(0, .keep), (1, .keep), (7, (.own jaq)), (8, .keep), (9, .keep), (10, .keep), (11, (.own jay)), (12, .keep)] else if i = 4 then some [(0, .keep), (1, .keep), (7, (.own jaq)), (9, .keep), (10, .keep), (11, (.own jay)), (13, .keep), (15, .keep), (16, .keep), (18, .keep)] else none, fun i => if i = 2 then some [(0, .keep), (1, .keep), (7, (.own jaq)), (8, .keep), (9, .keep), (10, .keep), (11, (.own jay))] else if i = 4 then some [(0, .keep), (1, .keep), (7, (.own jaq)), (9, .keep), (10, .keep), (13, .keep), (15, .keep)] else none, some [(4, (.own jaq)), (5, .keep), (6, .keep)], [(.own jaq), .keep, .keep], []⟩
def jHB : List EK := [.ty (.slice jay), .ty .str]
def jFq : List HK := []
noncomputable def jeL : CallF := mkCF [(54, c_z1z), (55, c_z26), (56, c_z25)] [(54, [(.slice jay)]), (55, [jay, .str, (.int .i64)]), (56, [.str, (.int .i64), (.int .i64), (.int .i64)])]
noncomputable def jfN (n : Nat) : jaF := fun i => if i = 2 then some (jaz 0 (jdV.head 2) jdn fun K v => jjJ n (fun z7 => K (.ex 2) (jph.enc ((v.1.1, (v.1.2.1, (v.1.2.2.1, (v.1.2.2.2.1, (v.1.2.2.2.2.1, (v.1.2.2.2.2.2.1, ((), ()))))))), (v.2.1, (z7, ()))))) v.1.1 v.1.2.1 v.1.2.2.1 v.1.2.2.2.1 v.1.2.2.2.2.1 v.1.2.2.2.2.2.1 v.2.1 n v.1.2.2.2.2.2.2.2.1 v.2.2.1)
  else if i = 4 then some (jaz 0 (jdV.head 4) jdm fun K v => jjI n (fun z6 => K (.ex 4) (jpg.enc ((v.1.1, (v.1.2.1, (v.1.2.2.1, (v.1.2.2.2.1, (v.1.2.2.2.2.1, (v.1.2.2.2.2.2.2.1, (z6, ()))))))), (v.2.1, ())))) v.1.1 v.1.2.1 v.1.2.2.1 v.1.2.2.2.1 v.1.2.2.2.2.1 v.1.2.2.2.2.2.2.1 v.1.2.2.2.2.2.2.2.2.1 v.2.1 v.2.2.1 n v.1.2.2.2.2.2.2.2.1 v.1.2.2.2.2.2.2.2.2.2.1)
  else if i = 0 then some (jaz 0 (jdV.head 0) jdo fun K v => jfi n (fun z0 z1 z2 z3 => K .rt (juT.enc ((z0, (z1, (z2, ()))), (z3, ())))) v.1.1 v.1.2.1 n v.1.2.2.1 v.1.2.2.2.1 v.1.2.2.2.2.1 v.1.2.2.2.2.2.1 v.2.1)
  else  none
noncomputable def jvV : Code := jaR (jae Tryz.f27) [1, 1, 1, 1, 0, 0, 0, 1, 0, 1, 0, 0]
noncomputable def jhx (n : Nat) (K : Cont) (rec : Sig.sem jdn → Option Res) (v : Sig.sem jdn) : Option Res := jrF n (fun z7 => K (.ex 2) (jph.enc ((v.1.1, (v.1.2.1, (v.1.2.2.1, (v.1.2.2.2.1, (v.1.2.2.2.2.1, (v.1.2.2.2.2.2.1, ((), ()))))))), (v.2.1, (z7, ()))))) v.1.1 v.1.2.1 v.1.2.2.1 v.1.2.2.2.1 v.1.2.2.2.2.1 v.1.2.2.2.2.2.1 v.2.1 (fun z6 z8 => rec ((v.1.1, (v.1.2.1, (v.1.2.2.1, (v.1.2.2.2.1, (v.1.2.2.2.2.1, (v.1.2.2.2.2.2.1, ((), (z6, ())))))))), (v.2.1, (z8, ())))) v.1.2.2.2.2.2.2.2.1 v.2.2.1
theorem t_z27_2 (n : Nat) (K : Cont) (rec : Sig.sem jdn → Option Res) (v : Sig.sem jdn) : runT PP jeL Tryz.f27.ntmps 0 jdV (jfN n) jvV (jdn.enc v) (jbp 0 (jdV.head 2) jdn rec K) = jhx n K rec v := by kernel_rfl
noncomputable def jqv (n : Nat) (K : Cont) (m : Nat) (v : Sig.sem jdn) : Option Res := jjJ n (fun z7 => K (.ex 2) (jph.enc ((v.1.1, (v.1.2.1, (v.1.2.2.1, (v.1.2.2.2.1, (v.1.2.2.2.2.1, (v.1.2.2.2.2.2.1, ((), ()))))))), (v.2.1, (z7, ()))))) v.1.1 v.1.2.1 v.1.2.2.1 v.1.2.2.2.1 v.1.2.2.2.2.1 v.1.2.2.2.2.2.1 v.2.1 m v.1.2.2.2.2.2.2.2.1 v.2.2.1
theorem i_z27_2 (n : Nat) (K : Cont) : ∀ m v, iter (jhx n K) m v = jqv n K m v := by
  intro m
  induction m with
  | zero => intro v; rfl
  | succ m ih =>
    intro v
    show jhx n K (iter (jhx n K) m) v = jhx n K (jqv n K m) v
    rw [show iter (jhx n K) m = jqv n K m from funext ih]
theorem o_z27_2 (n : Nat) : ∀ L, jfN n 2 = some L → ∀ s K r, L s K = some r → ∃ x s', jbj (run PP jeL Tryz.f27.ntmps 0 n jdV none jvV) (gc 0 (jdV.head 2)) n s = some (x, s') ∧ K x s' = some r := by
  intro L hL s K r h
  have hL : some (jaz 0 (jdV.head 2) jdn fun K v => jqv n K n v) = some L := hL
  cases hL
  have hb : LOk PP jeL Tryz.f27.ntmps 0 n jdV (jfN n) jvV := ⟨⟨tT, tT, tT⟩, ⟨tT, tT, tT⟩, tT⟩
  refine jaE hb (jhx n) (t_z27_2 n) n s K r ?_
  rw [← h]
  unfold jaz
  simp only [i_z27_2]
noncomputable def jvU : Code := jaR (jae Tryz.f27) [1, 1, 1, 1, 0, 0, 0, 1, 1, 1, 1, 1, 1, 1, 1, 0, 1, 0, 1, 1, 1, 0, 0]
noncomputable def jhw (n : Nat) (K : Cont) (rec : Sig.sem jdm → Option Res) (v : Sig.sem jdm) : Option Res := jrE n (fun z6 => K (.ex 4) (jpg.enc ((v.1.1, (v.1.2.1, (v.1.2.2.1, (v.1.2.2.2.1, (v.1.2.2.2.2.1, (v.1.2.2.2.2.2.2.1, (z6, ()))))))), (v.2.1, ())))) v.1.1 v.1.2.1 v.1.2.2.1 v.1.2.2.2.1 v.1.2.2.2.2.1 v.1.2.2.2.2.2.2.1 v.1.2.2.2.2.2.2.2.2.1 v.2.1 v.2.2.1 (fun z6 z8 => rec ((v.1.1, (v.1.2.1, (v.1.2.2.1, (v.1.2.2.2.1, (v.1.2.2.2.2.1, ((), (v.1.2.2.2.2.2.2.1, (z6, (v.1.2.2.2.2.2.2.2.2.1, (z8, ())))))))))), (v.2.1, (v.2.2.1, ())))) v.1.2.2.2.2.2.2.2.1 v.1.2.2.2.2.2.2.2.2.2.1
theorem t_z27_4 (n : Nat) (K : Cont) (rec : Sig.sem jdm → Option Res) (v : Sig.sem jdm) : runT PP jeL Tryz.f27.ntmps 0 jdV (jfN n) jvU (jdm.enc v) (jbp 0 (jdV.head 4) jdm rec K) = jhw n K rec v := by kernel_rfl
noncomputable def jqu (n : Nat) (K : Cont) (m : Nat) (v : Sig.sem jdm) : Option Res := jjI n (fun z6 => K (.ex 4) (jpg.enc ((v.1.1, (v.1.2.1, (v.1.2.2.1, (v.1.2.2.2.1, (v.1.2.2.2.2.1, (v.1.2.2.2.2.2.2.1, (z6, ()))))))), (v.2.1, ())))) v.1.1 v.1.2.1 v.1.2.2.1 v.1.2.2.2.1 v.1.2.2.2.2.1 v.1.2.2.2.2.2.2.1 v.1.2.2.2.2.2.2.2.2.1 v.2.1 v.2.2.1 m v.1.2.2.2.2.2.2.2.1 v.1.2.2.2.2.2.2.2.2.2.1
theorem i_z27_4 (n : Nat) (K : Cont) : ∀ m v, iter (jhw n K) m v = jqu n K m v := by
  intro m
  induction m with
  | zero => intro v; rfl
  | succ m ih =>
    intro v
    show jhw n K (iter (jhw n K) m) v = jhw n K (jqu n K m) v
    rw [show iter (jhw n K) m = jqu n K m from funext ih]
theorem o_z27_4 (n : Nat) : ∀ L, jfN n 4 = some L → ∀ s K r, L s K = some r → ∃ x s', jbj (run PP jeL Tryz.f27.ntmps 0 n jdV none jvU) (gc 0 (jdV.head 4)) n s = some (x, s') ∧ K x s' = some r := by
  intro L hL s K r h
  have hL : some (jaz 0 (jdV.head 4) jdm fun K v => jqu n K n v) = some L := hL
  cases hL
  have hb : LOk PP jeL Tryz.f27.ntmps 0 n jdV (jfN n) jvU := ⟨⟨tT, tT, tT⟩, ⟨tT, tT, tT⟩, tT⟩
  refine jaE hb (jhw n) (t_z27_4 n) n s K r ?_
  rw [← h]
  unfold jaz
  simp only [i_z27_4]
noncomputable def jvW : Code := jaR (jae Tryz.f27) [1, 1, 1, 1, 0, 0]
noncomputable def jhy (n : Nat) (K : Cont) (rec : Sig.sem jdo → Option Res) (v : Sig.sem jdo) : Option Res := jki n (fun z0 z1 z2 z3 => K .rt (juT.enc ((z0, (z1, (z2, ()))), (z3, ())))) v.1.1 v.1.2.1 (fun z2 z3 z4 z5 z6 => rec ((v.1.1, (v.1.2.1, (z2, (z3, (z4, (z5, ())))))), (z6, ()))) v.1.2.2.1 v.1.2.2.2.1 v.1.2.2.2.2.1 v.1.2.2.2.2.2.1 v.2.1
theorem t_z27_0 (n : Nat) (K : Cont) (rec : Sig.sem jdo → Option Res) (v : Sig.sem jdo) : runT PP jeL Tryz.f27.ntmps 0 jdV (jfN n) jvW (jdo.enc v) (jbp 0 (jdV.head 0) jdo rec K) = jhy n K rec v := by kernel_rfl
noncomputable def jqw (n : Nat) (K : Cont) (m : Nat) (v : Sig.sem jdo) : Option Res := jfi n (fun z0 z1 z2 z3 => K .rt (juT.enc ((z0, (z1, (z2, ()))), (z3, ())))) v.1.1 v.1.2.1 m v.1.2.2.1 v.1.2.2.2.1 v.1.2.2.2.2.1 v.1.2.2.2.2.2.1 v.2.1
theorem i_z27_0 (n : Nat) (K : Cont) : ∀ m v, iter (jhy n K) m v = jqw n K m v := by
  intro m
  induction m with
  | zero => intro v; rfl
  | succ m ih =>
    intro v
    show jhy n K (iter (jhy n K) m) v = jhy n K (jqw n K m) v
    rw [show iter (jhy n K) m = jqw n K m from funext ih]
theorem o_z27_0 (n : Nat) : ∀ L, jfN n 0 = some L → ∀ s K r, L s K = some r → ∃ x s', jbj (run PP jeL Tryz.f27.ntmps 0 n jdV none jvW) (gc 0 (jdV.head 0)) n s = some (x, s') ∧ K x s' = some r := by
  intro L hL s K r h
  have hL : some (jaz 0 (jdV.head 0) jdo fun K v => jqw n K n v) = some L := hL
  cases hL
  have hb : LOk PP jeL Tryz.f27.ntmps 0 n jdV (jfN n) jvW := ⟨tT, ⟨tT, (o_z27_2 n)⟩, ⟨tT, ⟨tT, tT⟩, tT⟩, tT, tT, ⟨tT, ⟨tT, tT⟩, tT⟩, tT, tT, ⟨tT, ⟨tT, ⟨tT, ⟨tT, tT⟩, tT⟩, tT, (o_z27_4 n)⟩, tT⟩, ⟨tT, ⟨tT, tT⟩, tT⟩, ⟨tT, ⟨tT, tT⟩, tT⟩, tT, tT⟩
  refine jaE hb (jhy n) (t_z27_0 n) n s K r ?_
  rw [← h]
  unfold jaz
  simp only [i_z27_0]
theorem m_z27 (n : Nat) (a : EK.sems jHB) (b : HK.sems jFq) : jaH PP jeL jdV (jfN n) Tryz.f27 (jae Tryz.f27) (EK.encs jHB a) (HK.encs jFq b) = jNQ n a.1 a.2.1 := by kernel_rfl
theorem g_z27 (n : Nat) (a : EK.sems jHB) (b : HK.sems jFq) {r : Res} (h : jNQ n a.1 a.2.1 = some r) : runF PP jeL n jdV 27 (EK.encs jHB a) (HK.encs jFq b) = some r :=
  jaf PP Tryz.func27 (show Tryz.f27.body = some (jae Tryz.f27) from rfl) (show (2 : Nat) ≤ 117 by decide) (show LOk PP jeL _ 0 n _ (jfN n) _ from ⟨tT, tT, ⟨tT, ⟨tT, tT⟩, tT⟩, tT, (o_z27_0 n)⟩) ((m_z27 n a b).trans h) rfl (by kernel_rfl)
noncomputable def c_z27 : Spec := jaG jHB jFq jsy jsO fun a b => jMw a.1 a.2.1
theorem k_z27 (hm : Tryz.prog.follows .mixedOrders = true) : jar PP 27 c_z27 := jaj (pol := jdV) hm (cf := jeL) (jav (jab (k_z1z hm) (jab (k_z26 hm) (jab (k_z25 hm) jah)))) fun a b r h => ⟨FUEL, g_z27 FUEL a b (jad h)⟩
def s_z28_r : Sig := ⟨[4, 5], [.ty (.int .i64), .ty (.int .i64)], [.one false [.ty .str, .ty .str, .ty (.int .i64), .hs 1 0], .row jaq]⟩
def p_z28 : Pol := ⟨fun i => none, fun i => none, some [(4, .keep), (5, .keep)], [.keep, .keep], []⟩
def jHA : List EK := [.ptr 0 0 0, .ty (.slice jay)]
def jFp : List HK := [.one true [.ty .str, .ty .str, .ty (.int .i64), .nul 4]]
noncomputable def jzA : CallF := mkCF [(27, c_z27)] [(27, [(.slice jay), .str])]
noncomputable def jPG (n : Nat) : jaF := fun i =>  none
theorem m_z28 (n : Nat) (a : EK.sems jHA) (b : HK.sems jFp) : jaH PP jzA p_z28 (jPG n) Tryz.f9 (jae Tryz.f9) (EK.encs jHA a) (HK.encs jFp b) = jNP n a.2.1 b.1.1 b.1.2.1 b.1.2.2.1 := by kernel_rfl
theorem g_z28 (n : Nat) (a : EK.sems jHA) (b : HK.sems jFp) {r : Res} (h : jNP n a.2.1 b.1.1 b.1.2.1 b.1.2.2.1 = some r) : runF PP jzA n p_z28 9 (EK.encs jHA a) (HK.encs jFp b) = some r :=
  jaf PP Tryz.func9 (show Tryz.f9.body = some (jae Tryz.f9) from rfl) (show (2 : Nat) ≤ 27 by decide) (show LOk PP jzA _ 1 n _ (jPG n) _ from ⟨tT, tT, tT, tT, tT⟩) ((m_z28 n a b).trans h) rfl (by kernel_rfl)
noncomputable def c_z28 : Spec := jaG jHA jFp jxp jxT fun a b => jMv a.2.1 b.1.1 b.1.2.1 b.1.2.2.1
theorem k_z28 (hm : Tryz.prog.follows .mixedOrders = true) : jar PP 9 c_z28 := jaj (pol := p_z28) hm (cf := jzA) (jav (jab (k_z27 hm) jah)) fun a b r h => ⟨FUEL, g_z28 FUEL a b (jad h)⟩
def s_z29_r : Sig := ⟨[2], [.ty (.int .i64)], [.one false [.ptr 1 0 0, .hs 3 0, .ptr 4 0 0, .ty (.int .i64)], .one false [.hs 2 0], .row (.int .u8), .row jaq, .one false [.hs 5 0], .row (.int .u8)]⟩
def p_z29 : Pol := ⟨fun i => none, fun i => none, some [(2, .keep)], [.keep], []⟩
def jHz : List EK := [.ptr 0 0 0]
def jFo : List HK := [.one false [.ptr 1 0 0, .hs 3 0, .ptr 4 0 0, .ty (.int .i64)], .one false [.hs 2 0], .row (.int .u8), .row jaq, .one false [.hs 5 0], .row (.int .u8)]
noncomputable def jzz : CallF := mkCF [(57, c_z1d)] []
noncomputable def jPF (n : Nat) : jaF := fun i =>  none
theorem m_z29 (n : Nat) (a : EK.sems jHz) (b : HK.sems jFo) : jaH PP jzz p_z29 (jPF n) Tryz.f28 (jae Tryz.f28) (EK.encs jHz a) (HK.encs jFo b) = jNO n b.1.2.1 b.1.2.2.2.1 b.2.1.1 b.2.2.1 b.2.2.2.1 b.2.2.2.2.1.1 b.2.2.2.2.2.1 := by kernel_rfl
theorem g_z29 (n : Nat) (a : EK.sems jHz) (b : HK.sems jFo) {r : Res} (h : jNO n b.1.2.1 b.1.2.2.2.1 b.2.1.1 b.2.2.1 b.2.2.2.1 b.2.2.2.2.1.1 b.2.2.2.2.2.1 = some r) : runF PP jzz n p_z29 28 (EK.encs jHz a) (HK.encs jFo b) = some r :=
  jaf PP Tryz.func28 (show Tryz.f28.body = some (jae Tryz.f28) from rfl) (show (1 : Nat) ≤ 11 by decide) (show LOk PP jzz _ 6 n _ (jPF n) _ from ⟨tT, ⟨tT, ⟨tT, tT⟩, tT⟩, tT, tT⟩) ((m_z29 n a b).trans h) rfl (by kernel_rfl)
noncomputable def c_z29 : Spec := jaG jHz jFo jCT jDz fun a b => jMu b.1.2.1 b.1.2.2.2.1 b.2.1.1 b.2.2.1 b.2.2.2.1 b.2.2.2.2.1.1 b.2.2.2.2.2.1
theorem k_z29 (hm : Tryz.prog.follows .mixedOrders = true) : jar PP 28 c_z29 := jaj (pol := p_z29) hm (cf := jzz) (jav (jab (k_z1d hm) jah)) fun a b r h => ⟨FUEL, g_z29 FUEL a b (jad h)⟩
def s_z2a_r : Sig := ⟨[2], [.ty .str], [.one false [.ptr 1 0 0, .hs 3 0, .ptr 4 0 0, .ty (.int .i64)], .one false [.hs 2 0], .row (.int .u8), .row jaq, .one false [.hs 5 0], .row (.int .u8)]⟩
def p_z2a : Pol := ⟨fun i => none, fun i => none, some [(2, .keep)], [.keep], []⟩
def jHy : List EK := [.ptr 0 0 0]
def jFn : List HK := [.one false [.ptr 1 0 0, .hs 3 0, .ptr 4 0 0, .ty (.int .i64)], .one false [.hs 2 0], .row (.int .u8), .row jaq, .one false [.hs 5 0], .row (.int .u8)]
noncomputable def jzy : CallF := mkCF [(48, jLP)] []
noncomputable def jPE (n : Nat) : jaF := fun i =>  none
theorem m_z2a (n : Nat) (a : EK.sems jHy) (b : HK.sems jFn) : jaH PP jzy p_z2a (jPE n) Tryz.f29 (jae Tryz.f29) (EK.encs jHy a) (HK.encs jFn b) = jNN n b.1.2.1 b.1.2.2.2.1 b.2.1.1 b.2.2.1 b.2.2.2.1 b.2.2.2.2.1.1 b.2.2.2.2.2.1 := by kernel_rfl
theorem g_z2a (n : Nat) (a : EK.sems jHy) (b : HK.sems jFn) {r : Res} (h : jNN n b.1.2.1 b.1.2.2.2.1 b.2.1.1 b.2.2.1 b.2.2.2.1 b.2.2.2.2.1.1 b.2.2.2.2.2.1 = some r) : runF PP jzy n p_z2a 29 (EK.encs jHy a) (HK.encs jFn b) = some r :=
  jaf PP Tryz.func29 (show Tryz.f29.body = some (jae Tryz.f29) from rfl) (show (1 : Nat) ≤ 10 by decide) (show LOk PP jzy _ 6 n _ (jPE n) _ from ⟨tT, ⟨tT, ⟨tT, tT⟩, tT⟩, tT, tT⟩) ((m_z2a n a b).trans h) rfl (by kernel_rfl)
noncomputable def c_z2a : Spec := jaG jHy jFn jCS jDy fun a b => jMt b.1.2.1 b.1.2.2.2.1 b.2.1.1 b.2.2.1 b.2.2.2.1 b.2.2.2.2.1.1 b.2.2.2.2.2.1
theorem k_z2a (hm : Tryz.prog.follows .mixedOrders = true) : jar PP 29 c_z2a := jaj (pol := p_z2a) hm (cf := jzy) (jav (jab (k_z03 hm) jah)) fun a b r h => ⟨FUEL, g_z2a FUEL a b (jad h)⟩
def s_z2b_r : Sig := ⟨[4], [.ty .bool], [.one false [.ptr 1 0 0, .hs 3 0, .ptr 4 0 0, .ty (.int .i64)], .one false [.hs 2 0], .row (.int .u8), .row jaq, .one false [.hs 5 0], .row (.int .u8), .one false [.ty .str, .ty .str, .ty (.int .i64), .hs 7 0], .row jaq]⟩
def jdl : Sig := ⟨[5, 6], [.hs 8 0, .ty (.int .i64)], [.one false [.ptr 1 0 0, .hs 3 0, .ptr 4 0 0, .ty (.int .i64)], .one false [.hs 2 0], .row (.int .u8), .row jaq, .one false [.hs 5 0], .row (.int .u8), .one false [.ty .str, .ty .str, .ty (.int .i64), .hs 7 0], .row jaq, .row jaq]⟩
def jpf : Sig := ⟨[], [], [.one false [.ptr 1 0 0, .hs 3 0, .ptr 4 0 0, .ty (.int .i64)], .one false [.hs 2 0], .row (.int .u8), .row jaq, .one false [.hs 5 0], .row (.int .u8), .one false [.ty .str, .ty .str, .ty (.int .i64), .hs 7 0], .row jaq]⟩
def jnp : Pol := ⟨fun i => if i = 0 then some [(5, (.own jaq)), (6, .keep)] else none, fun i => if i = 0 then some [] else none, some [(4, .keep)], [.keep], []⟩
def jHx : List EK := [.ptr 0 0 0, .ptr 6 0 0]
def jFm : List HK := [.one false [.ptr 1 0 0, .hs 3 0, .ptr 4 0 0, .ty (.int .i64)], .one false [.hs 2 0], .row (.int .u8), .row jaq, .one false [.hs 5 0], .row (.int .u8), .one false [.ty .str, .ty .str, .ty (.int .i64), .hs 7 0], .row jaq]
noncomputable def jmB : CallF := mkCF [(18, c_z11), (19, c_z13), (22, jLJ), (28, c_z29), (29, c_z2a), (17, c_z12)] [(17, [(.slice jaq), (.slice jaq)])]
noncomputable def jtD (n : Nat) : jaF := fun i => if i = 0 then some (jaz 8 (jnp.head 0) jdl fun K v => jjH n (fun _ => K (.ex 0) (jpf.enc ((), (((), (v.2.1.2.1, ((), (v.2.1.2.2.2.1, ())))), ((v.2.2.1.1, ()), (v.2.2.2.1, (v.2.2.2.2.1, ((v.2.2.2.2.2.1.1, ()), (v.2.2.2.2.2.2.1, ((v.2.2.2.2.2.2.2.1.1, (v.2.2.2.2.2.2.2.1.2.1, (v.2.2.2.2.2.2.2.1.2.2.1, (v.2.2.2.2.2.2.2.1.2.2.2.1, ())))), (v.2.2.2.2.2.2.2.2.1, ()))))))))))) v.1.1 n v.1.2.1 v.2.2.2.2.2.2.2.2.2.1)
  else  none
noncomputable def jvT : Code := jaR (jae Tryz.f10) [1, 1, 1, 0, 1, 0, 0]
noncomputable def jhv (n : Nat) (K : Cont) (rec : Sig.sem jdl → Option Res) (v : Sig.sem jdl) : Option Res := jrD n (fun _ => K (.ex 0) (jpf.enc ((), (((), (v.2.1.2.1, ((), (v.2.1.2.2.2.1, ())))), ((v.2.2.1.1, ()), (v.2.2.2.1, (v.2.2.2.2.1, ((v.2.2.2.2.2.1.1, ()), (v.2.2.2.2.2.2.1, ((v.2.2.2.2.2.2.2.1.1, (v.2.2.2.2.2.2.2.1.2.1, (v.2.2.2.2.2.2.2.1.2.2.1, (v.2.2.2.2.2.2.2.1.2.2.2.1, ())))), (v.2.2.2.2.2.2.2.2.1, ()))))))))))) v.1.1 (fun z1 z14 => rec ((v.1.1, (z1, ())), (((), (v.2.1.2.1, ((), (v.2.1.2.2.2.1, ())))), ((v.2.2.1.1, ()), (v.2.2.2.1, (v.2.2.2.2.1, ((v.2.2.2.2.2.1.1, ()), (v.2.2.2.2.2.2.1, ((v.2.2.2.2.2.2.2.1.1, (v.2.2.2.2.2.2.2.1.2.1, (v.2.2.2.2.2.2.2.1.2.2.1, (v.2.2.2.2.2.2.2.1.2.2.2.1, ())))), (v.2.2.2.2.2.2.2.2.1, (z14, ()))))))))))) v.1.2.1 v.2.2.2.2.2.2.2.2.2.1
theorem t_z2b_0 (n : Nat) (K : Cont) (rec : Sig.sem jdl → Option Res) (v : Sig.sem jdl) : runT PP jmB Tryz.f10.ntmps 8 jnp (jtD n) jvT (jdl.enc v) (jbp 8 (jnp.head 0) jdl rec K) = jhv n K rec v := by kernel_rfl
noncomputable def jqt (n : Nat) (K : Cont) (m : Nat) (v : Sig.sem jdl) : Option Res := jjH n (fun _ => K (.ex 0) (jpf.enc ((), (((), (v.2.1.2.1, ((), (v.2.1.2.2.2.1, ())))), ((v.2.2.1.1, ()), (v.2.2.2.1, (v.2.2.2.2.1, ((v.2.2.2.2.2.1.1, ()), (v.2.2.2.2.2.2.1, ((v.2.2.2.2.2.2.2.1.1, (v.2.2.2.2.2.2.2.1.2.1, (v.2.2.2.2.2.2.2.1.2.2.1, (v.2.2.2.2.2.2.2.1.2.2.2.1, ())))), (v.2.2.2.2.2.2.2.2.1, ()))))))))))) v.1.1 m v.1.2.1 v.2.2.2.2.2.2.2.2.2.1
theorem i_z2b_0 (n : Nat) (K : Cont) : ∀ m v, iter (jhv n K) m v = jqt n K m v := by
  intro m
  induction m with
  | zero => intro v; rfl
  | succ m ih =>
    intro v
    show jhv n K (iter (jhv n K) m) v = jhv n K (jqt n K m) v
    rw [show iter (jhv n K) m = jqt n K m from funext ih]
theorem o_z2b_0 (n : Nat) : ∀ L, jtD n 0 = some L → ∀ s K r, L s K = some r → ∃ x s', jbj (run PP jmB Tryz.f10.ntmps 8 n jnp none jvT) (gc 8 (jnp.head 0)) n s = some (x, s') ∧ K x s' = some r := by
  intro L hL s K r h
  have hL : some (jaz 8 (jnp.head 0) jdl fun K v => jqt n K n v) = some L := hL
  cases hL
  have hb : LOk PP jmB Tryz.f10.ntmps 8 n jnp (jtD n) jvT := ⟨⟨tT, tT, tT⟩, tT, tT⟩
  refine jaE hb (jhv n) (t_z2b_0 n) n s K r ?_
  rw [← h]
  unfold jaz
  simp only [i_z2b_0]
theorem m_z2b (n : Nat) (a : EK.sems jHx) (b : HK.sems jFm) : jaH PP jmB jnp (jtD n) Tryz.f10 (jae Tryz.f10) (EK.encs jHx a) (HK.encs jFm b) = jNM n b.1.2.1 b.1.2.2.2.1 b.2.1.1 b.2.2.1 b.2.2.2.1 b.2.2.2.2.1.1 b.2.2.2.2.2.1 b.2.2.2.2.2.2.1.1 b.2.2.2.2.2.2.1.2.1 b.2.2.2.2.2.2.1.2.2.1 b.2.2.2.2.2.2.1.2.2.2.1 b.2.2.2.2.2.2.2.1 := by kernel_rfl
theorem g_z2b (n : Nat) (a : EK.sems jHx) (b : HK.sems jFm) {r : Res} (h : jNM n b.1.2.1 b.1.2.2.2.1 b.2.1.1 b.2.2.1 b.2.2.2.1 b.2.2.2.2.1.1 b.2.2.2.2.2.1 b.2.2.2.2.2.2.1.1 b.2.2.2.2.2.2.1.2.1 b.2.2.2.2.2.2.1.2.2.1 b.2.2.2.2.2.2.1.2.2.2.1 b.2.2.2.2.2.2.2.1 = some r) : runF PP jmB n jnp 10 (EK.encs jHx a) (HK.encs jFm b) = some r :=
  jaf PP Tryz.func10 (show Tryz.f10.body = some (jae Tryz.f10) from rfl) (show (2 : Nat) ≤ 63 by decide) (show LOk PP jmB _ 8 n _ (jtD n) _ from ⟨tT, tT, ⟨tT, ⟨tT, tT⟩, tT⟩, ⟨tT, (o_z2b_0 n)⟩, tT, tT⟩) ((m_z2b n a b).trans h) rfl (by kernel_rfl)
noncomputable def c_z2b : Spec := jaG jHx jFm jko jiy fun a b => jMs b.1.2.1 b.1.2.2.2.1 b.2.1.1 b.2.2.1 b.2.2.2.1 b.2.2.2.2.1.1 b.2.2.2.2.2.1 b.2.2.2.2.2.2.1.1 b.2.2.2.2.2.2.1.2.1 b.2.2.2.2.2.2.1.2.2.1 b.2.2.2.2.2.2.1.2.2.2.1 b.2.2.2.2.2.2.2.1
theorem k_z2b (hm : Tryz.prog.follows .mixedOrders = true) : jar PP 10 c_z2b := jaj (pol := jnp) hm (cf := jmB) (jav (jab (k_z11 hm) (jab (k_z13 hm) (jab (k_z1l hm) (jab (k_z29 hm) (jab (k_z2a hm) (jab (k_z12 hm) jah))))))) fun a b r h => ⟨FUEL, g_z2b FUEL a b (jad h)⟩
def s_z2c_r : Sig := ⟨[2], [.ptr 2 0 0], [.one false [.hs 1 0], .row (.int .u8), .one false [.hs 3 0], .row (.int .u8)]⟩
def p_z2c : Pol := ⟨fun i => none, fun i => none, some [(2, .keep)], [.keep], []⟩
def jHw : List EK := [.ptr 0 0 0]
def jFl : List HK := [.one false [.hs 1 0], .row (.int .u8)]
noncomputable def jzx : CallF := mkCF [] []
noncomputable def jPD (n : Nat) : jaF := fun i =>  none
theorem m_z2c (n : Nat) (a : EK.sems jHw) (b : HK.sems jFl) : jaH PP jzx p_z2c (jPD n) Tryz.f30 (jae Tryz.f30) (EK.encs jHw a) (HK.encs jFl b) = jNL n b.1.1 b.2.1 := by kernel_rfl
theorem g_z2c (n : Nat) (a : EK.sems jHw) (b : HK.sems jFl) {r : Res} (h : jNL n b.1.1 b.2.1 = some r) : runF PP jzx n p_z2c 30 (EK.encs jHw a) (HK.encs jFl b) = some r :=
  jaf PP Tryz.func30 (show Tryz.f30.body = some (jae Tryz.f30) from rfl) (show (1 : Nat) ≤ 13 by decide) (show LOk PP jzx _ 2 n _ (jPD n) _ from ⟨tT, ⟨tT, ⟨tT, tT⟩, tT⟩, tT, tT⟩) ((m_z2c n a b).trans h) rfl (by kernel_rfl)
noncomputable def c_z2c : Spec := jaG jHw jFl jCR jDx fun a b => jMr b.1.1 b.2.1
theorem k_z2c (hm : Tryz.prog.follows .mixedOrders = true) : jar PP 30 c_z2c := jaj (pol := p_z2c) hm (cf := jzx) (jav jah) fun a b r h => ⟨FUEL, g_z2c FUEL a b (jad h)⟩
def s_z2d_r : Sig := ⟨[2], [.ptr 6 0 0], [.one false [.ptr 1 0 0, .hs 3 0, .ptr 4 0 0, .ty (.int .i64)], .one false [.hs 2 0], .row (.int .u8), .row jaq, .one false [.hs 5 0], .row (.int .u8), .one false [.ptr 7 0 0, .hs 9 0, .ptr 10 0 0, .ty (.int .i64)], .one false [.hs 8 0], .row (.int .u8), .row jaq, .one false [.hs 11 0], .row (.int .u8)]⟩
def p_z2d : Pol := ⟨fun i => none, fun i => none, some [(2, .keep)], [.keep], []⟩
def jHv : List EK := [.ptr 0 0 0]
def jFk : List HK := [.one false [.ptr 1 0 0, .hs 3 0, .ptr 4 0 0, .ty (.int .i64)], .one false [.hs 2 0], .row (.int .u8), .row jaq, .one false [.hs 5 0], .row (.int .u8)]
noncomputable def jzw : CallF := mkCF [(30, c_z2c), (31, c_z10)] [(31, [(.slice jaq)])]
noncomputable def jPC (n : Nat) : jaF := fun i =>  none
theorem m_z2d (n : Nat) (a : EK.sems jHv) (b : HK.sems jFk) : jaH PP jzw p_z2d (jPC n) Tryz.f11 (jae Tryz.f11) (EK.encs jHv a) (HK.encs jFk b) = jNK n b.1.2.1 b.1.2.2.2.1 b.2.1.1 b.2.2.1 b.2.2.2.1 b.2.2.2.2.1.1 b.2.2.2.2.2.1 := by kernel_rfl
theorem g_z2d (n : Nat) (a : EK.sems jHv) (b : HK.sems jFk) {r : Res} (h : jNK n b.1.2.1 b.1.2.2.2.1 b.2.1.1 b.2.2.1 b.2.2.2.1 b.2.2.2.2.1.1 b.2.2.2.2.2.1 = some r) : runF PP jzw n p_z2d 11 (EK.encs jHv a) (HK.encs jFk b) = some r :=
  jaf PP Tryz.func11 (show Tryz.f11.body = some (jae Tryz.f11) from rfl) (show (1 : Nat) ≤ 29 by decide) (show LOk PP jzw _ 6 n _ (jPC n) _ from ⟨tT, ⟨tT, ⟨tT, tT⟩, tT⟩, tT, tT⟩) ((m_z2d n a b).trans h) rfl (by kernel_rfl)
noncomputable def c_z2d : Spec := jaG jHv jFk jCQ jxS fun a b => jMq b.1.2.1 b.1.2.2.2.1 b.2.1.1 b.2.2.1 b.2.2.2.1 b.2.2.2.2.1.1 b.2.2.2.2.2.1
theorem k_z2d (hm : Tryz.prog.follows .mixedOrders = true) : jar PP 11 c_z2d := jaj (pol := p_z2d) hm (cf := jzw) (jav (jab (k_z2c hm) (jab (k_z10 hm) jah))) fun a b r h => ⟨FUEL, g_z2d FUEL a b (jad h)⟩
def s_z2e_r : Sig := ⟨[8], [.ty (.int .i64)], []⟩
def p_z2e : Pol := ⟨fun i => none, fun i => none, some [(8, .keep)], [.keep], []⟩
def jHu : List EK := [.nul 0, .ty (.int .i64), .ty (.int .i64), .agg jaL]
def jFj : List HK := []
noncomputable def jzv : CallF := mkCF [] []
noncomputable def jPB (n : Nat) : jaF := fun i =>  none
theorem m_z2e (n : Nat) (a : EK.sems jHu) (b : HK.sems jFj) : jaH PP jzv p_z2e (jPB n) Tryz.f33 (jae Tryz.f33) (EK.encs jHu a) (HK.encs jFj b) = M_z2e n a.2.1 a.2.2.1 a.2.2.2.1 := by kernel_rfl
theorem g_z2e (n : Nat) (a : EK.sems jHu) (b : HK.sems jFj) {r : Res} (h : M_z2e n a.2.1 a.2.2.1 a.2.2.2.1 = some r) : runF PP jzv n p_z2e 33 (EK.encs jHu a) (HK.encs jFj b) = some r :=
  jaf PP Tryz.func33 (show Tryz.f33.body = some (jae Tryz.f33) from rfl) (show (4 : Nat) ≤ 40 by decide) (show LOk PP jzv _ 0 n _ (jPB n) _ from ⟨tT, ⟨tT, ⟨tT, tT⟩, tT⟩, tT, tT, ⟨tT, tT, tT⟩, tT, tT⟩) ((m_z2e n a b).trans h) rfl (by kernel_rfl)
noncomputable def c_z2e : Spec := jaG jHu jFj jCP jDw fun a b => Q_z2e a.2.1 a.2.2.1 a.2.2.2.1
theorem k_z2e (hm : Tryz.prog.follows .mixedOrders = true) : jar PP 33 c_z2e := jaj (pol := p_z2e) hm (cf := jzv) (jav jah) fun a b r h => ⟨FUEL, g_z2e FUEL a b (jad h)⟩
def s_z2f_r : Sig := ⟨[8, 9], [.ty .str, .ty (.int .i64)], []⟩
def jdk : Sig := ⟨[1, 2, 7, 11, 24, 25], [.ty (.int .i64), .ty (.int .i64), .ptr 0 0 0, .hs 1 0, .ty (.int .i64), .ty (.int .i64)], [.cell jaL, .row (.int .u8)]⟩
def jpe : Sig := ⟨[11], [.hs 0 0], [.row (.int .u8)]⟩
def jno : Pol := ⟨fun i => if i = 0 then some [(1, .keep), (2, .keep), (7, (.own jaL)), (11, (.own (.int .u8))), (24, .keep), (25, .keep)] else none, fun i => if i = 0 then some [(11, (.own (.int .u8)))] else none, some [(8, .keep), (9, .keep)], [.keep, .keep], []⟩
def jHt : List EK := [.ty .str, .ty (.int .i64), .ty (.int .i64), .agg jaL]
def jFi : List HK := []
noncomputable def jmA : CallF := mkCF [(85, c_z0i), (87, c_z0n), (69, jLO), (86, c_z0p)] [(85, [.str, (.int .i64), (.int .i64)]), (87, [jaL, (.int .i64)]), (69, [(.int .u64)]), (86, [jaL, jaL])]
noncomputable def jtC (n : Nat) : jaF := fun i => if i = 0 then some (jaz 0 (jno.head 0) jdk fun K v => jjG n (fun z1 => K (.ex 0) (jpe.enc ((v.1.2.2.2.1, ()), (z1, ())))) v.1.1 v.1.2.1 v.1.2.2.2.1 v.1.2.2.2.2.1 v.2.1 n v.1.2.2.2.2.2.1 v.2.2.1)
  else  none
noncomputable def jvS : Code := jaR (jae Tryz.f59) [1, 1, 1, 0, 1, 0, 0]
noncomputable def jhu (n : Nat) (K : Cont) (rec : Sig.sem jdk → Option Res) (v : Sig.sem jdk) : Option Res := jrC n (fun z1 => K (.ex 0) (jpe.enc ((v.1.2.2.2.1, ()), (z1, ())))) v.1.1 v.1.2.1 v.1.2.2.2.1 v.1.2.2.2.2.1 v.2.1 (fun z4 z6 => rec ((v.1.1, (v.1.2.1, ((), (v.1.2.2.2.1, (v.1.2.2.2.2.1, (z4, ())))))), (v.2.1, (z6, ())))) v.1.2.2.2.2.2.1 v.2.2.1
theorem t_z2f_0 (n : Nat) (K : Cont) (rec : Sig.sem jdk → Option Res) (v : Sig.sem jdk) : runT PP jmA Tryz.f59.ntmps 0 jno (jtC n) jvS (jdk.enc v) (jbp 0 (jno.head 0) jdk rec K) = jhu n K rec v := by kernel_rfl
noncomputable def jqs (n : Nat) (K : Cont) (m : Nat) (v : Sig.sem jdk) : Option Res := jjG n (fun z1 => K (.ex 0) (jpe.enc ((v.1.2.2.2.1, ()), (z1, ())))) v.1.1 v.1.2.1 v.1.2.2.2.1 v.1.2.2.2.2.1 v.2.1 m v.1.2.2.2.2.2.1 v.2.2.1
theorem i_z2f_0 (n : Nat) (K : Cont) : ∀ m v, iter (jhu n K) m v = jqs n K m v := by
  intro m
  induction m with
  | zero => intro v; rfl
  | succ m ih =>
    intro v
    show jhu n K (iter (jhu n K) m) v = jhu n K (jqs n K m) v
    rw [show iter (jhu n K) m = jqs n K m from funext ih]
theorem o_z2f_0 (n : Nat) : ∀ L, jtC n 0 = some L → ∀ s K r, L s K = some r → ∃ x s', jbj (run PP jmA Tryz.f59.ntmps 0 n jno none jvS) (gc 0 (jno.head 0)) n s = some (x, s') ∧ K x s' = some r := by
  intro L hL s K r h
  have hL : some (jaz 0 (jno.head 0) jdk fun K v => jqs n K n v) = some L := hL
  cases hL
  have hb : LOk PP jmA Tryz.f59.ntmps 0 n jno (jtC n) jvS := ⟨tT, ⟨tT, tT⟩, ⟨tT, tT, tT, tT, tT, tT⟩, tT⟩
  refine jaE hb (jhu n) (t_z2f_0 n) n s K r ?_
  rw [← h]
  unfold jaz
  simp only [i_z2f_0]
theorem m_z2f (n : Nat) (a : EK.sems jHt) (b : HK.sems jFi) : jaH PP jmA jno (jtC n) Tryz.f59 (jae Tryz.f59) (EK.encs jHt a) (HK.encs jFi b) = jKo n a.1 a.2.1 a.2.2.1 a.2.2.2.1 := by kernel_rfl
theorem g_z2f (n : Nat) (a : EK.sems jHt) (b : HK.sems jFi) {r : Res} (h : jKo n a.1 a.2.1 a.2.2.1 a.2.2.2.1 = some r) : runF PP jmA n jno 59 (EK.encs jHt a) (HK.encs jFi b) = some r :=
  jaf PP Tryz.func59 (show Tryz.f59.body = some (jae Tryz.f59) from rfl) (show (4 : Nat) ≤ 64 by decide) (show LOk PP jmA _ 0 n _ (jtC n) _ from ⟨tT, ⟨tT, tT, ⟨tT, tT⟩, tT⟩, tT, ⟨tT, (o_z2f_0 n)⟩, tT, tT⟩) ((m_z2f n a b).trans h) rfl (by kernel_rfl)
noncomputable def c_z2f : Spec := jaG jHt jFi jsx jsN fun a b => jJD a.1 a.2.1 a.2.2.1 a.2.2.2.1
theorem k_z2f (hm : Tryz.prog.follows .mixedOrders = true) : jar PP 59 c_z2f := jaj (pol := jno) hm (cf := jmA) (jav (jab (k_z0i hm) (jab (k_z0n hm) (jab (k_z0k hm) (jab (k_z0p hm) jah))))) fun a b r h => ⟨FUEL, g_z2f FUEL a b (jad h)⟩
def s_z2g_r : Sig := ⟨[8], [.ty (.int .i64)], [.one false [.hs 1 0], .row (.int .u8)]⟩
def p_z2g : Pol := ⟨fun i => none, fun i => none, some [(8, .keep)], [.keep], []⟩
def jHs : List EK := [.ptr 0 0 0, .ty (.int .i64), .ty (.int .i64), .agg jaL]
def jFh : List HK := [.one false [.hs 1 0], .row (.int .u8)]
noncomputable def jzu : CallF := mkCF [(58, c_z18), (59, c_z2f)] [(59, [.str, (.int .i64), (.int .i64), jaL])]
noncomputable def jPA (n : Nat) : jaF := fun i =>  none
theorem m_z2g (n : Nat) (a : EK.sems jHs) (b : HK.sems jFh) : jaH PP jzu p_z2g (jPA n) Tryz.f33 (jae Tryz.f33) (EK.encs jHs a) (HK.encs jFh b) = jKn n a.2.1 a.2.2.1 a.2.2.2.1 b.1.1 b.2.1 := by kernel_rfl
theorem g_z2g (n : Nat) (a : EK.sems jHs) (b : HK.sems jFh) {r : Res} (h : jKn n a.2.1 a.2.2.1 a.2.2.2.1 b.1.1 b.2.1 = some r) : runF PP jzu n p_z2g 33 (EK.encs jHs a) (HK.encs jFh b) = some r :=
  jaf PP Tryz.func33 (show Tryz.f33.body = some (jae Tryz.f33) from rfl) (show (4 : Nat) ≤ 40 by decide) (show LOk PP jzu _ 2 n _ (jPA n) _ from ⟨tT, ⟨tT, ⟨tT, tT⟩, tT⟩, tT, tT, ⟨tT, tT, tT⟩, tT, tT⟩) ((m_z2g n a b).trans h) rfl (by kernel_rfl)
noncomputable def c_z2g : Spec := jaG jHs jFh jnX joe fun a b => jMp a.2.1 a.2.2.1 a.2.2.2.1 b.1.1 b.2.1
theorem k_z2g (hm : Tryz.prog.follows .mixedOrders = true) : jar PP 33 c_z2g := jaj (pol := p_z2g) hm (cf := jzu) (jav (jab (k_z18 hm) (jab (k_z2f hm) jah))) fun a b r h => ⟨FUEL, g_z2g FUEL a b (jad h)⟩
def s_z2h_r : Sig := ⟨[6], [.ty (.int .i64)], [.one false [.ptr 1 0 0, .hs 3 0, .ptr 4 0 0, .ty (.int .i64)], .one false [.hs 2 0], .row (.int .u8), .row jaq, .one false [.hs 5 0], .row (.int .u8)]⟩
def p_z2h : Pol := ⟨fun i => none, fun i => none, some [(6, .keep)], [.keep], []⟩
def jHr : List EK := [.ptr 0 0 0, .agg jaT, .agg jaL]
def jFg : List HK := [.one false [.ptr 1 0 0, .hs 3 0, .ptr 4 0 0, .ty (.int .i64)], .one false [.hs 2 0], .row (.int .u8), .row jaq, .one false [.hs 5 0], .row (.int .u8)]
noncomputable def jzt : CallF := mkCF [(32, jLN), (34, c_z16), (33, (jon c_z2e c_z2g))] [(34, [(.int .i64), (.int .i64)])]
noncomputable def jPz (n : Nat) : jaF := fun i =>  none
theorem m_z2h (n : Nat) (a : EK.sems jHr) (b : HK.sems jFg) : jaH PP jzt p_z2h (jPz n) Tryz.f12 (jae Tryz.f12) (EK.encs jHr a) (HK.encs jFg b) = juz n a.2.1 a.2.2.1 b.1.2.1 b.1.2.2.2.1 b.2.1.1 b.2.2.1 b.2.2.2.1 b.2.2.2.2.1.1 b.2.2.2.2.2.1 := by kernel_rfl
theorem g_z2h (n : Nat) (a : EK.sems jHr) (b : HK.sems jFg) {r : Res} (h : juz n a.2.1 a.2.2.1 b.1.2.1 b.1.2.2.2.1 b.2.1.1 b.2.2.1 b.2.2.2.1 b.2.2.2.2.1.1 b.2.2.2.2.2.1 = some r) : runF PP jzt n p_z2h 12 (EK.encs jHr a) (HK.encs jFg b) = some r :=
  jaf PP Tryz.func12 (show Tryz.f12.body = some (jae Tryz.f12) from rfl) (show (3 : Nat) ≤ 32 by decide) (show LOk PP jzt _ 6 n _ (jPz n) _ from ⟨tT, tT, ⟨tT, ⟨tT, tT⟩, tT⟩, tT, tT⟩) ((m_z2h n a b).trans h) rfl (by kernel_rfl)
noncomputable def jLI : Spec := jaG jHr jFg jfu jfx fun a b => jJC a.2.1 a.2.2.1 b.1.2.1 b.1.2.2.2.1 b.2.1.1 b.2.2.1 b.2.2.2.1 b.2.2.2.2.1.1 b.2.2.2.2.2.1
theorem k_z2h (hm : Tryz.prog.follows .mixedOrders = true) : jar PP 12 jLI := jaj (pol := p_z2h) hm (cf := jzt) (jav (jab (k_z15 hm) (jab (k_z16 hm) (jab (jiH (k_z2e hm) (k_z2g hm)) jah)))) fun a b r h => ⟨FUEL, g_z2h FUEL a b (jad h)⟩
def s_z2i_r : Sig := ⟨[4, 5], [.ty (.int .i64), .ty (.int .i64)], [.one false [.ptr 1 0 0, .hs 6 0, .ptr 4 0 0, .ty (.int .i64)], .one false [.hs 2 0], .row (.int .u8), .row jaq, .one false [.hs 5 0], .row (.int .u8), .row jaq]⟩
def p_z2i : Pol := ⟨fun i => none, fun i => none, some [(4, .keep), (5, .keep)], [.keep, .keep], []⟩
def jHq : List EK := [.ptr 0 0 0, .ty (.slice jay)]
def jFf : List HK := [.one false [.ptr 1 0 0, .hs 3 0, .ptr 4 0 0, .ty (.int .i64)], .one false [.hs 2 0], .row (.int .u8), .row jaq, .one false [.hs 5 0], .row (.int .u8)]
noncomputable def jzs : CallF := mkCF [(22, jLJ), (26, c_z0x)] [(26, [(.slice jay), .str])]
noncomputable def jPy (n : Nat) : jaF := fun i =>  none
theorem m_z2i (n : Nat) (a : EK.sems jHq) (b : HK.sems jFf) : jaH PP jzs p_z2i (jPy n) Tryz.f8 (jae Tryz.f8) (EK.encs jHq a) (HK.encs jFf b) = jNJ n a.2.1 b.1.2.1 b.1.2.2.2.1 b.2.1.1 b.2.2.1 b.2.2.2.1 b.2.2.2.2.1.1 b.2.2.2.2.2.1 := by kernel_rfl
theorem g_z2i (n : Nat) (a : EK.sems jHq) (b : HK.sems jFf) {r : Res} (h : jNJ n a.2.1 b.1.2.1 b.1.2.2.2.1 b.2.1.1 b.2.2.1 b.2.2.2.1 b.2.2.2.2.1.1 b.2.2.2.2.2.1 = some r) : runF PP jzs n p_z2i 8 (EK.encs jHq a) (HK.encs jFf b) = some r :=
  jaf PP Tryz.func8 (show Tryz.f8.body = some (jae Tryz.f8) from rfl) (show (2 : Nat) ≤ 26 by decide) (show LOk PP jzs _ 6 n _ (jPy n) _ from ⟨tT, ⟨tT, ⟨tT, tT⟩, tT⟩, tT, tT, tT, tT⟩) ((m_z2i n a b).trans h) rfl (by kernel_rfl)
noncomputable def c_z2i : Spec := jaG jHq jFf jCO jDv fun a b => jMo a.2.1 b.1.2.1 b.1.2.2.2.1 b.2.1.1 b.2.2.1 b.2.2.2.1 b.2.2.2.2.1.1 b.2.2.2.2.2.1
theorem k_z2i (hm : Tryz.prog.follows .mixedOrders = true) : jar PP 8 c_z2i := jaj (pol := p_z2i) hm (cf := jzs) (jav (jab (k_z1l hm) (jab (k_z0x hm) jah))) fun a b r h => ⟨FUEL, g_z2i FUEL a b (jad h)⟩
def s_z2j_r : Sig := ⟨[2], [.ptr 2 0 0], [.one false [.ty .str, .ty .str, .ty (.int .i64), .hs 1 0], .row jaq, .one false [.ty .str, .ty .str, .ty (.int .i64), .hs 3 0], .row jaq]⟩
def p_z2j : Pol := ⟨fun i => none, fun i => none, some [(2, .keep)], [.keep], []⟩
def jHp : List EK := [.ptr 0 0 0]
def jFe : List HK := [.one false [.ty .str, .ty .str, .ty (.int .i64), .hs 1 0], .row jaq]
noncomputable def jzr : CallF := mkCF [] []
noncomputable def jPx (n : Nat) : jaF := fun i =>  none
theorem m_z2j (n : Nat) (a : EK.sems jHp) (b : HK.sems jFe) : jaH PP jzr p_z2j (jPx n) Tryz.f14 (jae Tryz.f14) (EK.encs jHp a) (HK.encs jFe b) = jNI n b.1.1 b.1.2.1 b.1.2.2.1 b.1.2.2.2.1 b.2.1 := by kernel_rfl
theorem g_z2j (n : Nat) (a : EK.sems jHp) (b : HK.sems jFe) {r : Res} (h : jNI n b.1.1 b.1.2.1 b.1.2.2.1 b.1.2.2.2.1 b.2.1 = some r) : runF PP jzr n p_z2j 14 (EK.encs jHp a) (HK.encs jFe b) = some r :=
  jaf PP Tryz.func14 (show Tryz.f14.body = some (jae Tryz.f14) from rfl) (show (1 : Nat) ≤ 23 by decide) (show LOk PP jzr _ 2 n _ (jPx n) _ from ⟨tT, tT, tT⟩) ((m_z2j n a b).trans h) rfl (by kernel_rfl)
noncomputable def c_z2j : Spec := jaG jHp jFe jCN jDu fun a b => jMn b.1.1 b.1.2.1 b.1.2.2.1 b.1.2.2.2.1 b.2.1
theorem k_z2j (hm : Tryz.prog.follows .mixedOrders = true) : jar PP 14 c_z2j := jaj (pol := p_z2j) hm (cf := jzr) (jav jah) fun a b r h => ⟨FUEL, g_z2j FUEL a b (jad h)⟩
def jdj : Sig := ⟨[0, 3, 6], [.ptr 0 0 0, .ptr 2 0 0, .ty (.int .i64)], [.one false [.ty .str, .ty .str, .ty (.int .i64), .hs 1 0], .row jaq, .cell jaT]⟩
def juS : Sig := ⟨[4, 5], [.ty (.int .i64), .ty .bool], [.one false [.ty .str, .ty .str, .ty (.int .i64), .hs 1 0], .row jaq]⟩
def jpd : Sig := ⟨[], [], [.one false [.ty .str, .ty .str, .ty (.int .i64), .hs 1 0], .row jaq]⟩
def jnn : Pol := ⟨fun i => if i = 0 then some [(0, .keep), (3, (.own jaT)), (6, .keep)] else none, fun i => if i = 0 then some [] else none, some [(4, .keep), (5, .keep)], [.keep, .keep], []⟩
def jHo : List EK := [.ptr 0 0 0, .agg jaT]
def jFd : List HK := [.one false [.ty .str, .ty .str, .ty (.int .i64), .hs 1 0], .row jaq]
noncomputable def jmz : CallF := mkCF [] []
noncomputable def jtB (n : Nat) : jaF := fun i => if i = 0 then some (jaz 2 (jnn.head 0) jdj fun K v => jjF n (fun z0 z1 => K .rt (juS.enc ((z0, (z1, ())), ((v.2.1.1, (v.2.1.2.1, (v.2.1.2.2.1, (v.2.1.2.2.2.1, ())))), (v.2.2.1, ()))))) (fun _ => K (.ex 0) (jpd.enc ((), ((v.2.1.1, (v.2.1.2.1, (v.2.1.2.2.1, (v.2.1.2.2.2.1, ())))), (v.2.2.1, ()))))) v.2.1.2.2.2.1 v.2.2.1 v.2.2.2.1 n v.1.2.2.1)
  else  none
noncomputable def jvR : Code := jaR (jae Tryz.f62) [1, 0, 1, 0, 0, 1, 0, 0]
noncomputable def jht (n : Nat) (K : Cont) (rec : Sig.sem jdj → Option Res) (v : Sig.sem jdj) : Option Res := jrB n (fun z0 z1 => K .rt (juS.enc ((z0, (z1, ())), ((v.2.1.1, (v.2.1.2.1, (v.2.1.2.2.1, (v.2.1.2.2.2.1, ())))), (v.2.2.1, ()))))) (fun _ => K (.ex 0) (jpd.enc ((), ((v.2.1.1, (v.2.1.2.1, (v.2.1.2.2.1, (v.2.1.2.2.2.1, ())))), (v.2.2.1, ()))))) v.2.1.2.2.2.1 v.2.2.1 v.2.2.2.1 (fun z0 => rec (((), ((), (z0, ()))), ((v.2.1.1, (v.2.1.2.1, (v.2.1.2.2.1, (v.2.1.2.2.2.1, ())))), (v.2.2.1, (v.2.2.2.1, ()))))) v.1.2.2.1
theorem t_z2k_0 (n : Nat) (K : Cont) (rec : Sig.sem jdj → Option Res) (v : Sig.sem jdj) : runT PP jmz Tryz.f62.ntmps 2 jnn (jtB n) jvR (jdj.enc v) (jbp 2 (jnn.head 0) jdj rec K) = jht n K rec v := by kernel_rfl
noncomputable def jqr (n : Nat) (K : Cont) (m : Nat) (v : Sig.sem jdj) : Option Res := jjF n (fun z0 z1 => K .rt (juS.enc ((z0, (z1, ())), ((v.2.1.1, (v.2.1.2.1, (v.2.1.2.2.1, (v.2.1.2.2.2.1, ())))), (v.2.2.1, ()))))) (fun _ => K (.ex 0) (jpd.enc ((), ((v.2.1.1, (v.2.1.2.1, (v.2.1.2.2.1, (v.2.1.2.2.2.1, ())))), (v.2.2.1, ()))))) v.2.1.2.2.2.1 v.2.2.1 v.2.2.2.1 m v.1.2.2.1
theorem i_z2k_0 (n : Nat) (K : Cont) : ∀ m v, iter (jht n K) m v = jqr n K m v := by
  intro m
  induction m with
  | zero => intro v; rfl
  | succ m ih =>
    intro v
    show jht n K (iter (jht n K) m) v = jht n K (jqr n K m) v
    rw [show iter (jht n K) m = jqr n K m from funext ih]
theorem o_z2k_0 (n : Nat) : ∀ L, jtB n 0 = some L → ∀ s K r, L s K = some r → ∃ x s', jbj (run PP jmz Tryz.f62.ntmps 2 n jnn none jvR) (gc 2 (jnn.head 0)) n s = some (x, s') ∧ K x s' = some r := by
  intro L hL s K r h
  have hL : some (jaz 2 (jnn.head 0) jdj fun K v => jqr n K n v) = some L := hL
  cases hL
  have hb : LOk PP jmz Tryz.f62.ntmps 2 n jnn (jtB n) jvR := ⟨⟨tT, tT, tT⟩, ⟨tT, ⟨tT, tT⟩, tT⟩, tT⟩
  refine jaE hb (jht n) (t_z2k_0 n) n s K r ?_
  rw [← h]
  unfold jaz
  simp only [i_z2k_0]
theorem m_z2k (n : Nat) (a : EK.sems jHo) (b : HK.sems jFd) : jaH PP jmz jnn (jtB n) Tryz.f62 (jae Tryz.f62) (EK.encs jHo a) (HK.encs jFd b) = jNH n a.2.1 b.1.1 b.1.2.1 b.1.2.2.1 b.1.2.2.2.1 b.2.1 := by kernel_rfl
theorem g_z2k (n : Nat) (a : EK.sems jHo) (b : HK.sems jFd) {r : Res} (h : jNH n a.2.1 b.1.1 b.1.2.1 b.1.2.2.1 b.1.2.2.2.1 b.2.1 = some r) : runF PP jmz n jnn 62 (EK.encs jHo a) (HK.encs jFd b) = some r :=
  jaf PP Tryz.func62 (show Tryz.f62.body = some (jae Tryz.f62) from rfl) (show (2 : Nat) ≤ 46 by decide) (show LOk PP jmz _ 2 n _ (jtB n) _ from ⟨tT, ⟨tT, ⟨⟨tT, (o_z2k_0 n)⟩, tT, tT⟩, tT⟩, tT, tT⟩) ((m_z2k n a b).trans h) rfl (by kernel_rfl)
noncomputable def jJj : Spec := jaG jHo jFd jnW jod fun a b => jMm a.2.1 b.1.1 b.1.2.1 b.1.2.2.1 b.1.2.2.2.1 b.2.1
theorem jLu (hm : Tryz.prog.follows .mixedOrders = true) : jar PP 62 jJj := jaj (pol := jnn) hm (cf := jmz) (jav jah) fun a b r h => ⟨FUEL, g_z2k FUEL a b (jad h)⟩
def s_z2l_r : Sig := ⟨[4], [.ty .str], [.one false [.ty .str, .ty .str, .ty (.int .i64), .hs 1 0], .row jaq]⟩
def p_z2l : Pol := ⟨fun i => none, fun i => none, some [(4, .keep)], [.keep], []⟩
def jHn : List EK := [.ptr 0 0 0, .agg jaT]
def jFc : List HK := [.one false [.ty .str, .ty .str, .ty (.int .i64), .hs 1 0], .row jaq]
noncomputable def jzq : CallF := mkCF [] []
noncomputable def jPw (n : Nat) : jaF := fun i =>  none
theorem m_z2l (n : Nat) (a : EK.sems jHn) (b : HK.sems jFc) : jaH PP jzq p_z2l (jPw n) Tryz.f64 (jae Tryz.f64) (EK.encs jHn a) (HK.encs jFc b) = jNG n a.2.1 b.1.1 b.1.2.1 b.1.2.2.1 b.1.2.2.2.1 b.2.1 := by kernel_rfl
theorem g_z2l (n : Nat) (a : EK.sems jHn) (b : HK.sems jFc) {r : Res} (h : jNG n a.2.1 b.1.1 b.1.2.1 b.1.2.2.1 b.1.2.2.2.1 b.2.1 = some r) : runF PP jzq n p_z2l 64 (EK.encs jHn a) (HK.encs jFc b) = some r :=
  jaf PP Tryz.func64 (show Tryz.f64.body = some (jae Tryz.f64) from rfl) (show (2 : Nat) ≤ 16 by decide) (show LOk PP jzq _ 2 n _ (jPw n) _ from ⟨tT, ⟨tT, ⟨tT, tT⟩, tT⟩, tT, tT⟩) ((m_z2l n a b).trans h) rfl (by kernel_rfl)
noncomputable def jJi : Spec := jaG jHn jFc jxo jxR fun a b => jMl a.2.1 b.1.1 b.1.2.1 b.1.2.2.1 b.1.2.2.2.1 b.2.1
theorem jLt (hm : Tryz.prog.follows .mixedOrders = true) : jar PP 64 jJi := jaj (pol := p_z2l) hm (cf := jzq) (jav jah) fun a b r h => ⟨FUEL, g_z2l FUEL a b (jad h)⟩
def s_z2m_r : Sig := ⟨[4], [.ty (.int .i64)], [.one false [.ty .str, .ty .str, .ty (.int .i64), .hs 1 0], .row jaq]⟩
def p_z2m : Pol := ⟨fun i => none, fun i => none, some [(4, .keep)], [.keep], []⟩
def jHm : List EK := [.ptr 0 0 0, .agg jaT]
def jFb : List HK := [.one false [.ty .str, .ty .str, .ty (.int .i64), .hs 1 0], .row jaq]
noncomputable def jzp : CallF := mkCF [(62, jJj), (64, jJi), (88, jJk)] [(88, [.str, (.int .i64), (.int .i64)])]
noncomputable def jPv (n : Nat) : jaF := fun i =>  none
theorem m_z2m (n : Nat) (a : EK.sems jHm) (b : HK.sems jFb) : jaH PP jzp p_z2m (jPv n) Tryz.f61 (jae Tryz.f61) (EK.encs jHm a) (HK.encs jFb b) = jCl n a.2.1 b.1.1 b.1.2.1 b.1.2.2.1 b.1.2.2.2.1 b.2.1 := by kernel_rfl
theorem g_z2m (n : Nat) (a : EK.sems jHm) (b : HK.sems jFb) {r : Res} (h : jCl n a.2.1 b.1.1 b.1.2.1 b.1.2.2.1 b.1.2.2.2.1 b.2.1 = some r) : runF PP jzp n p_z2m 61 (EK.encs jHm a) (HK.encs jFb b) = some r :=
  jaf PP Tryz.func61 (show Tryz.f61.body = some (jae Tryz.f61) from rfl) (show (2 : Nat) ≤ 37 by decide) (show LOk PP jzp _ 2 n _ (jPv n) _ from ⟨tT, tT, ⟨tT, ⟨tT, tT⟩, tT⟩, ⟨tT, ⟨tT, tT⟩, tT⟩, tT, tT⟩) ((m_z2m n a b).trans h) rfl (by kernel_rfl)
noncomputable def c_z2m : Spec := jaG jHm jFb jlp jlD fun a b => jJB a.2.1 b.1.1 b.1.2.1 b.1.2.2.1 b.1.2.2.2.1 b.2.1
theorem k_z2m (hm : Tryz.prog.follows .mixedOrders = true) : jar PP 61 c_z2m := jaj (pol := p_z2m) hm (cf := jzp) (jav (jab (jLu hm) (jab (jLt hm) (jab (jLv hm) jah)))) fun a b r h => ⟨FUEL, g_z2m FUEL a b (jad h)⟩
def s_z2n_r : Sig := ⟨[4, 5], [.ptr 2 0 0, .ty (.int .i64)], [.one false [.ty .str, .ty .str, .ty (.int .i64), .hs 1 0], .row jaq, .cell jaL]⟩
def p_z2n : Pol := ⟨fun i => none, fun i => none, some [(4, (.own jaL)), (5, .keep)], [.keep, .keep], []⟩
def jHl : List EK := [.ptr 0 0 0, .agg jaT]
def jFa : List HK := [.one false [.ty .str, .ty .str, .ty (.int .i64), .hs 1 0], .row jaq]
noncomputable def jzo : CallF := mkCF [(61, c_z2m), (62, jJj), (64, jJi), (63, c_z24)] [(63, [.str, (.int .i64), (.int .i64)])]
noncomputable def jPu (n : Nat) : jaF := fun i =>  none
theorem m_z2n (n : Nat) (a : EK.sems jHl) (b : HK.sems jFa) : jaH PP jzo p_z2n (jPu n) Tryz.f38 (jae Tryz.f38) (EK.encs jHl a) (HK.encs jFa b) = jNF n a.2.1 b.1.1 b.1.2.1 b.1.2.2.1 b.1.2.2.2.1 b.2.1 := by kernel_rfl
theorem g_z2n (n : Nat) (a : EK.sems jHl) (b : HK.sems jFa) {r : Res} (h : jNF n a.2.1 b.1.1 b.1.2.1 b.1.2.2.1 b.1.2.2.2.1 b.2.1 = some r) : runF PP jzo n p_z2n 38 (EK.encs jHl a) (HK.encs jFa b) = some r :=
  jaf PP Tryz.func38 (show Tryz.f38.body = some (jae Tryz.f38) from rfl) (show (2 : Nat) ≤ 39 by decide) (show LOk PP jzo _ 2 n _ (jPu n) _ from ⟨tT, tT, ⟨tT, ⟨tT, tT⟩, tT⟩, tT, tT, tT, tT⟩) ((m_z2n n a b).trans h) rfl (by kernel_rfl)
noncomputable def c_z2n : Spec := jaG jHl jFa jxn jlC fun a b => jMk a.2.1 b.1.1 b.1.2.1 b.1.2.2.1 b.1.2.2.2.1 b.2.1
theorem k_z2n (hm : Tryz.prog.follows .mixedOrders = true) : jar PP 38 c_z2n := jaj (pol := p_z2n) hm (cf := jzo) (jav (jab (k_z2m hm) (jab (jLu hm) (jab (jLt hm) (jab (k_z24 hm) jah))))) fun a b r h => ⟨FUEL, g_z2n FUEL a b (jad h)⟩
def s_z2o_r : Sig := ⟨[4, 5], [.ty (.int .i64), .ty (.int .i64)], [.one false [.ty .str, .ty .str, .ty (.int .i64), .hs 1 0], .row jaq]⟩
def p_z2o : Pol := ⟨fun i => none, fun i => none, some [(4, .keep), (5, .keep)], [.keep, .keep], []⟩
def jHk : List EK := [.ptr 0 0 0, .agg jaT]
def jEZ : List HK := [.one false [.ty .str, .ty .str, .ty (.int .i64), .hs 1 0], .row jaq]
noncomputable def jzn : CallF := mkCF [(62, jJj), (64, jJi)] []
noncomputable def jPt (n : Nat) : jaF := fun i =>  none
theorem m_z2o (n : Nat) (a : EK.sems jHk) (b : HK.sems jEZ) : jaH PP jzn p_z2o (jPt n) Tryz.f40 (jae Tryz.f40) (EK.encs jHk a) (HK.encs jEZ b) = jKm n a.2.1 b.1.1 b.1.2.1 b.1.2.2.1 b.1.2.2.2.1 b.2.1 := by kernel_rfl
theorem g_z2o (n : Nat) (a : EK.sems jHk) (b : HK.sems jEZ) {r : Res} (h : jKm n a.2.1 b.1.1 b.1.2.1 b.1.2.2.1 b.1.2.2.2.1 b.2.1 = some r) : runF PP jzn n p_z2o 40 (EK.encs jHk a) (HK.encs jEZ b) = some r :=
  jaf PP Tryz.func40 (show Tryz.f40.body = some (jae Tryz.f40) from rfl) (show (2 : Nat) ≤ 36 by decide) (show LOk PP jzn _ 2 n _ (jPt n) _ from ⟨tT, tT, ⟨tT, ⟨tT, tT⟩, tT⟩, ⟨tT, ⟨tT, tT⟩, tT⟩, tT, tT⟩) ((m_z2o n a b).trans h) rfl (by kernel_rfl)
noncomputable def c_z2o : Spec := jaG jHk jEZ jlo jlB fun a b => jMj a.2.1 b.1.1 b.1.2.1 b.1.2.2.1 b.1.2.2.2.1 b.2.1
theorem k_z2o (hm : Tryz.prog.follows .mixedOrders = true) : jar PP 40 c_z2o := jaj (pol := p_z2o) hm (cf := jzn) (jav (jab (jLu hm) (jab (jLt hm) jah))) fun a b r h => ⟨FUEL, g_z2o FUEL a b (jad h)⟩
def jdi : Sig := ⟨[1, 5, 6], [.ty (.int .i64), .ty (.int .u64), .ty (.int .i64)], []⟩
def jpc : Sig := ⟨[5], [.ty (.int .u64)], []⟩
def s_z2p_r : Sig := ⟨[4], [.ty (.int .u64)], []⟩
def jnm : Pol := ⟨fun i => if i = 0 then some [(1, .keep), (5, .keep), (6, .keep)] else none, fun i => if i = 0 then some [(5, .keep)] else none, some [(4, .keep)], [.keep], []⟩
def jHj : List EK := [.agg jaL, .ty (.int .i64)]
def jEY : List HK := []
noncomputable def jmy : CallF := mkCF [] []
noncomputable def jtA (n : Nat) : jaF := fun i => if i = 0 then some (jaz 0 (jnm.head 0) jdi fun K v => jif n (fun z0 => K (.ex 0) (jpc.enc ((z0, ()), ()))) v.1.1 n v.1.2.1 v.1.2.2.1)
  else  none
noncomputable def jvQ : Code := jaR (jae Tryz.f103) [1, 1, 1, 0, 1, 0, 0]
noncomputable def jhs (n : Nat) (K : Cont) (rec : Sig.sem jdi → Option Res) (v : Sig.sem jdi) : Option Res := jrA n (fun z0 => K (.ex 0) (jpc.enc ((z0, ()), ()))) v.1.1 (fun z1 z2 => rec ((v.1.1, (z1, (z2, ()))), ())) v.1.2.1 v.1.2.2.1
theorem t_z2p_0 (n : Nat) (K : Cont) (rec : Sig.sem jdi → Option Res) (v : Sig.sem jdi) : runT PP jmy Tryz.f103.ntmps 0 jnm (jtA n) jvQ (jdi.enc v) (jbp 0 (jnm.head 0) jdi rec K) = jhs n K rec v := by kernel_rfl
noncomputable def jqq (n : Nat) (K : Cont) (m : Nat) (v : Sig.sem jdi) : Option Res := jif n (fun z0 => K (.ex 0) (jpc.enc ((z0, ()), ()))) v.1.1 m v.1.2.1 v.1.2.2.1
theorem i_z2p_0 (n : Nat) (K : Cont) : ∀ m v, iter (jhs n K) m v = jqq n K m v := by
  intro m
  induction m with
  | zero => intro v; rfl
  | succ m ih =>
    intro v
    show jhs n K (iter (jhs n K) m) v = jhs n K (jqq n K m) v
    rw [show iter (jhs n K) m = jqq n K m from funext ih]
theorem o_z2p_0 (n : Nat) : ∀ L, jtA n 0 = some L → ∀ s K r, L s K = some r → ∃ x s', jbj (run PP jmy Tryz.f103.ntmps 0 n jnm none jvQ) (gc 0 (jnm.head 0)) n s = some (x, s') ∧ K x s' = some r := by
  intro L hL s K r h
  have hL : some (jaz 0 (jnm.head 0) jdi fun K v => jqq n K n v) = some L := hL
  cases hL
  have hb : LOk PP jmy Tryz.f103.ntmps 0 n jnm (jtA n) jvQ := ⟨⟨tT, tT, tT⟩, tT, tT⟩
  refine jaE hb (jhs n) (t_z2p_0 n) n s K r ?_
  rw [← h]
  unfold jaz
  simp only [i_z2p_0]
theorem m_z2p (n : Nat) (a : EK.sems jHj) (b : HK.sems jEY) : jaH PP jmy jnm (jtA n) Tryz.f103 (jae Tryz.f103) (EK.encs jHj a) (HK.encs jEY b) = jNE n a.1 a.2.1 := by kernel_rfl
theorem g_z2p (n : Nat) (a : EK.sems jHj) (b : HK.sems jEY) {r : Res} (h : jNE n a.1 a.2.1 = some r) : runF PP jmy n jnm 103 (EK.encs jHj a) (HK.encs jEY b) = some r :=
  jaf PP Tryz.func103 (show Tryz.f103.body = some (jae Tryz.f103) from rfl) (show (2 : Nat) ≤ 24 by decide) (show LOk PP jmy _ 0 n _ (jtA n) _ from ⟨tT, tT, ⟨tT, ⟨tT, tT⟩, tT⟩, ⟨tT, (o_z2p_0 n)⟩, tT, tT⟩) ((m_z2p n a b).trans h) rfl (by kernel_rfl)
noncomputable def c_z2p : Spec := jaG jHj jEY jxm jxQ fun a b => jMi a.1 a.2.1
theorem k_z2p (hm : Tryz.prog.follows .mixedOrders = true) : jar PP 103 c_z2p := jaj (pol := jnm) hm (cf := jmy) (jav jah) fun a b r h => ⟨FUEL, g_z2p FUEL a b (jad h)⟩
def s_z2q_r : Sig := ⟨[8, 9], [.ty .str, .ty (.int .i64)], []⟩
def jdh : Sig := ⟨[0, 1, 2, 7, 11, 12], [.ty .str, .ty (.int .i64), .ty (.int .i64), .ptr 0 0 0, .ty .str, .ty (.int .i64)], [.cell jaL]⟩
def jdg : Sig := ⟨[0, 1, 2, 7, 11, 12, 13, 14], [.ty .str, .ty (.int .i64), .ty (.int .i64), .ptr 0 0 0, .ty .str, .ty (.int .i64), .ty (.int .u64), .ty (.int .i64)], [.cell jaL]⟩
def jpa : Sig := ⟨[0, 1, 2, 7, 11, 12, 13], [.ty .str, .ty (.int .i64), .ty (.int .i64), .ptr 0 0 0, .ty .str, .ty (.int .i64), .ty (.int .u64)], [.cell jaL]⟩
def jpb : Sig := ⟨[11], [.ty .str], []⟩
def jfG : Pol := ⟨fun i => if i = 0 then some [(0, .keep), (1, .keep), (2, .keep), (7, (.own jaL)), (11, .keep), (12, .keep)] else if i = 2 then some [(0, .keep), (1, .keep), (2, .keep), (7, (.own jaL)), (11, .keep), (12, .keep), (13, .keep), (14, .keep)] else none, fun i => if i = 2 then some [(0, .keep), (1, .keep), (2, .keep), (7, (.own jaL)), (11, .keep), (12, .keep), (13, .keep)] else if i = 0 then some [(11, .keep)] else none, some [(8, .keep), (9, .keep)], [.keep, .keep], []⟩
def jHi : List EK := [.ty .str, .ty (.int .i64), .ty (.int .i64), .agg jaL]
def jEX : List HK := []
noncomputable def jgH : CallF := mkCF [(88, jJk), (103, c_z2p), (90, c_z22)] [(88, [.str, (.int .i64), (.int .i64)]), (103, [jaL, (.int .i64)]), (90, [.str, (.int .i64)])]
noncomputable def jkC (n : Nat) : jaF := fun i => if i = 2 then some (jaz 0 (jfG.head 2) jdg fun K v => jjD n (fun z5 => K (.ex 2) (jpa.enc ((v.1.1, (v.1.2.1, (v.1.2.2.1, ((), (v.1.2.2.2.2.1, (v.1.2.2.2.2.2.1, (z5, ()))))))), (v.2.1, ())))) v.1.1 v.1.2.1 v.1.2.2.1 v.1.2.2.2.2.1 v.1.2.2.2.2.2.1 v.2.1 n v.1.2.2.2.2.2.2.1 v.1.2.2.2.2.2.2.2.1)
  else if i = 0 then some (jaz 0 (jfG.head 0) jdh fun K v => jjE n (fun z0 => K (.ex 0) (jpb.enc ((z0, ()), ()))) v.1.1 v.1.2.1 v.1.2.2.1 v.2.1 n v.1.2.2.2.2.1 v.1.2.2.2.2.2.1)
  else  none
noncomputable def jvO : Code := jaR (jae Tryz.f91) [1, 1, 1, 1, 0, 1, 0, 0, 1, 0, 0, 1, 0, 1, 0, 0]
noncomputable def jhq (n : Nat) (K : Cont) (rec : Sig.sem jdg → Option Res) (v : Sig.sem jdg) : Option Res := jry n (fun z5 => K (.ex 2) (jpa.enc ((v.1.1, (v.1.2.1, (v.1.2.2.1, ((), (v.1.2.2.2.2.1, (v.1.2.2.2.2.2.1, (z5, ()))))))), (v.2.1, ())))) v.1.1 v.1.2.1 v.1.2.2.1 v.1.2.2.2.2.1 v.1.2.2.2.2.2.1 v.2.1 (fun z5 z6 => rec ((v.1.1, (v.1.2.1, (v.1.2.2.1, ((), (v.1.2.2.2.2.1, (v.1.2.2.2.2.2.1, (z5, (z6, ())))))))), (v.2.1, ()))) v.1.2.2.2.2.2.2.1 v.1.2.2.2.2.2.2.2.1
theorem t_z2q_2 (n : Nat) (K : Cont) (rec : Sig.sem jdg → Option Res) (v : Sig.sem jdg) : runT PP jgH Tryz.f91.ntmps 0 jfG (jkC n) jvO (jdg.enc v) (jbp 0 (jfG.head 2) jdg rec K) = jhq n K rec v := by kernel_rfl
noncomputable def jqo (n : Nat) (K : Cont) (m : Nat) (v : Sig.sem jdg) : Option Res := jjD n (fun z5 => K (.ex 2) (jpa.enc ((v.1.1, (v.1.2.1, (v.1.2.2.1, ((), (v.1.2.2.2.2.1, (v.1.2.2.2.2.2.1, (z5, ()))))))), (v.2.1, ())))) v.1.1 v.1.2.1 v.1.2.2.1 v.1.2.2.2.2.1 v.1.2.2.2.2.2.1 v.2.1 m v.1.2.2.2.2.2.2.1 v.1.2.2.2.2.2.2.2.1
theorem i_z2q_2 (n : Nat) (K : Cont) : ∀ m v, iter (jhq n K) m v = jqo n K m v := by
  intro m
  induction m with
  | zero => intro v; rfl
  | succ m ih =>
    intro v
    show jhq n K (iter (jhq n K) m) v = jhq n K (jqo n K m) v
    rw [show iter (jhq n K) m = jqo n K m from funext ih]
theorem o_z2q_2 (n : Nat) : ∀ L, jkC n 2 = some L → ∀ s K r, L s K = some r → ∃ x s', jbj (run PP jgH Tryz.f91.ntmps 0 n jfG none jvO) (gc 0 (jfG.head 2)) n s = some (x, s') ∧ K x s' = some r := by
  intro L hL s K r h
  have hL : some (jaz 0 (jfG.head 2) jdg fun K v => jqo n K n v) = some L := hL
  cases hL
  have hb : LOk PP jgH Tryz.f91.ntmps 0 n jfG (jkC n) jvO := ⟨⟨tT, tT, tT⟩, ⟨tT, tT, tT⟩, tT⟩
  refine jaE hb (jhq n) (t_z2q_2 n) n s K r ?_
  rw [← h]
  unfold jaz
  simp only [i_z2q_2]
noncomputable def jvP : Code := jaR (jae Tryz.f91) [1, 1, 1, 1, 0, 1, 0, 0]
noncomputable def jhr (n : Nat) (K : Cont) (rec : Sig.sem jdh → Option Res) (v : Sig.sem jdh) : Option Res := jrz n (fun z0 => K (.ex 0) (jpb.enc ((z0, ()), ()))) v.1.1 v.1.2.1 v.1.2.2.1 v.2.1 (fun z3 z4 => rec ((v.1.1, (v.1.2.1, (v.1.2.2.1, ((), (z3, (z4, ())))))), (v.2.1, ()))) v.1.2.2.2.2.1 v.1.2.2.2.2.2.1
theorem t_z2q_0 (n : Nat) (K : Cont) (rec : Sig.sem jdh → Option Res) (v : Sig.sem jdh) : runT PP jgH Tryz.f91.ntmps 0 jfG (jkC n) jvP (jdh.enc v) (jbp 0 (jfG.head 0) jdh rec K) = jhr n K rec v := by kernel_rfl
noncomputable def jqp (n : Nat) (K : Cont) (m : Nat) (v : Sig.sem jdh) : Option Res := jjE n (fun z0 => K (.ex 0) (jpb.enc ((z0, ()), ()))) v.1.1 v.1.2.1 v.1.2.2.1 v.2.1 m v.1.2.2.2.2.1 v.1.2.2.2.2.2.1
theorem i_z2q_0 (n : Nat) (K : Cont) : ∀ m v, iter (jhr n K) m v = jqp n K m v := by
  intro m
  induction m with
  | zero => intro v; rfl
  | succ m ih =>
    intro v
    show jhr n K (iter (jhr n K) m) v = jhr n K (jqp n K m) v
    rw [show iter (jhr n K) m = jqp n K m from funext ih]
theorem o_z2q_0 (n : Nat) : ∀ L, jkC n 0 = some L → ∀ s K r, L s K = some r → ∃ x s', jbj (run PP jgH Tryz.f91.ntmps 0 n jfG none jvP) (gc 0 (jfG.head 0)) n s = some (x, s') ∧ K x s' = some r := by
  intro L hL s K r h
  have hL : some (jaz 0 (jfG.head 0) jdh fun K v => jqp n K n v) = some L := hL
  cases hL
  have hb : LOk PP jgH Tryz.f91.ntmps 0 n jfG (jkC n) jvP := ⟨⟨tT, tT, tT⟩, ⟨tT, ⟨tT, (o_z2q_2 n)⟩, tT⟩, tT⟩
  refine jaE hb (jhr n) (t_z2q_0 n) n s K r ?_
  rw [← h]
  unfold jaz
  simp only [i_z2q_0]
theorem m_z2q (n : Nat) (a : EK.sems jHi) (b : HK.sems jEX) : jaH PP jgH jfG (jkC n) Tryz.f91 (jae Tryz.f91) (EK.encs jHi a) (HK.encs jEX b) = jND n a.1 a.2.1 a.2.2.1 a.2.2.2.1 := by kernel_rfl
theorem g_z2q (n : Nat) (a : EK.sems jHi) (b : HK.sems jEX) {r : Res} (h : jND n a.1 a.2.1 a.2.2.1 a.2.2.2.1 = some r) : runF PP jgH n jfG 91 (EK.encs jHi a) (HK.encs jEX b) = some r :=
  jaf PP Tryz.func91 (show Tryz.f91.body = some (jae Tryz.f91) from rfl) (show (4 : Nat) ≤ 71 by decide) (show LOk PP jgH _ 0 n _ (jkC n) _ from ⟨tT, tT, ⟨tT, ⟨tT, tT⟩, tT⟩, tT, ⟨tT, (o_z2q_0 n)⟩, tT, tT⟩) ((m_z2q n a b).trans h) rfl (by kernel_rfl)
noncomputable def c_z2q : Spec := jaG jHi jEX jxl jxP fun a b => jMh a.1 a.2.1 a.2.2.1 a.2.2.2.1
theorem k_z2q (hm : Tryz.prog.follows .mixedOrders = true) : jar PP 91 c_z2q := jaj (pol := jfG) hm (cf := jgH) (jav (jab (jLv hm) (jab (k_z2p hm) (jab (k_z22 hm) jah)))) fun a b r h => ⟨FUEL, g_z2q FUEL a b (jad h)⟩
def s_z2r_r : Sig := ⟨[8], [.ty (.int .i64)], [.one true [.ty .str]]⟩
def p_z2r : Pol := ⟨fun i => none, fun i => none, some [(8, .keep)], [.keep], []⟩
def jHh : List EK := [.ptr 0 0 0, .ty (.int .i64), .ty (.int .i64), .agg jaL]
def jEW : List HK := [.one true [.ty .str]]
noncomputable def jzm : CallF := mkCF [(88, jJk), (91, c_z2q)] [(88, [.str, (.int .i64), (.int .i64)]), (91, [.str, (.int .i64), (.int .i64), jaL])]
noncomputable def jPs (n : Nat) : jaF := fun i =>  none
theorem m_z2r (n : Nat) (a : EK.sems jHh) (b : HK.sems jEW) : jaH PP jzm p_z2r (jPs n) Tryz.f66 (jae Tryz.f66) (EK.encs jHh a) (HK.encs jEW b) = jNC n a.2.1 a.2.2.1 a.2.2.2.1 b.1.1 := by kernel_rfl
theorem g_z2r (n : Nat) (a : EK.sems jHh) (b : HK.sems jEW) {r : Res} (h : jNC n a.2.1 a.2.2.1 a.2.2.2.1 b.1.1 = some r) : runF PP jzm n p_z2r 66 (EK.encs jHh a) (HK.encs jEW b) = some r :=
  jaf PP Tryz.func66 (show Tryz.f66.body = some (jae Tryz.f66) from rfl) (show (4 : Nat) ≤ 66 by decide) (show LOk PP jzm _ 1 n _ (jPs n) _ from ⟨tT, tT, ⟨tT, ⟨tT, tT⟩, tT⟩, tT, tT, tT, tT, tT, tT⟩) ((m_z2r n a b).trans h) rfl (by kernel_rfl)
noncomputable def c_z2r : Spec := jaG jHh jEW jsw jsM fun a b => jMg a.2.1 a.2.2.1 a.2.2.2.1 b.1.1
theorem k_z2r (hm : Tryz.prog.follows .mixedOrders = true) : jar PP 66 c_z2r := jaj (pol := p_z2r) hm (cf := jzm) (jav (jab (jLv hm) (jab (k_z2q hm) jah))) fun a b r h => ⟨FUEL, g_z2r FUEL a b (jad h)⟩
def s_z2s_r : Sig := ⟨[6], [.ty (.int .i64)], [.one false [.ty .str, .ty .str, .ty (.int .i64), .hs 1 0], .row jaq]⟩
def p_z2s : Pol := ⟨fun i => none, fun i => none, some [(6, .keep)], [.keep], []⟩
def jHg : List EK := [.ptr 0 0 0, .agg jaT, .agg jaL]
def jEV : List HK := [.one false [.ty .str, .ty .str, .ty (.int .i64), .hs 1 0], .row jaq]
noncomputable def jzl : CallF := mkCF [(61, c_z2m), (62, jJj), (64, jJi), (66, c_z2r)] []
noncomputable def jPr (n : Nat) : jaF := fun i =>  none
theorem m_z2s (n : Nat) (a : EK.sems jHg) (b : HK.sems jEV) : jaH PP jzl p_z2s (jPr n) Tryz.f41 (jae Tryz.f41) (EK.encs jHg a) (HK.encs jEV b) = jNB n a.2.1 a.2.2.1 b.1.1 b.1.2.1 b.1.2.2.1 b.1.2.2.2.1 b.2.1 := by kernel_rfl
theorem g_z2s (n : Nat) (a : EK.sems jHg) (b : HK.sems jEV) {r : Res} (h : jNB n a.2.1 a.2.2.1 b.1.1 b.1.2.1 b.1.2.2.1 b.1.2.2.2.1 b.2.1 = some r) : runF PP jzl n p_z2s 41 (EK.encs jHg a) (HK.encs jEV b) = some r :=
  jaf PP Tryz.func41 (show Tryz.f41.body = some (jae Tryz.f41) from rfl) (show (3 : Nat) ≤ 55 by decide) (show LOk PP jzl _ 2 n _ (jPr n) _ from ⟨tT, tT, ⟨tT, ⟨tT, tT⟩, tT⟩, tT, tT, tT, ⟨tT, tT, tT⟩, tT, tT⟩) ((m_z2s n a b).trans h) rfl (by kernel_rfl)
noncomputable def c_z2s : Spec := jaG jHg jEV jsv jsL fun a b => jMf a.2.1 a.2.2.1 b.1.1 b.1.2.1 b.1.2.2.1 b.1.2.2.2.1 b.2.1
theorem k_z2s (hm : Tryz.prog.follows .mixedOrders = true) : jar PP 41 c_z2s := jaj (pol := p_z2s) hm (cf := jzl) (jav (jab (k_z2m hm) (jab (jLu hm) (jab (jLt hm) (jab (k_z2r hm) jah))))) fun a b r h => ⟨FUEL, g_z2s FUEL a b (jad h)⟩
def s_z2t_r : Sig := ⟨[4, 5], [.ty (.int .i64), .ty (.int .i64)], [.one false [.ty .str, .ty .str, .ty (.int .i64), .hs 1 0], .row jaq]⟩
def p_z2t : Pol := ⟨fun i => none, fun i => none, some [(4, .keep), (5, .keep)], [.keep, .keep], []⟩
def jHf : List EK := [.ptr 0 0 0, .agg jaT]
def jEU : List HK := [.one false [.ty .str, .ty .str, .ty (.int .i64), .hs 1 0], .row jaq]
noncomputable def jzk : CallF := mkCF [(40, c_z2o)] []
noncomputable def jPq (n : Nat) : jaF := fun i =>  none
theorem m_z2t (n : Nat) (a : EK.sems jHf) (b : HK.sems jEU) : jaH PP jzk p_z2t (jPq n) Tryz.f67 (jae Tryz.f67) (EK.encs jHf a) (HK.encs jEU b) = jNA n a.2.1 b.1.1 b.1.2.1 b.1.2.2.1 b.1.2.2.2.1 b.2.1 := by kernel_rfl
theorem g_z2t (n : Nat) (a : EK.sems jHf) (b : HK.sems jEU) {r : Res} (h : jNA n a.2.1 b.1.1 b.1.2.1 b.1.2.2.1 b.1.2.2.2.1 b.2.1 = some r) : runF PP jzk n p_z2t 67 (EK.encs jHf a) (HK.encs jEU b) = some r :=
  jaf PP Tryz.func67 (show Tryz.f67.body = some (jae Tryz.f67) from rfl) (show (2 : Nat) ≤ 14 by decide) (show LOk PP jzk _ 2 n _ (jPq n) _ from ⟨tT, ⟨tT, ⟨tT, tT⟩, tT⟩, tT, tT⟩) ((m_z2t n a b).trans h) rfl (by kernel_rfl)
noncomputable def jLH : Spec := jaG jHf jEU jxk jxO fun a b => jMe a.2.1 b.1.1 b.1.2.1 b.1.2.2.1 b.1.2.2.2.1 b.2.1
theorem k_z2t (hm : Tryz.prog.follows .mixedOrders = true) : jar PP 67 jLH := jaj (pol := p_z2t) hm (cf := jzk) (jav (jab (k_z2o hm) jah)) fun a b r h => ⟨FUEL, g_z2t FUEL a b (jad h)⟩
def s_z2u_r : Sig := ⟨[6], [.ty (.int .i64)], [.one false [.ty .str, .ty .str, .ty (.int .i64), .hs 1 0], .row jaq]⟩
def jdf : Sig := ⟨[0, 2, 7, 9], [.ptr 0 0 0, .ty (.int .i64), .ty (.int .i64), .ty (.int .i64)], [.one false [.ty .str, .ty .str, .ty (.int .i64), .hs 1 0], .row jaq]⟩
def joZ : Sig := ⟨[], [], [.one false [.ty .str, .ty .str, .ty (.int .i64), .hs 1 0], .row jaq]⟩
def jnl : Pol := ⟨fun i => if i = 0 then some [(0, .keep), (2, .keep), (7, .keep), (9, .keep)] else none, fun i => if i = 0 then some [] else none, some [(6, .keep)], [.keep], []⟩
def jHe : List EK := [.ptr 0 0 0, .agg jaT, .ty (.int .i64)]
def jET : List HK := [.one false [.ty .str, .ty .str, .ty (.int .i64), .hs 1 0], .row jaq]
noncomputable def jmx : CallF := mkCF [(67, jLH)] []
noncomputable def jtz (n : Nat) : jaF := fun i => if i = 0 then some (jaz 2 (jnl.head 0) jdf fun K v => jjC n (fun z4 => K (.ex 0) (joZ.enc ((), ((v.2.1.1, (v.2.1.2.1, (v.2.1.2.2.1, (v.2.1.2.2.2.1, ())))), (z4, ()))))) v.1.2.1 v.1.2.2.1 v.2.1.2.2.2.1 n v.1.2.2.2.1 v.2.2.1)
  else  none
noncomputable def jvN : Code := jaR (jae Tryz.f42) [1, 1, 1, 1, 1, 1, 0, 1, 0, 0]
noncomputable def jhp (n : Nat) (K : Cont) (rec : Sig.sem jdf → Option Res) (v : Sig.sem jdf) : Option Res := jrx n (fun z4 => K (.ex 0) (joZ.enc ((), ((v.2.1.1, (v.2.1.2.1, (v.2.1.2.2.1, (v.2.1.2.2.2.1, ())))), (z4, ()))))) v.1.2.1 v.1.2.2.1 v.2.1.2.2.2.1 (fun z2 z7 => rec (((), (v.1.2.1, (v.1.2.2.1, (z2, ())))), ((v.2.1.1, (v.2.1.2.1, (v.2.1.2.2.1, (v.2.1.2.2.2.1, ())))), (z7, ())))) v.1.2.2.2.1 v.2.2.1
theorem t_z2u_0 (n : Nat) (K : Cont) (rec : Sig.sem jdf → Option Res) (v : Sig.sem jdf) : runT PP jmx Tryz.f42.ntmps 2 jnl (jtz n) jvN (jdf.enc v) (jbp 2 (jnl.head 0) jdf rec K) = jhp n K rec v := by kernel_rfl
noncomputable def jqn (n : Nat) (K : Cont) (m : Nat) (v : Sig.sem jdf) : Option Res := jjC n (fun z4 => K (.ex 0) (joZ.enc ((), ((v.2.1.1, (v.2.1.2.1, (v.2.1.2.2.1, (v.2.1.2.2.2.1, ())))), (z4, ()))))) v.1.2.1 v.1.2.2.1 v.2.1.2.2.2.1 m v.1.2.2.2.1 v.2.2.1
theorem i_z2u_0 (n : Nat) (K : Cont) : ∀ m v, iter (jhp n K) m v = jqn n K m v := by
  intro m
  induction m with
  | zero => intro v; rfl
  | succ m ih =>
    intro v
    show jhp n K (iter (jhp n K) m) v = jhp n K (jqn n K m) v
    rw [show iter (jhp n K) m = jqn n K m from funext ih]
theorem o_z2u_0 (n : Nat) : ∀ L, jtz n 0 = some L → ∀ s K r, L s K = some r → ∃ x s', jbj (run PP jmx Tryz.f42.ntmps 2 n jnl none jvN) (gc 2 (jnl.head 0)) n s = some (x, s') ∧ K x s' = some r := by
  intro L hL s K r h
  have hL : some (jaz 2 (jnl.head 0) jdf fun K v => jqn n K n v) = some L := hL
  cases hL
  have hb : LOk PP jmx Tryz.f42.ntmps 2 n jnl (jtz n) jvN := ⟨⟨tT, tT, tT⟩, ⟨tT, tT, tT⟩, tT⟩
  refine jaE hb (jhp n) (t_z2u_0 n) n s K r ?_
  rw [← h]
  unfold jaz
  simp only [i_z2u_0]
theorem m_z2u (n : Nat) (a : EK.sems jHe) (b : HK.sems jET) : jaH PP jmx jnl (jtz n) Tryz.f42 (jae Tryz.f42) (EK.encs jHe a) (HK.encs jET b) = jwL n a.2.1 a.2.2.1 b.1.1 b.1.2.1 b.1.2.2.1 b.1.2.2.2.1 b.2.1 := by kernel_rfl
theorem g_z2u (n : Nat) (a : EK.sems jHe) (b : HK.sems jET) {r : Res} (h : jwL n a.2.1 a.2.2.1 b.1.1 b.1.2.1 b.1.2.2.1 b.1.2.2.2.1 b.2.1 = some r) : runF PP jmx n jnl 42 (EK.encs jHe a) (HK.encs jET b) = some r :=
  jaf PP Tryz.func42 (show Tryz.f42.body = some (jae Tryz.f42) from rfl) (show (3 : Nat) ≤ 85 by decide) (show LOk PP jmx _ 2 n _ (jtz n) _ from ⟨tT, tT, ⟨tT, ⟨tT, tT⟩, tT⟩, ⟨tT, ⟨tT, tT⟩, tT⟩, ⟨tT, ⟨tT, tT⟩, tT⟩, tT, ⟨tT, (o_z2u_0 n)⟩, tT, tT⟩) ((m_z2u n a b).trans h) rfl (by kernel_rfl)
noncomputable def c_z2u : Spec := jaG jHe jET jnV joc fun a b => jJA a.2.1 a.2.2.1 b.1.1 b.1.2.1 b.1.2.2.1 b.1.2.2.2.1 b.2.1
theorem k_z2u (hm : Tryz.prog.follows .mixedOrders = true) : jar PP 42 c_z2u := jaj (pol := jnl) hm (cf := jmx) (jav (jab (k_z2t hm) jah)) fun a b r h => ⟨FUEL, g_z2u FUEL a b (jad h)⟩
def s_z2v_r : Sig := ⟨[6], [.ty (.int .i64)], [.one false [.ty .str, .ty .str, .ty (.int .i64), .hs 1 0], .row jaq]⟩
def jde : Sig := ⟨[0, 2, 7, 9, 10], [.ptr 0 0 0, .ty (.int .i64), .ty (.int .i64), .hs 2 0, .ty (.int .i64)], [.one false [.ty .str, .ty .str, .ty (.int .i64), .hs 1 0], .row jaq, .row jaq]⟩
def joY : Sig := ⟨[0, 9], [.ptr 0 0 0, .hs 2 0], [.one false [.ty .str, .ty .str, .ty (.int .i64), .hs 1 0], .row jaq, .row jaq]⟩
def s_z2v_r1 : Sig := ⟨[6], [.ty (.int .i64)], [.one false [.ty .str, .ty .str, .ty (.int .i64), .hs 2 0], .row jaq, .row jaq]⟩
def jnk : Pol := ⟨fun i => if i = 0 then some [(0, .keep), (2, .keep), (7, .keep), (9, (.own jaq)), (10, .keep)] else none, fun i => if i = 0 then some [(0, .keep), (9, (.own jaq))] else none, some [(6, .keep)], [.keep], []⟩
def jHd : List EK := [.ptr 0 0 0, .agg jaT, .ty (.int .i64)]
def jES : List HK := [.one false [.ty .str, .ty .str, .ty (.int .i64), .hs 1 0], .row jaq]
noncomputable def jmw : CallF := mkCF [(67, jLH)] []
noncomputable def jty (n : Nat) : jaF := fun i => if i = 0 then some (jaz 2 (jnk.head 0) jde fun K v => jjB n (fun z0 z6 => K (.ex 0) (joY.enc (((), (z0, ())), ((v.2.1.1, (v.2.1.2.1, (v.2.1.2.2.1, (v.2.1.2.2.2.1, ())))), (v.2.2.1, (z6, ())))))) v.1.2.1 v.1.2.2.1 v.2.1.2.2.2.1 v.2.2.1 n v.1.2.2.2.1 v.1.2.2.2.2.1 v.2.2.2.1)
  else  none
noncomputable def jvM : Code := jaR (jae Tryz.f43) [1, 1, 1, 1, 1, 1, 0, 1, 0, 0]
noncomputable def jho (n : Nat) (K : Cont) (rec : Sig.sem jde → Option Res) (v : Sig.sem jde) : Option Res := jrw n (fun z0 z6 => K (.ex 0) (joY.enc (((), (z0, ())), ((v.2.1.1, (v.2.1.2.1, (v.2.1.2.2.1, (v.2.1.2.2.2.1, ())))), (v.2.2.1, (z6, ())))))) v.1.2.1 v.1.2.2.1 v.2.1.2.2.2.1 v.2.2.1 (fun z2 z3 z9 => rec (((), (v.1.2.1, (v.1.2.2.1, (z2, (z3, ()))))), ((v.2.1.1, (v.2.1.2.1, (v.2.1.2.2.1, (v.2.1.2.2.2.1, ())))), (v.2.2.1, (z9, ()))))) v.1.2.2.2.1 v.1.2.2.2.2.1 v.2.2.2.1
theorem t_z2v_0 (n : Nat) (K : Cont) (rec : Sig.sem jde → Option Res) (v : Sig.sem jde) : runT PP jmw Tryz.f43.ntmps 2 jnk (jty n) jvM (jde.enc v) (jbp 2 (jnk.head 0) jde rec K) = jho n K rec v := by kernel_rfl
noncomputable def jqm (n : Nat) (K : Cont) (m : Nat) (v : Sig.sem jde) : Option Res := jjB n (fun z0 z6 => K (.ex 0) (joY.enc (((), (z0, ())), ((v.2.1.1, (v.2.1.2.1, (v.2.1.2.2.1, (v.2.1.2.2.2.1, ())))), (v.2.2.1, (z6, ())))))) v.1.2.1 v.1.2.2.1 v.2.1.2.2.2.1 v.2.2.1 m v.1.2.2.2.1 v.1.2.2.2.2.1 v.2.2.2.1
theorem i_z2v_0 (n : Nat) (K : Cont) : ∀ m v, iter (jho n K) m v = jqm n K m v := by
  intro m
  induction m with
  | zero => intro v; rfl
  | succ m ih =>
    intro v
    show jho n K (iter (jho n K) m) v = jho n K (jqm n K m) v
    rw [show iter (jho n K) m = jqm n K m from funext ih]
theorem o_z2v_0 (n : Nat) : ∀ L, jty n 0 = some L → ∀ s K r, L s K = some r → ∃ x s', jbj (run PP jmw Tryz.f43.ntmps 2 n jnk none jvM) (gc 2 (jnk.head 0)) n s = some (x, s') ∧ K x s' = some r := by
  intro L hL s K r h
  have hL : some (jaz 2 (jnk.head 0) jde fun K v => jqm n K n v) = some L := hL
  cases hL
  have hb : LOk PP jmw Tryz.f43.ntmps 2 n jnk (jty n) jvM := ⟨⟨tT, tT, tT⟩, ⟨tT, tT, ⟨tT, tT⟩, tT, tT, tT⟩, tT⟩
  refine jaE hb (jho n) (t_z2v_0 n) n s K r ?_
  rw [← h]
  unfold jaz
  simp only [i_z2v_0]
theorem m_z2v (n : Nat) (a : EK.sems jHd) (b : HK.sems jES) : jaH PP jmw jnk (jty n) Tryz.f43 (jae Tryz.f43) (EK.encs jHd a) (HK.encs jES b) = jrq n a.2.1 a.2.2.1 b.1.1 b.1.2.1 b.1.2.2.1 b.1.2.2.2.1 b.2.1 := by kernel_rfl
theorem g_z2v (n : Nat) (a : EK.sems jHd) (b : HK.sems jES) {r : Res} (h : jrq n a.2.1 a.2.2.1 b.1.1 b.1.2.1 b.1.2.2.1 b.1.2.2.2.1 b.2.1 = some r) : runF PP jmw n jnk 43 (EK.encs jHd a) (HK.encs jES b) = some r :=
  jaf PP Tryz.func43 (show Tryz.f43.body = some (jae Tryz.f43) from rfl) (show (3 : Nat) ≤ 95 by decide) (show LOk PP jmw _ 2 n _ (jty n) _ from ⟨tT, tT, ⟨tT, ⟨tT, tT⟩, tT⟩, ⟨tT, ⟨tT, tT⟩, tT⟩, tT, tT, ⟨tT, (o_z2v_0 n)⟩, tT, tT, tT⟩) ((m_z2v n a b).trans h) rfl (by kernel_rfl)
noncomputable def c_z2v : Spec := jfl jHd jES fun a b => (jdZ jnU job (jBX a.2.1 a.2.2.1 b.1.1 b.1.2.1 b.1.2.2.1 b.1.2.2.2.1 b.2.1) (jdZ jir jgk (jrd a.2.1 a.2.2.1 b.1.1 b.1.2.1 b.1.2.2.1 b.1.2.2.2.1 b.2.1) .no))
theorem k_z2v (hm : Tryz.prog.follows .mixedOrders = true) : jar PP 43 c_z2v := jbZ (pol := jnk) hm (cf := jmw) (jav (jab (k_z2t hm) jah)) fun a b r => (fun h => (jaX h).elim (fun ⟨x, hx, e⟩ => ⟨FUEL, e ▸ g_z2v FUEL a b (jad hx)⟩) (fun h => (jaX h).elim (fun ⟨x, hx, e⟩ => ⟨FUEL, e ▸ g_z2v FUEL a b (jad hx)⟩) (fun h => by cases h)))
def jdd : Sig := ⟨[0], [.ty (.int .u64)], []⟩
def joX : Sig := ⟨[0], [.ty (.int .u64)], []⟩
def s_z2w_r : Sig := ⟨[2], [.ty (.int .u16)], []⟩
def jnj : Pol := ⟨fun i => if i = 0 then some [(0, .keep)] else none, fun i => if i = 0 then some [(0, .keep)] else none, some [(2, .keep)], [.keep], []⟩
def jHc : List EK := [.ty (.int .u64)]
def jER : List HK := []
noncomputable def jmv : CallF := mkCF [] []
noncomputable def jtx (n : Nat) : jaF := fun i => if i = 0 then some (jaz 0 (jnj.head 0) jdd fun K v => jjA n (fun z0 => K (.ex 0) (joX.enc ((z0, ()), ()))) n v.1.1)
  else  none
noncomputable def jvL : Code := jaR (jae Tryz.f104) [1, 0, 0, 0]
noncomputable def jhn (n : Nat) (K : Cont) (rec : Sig.sem jdd → Option Res) (v : Sig.sem jdd) : Option Res := jrv n (fun z0 => K (.ex 0) (joX.enc ((z0, ()), ()))) (fun z0 => rec ((z0, ()), ())) v.1.1
theorem t_z2w_0 (n : Nat) (K : Cont) (rec : Sig.sem jdd → Option Res) (v : Sig.sem jdd) : runT PP jmv Tryz.f104.ntmps 0 jnj (jtx n) jvL (jdd.enc v) (jbp 0 (jnj.head 0) jdd rec K) = jhn n K rec v := by kernel_rfl
noncomputable def jql (n : Nat) (K : Cont) (m : Nat) (v : Sig.sem jdd) : Option Res := jjA n (fun z0 => K (.ex 0) (joX.enc ((z0, ()), ()))) m v.1.1
theorem i_z2w_0 (n : Nat) (K : Cont) : ∀ m v, iter (jhn n K) m v = jql n K m v := by
  intro m
  induction m with
  | zero => intro v; rfl
  | succ m ih =>
    intro v
    show jhn n K (iter (jhn n K) m) v = jhn n K (jql n K m) v
    rw [show iter (jhn n K) m = jql n K m from funext ih]
theorem o_z2w_0 (n : Nat) : ∀ L, jtx n 0 = some L → ∀ s K r, L s K = some r → ∃ x s', jbj (run PP jmv Tryz.f104.ntmps 0 n jnj none jvL) (gc 0 (jnj.head 0)) n s = some (x, s') ∧ K x s' = some r := by
  intro L hL s K r h
  have hL : some (jaz 0 (jnj.head 0) jdd fun K v => jql n K n v) = some L := hL
  cases hL
  have hb : LOk PP jmv Tryz.f104.ntmps 0 n jnj (jtx n) jvL := ⟨⟨tT, tT, tT⟩, tT⟩
  refine jaE hb (jhn n) (t_z2w_0 n) n s K r ?_
  rw [← h]
  unfold jaz
  simp only [i_z2w_0]
theorem m_z2w (n : Nat) (a : EK.sems jHc) (b : HK.sems jER) : jaH PP jmv jnj (jtx n) Tryz.f104 (jae Tryz.f104) (EK.encs jHc a) (HK.encs jER b) = jNz n a.1 := by kernel_rfl
theorem g_z2w (n : Nat) (a : EK.sems jHc) (b : HK.sems jER) {r : Res} (h : jNz n a.1 = some r) : runF PP jmv n jnj 104 (EK.encs jHc a) (HK.encs jER b) = some r :=
  jaf PP Tryz.func104 (show Tryz.f104.body = some (jae Tryz.f104) from rfl) (show (1 : Nat) ≤ 12 by decide) (show LOk PP jmv _ 0 n _ (jtx n) _ from ⟨tT, (o_z2w_0 n), tT, tT⟩) ((m_z2w n a b).trans h) rfl (by kernel_rfl)
noncomputable def c_z2w : Spec := jaG jHc jER jCM jDt fun a b => jMd a.1
theorem k_z2w (hm : Tryz.prog.follows .mixedOrders = true) : jar PP 104 c_z2w := jaj (pol := jnj) hm (cf := jmv) (jav jah) fun a b r h => ⟨FUEL, g_z2w FUEL a b (jad h)⟩
def jdc : Sig := ⟨[3, 4, 9, 10, 11], [.ty (.int .u64), .ty .bool, .ty (.slice .str), .ty (.int .i64), .ty (.int .i64)], []⟩
def jdb : Sig := ⟨[3, 4, 6, 9, 10, 11, 16, 17], [.ty (.int .u64), .ty .bool, .ty .str, .ty (.slice .str), .ty (.int .i64), .ty (.int .i64), .ty (.int .i64), .ty (.int .i64)], []⟩
def joV : Sig := ⟨[3, 4, 9, 10, 11], [.ty (.int .u64), .ty .bool, .ty (.slice .str), .ty (.int .i64), .ty (.int .i64)], []⟩
def joW : Sig := ⟨[3], [.ty (.int .u64)], []⟩
def s_z2x_r : Sig := ⟨[2], [.ty (.int .u16)], []⟩
def jfF : Pol := ⟨fun i => if i = 0 then some [(3, .keep), (4, .keep), (9, .keep), (10, .keep), (11, .keep)] else if i = 2 then some [(3, .keep), (4, .keep), (6, .keep), (9, .keep), (10, .keep), (11, .keep), (16, .keep), (17, .keep)] else none, fun i => if i = 2 then some [(3, .keep), (4, .keep), (9, .keep), (10, .keep), (11, .keep)] else if i = 0 then some [(3, .keep)] else none, some [(2, .keep)], [.keep], []⟩
def jHb : List EK := [.ty (.slice .str)]
def jEQ : List HK := []
noncomputable def jgG : CallF := mkCF [(104, c_z2w)] [(104, [(.int .u64)])]
noncomputable def jkB (n : Nat) : jaF := fun i => if i = 2 then some (jaz 0 (jfF.head 2) jdb fun K v => jjz n (fun z0 z1 => K (.ex 2) (joV.enc ((z0, (z1, (v.1.2.2.2.1, (v.1.2.2.2.2.1, (v.1.2.2.2.2.2.1, ()))))), ()))) v.1.2.2.1 v.1.2.2.2.2.2.2.1 n v.1.1 v.1.2.1 v.1.2.2.2.2.2.2.2.1)
  else if i = 0 then some (jaz 0 (jfF.head 0) jdc fun K v => jfV n (fun z0 => K (.ex 0) (joW.enc ((z0, ()), ()))) v.1.2.2.1 v.1.2.2.2.1 n v.1.1 v.1.2.1 v.1.2.2.2.2.1)
  else  none
noncomputable def jvJ : Code := jaR (jae Tryz.f92) [1, 1, 0, 1, 0, 0, 1, 1, 0, 0, 1, 0, 1, 0, 0]
noncomputable def jhl (n : Nat) (K : Cont) (rec : Sig.sem jdb → Option Res) (v : Sig.sem jdb) : Option Res := jru n (fun z0 z1 => K (.ex 2) (joV.enc ((z0, (z1, (v.1.2.2.2.1, (v.1.2.2.2.2.1, (v.1.2.2.2.2.2.1, ()))))), ()))) v.1.2.2.1 v.1.2.2.2.2.2.2.1 (fun z0 z1 z7 => rec ((z0, (z1, (v.1.2.2.1, (v.1.2.2.2.1, (v.1.2.2.2.2.1, (v.1.2.2.2.2.2.1, (v.1.2.2.2.2.2.2.1, (z7, ())))))))), ())) v.1.1 v.1.2.1 v.1.2.2.2.2.2.2.2.1
theorem t_z2x_2 (n : Nat) (K : Cont) (rec : Sig.sem jdb → Option Res) (v : Sig.sem jdb) : runT PP jgG Tryz.f92.ntmps 0 jfF (jkB n) jvJ (jdb.enc v) (jbp 0 (jfF.head 2) jdb rec K) = jhl n K rec v := by kernel_rfl
noncomputable def jqj (n : Nat) (K : Cont) (m : Nat) (v : Sig.sem jdb) : Option Res := jjz n (fun z0 z1 => K (.ex 2) (joV.enc ((z0, (z1, (v.1.2.2.2.1, (v.1.2.2.2.2.1, (v.1.2.2.2.2.2.1, ()))))), ()))) v.1.2.2.1 v.1.2.2.2.2.2.2.1 m v.1.1 v.1.2.1 v.1.2.2.2.2.2.2.2.1
theorem i_z2x_2 (n : Nat) (K : Cont) : ∀ m v, iter (jhl n K) m v = jqj n K m v := by
  intro m
  induction m with
  | zero => intro v; rfl
  | succ m ih =>
    intro v
    show jhl n K (iter (jhl n K) m) v = jhl n K (jqj n K m) v
    rw [show iter (jhl n K) m = jqj n K m from funext ih]
theorem o_z2x_2 (n : Nat) : ∀ L, jkB n 2 = some L → ∀ s K r, L s K = some r → ∃ x s', jbj (run PP jgG Tryz.f92.ntmps 0 n jfF none jvJ) (gc 0 (jfF.head 2)) n s = some (x, s') ∧ K x s' = some r := by
  intro L hL s K r h
  have hL : some (jaz 0 (jfF.head 2) jdb fun K v => jqj n K n v) = some L := hL
  cases hL
  have hb : LOk PP jgG Tryz.f92.ntmps 0 n jfF (jkB n) jvJ := ⟨tT, ⟨tT, tT⟩, ⟨tT, tT, ⟨tT, tT, tT⟩, tT, tT⟩, tT⟩
  refine jaE hb (jhl n) (t_z2x_2 n) n s K r ?_
  rw [← h]
  unfold jaz
  simp only [i_z2x_2]
noncomputable def jvK : Code := jaR (jae Tryz.f92) [1, 1, 0, 1, 0, 0]
noncomputable def jhm (n : Nat) (K : Cont) (rec : Sig.sem jdc → Option Res) (v : Sig.sem jdc) : Option Res := jkh n (fun z0 => K (.ex 0) (joW.enc ((z0, ()), ()))) v.1.2.2.1 v.1.2.2.2.1 (fun z0 z1 z4 => rec ((z0, (z1, (v.1.2.2.1, (v.1.2.2.2.1, (z4, ()))))), ())) v.1.1 v.1.2.1 v.1.2.2.2.2.1
theorem t_z2x_0 (n : Nat) (K : Cont) (rec : Sig.sem jdc → Option Res) (v : Sig.sem jdc) : runT PP jgG Tryz.f92.ntmps 0 jfF (jkB n) jvK (jdc.enc v) (jbp 0 (jfF.head 0) jdc rec K) = jhm n K rec v := by kernel_rfl
noncomputable def jqk (n : Nat) (K : Cont) (m : Nat) (v : Sig.sem jdc) : Option Res := jfV n (fun z0 => K (.ex 0) (joW.enc ((z0, ()), ()))) v.1.2.2.1 v.1.2.2.2.1 m v.1.1 v.1.2.1 v.1.2.2.2.2.1
theorem i_z2x_0 (n : Nat) (K : Cont) : ∀ m v, iter (jhm n K) m v = jqk n K m v := by
  intro m
  induction m with
  | zero => intro v; rfl
  | succ m ih =>
    intro v
    show jhm n K (iter (jhm n K) m) v = jhm n K (jqk n K m) v
    rw [show iter (jhm n K) m = jqk n K m from funext ih]
theorem o_z2x_0 (n : Nat) : ∀ L, jkB n 0 = some L → ∀ s K r, L s K = some r → ∃ x s', jbj (run PP jgG Tryz.f92.ntmps 0 n jfF none jvK) (gc 0 (jfF.head 0)) n s = some (x, s') ∧ K x s' = some r := by
  intro L hL s K r h
  have hL : some (jaz 0 (jfF.head 0) jdc fun K v => jqk n K n v) = some L := hL
  cases hL
  have hb : LOk PP jgG Tryz.f92.ntmps 0 n jfF (jkB n) jvK := ⟨tT, ⟨tT, tT⟩, ⟨tT, ⟨tT, (o_z2x_2 n)⟩, tT⟩, tT⟩
  refine jaE hb (jhm n) (t_z2x_0 n) n s K r ?_
  rw [← h]
  unfold jaz
  simp only [i_z2x_0]
theorem m_z2x (n : Nat) (a : EK.sems jHb) (b : HK.sems jEQ) : jaH PP jgG jfF (jkB n) Tryz.f92 (jae Tryz.f92) (EK.encs jHb a) (HK.encs jEQ b) = jNy n a.1 := by kernel_rfl
theorem g_z2x (n : Nat) (a : EK.sems jHb) (b : HK.sems jEQ) {r : Res} (h : jNy n a.1 = some r) : runF PP jgG n jfF 92 (EK.encs jHb a) (HK.encs jEQ b) = some r :=
  jaf PP Tryz.func92 (show Tryz.f92.body = some (jae Tryz.f92) from rfl) (show (1 : Nat) ≤ 39 by decide) (show LOk PP jgG _ 0 n _ (jkB n) _ from ⟨tT, tT, ⟨tT, (o_z2x_0 n)⟩, tT, tT⟩) ((m_z2x n a b).trans h) rfl (by kernel_rfl)
noncomputable def c_z2x : Spec := jaG jHb jEQ jCL jDs fun a b => jMc a.1
theorem k_z2x (hm : Tryz.prog.follows .mixedOrders = true) : jar PP 92 c_z2x := jaj (pol := jfF) hm (cf := jgG) (jav (jab (k_z2w hm) jah)) fun a b r h => ⟨FUEL, g_z2x FUEL a b (jad h)⟩
def s_z2y_r : Sig := ⟨[6, 7], [.ty (.int .u16), .ty (.int .i64)], [.one false [.hs 1 0], .row (.int .u8)]⟩
def p_z2y : Pol := ⟨fun i => none, fun i => none, some [(6, .keep), (7, .keep)], [.keep, .keep], []⟩
def jHa : List EK := [.ptr 0 0 0, .ty (.int .i64), .ty (.int .i64)]
def jEP : List HK := [.one false [.hs 1 0], .row (.int .u8)]
noncomputable def jzj : CallF := mkCF [(60, jLL), (92, c_z2x)] [(92, [(.slice .str)])]
noncomputable def jPp (n : Nat) : jaF := fun i =>  none
theorem m_z2y (n : Nat) (a : EK.sems jHa) (b : HK.sems jEP) : jaH PP jzj p_z2y (jPp n) Tryz.f68 (jae Tryz.f68) (EK.encs jHa a) (HK.encs jEP b) = jCk n a.2.1 a.2.2.1 b.1.1 b.2.1 := by kernel_rfl
theorem g_z2y (n : Nat) (a : EK.sems jHa) (b : HK.sems jEP) {r : Res} (h : jCk n a.2.1 a.2.2.1 b.1.1 b.2.1 = some r) : runF PP jzj n p_z2y 68 (EK.encs jHa a) (HK.encs jEP b) = some r :=
  jaf PP Tryz.func68 (show Tryz.f68.body = some (jae Tryz.f68) from rfl) (show (3 : Nat) ≤ 28 by decide) (show LOk PP jzj _ 2 n _ (jPp n) _ from ⟨tT, ⟨tT, tT, ⟨tT, tT⟩, tT⟩, tT, tT⟩) ((m_z2y n a b).trans h) rfl (by kernel_rfl)
noncomputable def c_z2y : Spec := jaG jHa jEP jxj jxN fun a b => jJz a.2.1 a.2.2.1 b.1.1 b.2.1
theorem k_z2y (hm : Tryz.prog.follows .mixedOrders = true) : jar PP 68 c_z2y := jaj (pol := p_z2y) hm (cf := jzj) (jav (jab (k_z1h hm) (jab (k_z2x hm) jah))) fun a b r h => ⟨FUEL, g_z2y FUEL a b (jad h)⟩
def s_z2z_r : Sig := ⟨[8], [.ty (.int .i64)], [.one false [.ptr 1 0 0, .hs 3 0, .ptr 4 0 0, .ty (.int .i64)], .one false [.hs 2 0], .row (.int .u8), .row jaq, .one false [.hs 5 0], .row (.int .u8)]⟩
def p_z2z : Pol := ⟨fun i => none, fun i => none, some [(8, .keep)], [.keep], []⟩
def jGZ : List EK := [.ptr 0 0 0, .agg jaT, .agg jaT, .ty (.int .i64)]
def jEO : List HK := [.one false [.ptr 1 0 0, .hs 3 0, .ptr 4 0 0, .ty (.int .i64)], .one false [.hs 2 0], .row (.int .u8), .row jaq, .one false [.hs 5 0], .row (.int .u8)]
noncomputable def jzi : CallF := mkCF [(35, jLM), (28, c_z29), (68, c_z2y), (12, jLI), (69, jLO)] [(69, [(.int .u64)])]
noncomputable def jPo (n : Nat) : jaF := fun i =>  none
theorem m_z2z (n : Nat) (a : EK.sems jGZ) (b : HK.sems jEO) : jaH PP jzi p_z2z (jPo n) Tryz.f44 (jae Tryz.f44) (EK.encs jGZ a) (HK.encs jEO b) = jwK n a.2.1 a.2.2.1 a.2.2.2.1 b.1.2.1 b.1.2.2.2.1 b.2.1.1 b.2.2.1 b.2.2.2.1 b.2.2.2.2.1.1 b.2.2.2.2.2.1 := by kernel_rfl
theorem g_z2z (n : Nat) (a : EK.sems jGZ) (b : HK.sems jEO) {r : Res} (h : jwK n a.2.1 a.2.2.1 a.2.2.2.1 b.1.2.1 b.1.2.2.2.1 b.2.1.1 b.2.2.1 b.2.2.2.1 b.2.2.2.2.1.1 b.2.2.2.2.2.1 = some r) : runF PP jzi n p_z2z 44 (EK.encs jGZ a) (HK.encs jEO b) = some r :=
  jaf PP Tryz.func44 (show Tryz.f44.body = some (jae Tryz.f44) from rfl) (show (4 : Nat) ≤ 69 by decide) (show LOk PP jzi _ 6 n _ (jPo n) _ from ⟨tT, tT, ⟨tT, ⟨tT, tT⟩, tT⟩, ⟨tT, tT, tT⟩, ⟨tT, tT, ⟨tT, tT⟩, tT⟩, ⟨tT, tT, ⟨tT, tT⟩, tT⟩, tT, tT, tT⟩) ((m_z2z n a b).trans h) rfl (by kernel_rfl)
noncomputable def c_z2z : Spec := jaG jGZ jEO jiq jix fun a b => jMb a.2.1 a.2.2.1 a.2.2.2.1 b.1.2.1 b.1.2.2.2.1 b.2.1.1 b.2.2.1 b.2.2.2.1 b.2.2.2.2.1.1 b.2.2.2.2.2.1
theorem k_z2z (hm : Tryz.prog.follows .mixedOrders = true) : jar PP 44 c_z2z := jaj (pol := p_z2z) hm (cf := jzi) (jav (jab (k_z1g hm) (jab (k_z29 hm) (jab (k_z2y hm) (jab (k_z2h hm) (jab (k_z0k hm) jah)))))) fun a b r h => ⟨FUEL, g_z2z FUEL a b (jad h)⟩
def s_z30_r : Sig := ⟨[4], [.ty (.int .u16)], []⟩
def p_z30 : Pol := ⟨fun i => none, fun i => none, some [(4, .keep)], [.keep], []⟩
def jGY : List EK := [.ty (.int .u16), .ty (.int .u16)]
def jEN : List HK := []
noncomputable def jzh : CallF := mkCF [] []
noncomputable def jPn (n : Nat) : jaF := fun i =>  none
theorem m_z30 (n : Nat) (a : EK.sems jGY) (b : HK.sems jEN) : jaH PP jzh p_z30 (jPn n) Tryz.f105 (jae Tryz.f105) (EK.encs jGY a) (HK.encs jEN b) = jNx n a.1 a.2.1 := by kernel_rfl
theorem g_z30 (n : Nat) (a : EK.sems jGY) (b : HK.sems jEN) {r : Res} (h : jNx n a.1 a.2.1 = some r) : runF PP jzh n p_z30 105 (EK.encs jGY a) (HK.encs jEN b) = some r :=
  jaf PP Tryz.func105 (show Tryz.f105.body = some (jae Tryz.f105) from rfl) (show (2 : Nat) ≤ 18 by decide) (show LOk PP jzh _ 0 n _ (jPn n) _ from ⟨tT, tT, ⟨tT, tT, tT⟩, tT, tT⟩) ((m_z30 n a b).trans h) rfl (by kernel_rfl)
noncomputable def c_z30 : Spec := jaG jGY jEN jxi jxM fun a b => jMa a.1 a.2.1
theorem k_z30 (hm : Tryz.prog.follows .mixedOrders = true) : jar PP 105 c_z30 := jaj (pol := p_z30) hm (cf := jzh) (jav jah) fun a b r h => ⟨FUEL, g_z30 FUEL a b (jad h)⟩
def jda : Sig := ⟨[0, 3, 4], [.ty .str, .ty (.int .u16), .ty (.int .i64)], []⟩
def joU : Sig := ⟨[3], [.ty (.int .u16)], []⟩
def s_z31_r : Sig := ⟨[2], [.ty (.int .u16)], []⟩
def jni : Pol := ⟨fun i => if i = 0 then some [(0, .keep), (3, .keep), (4, .keep)] else none, fun i => if i = 0 then some [(3, .keep)] else none, some [(2, .keep)], [.keep], []⟩
def jGX : List EK := [.ty .str]
def jEM : List HK := []
noncomputable def jmu : CallF := mkCF [(105, c_z30)] [(105, [(.int .u16), (.int .u16)])]
noncomputable def jtw (n : Nat) : jaF := fun i => if i = 0 then some (jaz 0 (jni.head 0) jda fun K v => jjy n (fun z0 => K (.ex 0) (joU.enc ((z0, ()), ()))) v.1.1 n v.1.2.1 v.1.2.2.1)
  else  none
noncomputable def jvI : Code := jaR (jae Tryz.f93) [1, 1, 0, 1, 0, 0]
noncomputable def jhk (n : Nat) (K : Cont) (rec : Sig.sem jda → Option Res) (v : Sig.sem jda) : Option Res := jrt n (fun z0 => K (.ex 0) (joU.enc ((z0, ()), ()))) v.1.1 (fun z1 z2 => rec ((v.1.1, (z1, (z2, ()))), ())) v.1.2.1 v.1.2.2.1
theorem t_z31_0 (n : Nat) (K : Cont) (rec : Sig.sem jda → Option Res) (v : Sig.sem jda) : runT PP jmu Tryz.f93.ntmps 0 jni (jtw n) jvI (jda.enc v) (jbp 0 (jni.head 0) jda rec K) = jhk n K rec v := by kernel_rfl
noncomputable def jqi (n : Nat) (K : Cont) (m : Nat) (v : Sig.sem jda) : Option Res := jjy n (fun z0 => K (.ex 0) (joU.enc ((z0, ()), ()))) v.1.1 m v.1.2.1 v.1.2.2.1
theorem i_z31_0 (n : Nat) (K : Cont) : ∀ m v, iter (jhk n K) m v = jqi n K m v := by
  intro m
  induction m with
  | zero => intro v; rfl
  | succ m ih =>
    intro v
    show jhk n K (iter (jhk n K) m) v = jhk n K (jqi n K m) v
    rw [show iter (jhk n K) m = jqi n K m from funext ih]
theorem o_z31_0 (n : Nat) : ∀ L, jtw n 0 = some L → ∀ s K r, L s K = some r → ∃ x s', jbj (run PP jmu Tryz.f93.ntmps 0 n jni none jvI) (gc 0 (jni.head 0)) n s = some (x, s') ∧ K x s' = some r := by
  intro L hL s K r h
  have hL : some (jaz 0 (jni.head 0) jda fun K v => jqi n K n v) = some L := hL
  cases hL
  have hb : LOk PP jmu Tryz.f93.ntmps 0 n jni (jtw n) jvI := ⟨⟨tT, tT, tT⟩, ⟨tT, ⟨tT, tT, tT⟩, tT⟩, tT⟩
  refine jaE hb (jhk n) (t_z31_0 n) n s K r ?_
  rw [← h]
  unfold jaz
  simp only [i_z31_0]
theorem m_z31 (n : Nat) (a : EK.sems jGX) (b : HK.sems jEM) : jaH PP jmu jni (jtw n) Tryz.f93 (jae Tryz.f93) (EK.encs jGX a) (HK.encs jEM b) = jNw n a.1 := by kernel_rfl
theorem g_z31 (n : Nat) (a : EK.sems jGX) (b : HK.sems jEM) {r : Res} (h : jNw n a.1 = some r) : runF PP jmu n jni 93 (EK.encs jGX a) (HK.encs jEM b) = some r :=
  jaf PP Tryz.func93 (show Tryz.f93.body = some (jae Tryz.f93) from rfl) (show (1 : Nat) ≤ 33 by decide) (show LOk PP jmu _ 0 n _ (jtw n) _ from ⟨tT, tT, ⟨tT, (o_z31_0 n)⟩, tT, tT⟩) ((m_z31 n a b).trans h) rfl (by kernel_rfl)
noncomputable def c_z31 : Spec := jaG jGX jEM jxh jxL fun a b => jLZ a.1
theorem k_z31 (hm : Tryz.prog.follows .mixedOrders = true) : jar PP 93 c_z31 := jaj (pol := jni) hm (cf := jmu) (jav (jab (k_z30 hm) jah)) fun a b r h => ⟨FUEL, g_z31 FUEL a b (jad h)⟩
def s_z32_r : Sig := ⟨[2], [.ty (.int .u16)], []⟩
def p_z32 : Pol := ⟨fun i => none, fun i => none, some [(2, .keep)], [.keep], []⟩
def jGW : List EK := [.ty .str]
def jEL : List HK := []
noncomputable def jzg : CallF := mkCF [(93, c_z31)] [(93, [.str])]
noncomputable def jPm (n : Nat) : jaF := fun i =>  none
theorem m_z32 (n : Nat) (a : EK.sems jGW) (b : HK.sems jEL) : jaH PP jzg p_z32 (jPm n) Tryz.f70 (jae Tryz.f70) (EK.encs jGW a) (HK.encs jEL b) = jNv n a.1 := by kernel_rfl
theorem g_z32 (n : Nat) (a : EK.sems jGW) (b : HK.sems jEL) {r : Res} (h : jNv n a.1 = some r) : runF PP jzg n p_z32 70 (EK.encs jGW a) (HK.encs jEL b) = some r :=
  jaf PP Tryz.func70 (show Tryz.f70.body = some (jae Tryz.f70) from rfl) (show (1 : Nat) ≤ 6 by decide) (show LOk PP jzg _ 0 n _ (jPm n) _ from ⟨tT, tT, tT⟩) ((m_z32 n a b).trans h) rfl (by kernel_rfl)
noncomputable def c_z32 : Spec := jaG jGW jEL jxg jxK fun a b => jLY a.1
theorem k_z32 (hm : Tryz.prog.follows .mixedOrders = true) : jar PP 70 c_z32 := jaj (pol := p_z32) hm (cf := jzg) (jav (jab (k_z31 hm) jah)) fun a b r h => ⟨FUEL, g_z32 FUEL a b (jad h)⟩
def s_z33_r : Sig := ⟨[8], [.ty (.int .i64)], [.one false [.ty .str, .ty .str, .ty (.int .i64), .hs 1 0], .row jaq]⟩
def p_z33 : Pol := ⟨fun i => none, fun i => none, some [(8, .keep)], [.keep], []⟩
def jGV : List EK := [.ptr 0 0 0, .agg jaT, .agg jaT, .ty (.int .i64)]
def jEK : List HK := [.one false [.ty .str, .ty .str, .ty (.int .i64), .hs 1 0], .row jaq]
noncomputable def jzf : CallF := mkCF [(67, jLH), (41, c_z2s), (70, c_z32)] [(70, [.str])]
noncomputable def jPl (n : Nat) : jaF := fun i =>  none
theorem m_z33 (n : Nat) (a : EK.sems jGV) (b : HK.sems jEK) : jaH PP jzf p_z33 (jPl n) Tryz.f45 (jae Tryz.f45) (EK.encs jGV a) (HK.encs jEK b) = juy n a.2.1 a.2.2.1 a.2.2.2.1 b.1.1 b.1.2.1 b.1.2.2.1 b.1.2.2.2.1 b.2.1 := by kernel_rfl
theorem g_z33 (n : Nat) (a : EK.sems jGV) (b : HK.sems jEK) {r : Res} (h : juy n a.2.1 a.2.2.1 a.2.2.2.1 b.1.1 b.1.2.1 b.1.2.2.1 b.1.2.2.2.1 b.2.1 = some r) : runF PP jzf n p_z33 45 (EK.encs jGV a) (HK.encs jEK b) = some r :=
  jaf PP Tryz.func45 (show Tryz.f45.body = some (jae Tryz.f45) from rfl) (show (4 : Nat) ≤ 64 by decide) (show LOk PP jzf _ 2 n _ (jPl n) _ from ⟨tT, tT, ⟨tT, ⟨tT, tT⟩, tT⟩, ⟨tT, ⟨tT, tT⟩, tT⟩, ⟨tT, tT, tT⟩, tT, ⟨tT, ⟨tT, tT⟩, tT⟩, tT, tT⟩) ((m_z33 n a b).trans h) rfl (by kernel_rfl)
noncomputable def c_z33 : Spec := jaG jGV jEK jip jiw fun a b => jLX a.2.1 a.2.2.1 a.2.2.2.1 b.1.1 b.1.2.1 b.1.2.2.1 b.1.2.2.2.1 b.2.1
theorem k_z33 (hm : Tryz.prog.follows .mixedOrders = true) : jar PP 45 c_z33 := jaj (pol := p_z33) hm (cf := jzf) (jav (jab (k_z2t hm) (jab (k_z2s hm) (jab (k_z32 hm) jah)))) fun a b r h => ⟨FUEL, g_z33 FUEL a b (jad h)⟩
def s_z34_r : Sig := ⟨[6], [.ty .bool], [.one false [.ptr 1 0 0, .hs 3 0, .ptr 4 0 0, .ty (.int .i64)], .one false [.hs 2 0], .row (.int .u8), .row jaq, .one false [.hs 5 0], .row (.int .u8), .one false [.ty .str, .ty .str, .ty (.int .i64), .hs 7 0], .row jaq]⟩
def s_z34_r1 : Sig := ⟨[6], [.ty .bool], [.one false [.ptr 1 0 0, .hs 3 0, .ptr 4 0 0, .ty (.int .i64)], .one false [.hs 8 0], .row (.int .u8), .row jaq, .one false [.hs 5 0], .row (.int .u8), .one false [.ty .str, .ty .str, .ty (.int .i64), .hs 7 0], .row jaq, .row (.int .u8)]⟩
def s_z34_r2 : Sig := ⟨[6], [.ty .bool], [.one false [.ptr 1 0 0, .hs 3 0, .ptr 4 0 0, .ty (.int .i64)], .one false [.hs 2 0], .row (.int .u8), .row jaq, .one false [.hs 5 0], .row (.int .u8), .one false [.ty .str, .ty .str, .ty (.int .i64), .hs 8 0], .row jaq, .row jaq]⟩
def p_z34 : Pol := ⟨fun i => none, fun i => none, some [(6, .keep)], [.keep], []⟩
def jGU : List EK := [.ptr 0 0 0, .ptr 6 0 0, .agg ActT]
def jEJ : List HK := [.one false [.ptr 1 0 0, .hs 3 0, .ptr 4 0 0, .ty (.int .i64)], .one false [.hs 2 0], .row (.int .u8), .row jaq, .one false [.hs 5 0], .row (.int .u8), .one false [.ty .str, .ty .str, .ty (.int .i64), .hs 7 0], .row jaq]
noncomputable def jze : CallF := mkCF [(20, c_z1a), (38, c_z2n), (39, c_z1f), (40, c_z2o), (12, jLI), (41, c_z2s), (13, jLK), (42, c_z2u), (23, c_z1r), (43, c_z2v), (44, c_z2z), (45, c_z33)] []
noncomputable def jPk (n : Nat) : jaF := fun i =>  none
theorem m_z34 (n : Nat) (a : EK.sems jGU) (b : HK.sems jEJ) : jaH PP jze p_z34 (jPk n) Tryz.f15 (jae Tryz.f15) (EK.encs jGU a) (HK.encs jEJ b) = jie n a.2.2.1 b.1.2.1 b.1.2.2.2.1 b.2.1.1 b.2.2.1 b.2.2.2.1 b.2.2.2.2.1.1 b.2.2.2.2.2.1 b.2.2.2.2.2.2.1.1 b.2.2.2.2.2.2.1.2.1 b.2.2.2.2.2.2.1.2.2.1 b.2.2.2.2.2.2.1.2.2.2.1 b.2.2.2.2.2.2.2.1 := by kernel_rfl
theorem g_z34 (n : Nat) (a : EK.sems jGU) (b : HK.sems jEJ) {r : Res} (h : jie n a.2.2.1 b.1.2.1 b.1.2.2.2.1 b.2.1.1 b.2.2.1 b.2.2.2.1 b.2.2.2.2.1.1 b.2.2.2.2.2.1 b.2.2.2.2.2.2.1.1 b.2.2.2.2.2.2.1.2.1 b.2.2.2.2.2.2.1.2.2.1 b.2.2.2.2.2.2.1.2.2.2.1 b.2.2.2.2.2.2.2.1 = some r) : runF PP jze n p_z34 15 (EK.encs jGU a) (HK.encs jEJ b) = some r :=
  jaf PP Tryz.func15 (show Tryz.f15.body = some (jae Tryz.f15) from rfl) (show (3 : Nat) ≤ 127 by decide) (show LOk PP jze _ 8 n _ (jPk n) _ from ⟨tT, ⟨tT, tT, ⟨tT, tT, tT, tT, tT, tT⟩, tT, ⟨tT, tT⟩, tT, ⟨tT, tT⟩, tT, ⟨tT, tT⟩, tT⟩, tT, tT⟩) ((m_z34 n a b).trans h) rfl (by kernel_rfl)
noncomputable def c_z34 : Spec := jfl jGU jEJ fun a b => (jdZ jcG jcI (jur a.2.2.1 b.1.2.1 b.1.2.2.2.1 b.2.1.1 b.2.2.1 b.2.2.2.1 b.2.2.2.2.1.1 b.2.2.2.2.2.1 b.2.2.2.2.2.2.1.1 b.2.2.2.2.2.2.1.2.1 b.2.2.2.2.2.2.1.2.2.1 b.2.2.2.2.2.2.1.2.2.2.1 b.2.2.2.2.2.2.2.1) (jdZ jgg jeT (jjt a.2.2.1 b.1.2.1 b.1.2.2.2.1 b.2.1.1 b.2.2.1 b.2.2.2.1 b.2.2.2.2.1.1 b.2.2.2.2.2.1 b.2.2.2.2.2.2.1.1 b.2.2.2.2.2.2.1.2.1 b.2.2.2.2.2.2.1.2.2.1 b.2.2.2.2.2.2.1.2.2.2.1 b.2.2.2.2.2.2.2.1) (jdZ jgf jeq (jrc a.2.2.1 b.1.2.1 b.1.2.2.2.1 b.2.1.1 b.2.2.1 b.2.2.2.1 b.2.2.2.2.1.1 b.2.2.2.2.2.1 b.2.2.2.2.2.2.1.1 b.2.2.2.2.2.2.1.2.1 b.2.2.2.2.2.2.1.2.2.1 b.2.2.2.2.2.2.1.2.2.2.1 b.2.2.2.2.2.2.2.1) .no)))
theorem k_z34 (hm : Tryz.prog.follows .mixedOrders = true) : jar PP 15 c_z34 := jbZ (pol := p_z34) hm (cf := jze) (jav (jab (k_z1a hm) (jab (k_z2n hm) (jab (k_z1f hm) (jab (k_z2o hm) (jab (k_z2h hm) (jab (k_z2s hm) (jab (k_z1k hm) (jab (k_z2u hm) (jab (k_z1r hm) (jab (k_z2v hm) (jab (k_z2z hm) (jab (k_z33 hm) jah))))))))))))) fun a b r => (fun h => (jaX h).elim (fun ⟨x, hx, e⟩ => ⟨FUEL, e ▸ g_z34 FUEL a b (jad hx)⟩) (fun h => (jaX h).elim (fun ⟨x, hx, e⟩ => ⟨FUEL, e ▸ g_z34 FUEL a b (jad hx)⟩) (fun h => (jaX h).elim (fun ⟨x, hx, e⟩ => ⟨FUEL, e ▸ g_z34 FUEL a b (jad hx)⟩) (fun h => by cases h))))
def juR : Sig := ⟨[8], [.ty .bool], []⟩
def jcZ : Sig := ⟨[3, 9, 11, 17], [.ty (.slice ActT), .ptr 0 0 0, .ptr 6 0 0, .ty (.int .i64)], [.one false [.ptr 1 0 0, .hs 3 0, .ptr 4 0 0, .ty (.int .i64)], .one false [.hs 2 0], .row (.int .u8), .row jaq, .one false [.hs 5 0], .row (.int .u8), .one false [.ty .str, .ty .str, .ty (.int .i64), .hs 7 0], .row jaq]⟩
def joT : Sig := ⟨[], [], []⟩
def jnh : Pol := ⟨fun i => if i = 0 then some [(3, .keep), (9, .keep), (11, .keep), (17, .keep)] else none, fun i => if i = 0 then some [] else none, some [(8, .keep)], [.keep], []⟩
def jGT : List EK := [.ty (.int .i64), .ty .str, .ty (.slice jay), .ty (.slice ActT)]
def jEI : List HK := []
noncomputable def jmt : CallF := { (mkCF [(5, c_z1s), (4, c_z1t), (6, c_z01), (7, c_z1u), (8, (jon c_z0y c_z2i)), (9, c_z28), (10, c_z2b), (11, c_z2d), (12, jLI), (13, jLK), (14, c_z2j), (15, c_z34)] [(5, []), (4, [(.slice jay)]), (6, [(.int .i64), .str]), (7, [(.int .i64), .str])]) with mix := jLr [(8, [none, some ((.slice jay))]), (9, [none, some ((.slice jay))])] }
noncomputable def jtv (n : Nat) : jaF := fun i => if i = 0 then some (jaz 0 (jnh.head 0) jcZ fun K v => jjx n (fun z0 => K .rt (juR.enc ((z0, ()), ()))) (fun _ => K (.ex 0) (joT.enc ((), ()))) v.1.1 n v.1.2.2.2.1 v.2.1.2.1 v.2.1.2.2.2.1 v.2.2.1.1 v.2.2.2.1 v.2.2.2.2.1 v.2.2.2.2.2.1.1 v.2.2.2.2.2.2.1 v.2.2.2.2.2.2.2.1.1 v.2.2.2.2.2.2.2.1.2.1 v.2.2.2.2.2.2.2.1.2.2.1 v.2.2.2.2.2.2.2.1.2.2.2.1 v.2.2.2.2.2.2.2.2.1)
  else  none
noncomputable def jvH : Code := jaR (jae Tryz.f3) [1, 1, 1, 1, 1, 1, 1, 1, 1, 0, 1, 0, 0]
noncomputable def jhj (n : Nat) (K : Cont) (rec : Sig.sem jcZ → Option Res) (v : Sig.sem jcZ) : Option Res := jrs n (fun z0 => K .rt (juR.enc ((z0, ()), ()))) (fun _ => K (.ex 0) (joT.enc ((), ()))) v.1.1 (fun z1 z2 z3 z4 z5 z6 z7 z8 z9 z10 z11 z12 z13 => rec ((v.1.1, ((), ((), (z1, ())))), (((), (z2, ((), (z3, ())))), ((z4, ()), (z5, (z6, ((z7, ()), (z8, ((z9, (z10, (z11, (z12, ())))), (z13, ())))))))))) v.1.2.2.2.1 v.2.1.2.1 v.2.1.2.2.2.1 v.2.2.1.1 v.2.2.2.1 v.2.2.2.2.1 v.2.2.2.2.2.1.1 v.2.2.2.2.2.2.1 v.2.2.2.2.2.2.2.1.1 v.2.2.2.2.2.2.2.1.2.1 v.2.2.2.2.2.2.2.1.2.2.1 v.2.2.2.2.2.2.2.1.2.2.2.1 v.2.2.2.2.2.2.2.2.1
theorem t_z35_0 (n : Nat) (K : Cont) (rec : Sig.sem jcZ → Option Res) (v : Sig.sem jcZ) : runT PP jmt Tryz.f3.ntmps 0 jnh (jtv n) jvH (jcZ.enc v) (jbp 0 (jnh.head 0) jcZ rec K) = jhj n K rec v := by kernel_rfl
noncomputable def jqh (n : Nat) (K : Cont) (m : Nat) (v : Sig.sem jcZ) : Option Res := jjx n (fun z0 => K .rt (juR.enc ((z0, ()), ()))) (fun _ => K (.ex 0) (joT.enc ((), ()))) v.1.1 m v.1.2.2.2.1 v.2.1.2.1 v.2.1.2.2.2.1 v.2.2.1.1 v.2.2.2.1 v.2.2.2.2.1 v.2.2.2.2.2.1.1 v.2.2.2.2.2.2.1 v.2.2.2.2.2.2.2.1.1 v.2.2.2.2.2.2.2.1.2.1 v.2.2.2.2.2.2.2.1.2.2.1 v.2.2.2.2.2.2.2.1.2.2.2.1 v.2.2.2.2.2.2.2.2.1
theorem i_z35_0 (n : Nat) (K : Cont) : ∀ m v, iter (jhj n K) m v = jqh n K m v := by
  intro m
  induction m with
  | zero => intro v; rfl
  | succ m ih =>
    intro v
    show jhj n K (iter (jhj n K) m) v = jhj n K (jqh n K m) v
    rw [show iter (jhj n K) m = jqh n K m from funext ih]
theorem o_z35_0 (n : Nat) : ∀ L, jtv n 0 = some L → ∀ s K r, L s K = some r → ∃ x s', jbj (run PP jmt Tryz.f3.ntmps 0 n jnh none jvH) (gc 0 (jnh.head 0)) n s = some (x, s') ∧ K x s' = some r := by
  intro L hL s K r h
  have hL : some (jaz 0 (jnh.head 0) jcZ fun K v => jqh n K n v) = some L := hL
  cases hL
  have hb : LOk PP jmt Tryz.f3.ntmps 0 n jnh (jtv n) jvH := ⟨⟨tT, tT, tT⟩, ⟨⟨tT, ⟨tT, tT, tT, tT, tT, tT⟩, tT, ⟨tT, tT⟩, tT⟩, tT, ⟨tT, tT⟩, tT⟩, tT⟩
  refine jaE hb (jhj n) (t_z35_0 n) n s K r ?_
  rw [← h]
  unfold jaz
  simp only [i_z35_0]
theorem m_z35 (n : Nat) (a : EK.sems jGT) (b : HK.sems jEI) : jaH PP jmt jnh (jtv n) Tryz.f3 (jae Tryz.f3) (EK.encs jGT a) (HK.encs jEI b) = jNu n a.1 a.2.1 a.2.2.1 a.2.2.2.1 := by kernel_rfl
theorem g_z35 (n : Nat) (a : EK.sems jGT) (b : HK.sems jEI) {r : Res} (h : jNu n a.1 a.2.1 a.2.2.1 a.2.2.2.1 = some r) : runF PP jmt n jnh 3 (EK.encs jGT a) (HK.encs jEI b) = some r :=
  jaf PP Tryz.func3 (show Tryz.f3.body = some (jae Tryz.f3) from rfl) (show (4 : Nat) ≤ 122 by decide) (show LOk PP jmt _ 0 n _ (jtv n) _ from ⟨tT, ⟨tT, ⟨tT, tT⟩, tT⟩, tT, tT, ⟨tT, ⟨tT, tT⟩, tT⟩, ⟨tT, ⟨tT, tT⟩, tT⟩, tT, tT, ⟨tT, ⟨tT, tT⟩, tT⟩, ⟨tT, (o_z35_0 n)⟩, tT, tT⟩) ((m_z35 n a b).trans h) rfl (by kernel_rfl)
noncomputable def c_z35 : Spec := jaG jGT jEI jcF jcH fun a b => jJy a.1 a.2.1 a.2.2.1 a.2.2.2.1
theorem k_z35 (hm : Tryz.prog.follows .mixedOrders = true) : jar PP 3 c_z35 := jaj (pol := jnh) hm (cf := jmt) (CallSound.mix <| jav (jab (k_z1s hm) (jab (k_z1t hm) (jab (k_z01 hm) (jab (k_z1u hm) (jab (jiH (k_z0y hm) (k_z2i hm)) (jab (k_z28 hm) (jab (k_z2b hm) (jab (k_z2d hm) (jab (k_z2h hm) (jab (k_z1k hm) (jab (k_z2j hm) (jab (k_z34 hm) jah))))))))))))) fun a b r h => ⟨FUEL, g_z35 FUEL a b (jad h)⟩
end Go.AMach
