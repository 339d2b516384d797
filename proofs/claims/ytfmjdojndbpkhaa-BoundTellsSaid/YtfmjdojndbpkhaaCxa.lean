/- A part of the walk. -/
import Derived.Test.YtfmjdojndbpkhaaDx
import Derived.Test.YtfmjdojndbpkhaaProg
import Derived.Test.YtfmjdojndbpkhaaHd
import Derived.Test.YtfmjdojndbpkhaaAm23
namespace Go.AMach
set_option linter.unusedVariables false
set_option linter.unusedSimpArgs false
set_option linter.unnecessarySimpa false
open Go Go.Proofs
noncomputable abbrev PP : Program := Try.prog
set_option linter.unusedVariables false
def s_z00_r : Sig := ⟨[2], [.ty .bool], []⟩
def jeI : Sig := ⟨[1, 3, 4], [.ptr 0 0 0, .ty (.int .i64), .ty (.int .i64)], [.cell jag]⟩
def jqY : Sig := ⟨[1, 3], [.ptr 0 0 0, .ty (.int .i64)], [.cell jag]⟩
def jeH : Sig := ⟨[1, 3, 5], [.ptr 0 0 0, .ty (.int .i64), .ty (.int .i64)], [.cell jag]⟩
def jqX : Sig := ⟨[1, 3], [.ptr 0 0 0, .ty (.int .i64)], [.cell jag]⟩
def jeG : Sig := ⟨[1, 3, 6], [.ptr 0 0 0, .ty (.int .i64), .ty (.int .i64)], [.cell jag]⟩
def jqW : Sig := ⟨[3], [.ty (.int .i64)], []⟩
def jdr : Pol := ⟨fun i => if i = 0 then some [(1, (.own jag)), (3, .keep), (4, .keep)] else if i = 2 then some [(1, (.own jag)), (3, .keep), (5, .keep)] else if i = 4 then some [(1, (.own jag)), (3, .keep), (6, .keep)] else none, fun i => if i = 0 then some [(1, (.own jag)), (3, .keep)] else if i = 2 then some [(1, (.own jag)), (3, .keep)] else if i = 4 then some [(3, .keep)] else none, some [(2, .keep)], [.keep], []⟩
def e_z00 : List EK := [.agg jag]
def h_z00 : List HK := []
noncomputable def jfO : CallF := mkCF [] []
noncomputable def jgG (n : Nat) : jbk := fun i => if i = 0 then some (jav 0 (jdr.head 0) jeI fun K v => jjy n (fun z0 => K (.ex 0) (jqY.enc (((), (z0, ())), (v.2.1, ())))) v.2.1 n v.1.2.1 v.1.2.2.1)
  else if i = 2 then some (jav 0 (jdr.head 2) jeH fun K v => jjx n (fun z0 => K (.ex 2) (jqX.enc (((), (z0, ())), (v.2.1, ())))) v.2.1 n v.1.2.1 v.1.2.2.1)
  else if i = 4 then some (jav 0 (jdr.head 4) jeG fun K v => jjw n (fun z0 => K (.ex 4) (jqW.enc ((z0, ()), ()))) v.2.1 n v.1.2.1 v.1.2.2.1)
  else  none
noncomputable def jxP : Code := jaN (jad Try.f10) [1, 1, 1, 0, 1, 0, 0]
noncomputable def jjo (n : Nat) (K : Cont) (rec : Sig.sem jeI → Option Res) (v : Sig.sem jeI) : Option Res := jtB n (fun z0 => K (.ex 0) (jqY.enc (((), (z0, ())), (v.2.1, ())))) v.2.1 (fun z0 z1 => rec (((), (z0, (z1, ()))), (v.2.1, ()))) v.1.2.1 v.1.2.2.1
theorem t_z00_0 (n : Nat) (K : Cont) (rec : Sig.sem jeI → Option Res) (v : Sig.sem jeI) : runT PP jfO Try.f10.ntmps 0 jdr (jgG n) jxP (jeI.enc v) (jbq 0 (jdr.head 0) jeI rec K) = jjo n K rec v := by kernel_rfl
noncomputable def jsB (n : Nat) (K : Cont) (m : Nat) (v : Sig.sem jeI) : Option Res := jjy n (fun z0 => K (.ex 0) (jqY.enc (((), (z0, ())), (v.2.1, ())))) v.2.1 m v.1.2.1 v.1.2.2.1
theorem i_z00_0 (n : Nat) (K : Cont) : ∀ m v, iter (jjo n K) m v = jsB n K m v := by
  intro m
  induction m with
  | zero => intro v; rfl
  | succ m ih =>
    intro v
    show jjo n K (iter (jjo n K) m) v = jjo n K (jsB n K m) v
    rw [show iter (jjo n K) m = jsB n K m from funext ih]
theorem o_z00_0 (n : Nat) : ∀ L, jgG n 0 = some L → ∀ s K r, L s K = some r → ∃ x s', jbj (run PP jfO Try.f10.ntmps 0 n jdr none jxP) (gc 0 (jdr.head 0)) n s = some (x, s') ∧ K x s' = some r := by
  intro L hL s K r h
  have hL : some (jav 0 (jdr.head 0) jeI fun K v => jsB n K n v) = some L := hL
  cases hL
  have hb : LOk PP jfO Try.f10.ntmps 0 n jdr (jgG n) jxP := ⟨⟨trivial, ⟨trivial, trivial⟩⟩, ⟨trivial, trivial⟩⟩
  refine jaB hb (jjo n) (t_z00_0 n) n s K r ?_
  rw [← h]
  unfold jav
  simp only [i_z00_0]
noncomputable def jxO : Code := jaN (jad Try.f10) [1, 1, 1, 1, 0, 1, 0, 0]
noncomputable def jjn (n : Nat) (K : Cont) (rec : Sig.sem jeH → Option Res) (v : Sig.sem jeH) : Option Res := jtA n (fun z0 => K (.ex 2) (jqX.enc (((), (z0, ())), (v.2.1, ())))) v.2.1 (fun z0 z1 => rec (((), (z0, (z1, ()))), (v.2.1, ()))) v.1.2.1 v.1.2.2.1
theorem t_z00_2 (n : Nat) (K : Cont) (rec : Sig.sem jeH → Option Res) (v : Sig.sem jeH) : runT PP jfO Try.f10.ntmps 0 jdr (jgG n) jxO (jeH.enc v) (jbq 0 (jdr.head 2) jeH rec K) = jjn n K rec v := by kernel_rfl
noncomputable def jsA (n : Nat) (K : Cont) (m : Nat) (v : Sig.sem jeH) : Option Res := jjx n (fun z0 => K (.ex 2) (jqX.enc (((), (z0, ())), (v.2.1, ())))) v.2.1 m v.1.2.1 v.1.2.2.1
theorem i_z00_2 (n : Nat) (K : Cont) : ∀ m v, iter (jjn n K) m v = jsA n K m v := by
  intro m
  induction m with
  | zero => intro v; rfl
  | succ m ih =>
    intro v
    show jjn n K (iter (jjn n K) m) v = jjn n K (jsA n K m) v
    rw [show iter (jjn n K) m = jsA n K m from funext ih]
theorem o_z00_2 (n : Nat) : ∀ L, jgG n 2 = some L → ∀ s K r, L s K = some r → ∃ x s', jbj (run PP jfO Try.f10.ntmps 0 n jdr none jxO) (gc 0 (jdr.head 2)) n s = some (x, s') ∧ K x s' = some r := by
  intro L hL s K r h
  have hL : some (jav 0 (jdr.head 2) jeH fun K v => jsA n K n v) = some L := hL
  cases hL
  have hb : LOk PP jfO Try.f10.ntmps 0 n jdr (jgG n) jxO := ⟨⟨trivial, ⟨trivial, trivial⟩⟩, ⟨trivial, trivial⟩⟩
  refine jaB hb (jjn n) (t_z00_2 n) n s K r ?_
  rw [← h]
  unfold jav
  simp only [i_z00_2]
noncomputable def jxN : Code := jaN (jad Try.f10) [1, 1, 1, 1, 1, 0, 1, 0, 0]
noncomputable def jjm (n : Nat) (K : Cont) (rec : Sig.sem jeG → Option Res) (v : Sig.sem jeG) : Option Res := jtz n (fun z0 => K (.ex 4) (jqW.enc ((z0, ()), ()))) v.2.1 (fun z0 z1 => rec (((), (z0, (z1, ()))), (v.2.1, ()))) v.1.2.1 v.1.2.2.1
theorem t_z00_4 (n : Nat) (K : Cont) (rec : Sig.sem jeG → Option Res) (v : Sig.sem jeG) : runT PP jfO Try.f10.ntmps 0 jdr (jgG n) jxN (jeG.enc v) (jbq 0 (jdr.head 4) jeG rec K) = jjm n K rec v := by kernel_rfl
noncomputable def jsz (n : Nat) (K : Cont) (m : Nat) (v : Sig.sem jeG) : Option Res := jjw n (fun z0 => K (.ex 4) (jqW.enc ((z0, ()), ()))) v.2.1 m v.1.2.1 v.1.2.2.1
theorem i_z00_4 (n : Nat) (K : Cont) : ∀ m v, iter (jjm n K) m v = jsz n K m v := by
  intro m
  induction m with
  | zero => intro v; rfl
  | succ m ih =>
    intro v
    show jjm n K (iter (jjm n K) m) v = jjm n K (jsz n K m) v
    rw [show iter (jjm n K) m = jsz n K m from funext ih]
theorem o_z00_4 (n : Nat) : ∀ L, jgG n 4 = some L → ∀ s K r, L s K = some r → ∃ x s', jbj (run PP jfO Try.f10.ntmps 0 n jdr none jxN) (gc 0 (jdr.head 4)) n s = some (x, s') ∧ K x s' = some r := by
  intro L hL s K r h
  have hL : some (jav 0 (jdr.head 4) jeG fun K v => jsz n K n v) = some L := hL
  cases hL
  have hb : LOk PP jfO Try.f10.ntmps 0 n jdr (jgG n) jxN := ⟨⟨trivial, ⟨trivial, trivial⟩⟩, ⟨trivial, trivial⟩⟩
  refine jaB hb (jjm n) (t_z00_4 n) n s K r ?_
  rw [← h]
  unfold jav
  simp only [i_z00_4]
theorem m_z00 (n : Nat) (a0 : jaa) : jbx PP jfO jdr (jgG n) Try.f10 (jad Try.f10) (EK.encs e_z00 ((a0, ()), ()).1) (HK.encs h_z00 ((a0, ()), ()).2) = jFK n a0 := by kernel_rfl
theorem g_z00 (n : Nat) (a0 : jaa) {r : Res} (h : jFK n a0 = some r) : runF PP jfO n jdr 10 (EK.encs e_z00 ((a0, ()), ()).1) (HK.encs h_z00 ((a0, ()), ()).2) = some r := by
  have hb : LOk PP jfO Try.f10.ntmps 0 n jdr (jgG n) (jad Try.f10) := ⟨trivial, ⟨trivial, ⟨⟨trivial, ⟨⟨trivial, trivial⟩, trivial⟩⟩, ⟨⟨trivial, (o_z00_0 n)⟩, ⟨⟨trivial, (o_z00_2 n)⟩, ⟨⟨trivial, (o_z00_4 n)⟩, ⟨trivial, trivial⟩⟩⟩⟩⟩⟩⟩
  exact jas PP (c := jad Try.f10) Try.func10 (show Try.f10.body = some (jad Try.f10) from rfl) (show (1 : Nat) ≤ 93 by decide) hb ((m_z00 n a0).trans h) rfl (by kernel_rfl)
noncomputable def jEc : Spec := jbe e_z00 h_z00 joW jpk fun a b => jET a.1
theorem k_z00 (hm : Try.prog.follows .mixedOrders = true) : jaJ PP 10 jEc := jaC (pol := jdr) hm (cf := jfO) (jaX jay) fun a b r h => ⟨FUEL, g_z00 FUEL a.1 (jar h)⟩
def jeF : Sig := ⟨[0, 3, 4], [.ty (.slice (.int .u8)), .hs 0 0, .ty (.int .i64)], [.row jaV]⟩
def jqV : Sig := ⟨[3], [.hs 0 0], [.row jaV]⟩
def s_z01_r : Sig := ⟨[2], [.hs 0 0], [.row jaV]⟩
def jnA : Pol := ⟨fun i => if i = 0 then some [(0, .keep), (3, (.own jaV)), (4, .keep)] else none, fun i => if i = 0 then some [(3, (.own jaV))] else none, some [(2, (.own jaV))], [(.own jaV)], []⟩
def e_z01 : List EK := [.ty (.slice (.int .u8))]
def h_z01 : List HK := []
noncomputable def joh : CallF := mkCF [] []
noncomputable def jvb (n : Nat) : jbk := fun i => if i = 0 then some (jav 0 (jnA.head 0) jeF fun K v => jsE n (fun z0 z1 => K (.ex 0) (jqV.enc ((z0, ()), (z1, ())))) v.1.1 n v.1.2.1 v.1.2.2.1 v.2.1)
  else  none
noncomputable def jxM : Code := jaN (jad Try.f22) [1, 1, 0, 1, 0, 0]
noncomputable def jjl (n : Nat) (K : Cont) (rec : Sig.sem jeF → Option Res) (v : Sig.sem jeF) : Option Res := jCJ n (fun z0 z1 => K (.ex 0) (jqV.enc ((z0, ()), (z1, ())))) v.1.1 (fun z1 z2 z3 => rec ((v.1.1, (z1, (z2, ()))), (z3, ()))) v.1.2.1 v.1.2.2.1 v.2.1
theorem t_z01_0 (n : Nat) (K : Cont) (rec : Sig.sem jeF → Option Res) (v : Sig.sem jeF) : runT PP joh Try.f22.ntmps 0 jnA (jvb n) jxM (jeF.enc v) (jbq 0 (jnA.head 0) jeF rec K) = jjl n K rec v := by kernel_rfl
noncomputable def jsy (n : Nat) (K : Cont) (m : Nat) (v : Sig.sem jeF) : Option Res := jsE n (fun z0 z1 => K (.ex 0) (jqV.enc ((z0, ()), (z1, ())))) v.1.1 m v.1.2.1 v.1.2.2.1 v.2.1
theorem i_z01_0 (n : Nat) (K : Cont) : ∀ m v, iter (jjl n K) m v = jsy n K m v := by
  intro m
  induction m with
  | zero => intro v; rfl
  | succ m ih =>
    intro v
    show jjl n K (iter (jjl n K) m) v = jjl n K (jsy n K m) v
    rw [show iter (jjl n K) m = jsy n K m from funext ih]
theorem o_z01_0 (n : Nat) : ∀ L, jvb n 0 = some L → ∀ s K r, L s K = some r → ∃ x s', jbj (run PP joh Try.f22.ntmps 0 n jnA none jxM) (gc 0 (jnA.head 0)) n s = some (x, s') ∧ K x s' = some r := by
  intro L hL s K r h
  have hL : some (jav 0 (jnA.head 0) jeF fun K v => jsy n K n v) = some L := hL
  cases hL
  have hb : LOk PP joh Try.f22.ntmps 0 n jnA (jvb n) jxM := ⟨⟨trivial, ⟨trivial, trivial⟩⟩, ⟨⟨trivial, ⟨⟨trivial, ⟨trivial, trivial⟩⟩, trivial⟩⟩, trivial⟩⟩
  refine jaB hb (jjl n) (t_z01_0 n) n s K r ?_
  rw [← h]
  unfold jav
  simp only [i_z01_0]
theorem m_z01 (n : Nat) (a0 : (List Int)) : jbx PP joh jnA (jvb n) Try.f22 (jad Try.f22) (EK.encs e_z01 ((a0, ()), ()).1) (HK.encs h_z01 ((a0, ()), ()).2) = M_z01 n a0 := by kernel_rfl
theorem g_z01 (n : Nat) (a0 : (List Int)) {r : Res} (h : M_z01 n a0 = some r) : runF PP joh n jnA 22 (EK.encs e_z01 ((a0, ()), ()).1) (HK.encs h_z01 ((a0, ()), ()).2) = some r := by
  have hb : LOk PP joh Try.f22.ntmps 0 n jnA (jvb n) (jad Try.f22) := ⟨trivial, ⟨trivial, ⟨⟨trivial, (o_z01_0 n)⟩, ⟨trivial, trivial⟩⟩⟩⟩
  exact jas PP (c := jad Try.f22) Try.func22 (show Try.f22.body = some (jad Try.f22) from rfl) (show (1 : Nat) ≤ 42 by decide) hb ((m_z01 n a0).trans h) rfl (by kernel_rfl)
noncomputable def c_z01 : Spec := jbe e_z01 h_z01 jud jut fun a b => Q_z01 a.1
theorem k_z01 (hm : Try.prog.follows .mixedOrders = true) : jaJ PP 22 c_z01 := jaC (pol := jnA) hm (cf := joh) (jaX jay) fun a b r h => ⟨FUEL, g_z01 FUEL a.1 (jar h)⟩
noncomputable def c_z02 : Spec := jbe [.agg jag] [] juc jlL fun a b => jvz a.1
theorem k_z02 (hm : Try.prog.follows .mixedOrders = true) : jaJ PP 30 c_z02 := H24.solve_ok hm
def jAn : List EK := [.agg ObjT, .ptr 0 0 0, .ptr 2 0 0, .ptr 7 0 0]
def jAi : List HK := [.one false [.mp 1], .mf ObjT (.int .i64), .one false [.ptr 3 0 0], .one false [.mp 4, .mp 5, .mp 6, .ty (.slice ObjT)], .mf (.int .i64) (.slice (.int .i64)), .mf (.int .i64) (.slice jaV), .mf (.int .i64) jaW, .one false [.fn 42 [(0, 0, 0), (2, 0, 0), (7, 0, 0)]]]
def jeD : Sig := ⟨[5, 42, 43, 44], [.hs 4 0, .ty (.slice (.int .i64)), .ty (.int .i64), .ty (.int .i64)], [.one false [.mp 1, .mp 2, .mp 3, .ty (.slice ObjT)], .mf (.int .i64) (.slice (.int .i64)), .mf (.int .i64) (.slice jaV), .mf (.int .i64) jaW, .row ObjT]⟩
def jqT : Sig := ⟨[5], [.hs 4 0], [.one false [.mp 1, .mp 2, .mp 3, .ty (.slice ObjT)], .mf (.int .i64) (.slice (.int .i64)), .mf (.int .i64) (.slice jaV), .mf (.int .i64) jaW, .row ObjT]⟩
def s_z03_r : Sig := ⟨[4], [.hs 4 0], [.one false [.mp 1, .mp 2, .mp 3, .ty (.slice ObjT)], .mf (.int .i64) (.slice (.int .i64)), .mf (.int .i64) (.slice jaV), .mf (.int .i64) jaW, .row ObjT]⟩
def jeC : Sig := ⟨[5, 62, 63, 64], [.hs 4 0, .ty (.slice jaV), .ty (.int .i64), .ty (.int .i64)], [.one false [.mp 1, .mp 2, .mp 3, .ty (.slice ObjT)], .mf (.int .i64) (.slice (.int .i64)), .mf (.int .i64) (.slice jaV), .mf (.int .i64) jaW, .row ObjT]⟩
def jqS : Sig := ⟨[5], [.hs 4 0], [.one false [.mp 1, .mp 2, .mp 3, .ty (.slice ObjT)], .mf (.int .i64) (.slice (.int .i64)), .mf (.int .i64) (.slice jaV), .mf (.int .i64) jaW, .row ObjT]⟩
def jeE : Sig := ⟨[5, 21, 22, 23], [.hs 4 0, .ty (.slice jou), .ty (.int .i64), .ty (.int .i64)], [.one false [.mp 1, .mp 2, .mp 3, .ty (.slice ObjT)], .mf (.int .i64) (.slice (.int .i64)), .mf (.int .i64) (.slice jaV), .mf (.int .i64) jaW, .row ObjT]⟩
def jqU : Sig := ⟨[5], [.hs 4 0], [.one false [.mp 1, .mp 2, .mp 3, .ty (.slice ObjT)], .mf (.int .i64) (.slice (.int .i64)), .mf (.int .i64) (.slice jaV), .mf (.int .i64) jaW, .row ObjT]⟩
def jdq : Pol := ⟨fun i => if i = 3 then some [(5, (.own ObjT)), (42, .keep), (43, .keep), (44, .keep)] else if i = 5 then some [(5, (.own ObjT)), (62, .keep), (63, .keep), (64, .keep)] else if i = 1 then some [(5, (.own ObjT)), (21, .keep), (22, .keep), (23, .keep)] else none, fun i => if i = 3 then some [(5, (.own ObjT))] else if i = 5 then some [(5, (.own ObjT))] else if i = 1 then some [(5, (.own ObjT))] else none, some [(4, (.own ObjT))], [(.own ObjT)], []⟩
def e_z03 : List EK := [.ptr 0 0 0, .agg ObjT]
def h_z03 : List HK := [.one false [.mp 1, .mp 2, .mp 3, .ty (.slice ObjT)], .mf (.int .i64) (.slice (.int .i64)), .mf (.int .i64) (.slice jaV), .mf (.int .i64) jaW]
noncomputable def jfN : CallF := mkCF [] []
noncomputable def jgF (n : Nat) : jbk := fun i => if i = 3 then some (jav 4 (jdq.head 3) jeD fun K v => jlD n (fun z0 z5 => K (.ex 3) (jqT.enc ((z0, ()), (((), ((), ((), (v.2.1.2.2.2.1, ())))), (v.2.2.1, (v.2.2.2.1, (v.2.2.2.2.1, (z5, ())))))))) v.1.2.1 v.1.2.2.1 n v.1.1 v.1.2.2.2.1 v.2.2.2.2.2.1)
  else if i = 5 then some (jav 4 (jdq.head 5) jeC fun K v => jlC n (fun z0 z5 => K (.ex 5) (jqS.enc ((z0, ()), (((), ((), ((), (v.2.1.2.2.2.1, ())))), (v.2.2.1, (v.2.2.2.1, (v.2.2.2.2.1, (z5, ())))))))) v.1.2.1 v.1.2.2.1 n v.1.1 v.1.2.2.2.1 v.2.2.2.2.2.1)
  else if i = 1 then some (jav 4 (jdq.head 1) jeE fun K v => jlE n (fun z0 z5 => K (.ex 1) (jqU.enc ((z0, ()), (((), ((), ((), (v.2.1.2.2.2.1, ())))), (v.2.2.1, (v.2.2.2.1, (v.2.2.2.2.1, (z5, ())))))))) v.1.2.1 v.1.2.2.1 n v.1.1 v.1.2.2.2.1 v.2.2.2.2.2.1)
  else  none
noncomputable def jxK : Code := jaN (jad Try.f43) [1, 1, 0, 1, 0, 1, 0, 1, 0, 0]
noncomputable def jjj (n : Nat) (K : Cont) (rec : Sig.sem jeD → Option Res) (v : Sig.sem jeD) : Option Res := jtx n (fun z0 z5 => K (.ex 3) (jqT.enc ((z0, ()), (((), ((), ((), (v.2.1.2.2.2.1, ())))), (v.2.2.1, (v.2.2.2.1, (v.2.2.2.2.1, (z5, ())))))))) v.1.2.1 v.1.2.2.1 (fun z0 z3 z8 => rec ((z0, (v.1.2.1, (v.1.2.2.1, (z3, ())))), (((), ((), ((), (v.2.1.2.2.2.1, ())))), (v.2.2.1, (v.2.2.2.1, (v.2.2.2.2.1, (z8, ()))))))) v.1.1 v.1.2.2.2.1 v.2.2.2.2.2.1
theorem t_z03_3 (n : Nat) (K : Cont) (rec : Sig.sem jeD → Option Res) (v : Sig.sem jeD) : runT PP jfN Try.f43.ntmps 4 jdq (jgF n) jxK (jeD.enc v) (jbq 4 (jdq.head 3) jeD rec K) = jjj n K rec v := by kernel_rfl
noncomputable def jsw (n : Nat) (K : Cont) (m : Nat) (v : Sig.sem jeD) : Option Res := jlD n (fun z0 z5 => K (.ex 3) (jqT.enc ((z0, ()), (((), ((), ((), (v.2.1.2.2.2.1, ())))), (v.2.2.1, (v.2.2.2.1, (v.2.2.2.2.1, (z5, ())))))))) v.1.2.1 v.1.2.2.1 m v.1.1 v.1.2.2.2.1 v.2.2.2.2.2.1
theorem i_z03_3 (n : Nat) (K : Cont) : ∀ m v, iter (jjj n K) m v = jsw n K m v := by
  intro m
  induction m with
  | zero => intro v; rfl
  | succ m ih =>
    intro v
    show jjj n K (iter (jjj n K) m) v = jjj n K (jsw n K m) v
    rw [show iter (jjj n K) m = jsw n K m from funext ih]
theorem o_z03_3 (n : Nat) : ∀ L, jgF n 3 = some L → ∀ s K r, L s K = some r → ∃ x s', jbj (run PP jfN Try.f43.ntmps 4 n jdq none jxK) (gc 4 (jdq.head 3)) n s = some (x, s') ∧ K x s' = some r := by
  intro L hL s K r h
  have hL : some (jav 4 (jdq.head 3) jeD fun K v => jsw n K n v) = some L := hL
  cases hL
  have hb : LOk PP jfN Try.f43.ntmps 4 n jdq (jgF n) jxK := ⟨trivial, ⟨⟨trivial, trivial⟩, ⟨⟨trivial, trivial⟩, trivial⟩⟩⟩
  refine jaB hb (jjj n) (t_z03_3 n) n s K r ?_
  rw [← h]
  unfold jav
  simp only [i_z03_3]
noncomputable def jxJ : Code := jaN (jad Try.f43) [1, 1, 0, 1, 0, 1, 1, 1, 0, 1, 0, 0]
noncomputable def jji (n : Nat) (K : Cont) (rec : Sig.sem jeC → Option Res) (v : Sig.sem jeC) : Option Res := jtw n (fun z0 z5 => K (.ex 5) (jqS.enc ((z0, ()), (((), ((), ((), (v.2.1.2.2.2.1, ())))), (v.2.2.1, (v.2.2.2.1, (v.2.2.2.2.1, (z5, ())))))))) v.1.2.1 v.1.2.2.1 (fun z0 z3 z8 => rec ((z0, (v.1.2.1, (v.1.2.2.1, (z3, ())))), (((), ((), ((), (v.2.1.2.2.2.1, ())))), (v.2.2.1, (v.2.2.2.1, (v.2.2.2.2.1, (z8, ()))))))) v.1.1 v.1.2.2.2.1 v.2.2.2.2.2.1
theorem t_z03_5 (n : Nat) (K : Cont) (rec : Sig.sem jeC → Option Res) (v : Sig.sem jeC) : runT PP jfN Try.f43.ntmps 4 jdq (jgF n) jxJ (jeC.enc v) (jbq 4 (jdq.head 5) jeC rec K) = jji n K rec v := by kernel_rfl
noncomputable def jsv (n : Nat) (K : Cont) (m : Nat) (v : Sig.sem jeC) : Option Res := jlC n (fun z0 z5 => K (.ex 5) (jqS.enc ((z0, ()), (((), ((), ((), (v.2.1.2.2.2.1, ())))), (v.2.2.1, (v.2.2.2.1, (v.2.2.2.2.1, (z5, ())))))))) v.1.2.1 v.1.2.2.1 m v.1.1 v.1.2.2.2.1 v.2.2.2.2.2.1
theorem i_z03_5 (n : Nat) (K : Cont) : ∀ m v, iter (jji n K) m v = jsv n K m v := by
  intro m
  induction m with
  | zero => intro v; rfl
  | succ m ih =>
    intro v
    show jji n K (iter (jji n K) m) v = jji n K (jsv n K m) v
    rw [show iter (jji n K) m = jsv n K m from funext ih]
theorem o_z03_5 (n : Nat) : ∀ L, jgF n 5 = some L → ∀ s K r, L s K = some r → ∃ x s', jbj (run PP jfN Try.f43.ntmps 4 n jdq none jxJ) (gc 4 (jdq.head 5)) n s = some (x, s') ∧ K x s' = some r := by
  intro L hL s K r h
  have hL : some (jav 4 (jdq.head 5) jeC fun K v => jsv n K n v) = some L := hL
  cases hL
  have hb : LOk PP jfN Try.f43.ntmps 4 n jdq (jgF n) jxJ := ⟨trivial, ⟨⟨trivial, trivial⟩, ⟨⟨trivial, ⟨trivial, ⟨trivial, ⟨trivial, ⟨trivial, ⟨trivial, trivial⟩⟩⟩⟩⟩⟩, trivial⟩⟩⟩
  refine jaB hb (jji n) (t_z03_5 n) n s K r ?_
  rw [← h]
  unfold jav
  simp only [i_z03_5]
noncomputable def jxL : Code := jaN (jad Try.f43) [1, 1, 0, 1, 0, 1, 1, 1, 1, 1, 0, 0]
noncomputable def jjk (n : Nat) (K : Cont) (rec : Sig.sem jeE → Option Res) (v : Sig.sem jeE) : Option Res := jty n (fun z0 z5 => K (.ex 1) (jqU.enc ((z0, ()), (((), ((), ((), (v.2.1.2.2.2.1, ())))), (v.2.2.1, (v.2.2.2.1, (v.2.2.2.2.1, (z5, ())))))))) v.1.2.1 v.1.2.2.1 (fun z0 z3 z8 => rec ((z0, (v.1.2.1, (v.1.2.2.1, (z3, ())))), (((), ((), ((), (v.2.1.2.2.2.1, ())))), (v.2.2.1, (v.2.2.2.1, (v.2.2.2.2.1, (z8, ()))))))) v.1.1 v.1.2.2.2.1 v.2.2.2.2.2.1
theorem t_z03_1 (n : Nat) (K : Cont) (rec : Sig.sem jeE → Option Res) (v : Sig.sem jeE) : runT PP jfN Try.f43.ntmps 4 jdq (jgF n) jxL (jeE.enc v) (jbq 4 (jdq.head 1) jeE rec K) = jjk n K rec v := by kernel_rfl
noncomputable def jsx (n : Nat) (K : Cont) (m : Nat) (v : Sig.sem jeE) : Option Res := jlE n (fun z0 z5 => K (.ex 1) (jqU.enc ((z0, ()), (((), ((), ((), (v.2.1.2.2.2.1, ())))), (v.2.2.1, (v.2.2.2.1, (v.2.2.2.2.1, (z5, ())))))))) v.1.2.1 v.1.2.2.1 m v.1.1 v.1.2.2.2.1 v.2.2.2.2.2.1
theorem i_z03_1 (n : Nat) (K : Cont) : ∀ m v, iter (jjk n K) m v = jsx n K m v := by
  intro m
  induction m with
  | zero => intro v; rfl
  | succ m ih =>
    intro v
    show jjk n K (iter (jjk n K) m) v = jjk n K (jsx n K m) v
    rw [show iter (jjk n K) m = jsx n K m from funext ih]
theorem o_z03_1 (n : Nat) : ∀ L, jgF n 1 = some L → ∀ s K r, L s K = some r → ∃ x s', jbj (run PP jfN Try.f43.ntmps 4 n jdq none jxL) (gc 4 (jdq.head 1)) n s = some (x, s') ∧ K x s' = some r := by
  intro L hL s K r h
  have hL : some (jav 4 (jdq.head 1) jeE fun K v => jsx n K n v) = some L := hL
  cases hL
  have hb : LOk PP jfN Try.f43.ntmps 4 n jdq (jgF n) jxL := ⟨trivial, ⟨⟨trivial, trivial⟩, ⟨⟨trivial, trivial⟩, trivial⟩⟩⟩
  refine jaB hb (jjk n) (t_z03_1 n) n s K r ?_
  rw [← h]
  unfold jav
  simp only [i_z03_1]
theorem m_z03 (n : Nat) (a0 : ObjS) (a1 : (List ObjS)) (a2 : (Int → Option ((List Int)))) (a3 : (Int → Option ((List jaj)))) (a4 : (Int → Option (jal))) : jbx PP jfN jdq (jgF n) Try.f43 (jad Try.f43) (EK.encs e_z03 (((), (a0, ())), (((), ((), ((), (a1, ())))), (a2, (a3, (a4, ()))))).1) (HK.encs h_z03 (((), (a0, ())), (((), ((), ((), (a1, ())))), (a2, (a3, (a4, ()))))).2) = jFJ n a0 a1 a2 a3 a4 := by kernel_rfl
theorem g_z03 (n : Nat) (a0 : ObjS) (a1 : (List ObjS)) (a2 : (Int → Option ((List Int)))) (a3 : (Int → Option ((List jaj)))) (a4 : (Int → Option (jal))) {r : Res} (h : jFJ n a0 a1 a2 a3 a4 = some r) : runF PP jfN n jdq 43 (EK.encs e_z03 (((), (a0, ())), (((), ((), ((), (a1, ())))), (a2, (a3, (a4, ()))))).1) (HK.encs h_z03 (((), (a0, ())), (((), ((), ((), (a1, ())))), (a2, (a3, (a4, ()))))).2) = some r := by
  have hb : LOk PP jfN Try.f43.ntmps 4 n jdq (jgF n) (jad Try.f43) := ⟨trivial, ⟨trivial, ⟨⟨trivial, ⟨trivial, ⟨⟨trivial, (o_z03_3 n)⟩, ⟨trivial, ⟨⟨trivial, (o_z03_5 n)⟩, ⟨trivial, (o_z03_1 n)⟩⟩⟩⟩⟩⟩, ⟨trivial, trivial⟩⟩⟩⟩
  exact jas PP (c := jad Try.f43) Try.func43 (show Try.f43.body = some (jad Try.f43) from rfl) (show (2 : Nat) ≤ 88 by decide) hb ((m_z03 n a0 a1 a2 a3 a4).trans h) rfl (by kernel_rfl)
noncomputable def c_z03 : Spec := jbe e_z03 h_z03 jmT jna fun a b => jES a.2.1 b.1.2.2.2.1 b.2.1 b.2.2.1 b.2.2.2.1
theorem k_z03 (hm : Try.prog.follows .mixedOrders = true) : jaJ PP 43 c_z03 := jaC (pol := jdq) hm (cf := jfN) (jaX jay) fun a b r h => ⟨FUEL, g_z03 FUEL a.2.1 b.1.2.2.2.1 b.2.1 b.2.2.1 b.2.2.2.1 (jar h)⟩
def jwn : Sig := ⟨[5], [.ty .bool], [.one false [.mp 1], .mf ObjT (.int .i64), .one false [.ptr 3 0 0], .one false [.mp 4, .mp 5, .mp 6, .ty (.slice ObjT)], .mf (.int .i64) (.slice (.int .i64)), .mf (.int .i64) (.slice jaV), .mf (.int .i64) jaW, .one false [.fn 42 [(0, 0, 0), (2, 0, 0), (7, 0, 0)]]]⟩
def jeB : Sig := ⟨[1, 3, 4, 20, 21, 22], [.ptr 0 0 0, .ptr 7 0 0, .ptr 8 0 0, .hs 9 0, .ty (.int .i64), .ty (.int .i64)], [.one false [.mp 1], .mf ObjT (.int .i64), .one false [.ptr 3 0 0], .one false [.mp 4, .mp 5, .mp 6, .ty (.slice ObjT)], .mf (.int .i64) (.slice (.int .i64)), .mf (.int .i64) (.slice jaV), .mf (.int .i64) jaW, .one false [.fn 42 [(0, 0, 0), (2, 0, 0), (7, 0, 0)]], .cell ObjT, .row ObjT]⟩
def jqR : Sig := ⟨[1, 4], [.ptr 0 0 0, .ptr 8 0 0], [.one false [.mp 1], .mf ObjT (.int .i64), .one false [.ptr 3 0 0], .one false [.mp 4, .mp 5, .mp 6, .ty (.slice ObjT)], .mf (.int .i64) (.slice (.int .i64)), .mf (.int .i64) (.slice jaV), .mf (.int .i64) jaW, .one false [.fn 42 [(0, 0, 0), (2, 0, 0), (7, 0, 0)]], .cell ObjT]⟩
def jmc : Pol := ⟨fun i => if i = 0 then some [(1, .keep), (3, .keep), (4, (.own ObjT)), (20, (.own ObjT)), (21, .keep), (22, .keep)] else none, fun i => if i = 0 then some [(1, .keep), (4, (.own ObjT))] else none, some [(5, .keep)], [.keep], []⟩
noncomputable def jog (qr_z04 : ObjS → (ObjS → Option (Int)) → (List ObjS) → (Int → Option ((List Int))) → (Int → Option ((List jaj))) → (Int → Option (jal)) → Option (RS jbF jbG)) : CallF := mkCF [(43, c_z03), (42, (jbe jAn jAi jbF jbG fun a b => qr_z04 a.1 b.2.1 b.2.2.2.1.2.2.2.1 b.2.2.2.2.1 b.2.2.2.2.2.1 b.2.2.2.2.2.2.1))] []
noncomputable def jva (n : Nat) (qr_z04 : ObjS → (ObjS → Option (Int)) → (List ObjS) → (Int → Option ((List Int))) → (Int → Option ((List jaj))) → (Int → Option (jal)) → Option (RS jbF jbG)) : jbk := fun i => if i = 0 then some (jav 8 (jmc.head 0) jeB fun K v => jgj n qr_z04 (fun z0 z1 z2 z3 z4 z5 => K .rt (jwn.enc ((z0, ()), (((), ()), (z1, (((), ()), (((), ((), ((), (z2, ())))), (z3, (z4, (z5, (((), ()), ()))))))))))) (fun z0 z1 z2 z3 z4 => K (.ex 0) (jqR.enc (((), ((), ())), (((), ()), (z0, (((), ()), (((), ((), ((), (z1, ())))), (z2, (z3, (z4, (((), ()), (v.2.2.2.2.2.2.2.2.2.1, ())))))))))))) v.1.2.2.2.1 v.1.2.2.2.2.1 v.2.2.2.2.2.2.2.2.2.2.1 n v.1.2.2.2.2.2.1 v.2.2.1 v.2.2.2.2.1.2.2.2.1 v.2.2.2.2.2.1 v.2.2.2.2.2.2.1 v.2.2.2.2.2.2.2.1)
  else  none
noncomputable def jxI : Code := jaN (jad Try.f42) [1, 1, 1, 0, 1, 0, 0]
noncomputable def jjh (qr_z04 : ObjS → (ObjS → Option (Int)) → (List ObjS) → (Int → Option ((List Int))) → (Int → Option ((List jaj))) → (Int → Option (jal)) → Option (RS jbF jbG)) (n : Nat) (K : Cont) (rec : Sig.sem jeB → Option Res) (v : Sig.sem jeB) : Option Res := jos n qr_z04 (fun z0 z1 z2 z3 z4 z5 => K .rt (jwn.enc ((z0, ()), (((), ()), (z1, (((), ()), (((), ((), ((), (z2, ())))), (z3, (z4, (z5, (((), ()), ()))))))))))) (fun z0 z1 z2 z3 z4 => K (.ex 0) (jqR.enc (((), ((), ())), (((), ()), (z0, (((), ()), (((), ((), ((), (z1, ())))), (z2, (z3, (z4, (((), ()), (v.2.2.2.2.2.2.2.2.2.1, ())))))))))))) v.1.2.2.2.1 v.1.2.2.2.2.1 v.2.2.2.2.2.2.2.2.2.2.1 (fun z2 z3 z4 z5 z6 z7 => rec (((), ((), ((), (v.1.2.2.2.1, (v.1.2.2.2.2.1, (z2, ())))))), (((), ()), (z3, (((), ()), (((), ((), ((), (z4, ())))), (z5, (z6, (z7, (((), ()), (v.2.2.2.2.2.2.2.2.2.1, (v.2.2.2.2.2.2.2.2.2.2.1, ())))))))))))) v.1.2.2.2.2.2.1 v.2.2.1 v.2.2.2.2.1.2.2.2.1 v.2.2.2.2.2.1 v.2.2.2.2.2.2.1 v.2.2.2.2.2.2.2.1
theorem t_z04_0 (qr_z04 : ObjS → (ObjS → Option (Int)) → (List ObjS) → (Int → Option ((List Int))) → (Int → Option ((List jaj))) → (Int → Option (jal)) → Option (RS jbF jbG)) (n : Nat) (K : Cont) (rec : Sig.sem jeB → Option Res) (v : Sig.sem jeB) : runT PP (jog qr_z04) Try.f42.ntmps 8 jmc (jva n qr_z04) jxI (jeB.enc v) (jbq 8 (jmc.head 0) jeB rec K) = jjh qr_z04 n K rec v := by kernel_rfl
noncomputable def jsu (qr_z04 : ObjS → (ObjS → Option (Int)) → (List ObjS) → (Int → Option ((List Int))) → (Int → Option ((List jaj))) → (Int → Option (jal)) → Option (RS jbF jbG)) (n : Nat) (K : Cont) (m : Nat) (v : Sig.sem jeB) : Option Res := jgj n qr_z04 (fun z0 z1 z2 z3 z4 z5 => K .rt (jwn.enc ((z0, ()), (((), ()), (z1, (((), ()), (((), ((), ((), (z2, ())))), (z3, (z4, (z5, (((), ()), ()))))))))))) (fun z0 z1 z2 z3 z4 => K (.ex 0) (jqR.enc (((), ((), ())), (((), ()), (z0, (((), ()), (((), ((), ((), (z1, ())))), (z2, (z3, (z4, (((), ()), (v.2.2.2.2.2.2.2.2.2.1, ())))))))))))) v.1.2.2.2.1 v.1.2.2.2.2.1 v.2.2.2.2.2.2.2.2.2.2.1 m v.1.2.2.2.2.2.1 v.2.2.1 v.2.2.2.2.1.2.2.2.1 v.2.2.2.2.2.1 v.2.2.2.2.2.2.1 v.2.2.2.2.2.2.2.1
theorem i_z04_0 (qr_z04 : ObjS → (ObjS → Option (Int)) → (List ObjS) → (Int → Option ((List Int))) → (Int → Option ((List jaj))) → (Int → Option (jal)) → Option (RS jbF jbG)) (n : Nat) (K : Cont) : ∀ m v, iter (jjh qr_z04 n K) m v = jsu qr_z04 n K m v := by
  intro m
  induction m with
  | zero => intro v; rfl
  | succ m ih =>
    intro v
    show jjh qr_z04 n K (iter (jjh qr_z04 n K) m) v = jjh qr_z04 n K (jsu qr_z04 n K m) v
    rw [show iter (jjh qr_z04 n K) m = jsu qr_z04 n K m from funext ih]
theorem o_z04_0 (qr_z04 : ObjS → (ObjS → Option (Int)) → (List ObjS) → (Int → Option ((List Int))) → (Int → Option ((List jaj))) → (Int → Option (jal)) → Option (RS jbF jbG)) (n : Nat) : ∀ L, jva n qr_z04 0 = some L → ∀ s K r, L s K = some r → ∃ x s', jbj (run PP (jog qr_z04) Try.f42.ntmps 8 n jmc none jxI) (gc 8 (jmc.head 0)) n s = some (x, s') ∧ K x s' = some r := by
  intro L hL s K r h
  have hL : some (jav 8 (jmc.head 0) jeB fun K v => jsu qr_z04 n K n v) = some L := hL
  cases hL
  have hb : LOk PP (jog qr_z04) Try.f42.ntmps 8 n jmc (jva n qr_z04) jxI := ⟨trivial, ⟨⟨trivial, trivial⟩, ⟨⟨trivial, ⟨trivial, ⟨⟨trivial, trivial⟩, trivial⟩⟩⟩, trivial⟩⟩⟩
  refine jaB hb (jjh qr_z04 n) (t_z04_0 qr_z04 n) n s K r ?_
  rw [← h]
  unfold jav
  simp only [i_z04_0]
theorem m_z04 (n : Nat) (qr_z04 : ObjS → (ObjS → Option (Int)) → (List ObjS) → (Int → Option ((List Int))) → (Int → Option ((List jaj))) → (Int → Option (jal)) → Option (RS jbF jbG)) (a0 : ObjS) (a1 : (ObjS → Option (Int))) (a2 : (List ObjS)) (a3 : (Int → Option ((List Int)))) (a4 : (Int → Option ((List jaj)))) (a5 : (Int → Option (jal))) : jbx PP (jog qr_z04) jmc (jva n qr_z04) Try.f42 (jad Try.f42) (EK.encs jAn ((a0, ((), ((), ((), ())))), (((), ()), (a1, (((), ()), (((), ((), ((), (a2, ())))), (a3, (a4, (a5, (((), ()), ()))))))))).1) (HK.encs jAi ((a0, ((), ((), ((), ())))), (((), ()), (a1, (((), ()), (((), ((), ((), (a2, ())))), (a3, (a4, (a5, (((), ()), ()))))))))).2) = jvE n qr_z04 a0 a1 a2 a3 a4 a5 := by kernel_rfl
theorem g_z04 (n : Nat) (qr_z04 : ObjS → (ObjS → Option (Int)) → (List ObjS) → (Int → Option ((List Int))) → (Int → Option ((List jaj))) → (Int → Option (jal)) → Option (RS jbF jbG)) (a0 : ObjS) (a1 : (ObjS → Option (Int))) (a2 : (List ObjS)) (a3 : (Int → Option ((List Int)))) (a4 : (Int → Option ((List jaj)))) (a5 : (Int → Option (jal))) {r : Res} (h : jvE n qr_z04 a0 a1 a2 a3 a4 a5 = some r) : runF PP (jog qr_z04) n jmc 42 (EK.encs jAn ((a0, ((), ((), ((), ())))), (((), ()), (a1, (((), ()), (((), ((), ((), (a2, ())))), (a3, (a4, (a5, (((), ()), ()))))))))).1) (HK.encs jAi ((a0, ((), ((), ((), ())))), (((), ()), (a1, (((), ()), (((), ((), ((), (a2, ())))), (a3, (a4, (a5, (((), ()), ()))))))))).2) = some r := by
  have hb : LOk PP (jog qr_z04) Try.f42.ntmps 8 n jmc (jva n qr_z04) (jad Try.f42) := ⟨trivial, ⟨⟨trivial, ⟨⟨trivial, trivial⟩, trivial⟩⟩, ⟨trivial, ⟨⟨trivial, (o_z04_0 qr_z04 n)⟩, ⟨trivial, ⟨trivial, trivial⟩⟩⟩⟩⟩⟩
  exact jas PP (c := jad Try.f42) Try.func42 (show Try.f42.body = some (jad Try.f42) from rfl) (show (4 : Nat) ≤ 32 by decide) hb ((m_z04 n qr_z04 a0 a1 a2 a3 a4 a5).trans h) rfl (by kernel_rfl)
noncomputable def c_z04 : Spec := jbe jAn jAi jbF jbG fun a b => jER a.1 b.2.1 b.2.2.2.1.2.2.2.1 b.2.2.2.2.1 b.2.2.2.2.2.1 b.2.2.2.2.2.2.1
theorem kr_z04 (hm : Try.prog.follows .mixedOrders = true) (qr_z04 : ObjS → (ObjS → Option (Int)) → (List ObjS) → (Int → Option ((List Int))) → (Int → Option ((List jaj))) → (Int → Option (jal)) → Option (RS jbF jbG)) (hr_z04 : jaJ PP 42 (jbe jAn jAi jbF jbG fun a b => qr_z04 a.1 b.2.1 b.2.2.2.1.2.2.2.1 b.2.2.2.2.1 b.2.2.2.2.2.1 b.2.2.2.2.2.2.1)) : CallSound PP (jog qr_z04) := jaX (jaf (k_z03 hm) (jaf (hr_z04) jay))
theorem jGx (hm : Try.prog.follows .mixedOrders = true) : ∀ dp, jaJ PP 42 (jbe jAn jAi jbF jbG fun a b => jkf dp a.1 b.2.1 b.2.2.2.1.2.2.2.1 b.2.2.2.2.1 b.2.2.2.2.2.1 b.2.2.2.2.2.2.1)
  | 0 => jaC (pol := jmc) hm (cf := mkCF [] []) (jaX jay) fun a b r h => by cases h
  | dp + 1 => jaC (pol := jmc) hm (kr_z04 hm (jkf dp) (jGx hm dp)) fun a b r h => ⟨FUEL, g_z04 FUEL (jkf dp) a.1 b.2.1 b.2.2.2.1.2.2.2.1 b.2.2.2.2.1 b.2.2.2.2.2.1 b.2.2.2.2.2.2.1 (jar h)⟩
theorem k_z04 (hm : Try.prog.follows .mixedOrders = true) : jaJ PP 42 c_z04 := jGx hm FUEL
def jeA : Sig := ⟨[4, 12, 13, 14], [.ptr 4 0 0, .ty (.slice ObjT), .ty (.int .i64), .ty (.int .i64)], [.one false [.mp 1, .mp 2, .mp 3, .ty (.slice ObjT)], .mf (.int .i64) (.slice (.int .i64)), .mf (.int .i64) (.slice jaV), .mf (.int .i64) jaW, .one false [.fn 42 [(5, 0, 0), (7, 0, 0), (4, 0, 0)]], .one false [.mp 6], .mf ObjT (.int .i64), .one false [.ptr 0 0 0]]⟩
def jwm : Sig := ⟨[2], [.ty .bool], [.one false [.mp 1, .mp 2, .mp 3, .ty (.slice ObjT)], .mf (.int .i64) (.slice (.int .i64)), .mf (.int .i64) (.slice jaV), .mf (.int .i64) jaW]⟩
def jqQ : Sig := ⟨[], [], [.one false [.mp 1, .mp 2, .mp 3, .ty (.slice ObjT)], .mf (.int .i64) (.slice (.int .i64)), .mf (.int .i64) (.slice jaV), .mf (.int .i64) jaW]⟩
def jnz : Pol := ⟨fun i => if i = 0 then some [(4, .keep), (12, .keep), (13, .keep), (14, .keep)] else none, fun i => if i = 0 then some [] else none, some [(2, .keep)], [.keep], []⟩
def e_z05 : List EK := [.ptr 0 0 0]
def h_z05 : List HK := [.one false [.mp 1, .mp 2, .mp 3, .ty (.slice ObjT)], .mf (.int .i64) (.slice (.int .i64)), .mf (.int .i64) (.slice jaV), .mf (.int .i64) jaW]
noncomputable def jof : CallF := mkCF [(42, c_z04)] []
noncomputable def juZ (n : Nat) : jbk := fun i => if i = 0 then some (jav 4 (jnz.head 0) jeA fun K v => jft n (fun z0 z1 z2 z3 z4 => K .rt (jwm.enc ((z0, ()), (((), ((), ((), (z1, ())))), (z2, (z3, (z4, ()))))))) (fun z0 z1 z2 z3 => K (.ex 0) (jqQ.enc ((), (((), ((), ((), (z0, ())))), (z1, (z2, (z3, ()))))))) v.1.2.1 v.1.2.2.1 n v.1.2.2.2.1 v.2.1.2.2.2.1 v.2.2.1 v.2.2.2.1 v.2.2.2.2.1 v.2.2.2.2.2.2.2.1)
  else  none
noncomputable def jxH : Code := jaN (jad Try.f31) [1, 1, 1, 1, 0, 1, 0, 0]
noncomputable def jjg (n : Nat) (K : Cont) (rec : Sig.sem jeA → Option Res) (v : Sig.sem jeA) : Option Res := jjz n (fun z0 z1 z2 z3 z4 => K .rt (jwm.enc ((z0, ()), (((), ((), ((), (z1, ())))), (z2, (z3, (z4, ()))))))) (fun z0 z1 z2 z3 => K (.ex 0) (jqQ.enc ((), (((), ((), ((), (z0, ())))), (z1, (z2, (z3, ()))))))) v.1.2.1 v.1.2.2.1 (fun z2 z3 z4 z5 z6 z7 => rec (((), (v.1.2.1, (v.1.2.2.1, (z2, ())))), (((), ((), ((), (z3, ())))), (z4, (z5, (z6, (((), ()), (((), ()), (z7, (((), ()), ())))))))))) v.1.2.2.2.1 v.2.1.2.2.2.1 v.2.2.1 v.2.2.2.1 v.2.2.2.2.1 v.2.2.2.2.2.2.2.1
theorem t_z05_0 (n : Nat) (K : Cont) (rec : Sig.sem jeA → Option Res) (v : Sig.sem jeA) : runT PP jof Try.f31.ntmps 4 jnz (juZ n) jxH (jeA.enc v) (jbq 4 (jnz.head 0) jeA rec K) = jjg n K rec v := by kernel_rfl
noncomputable def jst (n : Nat) (K : Cont) (m : Nat) (v : Sig.sem jeA) : Option Res := jft n (fun z0 z1 z2 z3 z4 => K .rt (jwm.enc ((z0, ()), (((), ((), ((), (z1, ())))), (z2, (z3, (z4, ()))))))) (fun z0 z1 z2 z3 => K (.ex 0) (jqQ.enc ((), (((), ((), ((), (z0, ())))), (z1, (z2, (z3, ()))))))) v.1.2.1 v.1.2.2.1 m v.1.2.2.2.1 v.2.1.2.2.2.1 v.2.2.1 v.2.2.2.1 v.2.2.2.2.1 v.2.2.2.2.2.2.2.1
theorem i_z05_0 (n : Nat) (K : Cont) : ∀ m v, iter (jjg n K) m v = jst n K m v := by
  intro m
  induction m with
  | zero => intro v; rfl
  | succ m ih =>
    intro v
    show jjg n K (iter (jjg n K) m) v = jjg n K (jst n K m) v
    rw [show iter (jjg n K) m = jst n K m from funext ih]
theorem o_z05_0 (n : Nat) : ∀ L, juZ n 0 = some L → ∀ s K r, L s K = some r → ∃ x s', jbj (run PP jof Try.f31.ntmps 4 n jnz none jxH) (gc 4 (jnz.head 0)) n s = some (x, s') ∧ K x s' = some r := by
  intro L hL s K r h
  have hL : some (jav 4 (jnz.head 0) jeA fun K v => jst n K n v) = some L := hL
  cases hL
  have hb : LOk PP jof Try.f31.ntmps 4 n jnz (juZ n) jxH := ⟨trivial, ⟨⟨trivial, trivial⟩, ⟨⟨trivial, ⟨trivial, ⟨⟨trivial, trivial⟩, trivial⟩⟩⟩, trivial⟩⟩⟩
  refine jaB hb (jjg n) (t_z05_0 n) n s K r ?_
  rw [← h]
  unfold jav
  simp only [i_z05_0]
theorem m_z05 (n : Nat) (a0 : (List ObjS)) (a1 : (Int → Option ((List Int)))) (a2 : (Int → Option ((List jaj)))) (a3 : (Int → Option (jal))) : jbx PP jof jnz (juZ n) Try.f31 (jad Try.f31) (EK.encs e_z05 (((), ()), (((), ((), ((), (a0, ())))), (a1, (a2, (a3, ()))))).1) (HK.encs h_z05 (((), ()), (((), ((), ((), (a0, ())))), (a1, (a2, (a3, ()))))).2) = jFI n a0 a1 a2 a3 := by kernel_rfl
theorem g_z05 (n : Nat) (a0 : (List ObjS)) (a1 : (Int → Option ((List Int)))) (a2 : (Int → Option ((List jaj)))) (a3 : (Int → Option (jal))) {r : Res} (h : jFI n a0 a1 a2 a3 = some r) : runF PP jof n jnz 31 (EK.encs e_z05 (((), ()), (((), ((), ((), (a0, ())))), (a1, (a2, (a3, ()))))).1) (HK.encs h_z05 (((), ()), (((), ((), ((), (a0, ())))), (a1, (a2, (a3, ()))))).2) = some r := by
  have hb : LOk PP jof Try.f31.ntmps 4 n jnz (juZ n) (jad Try.f31) := ⟨trivial, ⟨trivial, ⟨trivial, ⟨trivial, ⟨⟨trivial, (o_z05_0 n)⟩, ⟨trivial, trivial⟩⟩⟩⟩⟩⟩
  exact jas PP (c := jad Try.f31) Try.func31 (show Try.f31.body = some (jad Try.f31) from rfl) (show (1 : Nat) ≤ 22 by decide) hb ((m_z05 n a0 a1 a2 a3).trans h) rfl (by kernel_rfl)
noncomputable def c_z05 : Spec := jbe e_z05 h_z05 jlK jjL fun a b => jEQ b.1.2.2.2.1 b.2.1 b.2.2.1 b.2.2.2.1
theorem k_z05 (hm : Try.prog.follows .mixedOrders = true) : jaJ PP 31 c_z05 := jaC (pol := jnz) hm (cf := jof) (jaX (jaf (k_z04 hm) jay)) fun a b r h => ⟨FUEL, g_z05 FUEL b.1.2.2.2.1 b.2.1 b.2.2.1 b.2.2.2.1 (jar h)⟩
def jvs : List EK := [.agg ObjT, .ptr 0 0 0, .ptr 2 0 0, .ptr 7 0 0, .ptr 8 0 0]
def jvi : List HK := [.one false [.mp 1], .mf ObjT (.int .i64), .one false [.ptr 3 0 0], .one false [.mp 4, .mp 5, .mp 6, .ty (.slice ObjT)], .mf (.int .i64) (.slice (.int .i64)), .mf (.int .i64) (.slice jaV), .mf (.int .i64) jaW, .one false [.fn 57 [(0, 0, 0), (2, 0, 0), (7, 0, 0), (8, 0, 0)]], .one false [.fn 56 [(7, 0, 0)]]]
def jez : Sig := ⟨[0, 1, 4, 5], [.ty (.slice jaV), .ptr 0 0 0, .hs 9 0, .ty (.int .i64)], [.one false [.fn 57 [(1, 0, 0), (3, 0, 0), (0, 0, 0), (8, 0, 0)]], .one false [.mp 2], .mf ObjT (.int .i64), .one false [.ptr 4 0 0], .one false [.mp 5, .mp 6, .mp 7, .ty (.slice ObjT)], .mf (.int .i64) (.slice (.int .i64)), .mf (.int .i64) (.slice jaV), .mf (.int .i64) jaW, .one false [.fn 56 [(0, 0, 0)]], .row (.int .i64)]⟩
def jqP : Sig := ⟨[4], [.hs 9 0], [.one false [.fn 57 [(1, 0, 0), (3, 0, 0), (0, 0, 0), (8, 0, 0)]], .one false [.mp 2], .mf ObjT (.int .i64), .one false [.ptr 4 0 0], .one false [.mp 5, .mp 6, .mp 7, .ty (.slice ObjT)], .mf (.int .i64) (.slice (.int .i64)), .mf (.int .i64) (.slice jaV), .mf (.int .i64) jaW, .one false [.fn 56 [(0, 0, 0)]], .row (.int .i64)]⟩
def s_z06_r : Sig := ⟨[3], [.ty (.int .i64)], [.one false [.fn 57 [(1, 0, 0), (3, 0, 0), (0, 0, 0), (8, 0, 0)]], .one false [.mp 2], .mf ObjT (.int .i64), .one false [.ptr 4 0 0], .one false [.mp 5, .mp 6, .mp 7, .ty (.slice ObjT)], .mf (.int .i64) (.slice (.int .i64)), .mf (.int .i64) (.slice jaV), .mf (.int .i64) jaW, .one false [.fn 56 [(0, 0, 0)]]]⟩
def jny : Pol := ⟨fun i => if i = 0 then some [(0, .keep), (1, .keep), (4, (.own (.int .i64))), (5, .keep)] else none, fun i => if i = 0 then some [(4, (.own (.int .i64)))] else none, some [(3, .keep)], [.keep], []⟩
def e_z06 : List EK := [.ty (.slice jaV), .ptr 0 0 0]
def h_z06 : List HK := [.one false [.fn 57 [(1, 0, 0), (3, 0, 0), (0, 0, 0), (8, 0, 0)]], .one false [.mp 2], .mf ObjT (.int .i64), .one false [.ptr 4 0 0], .one false [.mp 5, .mp 6, .mp 7, .ty (.slice ObjT)], .mf (.int .i64) (.slice (.int .i64)), .mf (.int .i64) (.slice jaV), .mf (.int .i64) jaW, .one false [.fn 56 [(0, 0, 0)]]]
noncomputable def joe (qr_z07 : ObjS → (ObjS → Option (Int)) → (List ObjS) → (Int → Option ((List Int))) → (Int → Option ((List jaj))) → (Int → Option (jal)) → Option (RS jaP jaQ)) : CallF := mkCF [(57, (jbe jvs jvi jaP jaQ fun a b => qr_z07 a.1 b.2.1 b.2.2.2.1.2.2.2.1 b.2.2.2.2.1 b.2.2.2.2.2.1 b.2.2.2.2.2.2.1))] []
noncomputable def juY (n : Nat) (qr_z07 : ObjS → (ObjS → Option (Int)) → (List ObjS) → (Int → Option ((List Int))) → (Int → Option ((List jaj))) → (Int → Option (jal)) → Option (RS jaP jaQ)) : jbk := fun i => if i = 0 then some (jav 9 (jny.head 0) jez fun K v => jjv n qr_z07 (fun z1 z2 z3 z4 z5 z6 => K (.ex 0) (jqP.enc ((v.1.2.2.1, ()), (((), ()), (((), ()), (z1, (((), ()), (((), ((), ((), (z2, ())))), (z3, (z4, (z5, (((), ()), (z6, ()))))))))))))) v.1.1 v.1.2.2.1 n v.1.2.2.2.1 v.2.2.2.1 v.2.2.2.2.2.1.2.2.2.1 v.2.2.2.2.2.2.1 v.2.2.2.2.2.2.2.1 v.2.2.2.2.2.2.2.2.1 v.2.2.2.2.2.2.2.2.2.2.1)
  else  none
noncomputable def jxG : Code := jaN (jad Try.f56) [1, 1, 0, 1, 0, 0]
noncomputable def jjf (qr_z07 : ObjS → (ObjS → Option (Int)) → (List ObjS) → (Int → Option ((List Int))) → (Int → Option ((List jaj))) → (Int → Option (jal)) → Option (RS jaP jaQ)) (n : Nat) (K : Cont) (rec : Sig.sem jez → Option Res) (v : Sig.sem jez) : Option Res := jor n qr_z07 (fun z1 z2 z3 z4 z5 z6 => K (.ex 0) (jqP.enc ((v.1.2.2.1, ()), (((), ()), (((), ()), (z1, (((), ()), (((), ((), ((), (z2, ())))), (z3, (z4, (z5, (((), ()), (z6, ()))))))))))))) v.1.1 v.1.2.2.1 (fun z2 z3 z4 z5 z6 z7 z8 => rec ((v.1.1, ((), (v.1.2.2.1, (z2, ())))), (((), ()), (((), ()), (z3, (((), ()), (((), ((), ((), (z4, ())))), (z5, (z6, (z7, (((), ()), (z8, ())))))))))))) v.1.2.2.2.1 v.2.2.2.1 v.2.2.2.2.2.1.2.2.2.1 v.2.2.2.2.2.2.1 v.2.2.2.2.2.2.2.1 v.2.2.2.2.2.2.2.2.1 v.2.2.2.2.2.2.2.2.2.2.1
theorem t_z06_0 (qr_z07 : ObjS → (ObjS → Option (Int)) → (List ObjS) → (Int → Option ((List Int))) → (Int → Option ((List jaj))) → (Int → Option (jal)) → Option (RS jaP jaQ)) (n : Nat) (K : Cont) (rec : Sig.sem jez → Option Res) (v : Sig.sem jez) : runT PP (joe qr_z07) Try.f56.ntmps 9 jny (juY n qr_z07) jxG (jez.enc v) (jbq 9 (jny.head 0) jez rec K) = jjf qr_z07 n K rec v := by kernel_rfl
noncomputable def jss (qr_z07 : ObjS → (ObjS → Option (Int)) → (List ObjS) → (Int → Option ((List Int))) → (Int → Option ((List jaj))) → (Int → Option (jal)) → Option (RS jaP jaQ)) (n : Nat) (K : Cont) (m : Nat) (v : Sig.sem jez) : Option Res := jjv n qr_z07 (fun z1 z2 z3 z4 z5 z6 => K (.ex 0) (jqP.enc ((v.1.2.2.1, ()), (((), ()), (((), ()), (z1, (((), ()), (((), ((), ((), (z2, ())))), (z3, (z4, (z5, (((), ()), (z6, ()))))))))))))) v.1.1 v.1.2.2.1 m v.1.2.2.2.1 v.2.2.2.1 v.2.2.2.2.2.1.2.2.2.1 v.2.2.2.2.2.2.1 v.2.2.2.2.2.2.2.1 v.2.2.2.2.2.2.2.2.1 v.2.2.2.2.2.2.2.2.2.2.1
theorem i_z06_0 (qr_z07 : ObjS → (ObjS → Option (Int)) → (List ObjS) → (Int → Option ((List Int))) → (Int → Option ((List jaj))) → (Int → Option (jal)) → Option (RS jaP jaQ)) (n : Nat) (K : Cont) : ∀ m v, iter (jjf qr_z07 n K) m v = jss qr_z07 n K m v := by
  intro m
  induction m with
  | zero => intro v; rfl
  | succ m ih =>
    intro v
    show jjf qr_z07 n K (iter (jjf qr_z07 n K) m) v = jjf qr_z07 n K (jss qr_z07 n K m) v
    rw [show iter (jjf qr_z07 n K) m = jss qr_z07 n K m from funext ih]
theorem o_z06_0 (qr_z07 : ObjS → (ObjS → Option (Int)) → (List ObjS) → (Int → Option ((List Int))) → (Int → Option ((List jaj))) → (Int → Option (jal)) → Option (RS jaP jaQ)) (n : Nat) : ∀ L, juY n qr_z07 0 = some L → ∀ s K r, L s K = some r → ∃ x s', jbj (run PP (joe qr_z07) Try.f56.ntmps 9 n jny none jxG) (gc 9 (jny.head 0)) n s = some (x, s') ∧ K x s' = some r := by
  intro L hL s K r h
  have hL : some (jav 9 (jny.head 0) jez fun K v => jss qr_z07 n K n v) = some L := hL
  cases hL
  have hb : LOk PP (joe qr_z07) Try.f56.ntmps 9 n jny (juY n qr_z07) jxG := ⟨⟨trivial, ⟨trivial, trivial⟩⟩, ⟨⟨trivial, ⟨⟨trivial, ⟨⟨trivial, ⟨trivial, trivial⟩⟩, ⟨trivial, ⟨trivial, ⟨trivial, ⟨trivial, ⟨trivial, ⟨trivial, ⟨⟨trivial, ⟨trivial, ⟨trivial, trivial⟩⟩⟩, trivial⟩⟩⟩⟩⟩⟩⟩⟩⟩, trivial⟩⟩, trivial⟩⟩
  refine jaB hb (jjf qr_z07 n) (t_z06_0 qr_z07 n) n s K r ?_
  rw [← h]
  unfold jav
  simp only [i_z06_0]
theorem m_z06 (n : Nat) (qr_z07 : ObjS → (ObjS → Option (Int)) → (List ObjS) → (Int → Option ((List Int))) → (Int → Option ((List jaj))) → (Int → Option (jal)) → Option (RS jaP jaQ)) (a0 : (List jaj)) (a1 : (ObjS → Option (Int))) (a2 : (List ObjS)) (a3 : (Int → Option ((List Int)))) (a4 : (Int → Option ((List jaj)))) (a5 : (Int → Option (jal))) : jbx PP (joe qr_z07) jny (juY n qr_z07) Try.f56 (jad Try.f56) (EK.encs e_z06 ((a0, ((), ())), (((), ()), (((), ()), (a1, (((), ()), (((), ((), ((), (a2, ())))), (a3, (a4, (a5, (((), ()), ())))))))))).1) (HK.encs h_z06 ((a0, ((), ())), (((), ()), (((), ()), (a1, (((), ()), (((), ((), ((), (a2, ())))), (a3, (a4, (a5, (((), ()), ())))))))))).2) = jFH n qr_z07 a0 a1 a2 a3 a4 a5 := by kernel_rfl
theorem g_z06 (n : Nat) (qr_z07 : ObjS → (ObjS → Option (Int)) → (List ObjS) → (Int → Option ((List Int))) → (Int → Option ((List jaj))) → (Int → Option (jal)) → Option (RS jaP jaQ)) (a0 : (List jaj)) (a1 : (ObjS → Option (Int))) (a2 : (List ObjS)) (a3 : (Int → Option ((List Int)))) (a4 : (Int → Option ((List jaj)))) (a5 : (Int → Option (jal))) {r : Res} (h : jFH n qr_z07 a0 a1 a2 a3 a4 a5 = some r) : runF PP (joe qr_z07) n jny 56 (EK.encs e_z06 ((a0, ((), ())), (((), ()), (((), ()), (a1, (((), ()), (((), ((), ((), (a2, ())))), (a3, (a4, (a5, (((), ()), ())))))))))).1) (HK.encs h_z06 ((a0, ((), ())), (((), ()), (((), ()), (a1, (((), ()), (((), ((), ((), (a2, ())))), (a3, (a4, (a5, (((), ()), ())))))))))).2) = some r := by
  have hb : LOk PP (joe qr_z07) Try.f56.ntmps 9 n jny (juY n qr_z07) (jad Try.f56) := ⟨trivial, ⟨trivial, ⟨⟨trivial, (o_z06_0 qr_z07 n)⟩, ⟨trivial, trivial⟩⟩⟩⟩
  exact jas PP (c := jad Try.f56) Try.func56 (show Try.f56.body = some (jad Try.f56) from rfl) (show (2 : Nat) ≤ 88 by decide) hb ((m_z06 n qr_z07 a0 a1 a2 a3 a4 a5).trans h) rfl (by kernel_rfl)
noncomputable def c_z06 (qr_z07 : ObjS → (ObjS → Option (Int)) → (List ObjS) → (Int → Option ((List Int))) → (Int → Option ((List jaj))) → (Int → Option (jal)) → Option (RS jaP jaQ)) : Spec := jbe e_z06 h_z06 jmS jmZ fun a b => jEP qr_z07 a.1 b.2.2.1 b.2.2.2.2.1.2.2.2.1 b.2.2.2.2.2.1 b.2.2.2.2.2.2.1 b.2.2.2.2.2.2.2.1
theorem k_z06 (hm : Try.prog.follows .mixedOrders = true) (qr_z07 : ObjS → (ObjS → Option (Int)) → (List ObjS) → (Int → Option ((List Int))) → (Int → Option ((List jaj))) → (Int → Option (jal)) → Option (RS jaP jaQ)) (hr_z07 : jaJ PP 57 (jbe jvs jvi jaP jaQ fun a b => qr_z07 a.1 b.2.1 b.2.2.2.1.2.2.2.1 b.2.2.2.2.1 b.2.2.2.2.2.1 b.2.2.2.2.2.2.1)) : jaJ PP 56 (c_z06 qr_z07) := jaC (pol := jny) hm (cf := (joe qr_z07)) (jaX (jaf (hr_z07) jay)) fun a b r h => ⟨FUEL, g_z06 FUEL qr_z07 a.1 b.2.2.1 b.2.2.2.2.1.2.2.2.1 b.2.2.2.2.2.1 b.2.2.2.2.2.2.1 b.2.2.2.2.2.2.2.1 (jar h)⟩
def s_z07_r : Sig := ⟨[6], [.ty (.int .i64)], [.one false [.mp 1], .mf ObjT (.int .i64), .one false [.ptr 3 0 0], .one false [.mp 4, .mp 5, .mp 6, .ty (.slice ObjT)], .mf (.int .i64) (.slice (.int .i64)), .mf (.int .i64) (.slice jaV), .mf (.int .i64) jaW, .one false [.fn 57 [(0, 0, 0), (2, 0, 0), (7, 0, 0), (8, 0, 0)]], .one false [.fn 56 [(7, 0, 0)]]]⟩
def jex : Sig := ⟨[1, 3, 5, 9, 11, 70, 71, 72], [.ptr 0 0 0, .ptr 7 0 0, .ptr 9 0 0, .ty (.int .i64), .ty .bool, .ty (.slice (.int .i64)), .ty (.int .i64), .ty (.int .i64)], [.one false [.mp 1], .mf ObjT (.int .i64), .one false [.ptr 3 0 0], .one false [.mp 4, .mp 5, .mp 6, .ty (.slice ObjT)], .mf (.int .i64) (.slice (.int .i64)), .mf (.int .i64) (.slice jaV), .mf (.int .i64) jaW, .one false [.fn 57 [(0, 0, 0), (2, 0, 0), (7, 0, 0), (8, 0, 0)]], .one false [.fn 56 [(7, 0, 0)]], .cell ObjT]⟩
def jqN : Sig := ⟨[1, 5, 9, 11], [.ptr 0 0 0, .ptr 9 0 0, .ty (.int .i64), .ty .bool], [.one false [.mp 1], .mf ObjT (.int .i64), .one false [.ptr 3 0 0], .one false [.mp 4, .mp 5, .mp 6, .ty (.slice ObjT)], .mf (.int .i64) (.slice (.int .i64)), .mf (.int .i64) (.slice jaV), .mf (.int .i64) jaW, .one false [.fn 57 [(0, 0, 0), (2, 0, 0), (7, 0, 0), (8, 0, 0)]], .one false [.fn 56 [(7, 0, 0)]], .cell ObjT]⟩
def jey : Sig := ⟨[1, 3, 5, 9, 14, 36, 37, 38], [.ptr 0 0 0, .ptr 7 0 0, .ptr 9 0 0, .ty (.int .i64), .ptr 10 0 0, .ty (.slice jou), .ty (.int .i64), .ty (.int .i64)], [.one false [.mp 1], .mf ObjT (.int .i64), .one false [.ptr 3 0 0], .one false [.mp 4, .mp 5, .mp 6, .ty (.slice ObjT)], .mf (.int .i64) (.slice (.int .i64)), .mf (.int .i64) (.slice jaV), .mf (.int .i64) jaW, .one false [.fn 57 [(0, 0, 0), (2, 0, 0), (7, 0, 0), (8, 0, 0)]], .one false [.fn 56 [(7, 0, 0)]], .cell ObjT, .cell jaW]⟩
def jqO : Sig := ⟨[1, 5, 9], [.ptr 0 0 0, .ptr 9 0 0, .ty (.int .i64)], [.one false [.mp 1], .mf ObjT (.int .i64), .one false [.ptr 3 0 0], .one false [.mp 4, .mp 5, .mp 6, .ty (.slice ObjT)], .mf (.int .i64) (.slice (.int .i64)), .mf (.int .i64) (.slice jaV), .mf (.int .i64) jaW, .one false [.fn 57 [(0, 0, 0), (2, 0, 0), (7, 0, 0), (8, 0, 0)]], .one false [.fn 56 [(7, 0, 0)]], .cell ObjT]⟩
def jfX : Pol := ⟨fun i => if i = 3 then some [(1, .keep), (3, .keep), (5, (.own ObjT)), (9, .keep), (11, .keep), (70, .keep), (71, .keep), (72, .keep)] else if i = 1 then some [(1, .keep), (3, .keep), (5, (.own ObjT)), (9, .keep), (14, (.own jaW)), (36, .keep), (37, .keep), (38, .keep)] else none, fun i => if i = 3 then some [(1, .keep), (5, (.own ObjT)), (9, .keep), (11, .keep)] else if i = 1 then some [(1, .keep), (5, (.own ObjT)), (9, .keep)] else none, some [(6, .keep)], [.keep], []⟩
noncomputable def jhH (qr_z07 : ObjS → (ObjS → Option (Int)) → (List ObjS) → (Int → Option ((List Int))) → (Int → Option ((List jaj))) → (Int → Option (jal)) → Option (RS jaP jaQ)) : CallF := mkCF [(57, (jbe jvs jvi jaP jaQ fun a b => qr_z07 a.1 b.2.1 b.2.2.2.1.2.2.2.1 b.2.2.2.2.1 b.2.2.2.2.2.1 b.2.2.2.2.2.2.1)), (56, (c_z06 qr_z07))] []
noncomputable def jlT (n : Nat) (qr_z07 : ObjS → (ObjS → Option (Int)) → (List ObjS) → (Int → Option ((List Int))) → (Int → Option ((List jaj))) → (Int → Option (jal)) → Option (RS jaP jaQ)) : jbk := fun i => if i = 3 then some (jav 9 (jfX.head 3) jex fun K v => jlA n qr_z07 (fun z0 z2 z3 z4 z5 z6 => K (.ex 3) (jqN.enc (((), ((), (z0, (v.1.2.2.2.2.1, ())))), (((), ()), (z2, (((), ()), (((), ((), ((), (z3, ())))), (z4, (z5, (z6, (((), ()), (((), ()), (v.2.2.2.2.2.2.2.2.2.2.1, ()))))))))))))) v.1.2.2.2.2.2.1 v.1.2.2.2.2.2.2.1 n v.1.2.2.2.1 v.1.2.2.2.2.2.2.2.1 v.2.2.1 v.2.2.2.2.1.2.2.2.1 v.2.2.2.2.2.1 v.2.2.2.2.2.2.1 v.2.2.2.2.2.2.2.1)
  else if i = 1 then some (jav 9 (jfX.head 1) jey fun K v => jlB n qr_z07 (fun z0 z1 z2 z3 z4 z5 => K (.ex 1) (jqO.enc (((), ((), (z0, ()))), (((), ()), (z1, (((), ()), (((), ((), ((), (z2, ())))), (z3, (z4, (z5, (((), ()), (((), ()), (v.2.2.2.2.2.2.2.2.2.2.1, ()))))))))))))) v.1.2.2.2.2.2.1 v.1.2.2.2.2.2.2.1 v.2.2.2.2.2.2.2.2.2.2.2.1 n v.1.2.2.2.1 v.1.2.2.2.2.2.2.2.1 v.2.2.1 v.2.2.2.2.1.2.2.2.1 v.2.2.2.2.2.1 v.2.2.2.2.2.2.1 v.2.2.2.2.2.2.2.1)
  else  none
noncomputable def jxE : Code := jaN (jad Try.f57) [1, 1, 1, 0, 1, 0, 1, 0, 1, 0, 1, 0, 0]
noncomputable def jjd (qr_z07 : ObjS → (ObjS → Option (Int)) → (List ObjS) → (Int → Option ((List Int))) → (Int → Option ((List jaj))) → (Int → Option (jal)) → Option (RS jaP jaQ)) (n : Nat) (K : Cont) (rec : Sig.sem jex → Option Res) (v : Sig.sem jex) : Option Res := joq n qr_z07 (fun z0 z2 z3 z4 z5 z6 => K (.ex 3) (jqN.enc (((), ((), (z0, (v.1.2.2.2.2.1, ())))), (((), ()), (z2, (((), ()), (((), ((), ((), (z3, ())))), (z4, (z5, (z6, (((), ()), (((), ()), (v.2.2.2.2.2.2.2.2.2.2.1, ()))))))))))))) v.1.2.2.2.2.2.1 v.1.2.2.2.2.2.2.1 (fun z0 z4 z5 z6 z7 z8 z9 => rec (((), ((), ((), (z0, (v.1.2.2.2.2.1, (v.1.2.2.2.2.2.1, (v.1.2.2.2.2.2.2.1, (z4, ())))))))), (((), ()), (z5, (((), ()), (((), ((), ((), (z6, ())))), (z7, (z8, (z9, (((), ()), (((), ()), (v.2.2.2.2.2.2.2.2.2.2.1, ())))))))))))) v.1.2.2.2.1 v.1.2.2.2.2.2.2.2.1 v.2.2.1 v.2.2.2.2.1.2.2.2.1 v.2.2.2.2.2.1 v.2.2.2.2.2.2.1 v.2.2.2.2.2.2.2.1
theorem t_z07_3 (qr_z07 : ObjS → (ObjS → Option (Int)) → (List ObjS) → (Int → Option ((List Int))) → (Int → Option ((List jaj))) → (Int → Option (jal)) → Option (RS jaP jaQ)) (n : Nat) (K : Cont) (rec : Sig.sem jex → Option Res) (v : Sig.sem jex) : runT PP (jhH qr_z07) Try.f57.ntmps 9 jfX (jlT n qr_z07) jxE (jex.enc v) (jbq 9 (jfX.head 3) jex rec K) = jjd qr_z07 n K rec v := by kernel_rfl
noncomputable def jsq (qr_z07 : ObjS → (ObjS → Option (Int)) → (List ObjS) → (Int → Option ((List Int))) → (Int → Option ((List jaj))) → (Int → Option (jal)) → Option (RS jaP jaQ)) (n : Nat) (K : Cont) (m : Nat) (v : Sig.sem jex) : Option Res := jlA n qr_z07 (fun z0 z2 z3 z4 z5 z6 => K (.ex 3) (jqN.enc (((), ((), (z0, (v.1.2.2.2.2.1, ())))), (((), ()), (z2, (((), ()), (((), ((), ((), (z3, ())))), (z4, (z5, (z6, (((), ()), (((), ()), (v.2.2.2.2.2.2.2.2.2.2.1, ()))))))))))))) v.1.2.2.2.2.2.1 v.1.2.2.2.2.2.2.1 m v.1.2.2.2.1 v.1.2.2.2.2.2.2.2.1 v.2.2.1 v.2.2.2.2.1.2.2.2.1 v.2.2.2.2.2.1 v.2.2.2.2.2.2.1 v.2.2.2.2.2.2.2.1
theorem i_z07_3 (qr_z07 : ObjS → (ObjS → Option (Int)) → (List ObjS) → (Int → Option ((List Int))) → (Int → Option ((List jaj))) → (Int → Option (jal)) → Option (RS jaP jaQ)) (n : Nat) (K : Cont) : ∀ m v, iter (jjd qr_z07 n K) m v = jsq qr_z07 n K m v := by
  intro m
  induction m with
  | zero => intro v; rfl
  | succ m ih =>
    intro v
    show jjd qr_z07 n K (iter (jjd qr_z07 n K) m) v = jjd qr_z07 n K (jsq qr_z07 n K m) v
    rw [show iter (jjd qr_z07 n K) m = jsq qr_z07 n K m from funext ih]
theorem o_z07_3 (qr_z07 : ObjS → (ObjS → Option (Int)) → (List ObjS) → (Int → Option ((List Int))) → (Int → Option ((List jaj))) → (Int → Option (jal)) → Option (RS jaP jaQ)) (n : Nat) : ∀ L, jlT n qr_z07 3 = some L → ∀ s K r, L s K = some r → ∃ x s', jbj (run PP (jhH qr_z07) Try.f57.ntmps 9 n jfX none jxE) (gc 9 (jfX.head 3)) n s = some (x, s') ∧ K x s' = some r := by
  intro L hL s K r h
  have hL : some (jav 9 (jfX.head 3) jex fun K v => jsq qr_z07 n K n v) = some L := hL
  cases hL
  have hb : LOk PP (jhH qr_z07) Try.f57.ntmps 9 n jfX (jlT n qr_z07) jxE := ⟨trivial, ⟨⟨trivial, trivial⟩, ⟨⟨trivial, trivial⟩, trivial⟩⟩⟩
  refine jaB hb (jjd qr_z07 n) (t_z07_3 qr_z07 n) n s K r ?_
  rw [← h]
  unfold jav
  simp only [i_z07_3]
noncomputable def jxF : Code := jaN (jad Try.f57) [1, 1, 1, 0, 1, 0, 1, 1, 1, 1, 1, 1, 0, 0]
noncomputable def jje (qr_z07 : ObjS → (ObjS → Option (Int)) → (List ObjS) → (Int → Option ((List Int))) → (Int → Option ((List jaj))) → (Int → Option (jal)) → Option (RS jaP jaQ)) (n : Nat) (K : Cont) (rec : Sig.sem jey → Option Res) (v : Sig.sem jey) : Option Res := jlG n qr_z07 (fun z0 z1 z2 z3 z4 z5 => K (.ex 1) (jqO.enc (((), ((), (z0, ()))), (((), ()), (z1, (((), ()), (((), ((), ((), (z2, ())))), (z3, (z4, (z5, (((), ()), (((), ()), (v.2.2.2.2.2.2.2.2.2.2.1, ()))))))))))))) v.1.2.2.2.2.2.1 v.1.2.2.2.2.2.2.1 v.2.2.2.2.2.2.2.2.2.2.2.1 (fun z0 z3 z4 z5 z6 z7 z8 => rec (((), ((), ((), (z0, ((), (v.1.2.2.2.2.2.1, (v.1.2.2.2.2.2.2.1, (z3, ())))))))), (((), ()), (z4, (((), ()), (((), ((), ((), (z5, ())))), (z6, (z7, (z8, (((), ()), (((), ()), (v.2.2.2.2.2.2.2.2.2.2.1, (v.2.2.2.2.2.2.2.2.2.2.2.1, ()))))))))))))) v.1.2.2.2.1 v.1.2.2.2.2.2.2.2.1 v.2.2.1 v.2.2.2.2.1.2.2.2.1 v.2.2.2.2.2.1 v.2.2.2.2.2.2.1 v.2.2.2.2.2.2.2.1
theorem t_z07_1 (qr_z07 : ObjS → (ObjS → Option (Int)) → (List ObjS) → (Int → Option ((List Int))) → (Int → Option ((List jaj))) → (Int → Option (jal)) → Option (RS jaP jaQ)) (n : Nat) (K : Cont) (rec : Sig.sem jey → Option Res) (v : Sig.sem jey) : runT PP (jhH qr_z07) Try.f57.ntmps 9 jfX (jlT n qr_z07) jxF (jey.enc v) (jbq 9 (jfX.head 1) jey rec K) = jje qr_z07 n K rec v := by kernel_rfl
noncomputable def jsr (qr_z07 : ObjS → (ObjS → Option (Int)) → (List ObjS) → (Int → Option ((List Int))) → (Int → Option ((List jaj))) → (Int → Option (jal)) → Option (RS jaP jaQ)) (n : Nat) (K : Cont) (m : Nat) (v : Sig.sem jey) : Option Res := jlB n qr_z07 (fun z0 z1 z2 z3 z4 z5 => K (.ex 1) (jqO.enc (((), ((), (z0, ()))), (((), ()), (z1, (((), ()), (((), ((), ((), (z2, ())))), (z3, (z4, (z5, (((), ()), (((), ()), (v.2.2.2.2.2.2.2.2.2.2.1, ()))))))))))))) v.1.2.2.2.2.2.1 v.1.2.2.2.2.2.2.1 v.2.2.2.2.2.2.2.2.2.2.2.1 m v.1.2.2.2.1 v.1.2.2.2.2.2.2.2.1 v.2.2.1 v.2.2.2.2.1.2.2.2.1 v.2.2.2.2.2.1 v.2.2.2.2.2.2.1 v.2.2.2.2.2.2.2.1
theorem i_z07_1 (qr_z07 : ObjS → (ObjS → Option (Int)) → (List ObjS) → (Int → Option ((List Int))) → (Int → Option ((List jaj))) → (Int → Option (jal)) → Option (RS jaP jaQ)) (n : Nat) (K : Cont) : ∀ m v, iter (jje qr_z07 n K) m v = jsr qr_z07 n K m v := by
  intro m
  induction m with
  | zero => intro v; rfl
  | succ m ih =>
    intro v
    show jje qr_z07 n K (iter (jje qr_z07 n K) m) v = jje qr_z07 n K (jsr qr_z07 n K m) v
    rw [show iter (jje qr_z07 n K) m = jsr qr_z07 n K m from funext ih]
theorem o_z07_1 (qr_z07 : ObjS → (ObjS → Option (Int)) → (List ObjS) → (Int → Option ((List Int))) → (Int → Option ((List jaj))) → (Int → Option (jal)) → Option (RS jaP jaQ)) (n : Nat) : ∀ L, jlT n qr_z07 1 = some L → ∀ s K r, L s K = some r → ∃ x s', jbj (run PP (jhH qr_z07) Try.f57.ntmps 9 n jfX none jxF) (gc 9 (jfX.head 1)) n s = some (x, s') ∧ K x s' = some r := by
  intro L hL s K r h
  have hL : some (jav 9 (jfX.head 1) jey fun K v => jsr qr_z07 n K n v) = some L := hL
  cases hL
  have hb : LOk PP (jhH qr_z07) Try.f57.ntmps 9 n jfX (jlT n qr_z07) jxF := ⟨trivial, ⟨⟨trivial, trivial⟩, ⟨⟨trivial, ⟨trivial, ⟨trivial, ⟨trivial, trivial⟩⟩⟩⟩, trivial⟩⟩⟩
  refine jaB hb (jje qr_z07 n) (t_z07_1 qr_z07 n) n s K r ?_
  rw [← h]
  unfold jav
  simp only [i_z07_1]
theorem m_z07 (n : Nat) (qr_z07 : ObjS → (ObjS → Option (Int)) → (List ObjS) → (Int → Option ((List Int))) → (Int → Option ((List jaj))) → (Int → Option (jal)) → Option (RS jaP jaQ)) (a0 : ObjS) (a1 : (ObjS → Option (Int))) (a2 : (List ObjS)) (a3 : (Int → Option ((List Int)))) (a4 : (Int → Option ((List jaj)))) (a5 : (Int → Option (jal))) : jbx PP (jhH qr_z07) jfX (jlT n qr_z07) Try.f57 (jad Try.f57) (EK.encs jvs ((a0, ((), ((), ((), ((), ()))))), (((), ()), (a1, (((), ()), (((), ((), ((), (a2, ())))), (a3, (a4, (a5, (((), ()), (((), ()), ())))))))))).1) (HK.encs jvi ((a0, ((), ((), ((), ((), ()))))), (((), ()), (a1, (((), ()), (((), ((), ((), (a2, ())))), (a3, (a4, (a5, (((), ()), (((), ()), ())))))))))).2) = jsC n qr_z07 a0 a1 a2 a3 a4 a5 := by kernel_rfl
theorem g_z07 (n : Nat) (qr_z07 : ObjS → (ObjS → Option (Int)) → (List ObjS) → (Int → Option ((List Int))) → (Int → Option ((List jaj))) → (Int → Option (jal)) → Option (RS jaP jaQ)) (a0 : ObjS) (a1 : (ObjS → Option (Int))) (a2 : (List ObjS)) (a3 : (Int → Option ((List Int)))) (a4 : (Int → Option ((List jaj)))) (a5 : (Int → Option (jal))) {r : Res} (h : jsC n qr_z07 a0 a1 a2 a3 a4 a5 = some r) : runF PP (jhH qr_z07) n jfX 57 (EK.encs jvs ((a0, ((), ((), ((), ((), ()))))), (((), ()), (a1, (((), ()), (((), ((), ((), (a2, ())))), (a3, (a4, (a5, (((), ()), (((), ()), ())))))))))).1) (HK.encs jvi ((a0, ((), ((), ((), ((), ()))))), (((), ()), (a1, (((), ()), (((), ((), ((), (a2, ())))), (a3, (a4, (a5, (((), ()), (((), ()), ())))))))))).2) = some r := by
  have hb : LOk PP (jhH qr_z07) Try.f57.ntmps 9 n jfX (jlT n qr_z07) (jad Try.f57) := ⟨trivial, ⟨⟨trivial, ⟨trivial, ⟨⟨trivial, trivial⟩, trivial⟩⟩⟩, ⟨trivial, ⟨⟨trivial, ⟨trivial, ⟨⟨trivial, ⟨⟨trivial, (o_z07_3 qr_z07 n)⟩, ⟨trivial, ⟨trivial, trivial⟩⟩⟩⟩, ⟨trivial, ⟨trivial, ⟨trivial, ⟨trivial, (o_z07_1 qr_z07 n)⟩⟩⟩⟩⟩⟩⟩, ⟨trivial, ⟨trivial, trivial⟩⟩⟩⟩⟩⟩
  exact jas PP (c := jad Try.f57) Try.func57 (show Try.f57.body = some (jad Try.f57) from rfl) (show (5 : Nat) ≤ 104 by decide) hb ((m_z07 n qr_z07 a0 a1 a2 a3 a4 a5).trans h) rfl (by kernel_rfl)
noncomputable def c_z07 : Spec := jbe jvs jvi jaP jaQ fun a b => jCr a.1 b.2.1 b.2.2.2.1.2.2.2.1 b.2.2.2.2.1 b.2.2.2.2.2.1 b.2.2.2.2.2.2.1
theorem kr_z07 (hm : Try.prog.follows .mixedOrders = true) (qr_z07 : ObjS → (ObjS → Option (Int)) → (List ObjS) → (Int → Option ((List Int))) → (Int → Option ((List jaj))) → (Int → Option (jal)) → Option (RS jaP jaQ)) (hr_z07 : jaJ PP 57 (jbe jvs jvi jaP jaQ fun a b => qr_z07 a.1 b.2.1 b.2.2.2.1.2.2.2.1 b.2.2.2.2.1 b.2.2.2.2.2.1 b.2.2.2.2.2.2.1)) : CallSound PP (jhH qr_z07) := jaX (jaf (hr_z07) (jaf (k_z06 hm qr_z07 hr_z07) jay))
theorem jGw (hm : Try.prog.follows .mixedOrders = true) : ∀ dp, jaJ PP 57 (jbe jvs jvi jaP jaQ fun a b => jon dp a.1 b.2.1 b.2.2.2.1.2.2.2.1 b.2.2.2.2.1 b.2.2.2.2.2.1 b.2.2.2.2.2.2.1)
  | 0 => jaC (pol := jfX) hm (cf := mkCF [] []) (jaX jay) fun a b r h => by cases h
  | dp + 1 => jaC (pol := jfX) hm (kr_z07 hm (jon dp) (jGw hm dp)) fun a b r h => ⟨FUEL, g_z07 FUEL (jon dp) a.1 b.2.1 b.2.2.2.1.2.2.2.1 b.2.2.2.2.1 b.2.2.2.2.2.1 b.2.2.2.2.2.2.1 (jar h)⟩
theorem k_z07 (hm : Try.prog.follows .mixedOrders = true) : jaJ PP 57 c_z07 := jGw hm FUEL
def s_z08_r : Sig := ⟨[4], [.ty (.int .i64)], [.one false [.mp 1, .mp 2, .mp 3, .ty (.slice ObjT)], .mf (.int .i64) (.slice (.int .i64)), .mf (.int .i64) (.slice jaV), .mf (.int .i64) jaW]⟩
def jDA : Pol := ⟨fun i => none, fun i => none, some [(4, .keep)], [.keep], []⟩
def e_z08 : List EK := [.ptr 0 0 0, .agg ObjT]
def h_z08 : List HK := [.one false [.mp 1, .mp 2, .mp 3, .ty (.slice ObjT)], .mf (.int .i64) (.slice (.int .i64)), .mf (.int .i64) (.slice jaV), .mf (.int .i64) jaW]
noncomputable def jzm : CallF := mkCF [(57, c_z07)] []
noncomputable def jGt (n : Nat) : jbk := fun i =>  none
theorem m_z08 (n : Nat) (a0 : ObjS) (a1 : (List ObjS)) (a2 : (Int → Option ((List Int)))) (a3 : (Int → Option ((List jaj)))) (a4 : (Int → Option (jal))) : jbx PP jzm jDA (jGt n) Try.f45 (jad Try.f45) (EK.encs e_z08 (((), (a0, ())), (((), ((), ((), (a1, ())))), (a2, (a3, (a4, ()))))).1) (HK.encs h_z08 (((), (a0, ())), (((), ((), ((), (a1, ())))), (a2, (a3, (a4, ()))))).2) = jFG n a0 a1 a2 a3 a4 := by kernel_rfl
theorem g_z08 (n : Nat) (a0 : ObjS) (a1 : (List ObjS)) (a2 : (Int → Option ((List Int)))) (a3 : (Int → Option ((List jaj)))) (a4 : (Int → Option (jal))) {r : Res} (h : jFG n a0 a1 a2 a3 a4 = some r) : runF PP jzm n jDA 45 (EK.encs e_z08 (((), (a0, ())), (((), ((), ((), (a1, ())))), (a2, (a3, (a4, ()))))).1) (HK.encs h_z08 (((), (a0, ())), (((), ((), ((), (a1, ())))), (a2, (a3, (a4, ()))))).2) = some r := by
  have hb : LOk PP jzm Try.f45.ntmps 4 n jDA (jGt n) (jad Try.f45) := ⟨trivial, ⟨trivial, ⟨trivial, ⟨trivial, ⟨trivial, ⟨trivial, trivial⟩⟩⟩⟩⟩⟩
  exact jas PP (c := jad Try.f45) Try.func45 (show Try.f45.body = some (jad Try.f45) from rfl) (show (2 : Nat) ≤ 14 by decide) hb ((m_z08 n a0 a1 a2 a3 a4).trans h) rfl (by kernel_rfl)
noncomputable def c_z08 : Spec := jbe e_z08 h_z08 jub jus fun a b => jEO a.2.1 b.1.2.2.2.1 b.2.1 b.2.2.1 b.2.2.2.1
theorem k_z08 (hm : Try.prog.follows .mixedOrders = true) : jaJ PP 45 c_z08 := jaC (pol := jDA) hm (cf := jzm) (jaX (jaf (k_z07 hm) jay)) fun a b r h => ⟨FUEL, g_z08 FUEL a.2.1 b.1.2.2.2.1 b.2.1 b.2.2.1 b.2.2.2.1 (jar h)⟩
def s_z09_r : Sig := ⟨[4, 5], [.ty (.int .i64), .ty (.int .i64)], []⟩
def jDz : Pol := ⟨fun i => none, fun i => none, some [(4, .keep), (5, .keep)], [.keep, .keep], []⟩
def e_z09 : List EK := [.agg jag, .agg ObjT]
def h_z09 : List HK := []
noncomputable def jzl : CallF := mkCF [(30, c_z02), (31, c_z05), (45, c_z08)] [(30, [jag])]
noncomputable def jGs (n : Nat) : jbk := fun i =>  none
theorem m_z09 (n : Nat) (a0 : jaa) (a1 : ObjS) : jbx PP jzl jDz (jGs n) Try.f34 (jad Try.f34) (EK.encs e_z09 ((a0, (a1, ())), ()).1) (HK.encs h_z09 ((a0, (a1, ())), ()).2) = jFF n a0 a1 := by kernel_rfl
theorem g_z09 (n : Nat) (a0 : jaa) (a1 : ObjS) {r : Res} (h : jFF n a0 a1 = some r) : runF PP jzl n jDz 34 (EK.encs e_z09 ((a0, (a1, ())), ()).1) (HK.encs h_z09 ((a0, (a1, ())), ()).2) = some r := by
  have hb : LOk PP jzl Try.f34.ntmps 0 n jDz (jGs n) (jad Try.f34) := ⟨trivial, ⟨trivial, ⟨⟨trivial, ⟨⟨trivial, trivial⟩, trivial⟩⟩, ⟨trivial, trivial⟩⟩⟩⟩
  exact jas PP (c := jad Try.f34) Try.func34 (show Try.f34.body = some (jad Try.f34) from rfl) (show (2 : Nat) ≤ 14 by decide) hb ((m_z09 n a0 a1).trans h) rfl (by kernel_rfl)
noncomputable def jEb : Spec := jbe e_z09 h_z09 joV jpj fun a b => jEN a.1 a.2.1
theorem k_z09 (hm : Try.prog.follows .mixedOrders = true) : jaJ PP 34 jEb := jaC (pol := jDz) hm (cf := jzl) (jaX (jaf (k_z02 hm) (jaf (k_z05 hm) (jaf (k_z08 hm) jay)))) fun a b r h => ⟨FUEL, g_z09 FUEL a.1 a.2.1 (jar h)⟩
def s_z0a_r : Sig := ⟨[4, 5], [.ty (.int .i64), .ty (.int .i64)], []⟩
def jDy : Pol := ⟨fun i => none, fun i => none, some [(4, .keep), (5, .keep)], [.keep, .keep], []⟩
def e_z0a : List EK := [.agg jag, .ty (.int .i64)]
def h_z0a : List HK := []
noncomputable def jzk : CallF := mkCF [(34, jEb)] [(34, [jag, ObjT])]
noncomputable def jGr (n : Nat) : jbk := fun i =>  none
theorem m_z0a (n : Nat) (a0 : jaa) (a1 : Int) : jbx PP jzk jDy (jGr n) Try.f18 (jad Try.f18) (EK.encs e_z0a ((a0, (a1, ())), ()).1) (HK.encs h_z0a ((a0, (a1, ())), ()).2) = jFE n a0 a1 := by kernel_rfl
theorem g_z0a (n : Nat) (a0 : jaa) (a1 : Int) {r : Res} (h : jFE n a0 a1 = some r) : runF PP jzk n jDy 18 (EK.encs e_z0a ((a0, (a1, ())), ()).1) (HK.encs h_z0a ((a0, (a1, ())), ()).2) = some r := by
  have hb : LOk PP jzk Try.f18.ntmps 0 n jDy (jGr n) (jad Try.f18) := ⟨trivial, ⟨trivial, trivial⟩⟩
  exact jas PP (c := jad Try.f18) Try.func18 (show Try.f18.body = some (jad Try.f18) from rfl) (show (2 : Nat) ≤ 12 by decide) hb ((m_z0a n a0 a1).trans h) rfl (by kernel_rfl)
noncomputable def jBX : Spec := jbe e_z0a h_z0a jua jur fun a b => jCq a.1 a.2.1
theorem jDL (hm : Try.prog.follows .mixedOrders = true) : jaJ PP 18 jBX := jaC (pol := jDy) hm (cf := jzk) (jaX (jaf (k_z09 hm) jay)) fun a b r h => ⟨FUEL, g_z0a FUEL a.1 a.2.1 (jar h)⟩
def s_z0b_r : Sig := ⟨[4, 5], [.ty (.int .i64), .ty (.int .i64)], []⟩
def jDx : Pol := ⟨fun i => none, fun i => none, some [(4, .keep), (5, .keep)], [.keep, .keep], []⟩
def e_z0b : List EK := [.agg jag, .ty (.int .i64)]
def h_z0b : List HK := []
noncomputable def jzj : CallF := mkCF [(34, jEb)] [(34, [jag, ObjT])]
noncomputable def jGq (n : Nat) : jbk := fun i =>  none
theorem m_z0b (n : Nat) (a0 : jaa) (a1 : Int) : jbx PP jzj jDx (jGq n) Try.f16 (jad Try.f16) (EK.encs e_z0b ((a0, (a1, ())), ()).1) (HK.encs h_z0b ((a0, (a1, ())), ()).2) = jFD n a0 a1 := by kernel_rfl
theorem g_z0b (n : Nat) (a0 : jaa) (a1 : Int) {r : Res} (h : jFD n a0 a1 = some r) : runF PP jzj n jDx 16 (EK.encs e_z0b ((a0, (a1, ())), ()).1) (HK.encs h_z0b ((a0, (a1, ())), ()).2) = some r := by
  have hb : LOk PP jzj Try.f16.ntmps 0 n jDx (jGq n) (jad Try.f16) := ⟨trivial, ⟨trivial, trivial⟩⟩
  exact jas PP (c := jad Try.f16) Try.func16 (show Try.f16.body = some (jad Try.f16) from rfl) (show (2 : Nat) ≤ 12 by decide) hb ((m_z0b n a0 a1).trans h) rfl (by kernel_rfl)
noncomputable def jBW : Spec := jbe e_z0b h_z0b jtZ juq fun a b => jCp a.1 a.2.1
theorem jDK (hm : Try.prog.follows .mixedOrders = true) : jaJ PP 16 jBW := jaC (pol := jDx) hm (cf := jzj) (jaX (jaf (k_z09 hm) jay)) fun a b r h => ⟨FUEL, g_z0b FUEL a.1 a.2.1 (jar h)⟩
def s_z0c_r : Sig := ⟨[4, 5], [.ty (.int .i64), .ty (.int .i64)], []⟩
def jDw : Pol := ⟨fun i => none, fun i => none, some [(4, .keep), (5, .keep)], [.keep, .keep], []⟩
def e_z0c : List EK := [.agg jag, .ty (.int .i64)]
def h_z0c : List HK := []
noncomputable def jzi : CallF := mkCF [(34, jEb)] [(34, [jag, ObjT])]
noncomputable def jGp (n : Nat) : jbk := fun i =>  none
theorem m_z0c (n : Nat) (a0 : jaa) (a1 : Int) : jbx PP jzi jDw (jGp n) Try.f20 (jad Try.f20) (EK.encs e_z0c ((a0, (a1, ())), ()).1) (HK.encs h_z0c ((a0, (a1, ())), ()).2) = jFC n a0 a1 := by kernel_rfl
theorem g_z0c (n : Nat) (a0 : jaa) (a1 : Int) {r : Res} (h : jFC n a0 a1 = some r) : runF PP jzi n jDw 20 (EK.encs e_z0c ((a0, (a1, ())), ()).1) (HK.encs h_z0c ((a0, (a1, ())), ()).2) = some r := by
  have hb : LOk PP jzi Try.f20.ntmps 0 n jDw (jGp n) (jad Try.f20) := ⟨trivial, ⟨trivial, trivial⟩⟩
  exact jas PP (c := jad Try.f20) Try.func20 (show Try.f20.body = some (jad Try.f20) from rfl) (show (2 : Nat) ≤ 12 by decide) hb ((m_z0c n a0 a1).trans h) rfl (by kernel_rfl)
noncomputable def jBV : Spec := jbe e_z0c h_z0c jtY jup fun a b => jCo a.1 a.2.1
theorem jDJ (hm : Try.prog.follows .mixedOrders = true) : jaJ PP 20 jBV := jaC (pol := jDw) hm (cf := jzi) (jaX (jaf (k_z09 hm) jay)) fun a b r h => ⟨FUEL, g_z0c FUEL a.1 a.2.1 (jar h)⟩
def s_z0d_r : Sig := ⟨[6], [.ty .bool], []⟩
def jDv : Pol := ⟨fun i => none, fun i => none, some [(6, .keep)], [.keep], []⟩
def e_z0d : List EK := [.ty (.int .i64), .ty (.int .i64), .ty (.int .i64)]
def h_z0d : List HK := []
noncomputable def jzh : CallF := mkCF [] []
noncomputable def jGo (n : Nat) : jbk := fun i =>  none
theorem m_z0d (n : Nat) (a0 : Int) (a1 : Int) (a2 : Int) : jbx PP jzh jDv (jGo n) Try.f23 (jad Try.f23) (EK.encs e_z0d ((a0, (a1, (a2, ()))), ()).1) (HK.encs h_z0d ((a0, (a1, (a2, ()))), ()).2) = M_z0d n a0 a1 a2 := by kernel_rfl
theorem g_z0d (n : Nat) (a0 : Int) (a1 : Int) (a2 : Int) {r : Res} (h : M_z0d n a0 a1 a2 = some r) : runF PP jzh n jDv 23 (EK.encs e_z0d ((a0, (a1, (a2, ()))), ()).1) (HK.encs h_z0d ((a0, (a1, (a2, ()))), ()).2) = some r := by
  have hb : LOk PP jzh Try.f23.ntmps 0 n jDv (jGo n) (jad Try.f23) := ⟨trivial, ⟨trivial, trivial⟩⟩
  exact jas PP (c := jad Try.f23) Try.func23 (show Try.f23.body = some (jad Try.f23) from rfl) (show (3 : Nat) ≤ 14 by decide) hb ((m_z0d n a0 a1 a2).trans h) rfl (by kernel_rfl)
noncomputable def c_z0d : Spec := jbe e_z0d h_z0d joU jpi fun a b => Q_z0d a.1 a.2.1 a.2.2.1
theorem k_z0d (hm : Try.prog.follows .mixedOrders = true) : jaJ PP 23 c_z0d := jaC (pol := jDv) hm (cf := jzh) (jaX jay) fun a b r h => ⟨FUEL, g_z0d FUEL a.1 a.2.1 a.2.2.1 (jar h)⟩
def s_z0e_r : Sig := ⟨[2], [.ty .bool], []⟩
def jDu : Pol := ⟨fun i => none, fun i => none, some [(2, .keep)], [.keep], []⟩
def e_z0e : List EK := [.agg jag]
def h_z0e : List HK := []
noncomputable def jzg : CallF := mkCF [(30, c_z02), (31, c_z05)] [(30, [jag])]
noncomputable def jGn (n : Nat) : jbk := fun i =>  none
theorem m_z0e (n : Nat) (a0 : jaa) : jbx PP jzg jDu (jGn n) Try.f14 (jad Try.f14) (EK.encs e_z0e ((a0, ()), ()).1) (HK.encs h_z0e ((a0, ()), ()).2) = jFB n a0 := by kernel_rfl
theorem g_z0e (n : Nat) (a0 : jaa) {r : Res} (h : jFB n a0 = some r) : runF PP jzg n jDu 14 (EK.encs e_z0e ((a0, ()), ()).1) (HK.encs h_z0e ((a0, ()), ()).2) = some r := by
  have hb : LOk PP jzg Try.f14.ntmps 0 n jDu (jGn n) (jad Try.f14) := ⟨trivial, ⟨trivial, trivial⟩⟩
  exact jas PP (c := jad Try.f14) Try.func14 (show Try.f14.body = some (jad Try.f14) from rfl) (show (1 : Nat) ≤ 6 by decide) hb ((m_z0e n a0).trans h) rfl (by kernel_rfl)
noncomputable def jBU : Spec := jbe e_z0e h_z0e jtX juo fun a b => jEM a.1
theorem jDI (hm : Try.prog.follows .mixedOrders = true) : jaJ PP 14 jBU := jaC (pol := jDu) hm (cf := jzg) (jaX (jaf (k_z02 hm) (jaf (k_z05 hm) jay))) fun a b r h => ⟨FUEL, g_z0e FUEL a.1 (jar h)⟩
def s_z0f_r : Sig := ⟨[2], [.ty .bool], []⟩
def jDt : Pol := ⟨fun i => none, fun i => none, some [(2, .keep)], [.keep], []⟩
def e_z0f : List EK := [.ty (.int .i64)]
def h_z0f : List HK := []
noncomputable def jzf : CallF := mkCF [] []
noncomputable def jGm (n : Nat) : jbk := fun i =>  none
theorem m_z0f (n : Nat) (a0 : Int) : jbx PP jzf jDt (jGm n) Try.f62 (jad Try.f62) (EK.encs e_z0f ((a0, ()), ()).1) (HK.encs h_z0f ((a0, ()), ()).2) = jFA n a0 := by kernel_rfl
theorem g_z0f (n : Nat) (a0 : Int) {r : Res} (h : jFA n a0 = some r) : runF PP jzf n jDt 62 (EK.encs e_z0f ((a0, ()), ()).1) (HK.encs h_z0f ((a0, ()), ()).2) = some r := by
  have hb : LOk PP jzf Try.f62.ntmps 0 n jDt (jGm n) (jad Try.f62) := ⟨trivial, ⟨trivial, trivial⟩⟩
  exact jas PP (c := jad Try.f62) Try.func62 (show Try.f62.body = some (jad Try.f62) from rfl) (show (1 : Nat) ≤ 9 by decide) hb ((m_z0f n a0).trans h) rfl (by kernel_rfl)
noncomputable def c_z0f : Spec := jbe e_z0f h_z0f joT jph fun a b => jEL a.1
theorem k_z0f (hm : Try.prog.follows .mixedOrders = true) : jaJ PP 62 c_z0f := jaC (pol := jDt) hm (cf := jzf) (jaX jay) fun a b r h => ⟨FUEL, g_z0f FUEL a.1 (jar h)⟩
def s_z0g_r : Sig := ⟨[2], [.ty .bool], []⟩
def jDs : Pol := ⟨fun i => none, fun i => none, some [(2, .keep)], [.keep], []⟩
def e_z0g : List EK := [.agg jaG]
def h_z0g : List HK := []
noncomputable def jze : CallF := mkCF [] []
noncomputable def jGl (n : Nat) : jbk := fun i =>  none
theorem m_z0g (n : Nat) (a0 : jao) : jbx PP jze jDs (jGl n) Try.f63 (jad Try.f63) (EK.encs e_z0g ((a0, ()), ()).1) (HK.encs h_z0g ((a0, ()), ()).2) = jFz n a0 := by kernel_rfl
theorem g_z0g (n : Nat) (a0 : jao) {r : Res} (h : jFz n a0 = some r) : runF PP jze n jDs 63 (EK.encs e_z0g ((a0, ()), ()).1) (HK.encs h_z0g ((a0, ()), ()).2) = some r := by
  have hb : LOk PP jze Try.f63.ntmps 0 n jDs (jGl n) (jad Try.f63) := ⟨trivial, ⟨⟨trivial, ⟨⟨trivial, trivial⟩, trivial⟩⟩, ⟨trivial, trivial⟩⟩⟩
  exact jas PP (c := jad Try.f63) Try.func63 (show Try.f63.body = some (jad Try.f63) from rfl) (show (1 : Nat) ≤ 29 by decide) hb ((m_z0g n a0).trans h) rfl (by kernel_rfl)
noncomputable def c_z0g : Spec := jbe e_z0g h_z0g jjI jjK fun a b => jEK a.1
theorem k_z0g (hm : Try.prog.follows .mixedOrders = true) : jaJ PP 63 c_z0g := jaC (pol := jDs) hm (cf := jze) (jaX jay) fun a b r h => ⟨FUEL, g_z0g FUEL a.1 (jar h)⟩
def s_z0h_r : Sig := ⟨[2], [.ty .bool], []⟩
def jDr : Pol := ⟨fun i => none, fun i => none, some [(2, .keep)], [.keep], []⟩
def e_z0h : List EK := [.agg jaM]
def h_z0h : List HK := []
noncomputable def jzd : CallF := mkCF [] []
noncomputable def jGk (n : Nat) : jbk := fun i =>  none
theorem m_z0h (n : Nat) (a0 : jah) : jbx PP jzd jDr (jGk n) Try.f64 (jad Try.f64) (EK.encs e_z0h ((a0, ()), ()).1) (HK.encs h_z0h ((a0, ()), ()).2) = jFy n a0 := by kernel_rfl
theorem g_z0h (n : Nat) (a0 : jah) {r : Res} (h : jFy n a0 = some r) : runF PP jzd n jDr 64 (EK.encs e_z0h ((a0, ()), ()).1) (HK.encs h_z0h ((a0, ()), ()).2) = some r := by
  have hb : LOk PP jzd Try.f64.ntmps 0 n jDr (jGk n) (jad Try.f64) := ⟨trivial, ⟨⟨trivial, ⟨⟨trivial, trivial⟩, trivial⟩⟩, ⟨trivial, trivial⟩⟩⟩
  exact jas PP (c := jad Try.f64) Try.func64 (show Try.f64.body = some (jad Try.f64) from rfl) (show (1 : Nat) ≤ 17 by decide) hb ((m_z0h n a0).trans h) rfl (by kernel_rfl)
noncomputable def c_z0h : Spec := jbe e_z0h h_z0h jmR jmY fun a b => jEJ a.1
theorem k_z0h (hm : Try.prog.follows .mixedOrders = true) : jaJ PP 64 c_z0h := jaC (pol := jDr) hm (cf := jzd) (jaX jay) fun a b r h => ⟨FUEL, g_z0h FUEL a.1 (jar h)⟩
def jwl : Sig := ⟨[2], [.ty .bool], []⟩
def jew : Sig := ⟨[1, 57, 58, 59], [.ptr 0 0 0, .ty (.slice ArmT), .ty (.int .i64), .ty (.int .i64)], [.cell jaM]⟩
def jqM : Sig := ⟨[], [], []⟩
def jnx : Pol := ⟨fun i => if i = 0 then some [(1, (.own jaM)), (57, .keep), (58, .keep), (59, .keep)] else none, fun i => if i = 0 then some [] else none, some [(2, .keep)], [.keep], []⟩
def e_z0i : List EK := [.agg jaM]
def h_z0i : List HK := []
noncomputable def jod : CallF := mkCF [(62, c_z0f), (63, c_z0g), (64, c_z0h)] [(62, [(.int .i64)]), (63, [jaG]), (64, [jaM])]
noncomputable def juX (n : Nat) : jbk := fun i => if i = 0 then some (jav 0 (jnx.head 0) jew fun K v => jlz n (fun z0 => K .rt (jwl.enc ((z0, ()), ()))) (fun _ => K (.ex 0) (jqM.enc ((), ()))) v.1.2.1 v.1.2.2.1 v.2.1 n v.1.2.2.2.1)
  else  none
noncomputable def jxD : Code := jaN (jad Try.f61) [1, 1, 1, 0, 1, 0, 0]
noncomputable def jjc (n : Nat) (K : Cont) (rec : Sig.sem jew → Option Res) (v : Sig.sem jew) : Option Res := jtv n (fun z0 => K .rt (jwl.enc ((z0, ()), ()))) (fun _ => K (.ex 0) (jqM.enc ((), ()))) v.1.2.1 v.1.2.2.1 v.2.1 (fun z2 => rec (((), (v.1.2.1, (v.1.2.2.1, (z2, ())))), (v.2.1, ()))) v.1.2.2.2.1
theorem t_z0i_0 (n : Nat) (K : Cont) (rec : Sig.sem jew → Option Res) (v : Sig.sem jew) : runT PP jod Try.f61.ntmps 0 jnx (juX n) jxD (jew.enc v) (jbq 0 (jnx.head 0) jew rec K) = jjc n K rec v := by kernel_rfl
noncomputable def jsp (n : Nat) (K : Cont) (m : Nat) (v : Sig.sem jew) : Option Res := jlz n (fun z0 => K .rt (jwl.enc ((z0, ()), ()))) (fun _ => K (.ex 0) (jqM.enc ((), ()))) v.1.2.1 v.1.2.2.1 v.2.1 m v.1.2.2.2.1
theorem i_z0i_0 (n : Nat) (K : Cont) : ∀ m v, iter (jjc n K) m v = jsp n K m v := by
  intro m
  induction m with
  | zero => intro v; rfl
  | succ m ih =>
    intro v
    show jjc n K (iter (jjc n K) m) v = jjc n K (jsp n K m) v
    rw [show iter (jjc n K) m = jsp n K m from funext ih]
theorem o_z0i_0 (n : Nat) : ∀ L, juX n 0 = some L → ∀ s K r, L s K = some r → ∃ x s', jbj (run PP jod Try.f61.ntmps 0 n jnx none jxD) (gc 0 (jnx.head 0)) n s = some (x, s') ∧ K x s' = some r := by
  intro L hL s K r h
  have hL : some (jav 0 (jnx.head 0) jew fun K v => jsp n K n v) = some L := hL
  cases hL
  have hb : LOk PP jod Try.f61.ntmps 0 n jnx (juX n) jxD := ⟨trivial, ⟨⟨trivial, trivial⟩, ⟨⟨trivial, ⟨trivial, ⟨⟨trivial, trivial⟩, trivial⟩⟩⟩, trivial⟩⟩⟩
  refine jaB hb (jjc n) (t_z0i_0 n) n s K r ?_
  rw [← h]
  unfold jav
  simp only [i_z0i_0]
theorem m_z0i (n : Nat) (a0 : jah) : jbx PP jod jnx (juX n) Try.f61 (jad Try.f61) (EK.encs e_z0i ((a0, ()), ()).1) (HK.encs h_z0i ((a0, ()), ()).2) = jFx n a0 := by kernel_rfl
theorem g_z0i (n : Nat) (a0 : jah) {r : Res} (h : jFx n a0 = some r) : runF PP jod n jnx 61 (EK.encs e_z0i ((a0, ()), ()).1) (HK.encs h_z0i ((a0, ()), ()).2) = some r := by
  have hb : LOk PP jod Try.f61.ntmps 0 n jnx (juX n) (jad Try.f61) := ⟨trivial, ⟨⟨trivial, ⟨⟨trivial, trivial⟩, trivial⟩⟩, ⟨⟨trivial, ⟨⟨trivial, trivial⟩, trivial⟩⟩, ⟨⟨trivial, (o_z0i_0 n)⟩, ⟨trivial, trivial⟩⟩⟩⟩⟩
  exact jas PP (c := jad Try.f61) Try.func61 (show Try.f61.body = some (jad Try.f61) from rfl) (show (1 : Nat) ≤ 99 by decide) hb ((m_z0i n a0).trans h) rfl (by kernel_rfl)
noncomputable def c_z0i : Spec := jbe e_z0i h_z0i jdf jdg fun a b => jEI a.1
theorem k_z0i (hm : Try.prog.follows .mixedOrders = true) : jaJ PP 61 c_z0i := jaC (pol := jnx) hm (cf := jod) (jaX (jaf (k_z0f hm) (jaf (k_z0g hm) (jaf (k_z0h hm) jay)))) fun a b r h => ⟨FUEL, g_z0i FUEL a.1 (jar h)⟩
def jev : Sig := ⟨[0, 5, 6, 7], [.ty (.slice jaM), .ty (.slice jaM), .ty (.int .i64), .ty (.int .i64)], []⟩
def jwk : Sig := ⟨[2], [.ty .bool], []⟩
def jqL : Sig := ⟨[], [], []⟩
def jnw : Pol := ⟨fun i => if i = 0 then some [(0, .keep), (5, .keep), (6, .keep), (7, .keep)] else none, fun i => if i = 0 then some [] else none, some [(2, .keep)], [.keep], []⟩
def e_z0j : List EK := [.ty (.slice jaM)]
def h_z0j : List HK := []
noncomputable def joc : CallF := mkCF [(61, c_z0i)] [(61, [jaM])]
noncomputable def juW (n : Nat) : jbk := fun i => if i = 0 then some (jav 0 (jnw.head 0) jev fun K v => jly n (fun z0 => K .rt (jwk.enc ((z0, ()), ()))) (fun _ => K (.ex 0) (jqL.enc ((), ()))) v.1.1 v.1.2.1 v.1.2.2.1 n v.1.2.2.2.1)
  else  none
noncomputable def jxC : Code := jaN (jad Try.f48) [1, 0, 1, 0, 0]
noncomputable def jjb (n : Nat) (K : Cont) (rec : Sig.sem jev → Option Res) (v : Sig.sem jev) : Option Res := jtu n (fun z0 => K .rt (jwk.enc ((z0, ()), ()))) (fun _ => K (.ex 0) (jqL.enc ((), ()))) v.1.1 v.1.2.1 v.1.2.2.1 (fun z3 => rec ((v.1.1, (v.1.2.1, (v.1.2.2.1, (z3, ())))), ())) v.1.2.2.2.1
theorem t_z0j_0 (n : Nat) (K : Cont) (rec : Sig.sem jev → Option Res) (v : Sig.sem jev) : runT PP joc Try.f48.ntmps 0 jnw (juW n) jxC (jev.enc v) (jbq 0 (jnw.head 0) jev rec K) = jjb n K rec v := by kernel_rfl
noncomputable def jso (n : Nat) (K : Cont) (m : Nat) (v : Sig.sem jev) : Option Res := jly n (fun z0 => K .rt (jwk.enc ((z0, ()), ()))) (fun _ => K (.ex 0) (jqL.enc ((), ()))) v.1.1 v.1.2.1 v.1.2.2.1 m v.1.2.2.2.1
theorem i_z0j_0 (n : Nat) (K : Cont) : ∀ m v, iter (jjb n K) m v = jso n K m v := by
  intro m
  induction m with
  | zero => intro v; rfl
  | succ m ih =>
    intro v
    show jjb n K (iter (jjb n K) m) v = jjb n K (jso n K m) v
    rw [show iter (jjb n K) m = jso n K m from funext ih]
theorem o_z0j_0 (n : Nat) : ∀ L, juW n 0 = some L → ∀ s K r, L s K = some r → ∃ x s', jbj (run PP joc Try.f48.ntmps 0 n jnw none jxC) (gc 0 (jnw.head 0)) n s = some (x, s') ∧ K x s' = some r := by
  intro L hL s K r h
  have hL : some (jav 0 (jnw.head 0) jev fun K v => jso n K n v) = some L := hL
  cases hL
  have hb : LOk PP joc Try.f48.ntmps 0 n jnw (juW n) jxC := ⟨trivial, ⟨⟨trivial, trivial⟩, ⟨⟨trivial, ⟨trivial, ⟨⟨trivial, trivial⟩, trivial⟩⟩⟩, trivial⟩⟩⟩
  refine jaB hb (jjb n) (t_z0j_0 n) n s K r ?_
  rw [← h]
  unfold jav
  simp only [i_z0j_0]
theorem m_z0j (n : Nat) (a0 : (List jah)) : jbx PP joc jnw (juW n) Try.f48 (jad Try.f48) (EK.encs e_z0j ((a0, ()), ()).1) (HK.encs h_z0j ((a0, ()), ()).2) = M_z0j n a0 := by kernel_rfl
theorem g_z0j (n : Nat) (a0 : (List jah)) {r : Res} (h : M_z0j n a0 = some r) : runF PP joc n jnw 48 (EK.encs e_z0j ((a0, ()), ()).1) (HK.encs h_z0j ((a0, ()), ()).2) = some r := by
  have hb : LOk PP joc Try.f48.ntmps 0 n jnw (juW n) (jad Try.f48) := ⟨trivial, ⟨⟨trivial, (o_z0j_0 n)⟩, ⟨trivial, trivial⟩⟩⟩
  exact jas PP (c := jad Try.f48) Try.func48 (show Try.f48.body = some (jad Try.f48) from rfl) (show (1 : Nat) ≤ 31 by decide) hb ((m_z0j n a0).trans h) rfl (by kernel_rfl)
noncomputable def c_z0j : Spec := jbe e_z0j h_z0j joS jpg fun a b => jEH a.1
theorem k_z0j (hm : Try.prog.follows .mixedOrders = true) : jaJ PP 48 c_z0j := jaC (pol := jnw) hm (cf := joc) (jaX (jaf (k_z0i hm) jay)) fun a b r h => ⟨FUEL, g_z0j FUEL a.1 (jar h)⟩
def jeu : Sig := ⟨[3, 10, 11, 12], [.hs 0 0, .ty (.slice ArmT), .ty (.int .i64), .ty (.int .i64)], [.row (.int .i64)]⟩
def jqK : Sig := ⟨[3], [.hs 0 0], [.row (.int .i64)]⟩
def s_z0k_r : Sig := ⟨[2], [.hs 0 0], [.row (.int .i64)]⟩
def jnv : Pol := ⟨fun i => if i = 0 then some [(3, (.own (.int .i64))), (10, .keep), (11, .keep), (12, .keep)] else none, fun i => if i = 0 then some [(3, (.own (.int .i64)))] else none, some [(2, (.own (.int .i64)))], [(.own (.int .i64))], []⟩
def e_z0k : List EK := [.agg jaM]
def h_z0k : List HK := []
noncomputable def job : CallF := mkCF [] []
noncomputable def juV (n : Nat) : jbk := fun i => if i = 0 then some (jav 0 (jnv.head 0) jeu fun K v => jlx n (fun z0 z1 => K (.ex 0) (jqK.enc ((z0, ()), (z1, ())))) v.1.2.1 v.1.2.2.1 n v.1.1 v.1.2.2.2.1 v.2.1)
  else  none
noncomputable def jxB : Code := jaN (jad Try.f52) [1, 1, 0, 1, 0, 0]
noncomputable def jja (n : Nat) (K : Cont) (rec : Sig.sem jeu → Option Res) (v : Sig.sem jeu) : Option Res := jtt n (fun z0 z1 => K (.ex 0) (jqK.enc ((z0, ()), (z1, ())))) v.1.2.1 v.1.2.2.1 (fun z0 z3 z4 => rec ((z0, (v.1.2.1, (v.1.2.2.1, (z3, ())))), (z4, ()))) v.1.1 v.1.2.2.2.1 v.2.1
theorem t_z0k_0 (n : Nat) (K : Cont) (rec : Sig.sem jeu → Option Res) (v : Sig.sem jeu) : runT PP job Try.f52.ntmps 0 jnv (juV n) jxB (jeu.enc v) (jbq 0 (jnv.head 0) jeu rec K) = jja n K rec v := by kernel_rfl
noncomputable def jsn (n : Nat) (K : Cont) (m : Nat) (v : Sig.sem jeu) : Option Res := jlx n (fun z0 z1 => K (.ex 0) (jqK.enc ((z0, ()), (z1, ())))) v.1.2.1 v.1.2.2.1 m v.1.1 v.1.2.2.2.1 v.2.1
theorem i_z0k_0 (n : Nat) (K : Cont) : ∀ m v, iter (jja n K) m v = jsn n K m v := by
  intro m
  induction m with
  | zero => intro v; rfl
  | succ m ih =>
    intro v
    show jja n K (iter (jja n K) m) v = jja n K (jsn n K m) v
    rw [show iter (jja n K) m = jsn n K m from funext ih]
theorem o_z0k_0 (n : Nat) : ∀ L, juV n 0 = some L → ∀ s K r, L s K = some r → ∃ x s', jbj (run PP job Try.f52.ntmps 0 n jnv none jxB) (gc 0 (jnv.head 0)) n s = some (x, s') ∧ K x s' = some r := by
  intro L hL s K r h
  have hL : some (jav 0 (jnv.head 0) jeu fun K v => jsn n K n v) = some L := hL
  cases hL
  have hb : LOk PP job Try.f52.ntmps 0 n jnv (juV n) jxB := ⟨trivial, ⟨⟨trivial, trivial⟩, ⟨⟨trivial, trivial⟩, trivial⟩⟩⟩
  refine jaB hb (jja n) (t_z0k_0 n) n s K r ?_
  rw [← h]
  unfold jav
  simp only [i_z0k_0]
theorem m_z0k (n : Nat) (a0 : jah) : jbx PP job jnv (juV n) Try.f52 (jad Try.f52) (EK.encs e_z0k ((a0, ()), ()).1) (HK.encs h_z0k ((a0, ()), ()).2) = M_z0k n a0 := by kernel_rfl
theorem g_z0k (n : Nat) (a0 : jah) {r : Res} (h : M_z0k n a0 = some r) : runF PP job n jnv 52 (EK.encs e_z0k ((a0, ()), ()).1) (HK.encs h_z0k ((a0, ()), ()).2) = some r := by
  have hb : LOk PP job Try.f52.ntmps 0 n jnv (juV n) (jad Try.f52) := ⟨trivial, ⟨trivial, ⟨⟨trivial, (o_z0k_0 n)⟩, ⟨trivial, trivial⟩⟩⟩⟩
  exact jas PP (c := jad Try.f52) Try.func52 (show Try.f52.body = some (jad Try.f52) from rfl) (show (1 : Nat) ≤ 23 by decide) hb ((m_z0k n a0).trans h) rfl (by kernel_rfl)
noncomputable def c_z0k : Spec := jbe e_z0k h_z0k jtW jun fun a b => jEG a.1
theorem k_z0k (hm : Try.prog.follows .mixedOrders = true) : jaJ PP 52 c_z0k := jaC (pol := jnv) hm (cf := job) (jaX jay) fun a b r h => ⟨FUEL, g_z0k FUEL a.1 (jar h)⟩
def jet : Sig := ⟨[1, 4, 8, 9, 10], [.ty (.int .i64), .ptr 0 0 0, .ty (.slice jaM), .ty (.int .i64), .ty (.int .i64)], [.cell jaM]⟩
def jwj : Sig := ⟨[4, 5], [.ptr 0 0 0, .ty .bool], [.cell jaM]⟩
def jqJ : Sig := ⟨[4], [.ptr 0 0 0], [.cell jaM]⟩
def jnu : Pol := ⟨fun i => if i = 0 then some [(1, .keep), (4, (.own jaM)), (8, .keep), (9, .keep), (10, .keep)] else none, fun i => if i = 0 then some [(4, (.own jaM))] else none, some [(4, (.own jaM)), (5, .keep)], [.keep, .keep], []⟩
def e_z0l : List EK := [.ty (.slice jaM), .ty (.int .i64)]
def h_z0l : List HK := []
noncomputable def joa : CallF := mkCF [] []
noncomputable def juU (n : Nat) : jbk := fun i => if i = 0 then some (jav 0 (jnu.head 0) jet fun K v => jlw n (fun z0 z1 => K .rt (jwj.enc (((), (z0, ())), (z1, ())))) (fun _ => K (.ex 0) (jqJ.enc (((), ()), (v.2.1, ())))) v.1.1 v.1.2.2.1 v.1.2.2.2.1 v.2.1 n v.1.2.2.2.2.1)
  else  none
noncomputable def jxA : Code := jaN (jad Try.f51) [1, 0, 1, 0, 0]
noncomputable def jiZ (n : Nat) (K : Cont) (rec : Sig.sem jet → Option Res) (v : Sig.sem jet) : Option Res := jts n (fun z0 z1 => K .rt (jwj.enc (((), (z0, ())), (z1, ())))) (fun _ => K (.ex 0) (jqJ.enc (((), ()), (v.2.1, ())))) v.1.1 v.1.2.2.1 v.1.2.2.2.1 v.2.1 (fun z3 => rec ((v.1.1, ((), (v.1.2.2.1, (v.1.2.2.2.1, (z3, ()))))), (v.2.1, ()))) v.1.2.2.2.2.1
theorem t_z0l_0 (n : Nat) (K : Cont) (rec : Sig.sem jet → Option Res) (v : Sig.sem jet) : runT PP joa Try.f51.ntmps 0 jnu (juU n) jxA (jet.enc v) (jbq 0 (jnu.head 0) jet rec K) = jiZ n K rec v := by kernel_rfl
noncomputable def jsm (n : Nat) (K : Cont) (m : Nat) (v : Sig.sem jet) : Option Res := jlw n (fun z0 z1 => K .rt (jwj.enc (((), (z0, ())), (z1, ())))) (fun _ => K (.ex 0) (jqJ.enc (((), ()), (v.2.1, ())))) v.1.1 v.1.2.2.1 v.1.2.2.2.1 v.2.1 m v.1.2.2.2.2.1
theorem i_z0l_0 (n : Nat) (K : Cont) : ∀ m v, iter (jiZ n K) m v = jsm n K m v := by
  intro m
  induction m with
  | zero => intro v; rfl
  | succ m ih =>
    intro v
    show jiZ n K (iter (jiZ n K) m) v = jiZ n K (jsm n K m) v
    rw [show iter (jiZ n K) m = jsm n K m from funext ih]
theorem o_z0l_0 (n : Nat) : ∀ L, juU n 0 = some L → ∀ s K r, L s K = some r → ∃ x s', jbj (run PP joa Try.f51.ntmps 0 n jnu none jxA) (gc 0 (jnu.head 0)) n s = some (x, s') ∧ K x s' = some r := by
  intro L hL s K r h
  have hL : some (jav 0 (jnu.head 0) jet fun K v => jsm n K n v) = some L := hL
  cases hL
  have hb : LOk PP joa Try.f51.ntmps 0 n jnu (juU n) jxA := ⟨trivial, ⟨⟨trivial, trivial⟩, ⟨⟨trivial, ⟨trivial, ⟨⟨trivial, trivial⟩, trivial⟩⟩⟩, trivial⟩⟩⟩
  refine jaB hb (jiZ n) (t_z0l_0 n) n s K r ?_
  rw [← h]
  unfold jav
  simp only [i_z0l_0]
theorem m_z0l (n : Nat) (a0 : (List jah)) (a1 : Int) : jbx PP joa jnu (juU n) Try.f51 (jad Try.f51) (EK.encs e_z0l ((a0, (a1, ())), ()).1) (HK.encs h_z0l ((a0, (a1, ())), ()).2) = M_z0l n a0 a1 := by kernel_rfl
theorem g_z0l (n : Nat) (a0 : (List jah)) (a1 : Int) {r : Res} (h : M_z0l n a0 a1 = some r) : runF PP joa n jnu 51 (EK.encs e_z0l ((a0, (a1, ())), ()).1) (HK.encs h_z0l ((a0, (a1, ())), ()).2) = some r := by
  have hb : LOk PP joa Try.f51.ntmps 0 n jnu (juU n) (jad Try.f51) := ⟨trivial, ⟨⟨trivial, (o_z0l_0 n)⟩, ⟨trivial, trivial⟩⟩⟩
  exact jas PP (c := jad Try.f51) Try.func51 (show Try.f51.body = some (jad Try.f51) from rfl) (show (2 : Nat) ≤ 21 by decide) hb ((m_z0l n a0 a1).trans h) rfl (by kernel_rfl)
noncomputable def c_z0l : Spec := jbe e_z0l h_z0l joR jpf fun a b => jEF a.1 a.2.1
theorem k_z0l (hm : Try.prog.follows .mixedOrders = true) : jaJ PP 51 c_z0l := jaC (pol := jnu) hm (cf := joa) (jaX jay) fun a b r h => ⟨FUEL, g_z0l FUEL a.1 a.2.1 (jar h)⟩
def jes : Sig := ⟨[0, 9, 10, 11], [.ty (.slice jaM), .ty (.slice jaM), .ty (.int .i64), .ty (.int .i64)], []⟩
def jer : Sig := ⟨[0, 9, 10, 11, 16, 17, 18], [.ty (.slice jaM), .ty (.slice jaM), .ty (.int .i64), .ty (.int .i64), .hs 0 0, .ty (.int .i64), .ty (.int .i64)], [.row (.int .i64)]⟩
def jkw : Sig := ⟨[2], [.ty .bool], []⟩
def jqH : Sig := ⟨[0, 9, 10, 11], [.ty (.slice jaM), .ty (.slice jaM), .ty (.int .i64), .ty (.int .i64)], []⟩
def jqI : Sig := ⟨[], [], []⟩
def jgp : Pol := ⟨fun i => if i = 0 then some [(0, .keep), (9, .keep), (10, .keep), (11, .keep)] else if i = 2 then some [(0, .keep), (9, .keep), (10, .keep), (11, .keep), (16, (.own (.int .i64))), (17, .keep), (18, .keep)] else none, fun i => if i = 2 then some [(0, .keep), (9, .keep), (10, .keep), (11, .keep)] else if i = 0 then some [] else none, some [(2, .keep)], [.keep], []⟩
def e_z0m : List EK := [.ty (.slice jaM)]
def h_z0m : List HK := []
noncomputable def jhG : CallF := mkCF [(52, c_z0k), (51, c_z0l)] [(52, [jaM]), (51, [(.slice jaM), (.int .i64)])]
noncomputable def jlS (n : Nat) : jbk := fun i => if i = 2 then some (jav 0 (jgp.head 2) jer fun K v => jlu n (fun z0 => K .rt (jkw.enc ((z0, ()), ()))) (fun _ => K (.ex 2) (jqH.enc ((v.1.1, (v.1.2.1, (v.1.2.2.1, (v.1.2.2.2.1, ())))), ()))) v.1.1 v.1.2.1 v.1.2.2.1 v.1.2.2.2.1 v.1.2.2.2.2.1 v.1.2.2.2.2.2.1 v.2.1 n v.1.2.2.2.2.2.2.1)
  else if i = 0 then some (jav 0 (jgp.head 0) jes fun K v => jlv n (fun z0 => K .rt (jkw.enc ((z0, ()), ()))) (fun _ => K (.ex 0) (jqI.enc ((), ()))) v.1.1 v.1.2.1 v.1.2.2.1 n v.1.2.2.2.1)
  else  none
noncomputable def jxy : Code := jaN (jad Try.f49) [1, 0, 1, 0, 0, 1, 1, 0, 0, 1, 1, 0, 0]
noncomputable def jiX (n : Nat) (K : Cont) (rec : Sig.sem jer → Option Res) (v : Sig.sem jer) : Option Res := jtq n (fun z0 => K .rt (jkw.enc ((z0, ()), ()))) (fun _ => K (.ex 2) (jqH.enc ((v.1.1, (v.1.2.1, (v.1.2.2.1, (v.1.2.2.2.1, ())))), ()))) v.1.1 v.1.2.1 v.1.2.2.1 v.1.2.2.2.1 v.1.2.2.2.2.1 v.1.2.2.2.2.2.1 v.2.1 (fun z6 => rec ((v.1.1, (v.1.2.1, (v.1.2.2.1, (v.1.2.2.2.1, (v.1.2.2.2.2.1, (v.1.2.2.2.2.2.1, (z6, ()))))))), (v.2.1, ()))) v.1.2.2.2.2.2.2.1
theorem t_z0m_2 (n : Nat) (K : Cont) (rec : Sig.sem jer → Option Res) (v : Sig.sem jer) : runT PP jhG Try.f49.ntmps 0 jgp (jlS n) jxy (jer.enc v) (jbq 0 (jgp.head 2) jer rec K) = jiX n K rec v := by kernel_rfl
noncomputable def jsk (n : Nat) (K : Cont) (m : Nat) (v : Sig.sem jer) : Option Res := jlu n (fun z0 => K .rt (jkw.enc ((z0, ()), ()))) (fun _ => K (.ex 2) (jqH.enc ((v.1.1, (v.1.2.1, (v.1.2.2.1, (v.1.2.2.2.1, ())))), ()))) v.1.1 v.1.2.1 v.1.2.2.1 v.1.2.2.2.1 v.1.2.2.2.2.1 v.1.2.2.2.2.2.1 v.2.1 m v.1.2.2.2.2.2.2.1
theorem i_z0m_2 (n : Nat) (K : Cont) : ∀ m v, iter (jiX n K) m v = jsk n K m v := by
  intro m
  induction m with
  | zero => intro v; rfl
  | succ m ih =>
    intro v
    show jiX n K (iter (jiX n K) m) v = jiX n K (jsk n K m) v
    rw [show iter (jiX n K) m = jsk n K m from funext ih]
theorem o_z0m_2 (n : Nat) : ∀ L, jlS n 2 = some L → ∀ s K r, L s K = some r → ∃ x s', jbj (run PP jhG Try.f49.ntmps 0 n jgp none jxy) (gc 0 (jgp.head 2)) n s = some (x, s') ∧ K x s' = some r := by
  intro L hL s K r h
  have hL : some (jav 0 (jgp.head 2) jer fun K v => jsk n K n v) = some L := hL
  cases hL
  have hb : LOk PP jhG Try.f49.ntmps 0 n jgp (jlS n) jxy := ⟨trivial, ⟨⟨trivial, trivial⟩, ⟨⟨trivial, ⟨trivial, ⟨trivial, ⟨⟨trivial, trivial⟩, trivial⟩⟩⟩⟩, trivial⟩⟩⟩
  refine jaB hb (jiX n) (t_z0m_2 n) n s K r ?_
  rw [← h]
  unfold jav
  simp only [i_z0m_2]
noncomputable def jxz : Code := jaN (jad Try.f49) [1, 0, 1, 0, 0]
noncomputable def jiY (n : Nat) (K : Cont) (rec : Sig.sem jes → Option Res) (v : Sig.sem jes) : Option Res := jtr n (fun z0 => K .rt (jkw.enc ((z0, ()), ()))) (fun _ => K (.ex 0) (jqI.enc ((), ()))) v.1.1 v.1.2.1 v.1.2.2.1 (fun z3 => rec ((v.1.1, (v.1.2.1, (v.1.2.2.1, (z3, ())))), ())) v.1.2.2.2.1
theorem t_z0m_0 (n : Nat) (K : Cont) (rec : Sig.sem jes → Option Res) (v : Sig.sem jes) : runT PP jhG Try.f49.ntmps 0 jgp (jlS n) jxz (jes.enc v) (jbq 0 (jgp.head 0) jes rec K) = jiY n K rec v := by kernel_rfl
noncomputable def jsl (n : Nat) (K : Cont) (m : Nat) (v : Sig.sem jes) : Option Res := jlv n (fun z0 => K .rt (jkw.enc ((z0, ()), ()))) (fun _ => K (.ex 0) (jqI.enc ((), ()))) v.1.1 v.1.2.1 v.1.2.2.1 m v.1.2.2.2.1
theorem i_z0m_0 (n : Nat) (K : Cont) : ∀ m v, iter (jiY n K) m v = jsl n K m v := by
  intro m
  induction m with
  | zero => intro v; rfl
  | succ m ih =>
    intro v
    show jiY n K (iter (jiY n K) m) v = jiY n K (jsl n K m) v
    rw [show iter (jiY n K) m = jsl n K m from funext ih]
theorem o_z0m_0 (n : Nat) : ∀ L, jlS n 0 = some L → ∀ s K r, L s K = some r → ∃ x s', jbj (run PP jhG Try.f49.ntmps 0 n jgp none jxz) (gc 0 (jgp.head 0)) n s = some (x, s') ∧ K x s' = some r := by
  intro L hL s K r h
  have hL : some (jav 0 (jgp.head 0) jes fun K v => jsl n K n v) = some L := hL
  cases hL
  have hb : LOk PP jhG Try.f49.ntmps 0 n jgp (jlS n) jxz := ⟨trivial, ⟨⟨trivial, trivial⟩, ⟨⟨trivial, ⟨trivial, (o_z0m_2 n)⟩⟩, trivial⟩⟩⟩
  refine jaB hb (jiY n) (t_z0m_0 n) n s K r ?_
  rw [← h]
  unfold jav
  simp only [i_z0m_0]
theorem m_z0m (n : Nat) (a0 : (List jah)) : jbx PP jhG jgp (jlS n) Try.f49 (jad Try.f49) (EK.encs e_z0m ((a0, ()), ()).1) (HK.encs h_z0m ((a0, ()), ()).2) = M_z0m n a0 := by kernel_rfl
theorem g_z0m (n : Nat) (a0 : (List jah)) {r : Res} (h : M_z0m n a0 = some r) : runF PP jhG n jgp 49 (EK.encs e_z0m ((a0, ()), ()).1) (HK.encs h_z0m ((a0, ()), ()).2) = some r := by
  have hb : LOk PP jhG Try.f49.ntmps 0 n jgp (jlS n) (jad Try.f49) := ⟨trivial, ⟨⟨trivial, (o_z0m_0 n)⟩, ⟨trivial, trivial⟩⟩⟩
  exact jas PP (c := jad Try.f49) Try.func49 (show Try.f49.body = some (jad Try.f49) from rfl) (show (1 : Nat) ≤ 40 by decide) hb ((m_z0m n a0).trans h) rfl (by kernel_rfl)
noncomputable def c_z0m : Spec := jbe e_z0m h_z0m joQ jpe fun a b => jEE a.1
theorem k_z0m (hm : Try.prog.follows .mixedOrders = true) : jaJ PP 49 c_z0m := jaC (pol := jgp) hm (cf := jhG) (jaX (jaf (k_z0k hm) (jaf (k_z0l hm) jay))) fun a b r h => ⟨FUEL, g_z0m FUEL a.1 (jar h)⟩
def jAm : List EK := [.ty (.int .i64), .ptr 0 0 0, .ptr 1 0 0, .ptr 3 0 0, .ptr 4 0 0, .ptr 6 0 0]
def jAh : List HK := [.one true [.ty (.slice jaM)], .one false [.mp 2], .mf (.int .i64) (.int .i64), .one true [.ty .bool], .one false [.mp 5], .mf (.int .i64) (.int .i64), .one false [.fn 50 [(0, 0, 0), (1, 0, 0), (3, 0, 0), (4, 0, 0), (6, 0, 0)]]]
def s_z0n_r : Sig := ⟨[7], [.ty (.int .i64)], [.one true [.ty (.slice jaM)], .one false [.mp 2], .mf (.int .i64) (.int .i64), .one true [.ty .bool], .one false [.mp 5], .mf (.int .i64) (.int .i64), .one false [.fn 50 [(0, 0, 0), (1, 0, 0), (3, 0, 0), (4, 0, 0), (6, 0, 0)]]]⟩
def jeq : Sig := ⟨[0, 2, 4, 5, 10, 40, 41, 42], [.ty (.int .i64), .ptr 1 0 0, .ptr 4 0 0, .ptr 6 0 0, .ty (.int .i64), .hs 7 0, .ty (.int .i64), .ty (.int .i64)], [.one true [.ty (.slice jaM)], .one false [.mp 2], .mf (.int .i64) (.int .i64), .one true [.ty .bool], .one false [.mp 5], .mf (.int .i64) (.int .i64), .one false [.fn 50 [(0, 0, 0), (1, 0, 0), (3, 0, 0), (4, 0, 0), (6, 0, 0)]], .row (.int .i64)]⟩
def jqG : Sig := ⟨[0, 2, 4, 10], [.ty (.int .i64), .ptr 1 0 0, .ptr 4 0 0, .ty (.int .i64)], [.one true [.ty (.slice jaM)], .one false [.mp 2], .mf (.int .i64) (.int .i64), .one true [.ty .bool], .one false [.mp 5], .mf (.int .i64) (.int .i64), .one false [.fn 50 [(0, 0, 0), (1, 0, 0), (3, 0, 0), (4, 0, 0), (6, 0, 0)]]]⟩
def jmb : Pol := ⟨fun i => if i = 1 then some [(0, .keep), (2, .keep), (4, .keep), (5, .keep), (10, .keep), (40, (.own (.int .i64))), (41, .keep), (42, .keep)] else none, fun i => if i = 1 then some [(0, .keep), (2, .keep), (4, .keep), (10, .keep)] else none, some [(7, .keep)], [.keep], []⟩
noncomputable def jnZ (qr_z0n : Int → (List jah) → (Int → Option (Int)) → Bool → (Int → Option (Int)) → Option (RS jbQ jbR)) : CallF := mkCF [(51, c_z0l), (52, c_z0k), (50, (jbe jAm jAh jbQ jbR fun a b => qr_z0n a.1 b.1.1 b.2.2.1 b.2.2.2.1.1 b.2.2.2.2.2.1))] [(51, [(.slice jaM), (.int .i64)]), (52, [jaM])]
noncomputable def juT (n : Nat) (qr_z0n : Int → (List jah) → (Int → Option (Int)) → Bool → (Int → Option (Int)) → Option (RS jbQ jbR)) : jbk := fun i => if i = 1 then some (jav 7 (jmb.head 1) jeq fun K v => jlt n qr_z0n (fun z1 z2 z3 z4 z5 => K (.ex 1) (jqG.enc ((v.1.1, ((), ((), (z1, ())))), ((z2, ()), (((), ()), (z3, ((z4, ()), (((), ()), (z5, (((), ()), ())))))))))) v.1.1 v.1.2.2.2.2.2.1 v.1.2.2.2.2.2.2.1 v.2.2.2.2.2.2.2.2.1 n v.1.2.2.2.2.1 v.1.2.2.2.2.2.2.2.1 v.2.1.1 v.2.2.2.1 v.2.2.2.2.1.1 v.2.2.2.2.2.2.1)
  else  none
noncomputable def jxx : Code := jaN (jad Try.f50) [1, 1, 1, 1, 1, 0, 1, 0, 0]
noncomputable def jiW (qr_z0n : Int → (List jah) → (Int → Option (Int)) → Bool → (Int → Option (Int)) → Option (RS jbQ jbR)) (n : Nat) (K : Cont) (rec : Sig.sem jeq → Option Res) (v : Sig.sem jeq) : Option Res := jtp n qr_z0n (fun z1 z2 z3 z4 z5 => K (.ex 1) (jqG.enc ((v.1.1, ((), ((), (z1, ())))), ((z2, ()), (((), ()), (z3, ((z4, ()), (((), ()), (z5, (((), ()), ())))))))))) v.1.1 v.1.2.2.2.2.2.1 v.1.2.2.2.2.2.2.1 v.2.2.2.2.2.2.2.2.1 (fun z1 z4 z5 z6 z7 z8 => rec ((v.1.1, ((), ((), ((), (z1, (v.1.2.2.2.2.2.1, (v.1.2.2.2.2.2.2.1, (z4, ())))))))), ((z5, ()), (((), ()), (z6, ((z7, ()), (((), ()), (z8, (((), ()), (v.2.2.2.2.2.2.2.2.1, ())))))))))) v.1.2.2.2.2.1 v.1.2.2.2.2.2.2.2.1 v.2.1.1 v.2.2.2.1 v.2.2.2.2.1.1 v.2.2.2.2.2.2.1
theorem t_z0n_1 (qr_z0n : Int → (List jah) → (Int → Option (Int)) → Bool → (Int → Option (Int)) → Option (RS jbQ jbR)) (n : Nat) (K : Cont) (rec : Sig.sem jeq → Option Res) (v : Sig.sem jeq) : runT PP (jnZ qr_z0n) Try.f50.ntmps 7 jmb (juT n qr_z0n) jxx (jeq.enc v) (jbq 7 (jmb.head 1) jeq rec K) = jiW qr_z0n n K rec v := by kernel_rfl
noncomputable def jsj (qr_z0n : Int → (List jah) → (Int → Option (Int)) → Bool → (Int → Option (Int)) → Option (RS jbQ jbR)) (n : Nat) (K : Cont) (m : Nat) (v : Sig.sem jeq) : Option Res := jlt n qr_z0n (fun z1 z2 z3 z4 z5 => K (.ex 1) (jqG.enc ((v.1.1, ((), ((), (z1, ())))), ((z2, ()), (((), ()), (z3, ((z4, ()), (((), ()), (z5, (((), ()), ())))))))))) v.1.1 v.1.2.2.2.2.2.1 v.1.2.2.2.2.2.2.1 v.2.2.2.2.2.2.2.2.1 m v.1.2.2.2.2.1 v.1.2.2.2.2.2.2.2.1 v.2.1.1 v.2.2.2.1 v.2.2.2.2.1.1 v.2.2.2.2.2.2.1
theorem i_z0n_1 (qr_z0n : Int → (List jah) → (Int → Option (Int)) → Bool → (Int → Option (Int)) → Option (RS jbQ jbR)) (n : Nat) (K : Cont) : ∀ m v, iter (jiW qr_z0n n K) m v = jsj qr_z0n n K m v := by
  intro m
  induction m with
  | zero => intro v; rfl
  | succ m ih =>
    intro v
    show jiW qr_z0n n K (iter (jiW qr_z0n n K) m) v = jiW qr_z0n n K (jsj qr_z0n n K m) v
    rw [show iter (jiW qr_z0n n K) m = jsj qr_z0n n K m from funext ih]
theorem o_z0n_1 (qr_z0n : Int → (List jah) → (Int → Option (Int)) → Bool → (Int → Option (Int)) → Option (RS jbQ jbR)) (n : Nat) : ∀ L, juT n qr_z0n 1 = some L → ∀ s K r, L s K = some r → ∃ x s', jbj (run PP (jnZ qr_z0n) Try.f50.ntmps 7 n jmb none jxx) (gc 7 (jmb.head 1)) n s = some (x, s') ∧ K x s' = some r := by
  intro L hL s K r h
  have hL : some (jav 7 (jmb.head 1) jeq fun K v => jsj qr_z0n n K n v) = some L := hL
  cases hL
  have hb : LOk PP (jnZ qr_z0n) Try.f50.ntmps 7 n jmb (juT n qr_z0n) jxx := ⟨trivial, ⟨⟨trivial, trivial⟩, ⟨⟨trivial, trivial⟩, trivial⟩⟩⟩
  refine jaB hb (jiW qr_z0n n) (t_z0n_1 qr_z0n n) n s K r ?_
  rw [← h]
  unfold jav
  simp only [i_z0n_1]
theorem m_z0n (n : Nat) (qr_z0n : Int → (List jah) → (Int → Option (Int)) → Bool → (Int → Option (Int)) → Option (RS jbQ jbR)) (a0 : Int) (a1 : (List jah)) (a2 : (Int → Option (Int))) (a3 : Bool) (a4 : (Int → Option (Int))) : jbx PP (jnZ qr_z0n) jmb (juT n qr_z0n) Try.f50 (jad Try.f50) (EK.encs jAm ((a0, ((), ((), ((), ((), ((), ())))))), ((a1, ()), (((), ()), (a2, ((a3, ()), (((), ()), (a4, (((), ()), ())))))))).1) (HK.encs jAh ((a0, ((), ((), ((), ((), ((), ())))))), ((a1, ()), (((), ()), (a2, ((a3, ()), (((), ()), (a4, (((), ()), ())))))))).2) = jCA n qr_z0n a0 a1 a2 a3 a4 := by kernel_rfl
theorem g_z0n (n : Nat) (qr_z0n : Int → (List jah) → (Int → Option (Int)) → Bool → (Int → Option (Int)) → Option (RS jbQ jbR)) (a0 : Int) (a1 : (List jah)) (a2 : (Int → Option (Int))) (a3 : Bool) (a4 : (Int → Option (Int))) {r : Res} (h : jCA n qr_z0n a0 a1 a2 a3 a4 = some r) : runF PP (jnZ qr_z0n) n jmb 50 (EK.encs jAm ((a0, ((), ((), ((), ((), ((), ())))))), ((a1, ()), (((), ()), (a2, ((a3, ()), (((), ()), (a4, (((), ()), ())))))))).1) (HK.encs jAh ((a0, ((), ((), ((), ((), ((), ())))))), ((a1, ()), (((), ()), (a2, ((a3, ()), (((), ()), (a4, (((), ()), ())))))))).2) = some r := by
  have hb : LOk PP (jnZ qr_z0n) Try.f50.ntmps 7 n jmb (juT n qr_z0n) (jad Try.f50) := ⟨trivial, ⟨trivial, ⟨⟨trivial, ⟨⟨trivial, trivial⟩, ⟨trivial, ⟨⟨trivial, ⟨trivial, trivial⟩⟩, ⟨trivial, ⟨⟨trivial, trivial⟩, trivial⟩⟩⟩⟩⟩⟩, ⟨trivial, ⟨trivial, ⟨⟨trivial, (o_z0n_1 qr_z0n n)⟩, ⟨trivial, ⟨trivial, ⟨trivial, trivial⟩⟩⟩⟩⟩⟩⟩⟩⟩
  exact jas PP (c := jad Try.f50) Try.func50 (show Try.f50.body = some (jad Try.f50) from rfl) (show (6 : Nat) ≤ 62 by decide) hb ((m_z0n n qr_z0n a0 a1 a2 a3 a4).trans h) rfl (by kernel_rfl)
noncomputable def c_z0n : Spec := jbe jAm jAh jbQ jbR fun a b => jCn a.1 b.1.1 b.2.2.1 b.2.2.2.1.1 b.2.2.2.2.2.1
theorem kr_z0n (hm : Try.prog.follows .mixedOrders = true) (qr_z0n : Int → (List jah) → (Int → Option (Int)) → Bool → (Int → Option (Int)) → Option (RS jbQ jbR)) (hr_z0n : jaJ PP 50 (jbe jAm jAh jbQ jbR fun a b => qr_z0n a.1 b.1.1 b.2.2.1 b.2.2.2.1.1 b.2.2.2.2.2.1)) : CallSound PP (jnZ qr_z0n) := jaX (jaf (k_z0l hm) (jaf (k_z0k hm) (jaf (hr_z0n) jay)))
theorem jGv (hm : Try.prog.follows .mixedOrders = true) : ∀ dp, jaJ PP 50 (jbe jAm jAh jbQ jbR fun a b => jom dp a.1 b.1.1 b.2.2.1 b.2.2.2.1.1 b.2.2.2.2.2.1)
  | 0 => jaC (pol := jmb) hm (cf := mkCF [] []) (jaX jay) fun a b r h => by cases h
  | dp + 1 => jaC (pol := jmb) hm (kr_z0n hm (jom dp) (jGv hm dp)) fun a b r h => ⟨FUEL, g_z0n FUEL (jom dp) a.1 b.1.1 b.2.2.1 b.2.2.2.1.1 b.2.2.2.2.2.1 (jar h)⟩
theorem k_z0n (hm : Try.prog.follows .mixedOrders = true) : jaJ PP 50 c_z0n := jGv hm FUEL
def jep : Sig := ⟨[6, 7, 13, 14, 15], [.ptr 0 0 0, .ptr 1 0 0, .ty (.slice jaM), .ty (.int .i64), .ty (.int .i64)], [.one true [.ty .bool], .one false [.fn 50 [(2, 0, 0), (3, 0, 0), (0, 0, 0), (5, 0, 0), (1, 0, 0)]], .one true [.ty (.slice jaM)], .one false [.mp 4], .mf (.int .i64) (.int .i64), .one false [.mp 6], .mf (.int .i64) (.int .i64)]⟩
def jqF : Sig := ⟨[6, 7], [.ptr 0 0 0, .ptr 1 0 0], [.one true [.ty .bool], .one false [.fn 50 [(2, 0, 0), (3, 0, 0), (0, 0, 0), (5, 0, 0), (1, 0, 0)]], .one true [.ty (.slice jaM)], .one false [.mp 4], .mf (.int .i64) (.int .i64), .one false [.mp 6], .mf (.int .i64) (.int .i64)]⟩
def s_z0o_r : Sig := ⟨[2, 3], [.fn 50 [(0, 0, 0), (1, 0, 0), (3, 0, 0), (4, 0, 0), (6, 0, 0)], .ty .bool], [.one true [.ty (.slice jaM)], .one false [.mp 2], .mf (.int .i64) (.int .i64), .one true [.ty .bool], .one false [.mp 5], .mf (.int .i64) (.int .i64), .one false [.fn 50 [(0, 0, 0), (1, 0, 0), (3, 0, 0), (4, 0, 0), (6, 0, 0)]]]⟩
def jnt : Pol := ⟨fun i => if i = 0 then some [(6, .keep), (7, .keep), (13, .keep), (14, .keep), (15, .keep)] else none, fun i => if i = 0 then some [(6, .keep), (7, .keep)] else none, some [(2, .keep), (3, .keep)], [.keep, .keep], []⟩
def e_z0o : List EK := [.ty (.slice jaM)]
def h_z0o : List HK := []
noncomputable def jnY : CallF := mkCF [(50, c_z0n)] []
noncomputable def juS (n : Nat) : jbk := fun i => if i = 0 then some (jav 0 (jnt.head 0) jep fun K v => jls n (fun z0 z1 z2 z3 => K (.ex 0) (jqF.enc (((), ((), ())), ((z0, ()), (((), ()), ((z1, ()), (((), ()), (z2, (((), ()), (z3, ())))))))))) v.1.2.2.1 v.1.2.2.2.1 n v.1.2.2.2.2.1 v.2.1.1 v.2.2.2.1.1 v.2.2.2.2.2.1 v.2.2.2.2.2.2.2.1)
  else  none
noncomputable def jxw : Code := jaN (jad Try.f39) [1, 1, 1, 1, 1, 0, 1, 0, 0]
noncomputable def jiV (n : Nat) (K : Cont) (rec : Sig.sem jep → Option Res) (v : Sig.sem jep) : Option Res := jto n (fun z0 z1 z2 z3 => K (.ex 0) (jqF.enc (((), ((), ())), ((z0, ()), (((), ()), ((z1, ()), (((), ()), (z2, (((), ()), (z3, ())))))))))) v.1.2.2.1 v.1.2.2.2.1 (fun z2 z3 z4 z5 z6 => rec (((), ((), (v.1.2.2.1, (v.1.2.2.2.1, (z2, ()))))), ((z3, ()), (((), ()), ((z4, ()), (((), ()), (z5, (((), ()), (z6, ()))))))))) v.1.2.2.2.2.1 v.2.1.1 v.2.2.2.1.1 v.2.2.2.2.2.1 v.2.2.2.2.2.2.2.1
theorem t_z0o_0 (n : Nat) (K : Cont) (rec : Sig.sem jep → Option Res) (v : Sig.sem jep) : runT PP jnY Try.f39.ntmps 0 jnt (juS n) jxw (jep.enc v) (jbq 0 (jnt.head 0) jep rec K) = jiV n K rec v := by kernel_rfl
noncomputable def jsi (n : Nat) (K : Cont) (m : Nat) (v : Sig.sem jep) : Option Res := jls n (fun z0 z1 z2 z3 => K (.ex 0) (jqF.enc (((), ((), ())), ((z0, ()), (((), ()), ((z1, ()), (((), ()), (z2, (((), ()), (z3, ())))))))))) v.1.2.2.1 v.1.2.2.2.1 m v.1.2.2.2.2.1 v.2.1.1 v.2.2.2.1.1 v.2.2.2.2.2.1 v.2.2.2.2.2.2.2.1
theorem i_z0o_0 (n : Nat) (K : Cont) : ∀ m v, iter (jiV n K) m v = jsi n K m v := by
  intro m
  induction m with
  | zero => intro v; rfl
  | succ m ih =>
    intro v
    show jiV n K (iter (jiV n K) m) v = jiV n K (jsi n K m) v
    rw [show iter (jiV n K) m = jsi n K m from funext ih]
theorem o_z0o_0 (n : Nat) : ∀ L, juS n 0 = some L → ∀ s K r, L s K = some r → ∃ x s', jbj (run PP jnY Try.f39.ntmps 0 n jnt none jxw) (gc 0 (jnt.head 0)) n s = some (x, s') ∧ K x s' = some r := by
  intro L hL s K r h
  have hL : some (jav 0 (jnt.head 0) jep fun K v => jsi n K n v) = some L := hL
  cases hL
  have hb : LOk PP jnY Try.f39.ntmps 0 n jnt (juS n) jxw := ⟨trivial, ⟨⟨trivial, trivial⟩, ⟨⟨trivial, trivial⟩, trivial⟩⟩⟩
  refine jaB hb (jiV n) (t_z0o_0 n) n s K r ?_
  rw [← h]
  unfold jav
  simp only [i_z0o_0]
theorem m_z0o (n : Nat) (a0 : (List jah)) : jbx PP jnY jnt (juS n) Try.f39 (jad Try.f39) (EK.encs e_z0o ((a0, ()), ()).1) (HK.encs h_z0o ((a0, ()), ()).2) = M_z0o n a0 := by kernel_rfl
theorem g_z0o (n : Nat) (a0 : (List jah)) {r : Res} (h : M_z0o n a0 = some r) : runF PP jnY n jnt 39 (EK.encs e_z0o ((a0, ()), ()).1) (HK.encs h_z0o ((a0, ()), ()).2) = some r := by
  have hb : LOk PP jnY Try.f39.ntmps 0 n jnt (juS n) (jad Try.f39) := ⟨trivial, ⟨trivial, ⟨trivial, ⟨trivial, ⟨trivial, ⟨⟨trivial, (o_z0o_0 n)⟩, ⟨trivial, trivial⟩⟩⟩⟩⟩⟩⟩
  exact jas PP (c := jad Try.f39) Try.func39 (show Try.f39.body = some (jad Try.f39) from rfl) (show (1 : Nat) ≤ 26 by decide) hb ((m_z0o n a0).trans h) rfl (by kernel_rfl)
noncomputable def c_z0o : Spec := jbe e_z0o h_z0o jmQ jmX fun a b => jCm a.1
theorem k_z0o (hm : Try.prog.follows .mixedOrders = true) : jaJ PP 39 c_z0o := jaC (pol := jnt) hm (cf := jnY) (jaX (jaf (k_z0n hm) jay)) fun a b r h => ⟨FUEL, g_z0o FUEL a.1 (jar h)⟩
def s_z0p_r : Sig := ⟨[2], [.ty (.int .i64)], []⟩
def jDq : Pol := ⟨fun i => none, fun i => none, some [(2, .keep)], [.keep], []⟩
def e_z0p : List EK := [.ty (.slice jaM)]
def h_z0p : List HK := []
noncomputable def jzc : CallF := mkCF [(48, c_z0j), (49, c_z0m), (39, c_z0o)] [(48, [(.slice jaM)]), (49, [(.slice jaM)]), (39, [(.slice jaM)])]
noncomputable def jGj (n : Nat) : jbk := fun i =>  none
theorem m_z0p (n : Nat) (a0 : (List jah)) : jbx PP jzc jDq (jGj n) Try.f38 (jad Try.f38) (EK.encs e_z0p ((a0, ()), ()).1) (HK.encs h_z0p ((a0, ()), ()).2) = jFw n a0 := by kernel_rfl
theorem g_z0p (n : Nat) (a0 : (List jah)) {r : Res} (h : jFw n a0 = some r) : runF PP jzc n jDq 38 (EK.encs e_z0p ((a0, ()), ()).1) (HK.encs h_z0p ((a0, ()), ()).2) = some r := by
  have hb : LOk PP jzc Try.f38.ntmps 0 n jDq (jGj n) (jad Try.f38) := ⟨trivial, ⟨⟨trivial, ⟨⟨trivial, trivial⟩, ⟨trivial, ⟨⟨trivial, trivial⟩, ⟨trivial, ⟨⟨trivial, trivial⟩, trivial⟩⟩⟩⟩⟩⟩, ⟨⟨trivial, ⟨trivial, ⟨⟨trivial, trivial⟩, trivial⟩⟩⟩, ⟨trivial, trivial⟩⟩⟩⟩
  exact jas PP (c := jad Try.f38) Try.func38 (show Try.f38.body = some (jad Try.f38) from rfl) (show (1 : Nat) ≤ 24 by decide) hb ((m_z0p n a0).trans h) rfl (by kernel_rfl)
noncomputable def c_z0p : Spec := jbe e_z0p h_z0p jjH jjJ fun a b => jED a.1
theorem k_z0p (hm : Try.prog.follows .mixedOrders = true) : jaJ PP 38 c_z0p := jaC (pol := jDq) hm (cf := jzc) (jaX (jaf (k_z0j hm) (jaf (k_z0m hm) (jaf (k_z0o hm) jay)))) fun a b r h => ⟨FUEL, g_z0p FUEL a.1 (jar h)⟩
def s_z0q_r : Sig := ⟨[2], [.ty (.int .i64)], []⟩
def jDp : Pol := ⟨fun i => none, fun i => none, some [(2, .keep)], [.keep], []⟩
def e_z0q : List EK := [.ty (.slice jaM)]
def h_z0q : List HK := []
noncomputable def jzb : CallF := mkCF [(38, c_z0p), (39, c_z0o), (50, c_z0n)] [(38, [(.slice jaM)]), (39, [(.slice jaM)])]
noncomputable def jGi (n : Nat) : jbk := fun i =>  none
theorem m_z0q (n : Nat) (a0 : (List jah)) : jbx PP jzb jDp (jGi n) Try.f27 (jad Try.f27) (EK.encs e_z0q ((a0, ()), ()).1) (HK.encs h_z0q ((a0, ()), ()).2) = jCz n a0 := by kernel_rfl
theorem g_z0q (n : Nat) (a0 : (List jah)) {r : Res} (h : jCz n a0 = some r) : runF PP jzb n jDp 27 (EK.encs e_z0q ((a0, ()), ()).1) (HK.encs h_z0q ((a0, ()), ()).2) = some r := by
  have hb : LOk PP jzb Try.f27.ntmps 0 n jDp (jGi n) (jad Try.f27) := ⟨trivial, ⟨⟨trivial, ⟨⟨trivial, trivial⟩, trivial⟩⟩, ⟨trivial, ⟨trivial, trivial⟩⟩⟩⟩
  exact jas PP (c := jad Try.f27) Try.func27 (show Try.f27.body = some (jad Try.f27) from rfl) (show (1 : Nat) ≤ 15 by decide) hb ((m_z0q n a0).trans h) rfl (by kernel_rfl)
noncomputable def c_z0q : Spec := jbe e_z0q h_z0q joP jpd fun a b => jAu a.1
theorem k_z0q (hm : Try.prog.follows .mixedOrders = true) : jaJ PP 27 c_z0q := jaC (pol := jDp) hm (cf := jzb) (jaX (jaf (k_z0p hm) (jaf (k_z0o hm) (jaf (k_z0n hm) jay)))) fun a b r h => ⟨FUEL, g_z0q FUEL a.1 (jar h)⟩
def s_z0r_r : Sig := ⟨[2, 3], [.ty (.int .i64), .ty (.int .i64)], []⟩
def jDo : Pol := ⟨fun i => none, fun i => none, some [(2, .keep), (3, .keep)], [.keep, .keep], []⟩
def e_z0r : List EK := [.agg jag]
def h_z0r : List HK := []
noncomputable def jza : CallF := mkCF [(16, jBW), (27, c_z0q)] [(16, [jag, (.int .i64)]), (27, [(.slice jaM)])]
noncomputable def jGh (n : Nat) : jbk := fun i =>  none
theorem m_z0r (n : Nat) (a0 : jaa) : jbx PP jza jDo (jGh n) Try.f12 (jad Try.f12) (EK.encs e_z0r ((a0, ()), ()).1) (HK.encs h_z0r ((a0, ()), ()).2) = jFv n a0 := by kernel_rfl
theorem g_z0r (n : Nat) (a0 : jaa) {r : Res} (h : jFv n a0 = some r) : runF PP jza n jDo 12 (EK.encs e_z0r ((a0, ()), ()).1) (HK.encs h_z0r ((a0, ()), ()).2) = some r := by
  have hb : LOk PP jza Try.f12.ntmps 0 n jDo (jGh n) (jad Try.f12) := ⟨trivial, ⟨trivial, ⟨⟨trivial, ⟨⟨trivial, trivial⟩, trivial⟩⟩, ⟨trivial, trivial⟩⟩⟩⟩
  exact jas PP (c := jad Try.f12) Try.func12 (show Try.f12.body = some (jad Try.f12) from rfl) (show (1 : Nat) ≤ 20 by decide) hb ((m_z0r n a0).trans h) rfl (by kernel_rfl)
noncomputable def jEa : Spec := jbe e_z0r h_z0r joO jpc fun a b => jEC a.1
theorem k_z0r (hm : Try.prog.follows .mixedOrders = true) : jaJ PP 12 jEa := jaC (pol := jDo) hm (cf := jza) (jaX (jaf (jDK hm) (jaf (k_z0q hm) jay))) fun a b r h => ⟨FUEL, g_z0r FUEL a.1 (jar h)⟩
def s_z0s_r : Sig := ⟨[0], [.ty .bool], []⟩
def jDn : Pol := ⟨fun i => none, fun i => none, some [(0, .keep)], [.keep], []⟩
def e_z0s : List EK := []
def h_z0s : List HK := []
noncomputable def jyZ : CallF := mkCF [(22, c_z01), (18, jBX), (16, jBW), (20, jBV), (23, c_z0d), (14, jBU), (12, jEa)] [(22, [(.slice (.int .u8))]), (18, [jag, (.int .i64)]), (16, [jag, (.int .i64)]), (20, [jag, (.int .i64)]), (23, [(.int .i64), (.int .i64), (.int .i64)]), (14, [jag]), (12, [jag])]
noncomputable def jGg (n : Nat) : jbk := fun i =>  none
theorem m_z0s (n : Nat) : jbx PP jyZ jDn (jGg n) Try.f11 (jad Try.f11) (EK.encs e_z0s ((), ()).1) (HK.encs h_z0s ((), ()).2) = M_z0s n := by kernel_rfl
theorem g_z0s (n : Nat) {r : Res} (h : M_z0s n = some r) : runF PP jyZ n jDn 11 (EK.encs e_z0s ((), ()).1) (HK.encs h_z0s ((), ()).2) = some r := by
  have hb : LOk PP jyZ Try.f11.ntmps 0 n jDn (jGg n) (jad Try.f11) := ⟨trivial, ⟨trivial, ⟨trivial, ⟨trivial, ⟨trivial, ⟨trivial, ⟨trivial, ⟨⟨trivial, ⟨⟨trivial, trivial⟩, trivial⟩⟩, ⟨trivial, ⟨trivial, ⟨trivial, ⟨trivial, trivial⟩⟩⟩⟩⟩⟩⟩⟩⟩⟩⟩⟩
  exact jas PP (c := jad Try.f11) Try.func11 (show Try.f11.body = some (jad Try.f11) from rfl) (show (0 : Nat) ≤ 117 by decide) hb ((m_z0s n).trans h) rfl (by kernel_rfl)
noncomputable def jDZ : Spec := jbe e_z0s h_z0s jfy jfA fun a b => jCl
theorem k_z0s (hm : Try.prog.follows .mixedOrders = true) : jaJ PP 11 jDZ := jaC (pol := jDn) hm (cf := jyZ) (jaX (jaf (k_z01 hm) (jaf (jDL hm) (jaf (jDK hm) (jaf (jDJ hm) (jaf (k_z0d hm) (jaf (jDI hm) (jaf (k_z0r hm) jay)))))))) fun a b r h => ⟨FUEL, g_z0s FUEL (jar h)⟩
def jeo : Sig := ⟨[0, 1, 2, 7], [.ty (.slice jaG), .ty (.int .i64), .ty (.int .i64), .ty (.int .i64)], []⟩
def jwi : Sig := ⟨[6], [.ty (.int .i64)], []⟩
def jqE : Sig := ⟨[], [], []⟩
def jns : Pol := ⟨fun i => if i = 0 then some [(0, .keep), (1, .keep), (2, .keep), (7, .keep)] else none, fun i => if i = 0 then some [] else none, some [(6, .keep)], [.keep], []⟩
def e_z0t : List EK := [.ty (.slice jaG), .ty (.int .i64), .ty (.int .i64)]
def h_z0t : List HK := []
noncomputable def jnX : CallF := mkCF [] []
noncomputable def juR (n : Nat) : jbk := fun i => if i = 0 then some (jav 0 (jns.head 0) jeo fun K v => jju n (fun z0 => K .rt (jwi.enc ((z0, ()), ()))) (fun _ => K (.ex 0) (jqE.enc ((), ()))) v.1.1 v.1.2.1 v.1.2.2.1 n v.1.2.2.2.1)
  else  none
noncomputable def jxv : Code := jaN (jad Try.f44) [1, 0, 1, 0, 0]
noncomputable def jiU (n : Nat) (K : Cont) (rec : Sig.sem jeo → Option Res) (v : Sig.sem jeo) : Option Res := jtn n (fun z0 => K .rt (jwi.enc ((z0, ()), ()))) (fun _ => K (.ex 0) (jqE.enc ((), ()))) v.1.1 v.1.2.1 v.1.2.2.1 (fun z3 => rec ((v.1.1, (v.1.2.1, (v.1.2.2.1, (z3, ())))), ())) v.1.2.2.2.1
theorem t_z0t_0 (n : Nat) (K : Cont) (rec : Sig.sem jeo → Option Res) (v : Sig.sem jeo) : runT PP jnX Try.f44.ntmps 0 jns (juR n) jxv (jeo.enc v) (jbq 0 (jns.head 0) jeo rec K) = jiU n K rec v := by kernel_rfl
noncomputable def jsh (n : Nat) (K : Cont) (m : Nat) (v : Sig.sem jeo) : Option Res := jju n (fun z0 => K .rt (jwi.enc ((z0, ()), ()))) (fun _ => K (.ex 0) (jqE.enc ((), ()))) v.1.1 v.1.2.1 v.1.2.2.1 m v.1.2.2.2.1
theorem i_z0t_0 (n : Nat) (K : Cont) : ∀ m v, iter (jiU n K) m v = jsh n K m v := by
  intro m
  induction m with
  | zero => intro v; rfl
  | succ m ih =>
    intro v
    show jiU n K (iter (jiU n K) m) v = jiU n K (jsh n K m) v
    rw [show iter (jiU n K) m = jsh n K m from funext ih]
theorem o_z0t_0 (n : Nat) : ∀ L, juR n 0 = some L → ∀ s K r, L s K = some r → ∃ x s', jbj (run PP jnX Try.f44.ntmps 0 n jns none jxv) (gc 0 (jns.head 0)) n s = some (x, s') ∧ K x s' = some r := by
  intro L hL s K r h
  have hL : some (jav 0 (jns.head 0) jeo fun K v => jsh n K n v) = some L := hL
  cases hL
  have hb : LOk PP jnX Try.f44.ntmps 0 n jns (juR n) jxv := ⟨⟨trivial, ⟨trivial, trivial⟩⟩, ⟨⟨trivial, ⟨⟨trivial, trivial⟩, trivial⟩⟩, trivial⟩⟩
  refine jaB hb (jiU n) (t_z0t_0 n) n s K r ?_
  rw [← h]
  unfold jav
  simp only [i_z0t_0]
theorem m_z0t (n : Nat) (a0 : (List jao)) (a1 : Int) (a2 : Int) : jbx PP jnX jns (juR n) Try.f44 (jad Try.f44) (EK.encs e_z0t ((a0, (a1, (a2, ()))), ()).1) (HK.encs h_z0t ((a0, (a1, (a2, ()))), ()).2) = jFu n a0 a1 a2 := by kernel_rfl
theorem g_z0t (n : Nat) (a0 : (List jao)) (a1 : Int) (a2 : Int) {r : Res} (h : jFu n a0 a1 a2 = some r) : runF PP jnX n jns 44 (EK.encs e_z0t ((a0, (a1, (a2, ()))), ()).1) (HK.encs h_z0t ((a0, (a1, (a2, ()))), ()).2) = some r := by
  have hb : LOk PP jnX Try.f44.ntmps 0 n jns (juR n) (jad Try.f44) := ⟨trivial, ⟨⟨trivial, (o_z0t_0 n)⟩, ⟨trivial, trivial⟩⟩⟩
  exact jas PP (c := jad Try.f44) Try.func44 (show Try.f44.body = some (jad Try.f44) from rfl) (show (3 : Nat) ≤ 31 by decide) hb ((m_z0t n a0 a1 a2).trans h) rfl (by kernel_rfl)
noncomputable def jDY : Spec := jbe e_z0t h_z0t jmP jmW fun a b => jEB a.1 a.2.1 a.2.2.1
theorem k_z0t (hm : Try.prog.follows .mixedOrders = true) : jaJ PP 44 jDY := jaC (pol := jns) hm (cf := jnX) (jaX jay) fun a b r h => ⟨FUEL, g_z0t FUEL a.1 a.2.1 a.2.2.1 (jar h)⟩
def jen : Sig := ⟨[1, 3, 4], [.ptr 0 0 0, .hs 1 0, .ty (.int .i64)], [.cell jag, .row jaG]⟩
def jqD : Sig := ⟨[1, 3], [.ptr 0 0 0, .hs 1 0], [.cell jag, .row jaG]⟩
def jem : Sig := ⟨[1, 3, 5], [.ptr 0 0 0, .hs 1 0, .ty (.int .i64)], [.cell jag, .row jaG]⟩
def jqC : Sig := ⟨[1, 3], [.ptr 0 0 0, .hs 1 0], [.cell jag, .row jaG]⟩
def jel : Sig := ⟨[1, 3, 6], [.ptr 0 0 0, .hs 1 0, .ty (.int .i64)], [.cell jag, .row jaG]⟩
def jqB : Sig := ⟨[3], [.hs 0 0], [.row jaG]⟩
def s_z0u_r : Sig := ⟨[2], [.hs 0 0], [.row jaG]⟩
def jdp : Pol := ⟨fun i => if i = 0 then some [(1, (.own jag)), (3, (.own jaG)), (4, .keep)] else if i = 2 then some [(1, (.own jag)), (3, (.own jaG)), (5, .keep)] else if i = 4 then some [(1, (.own jag)), (3, (.own jaG)), (6, .keep)] else none, fun i => if i = 0 then some [(1, (.own jag)), (3, (.own jaG))] else if i = 2 then some [(1, (.own jag)), (3, (.own jaG))] else if i = 4 then some [(3, (.own jaG))] else none, some [(2, (.own jaG))], [(.own jaG)], []⟩
def e_z0u : List EK := [.agg jag]
def h_z0u : List HK := []
noncomputable def jfM : CallF := mkCF [(44, jDY)] [(44, [(.slice jaG), (.int .i64), (.int .i64)])]
noncomputable def jgE (n : Nat) : jbk := fun i => if i = 0 then some (jav 0 (jdp.head 0) jen fun K v => jlr n (fun z0 z2 => K (.ex 0) (jqD.enc (((), (z0, ())), (v.2.1, (z2, ()))))) v.2.1 n v.1.2.1 v.1.2.2.1 v.2.2.1)
  else if i = 2 then some (jav 0 (jdp.head 2) jem fun K v => jlq n (fun z0 z2 => K (.ex 2) (jqC.enc (((), (z0, ())), (v.2.1, (z2, ()))))) v.2.1 n v.1.2.1 v.1.2.2.1 v.2.2.1)
  else if i = 4 then some (jav 0 (jdp.head 4) jel fun K v => jlp n (fun z0 z1 => K (.ex 4) (jqB.enc ((z0, ()), (z1, ())))) v.2.1 n v.1.2.1 v.1.2.2.1 v.2.2.1)
  else  none
noncomputable def jxu : Code := jaN (jad Try.f32) [1, 1, 0, 1, 0, 0]
noncomputable def jiT (n : Nat) (K : Cont) (rec : Sig.sem jen → Option Res) (v : Sig.sem jen) : Option Res := jtm n (fun z0 z2 => K (.ex 0) (jqD.enc (((), (z0, ())), (v.2.1, (z2, ()))))) v.2.1 (fun z0 z1 z3 => rec (((), (z0, (z1, ()))), (v.2.1, (z3, ())))) v.1.2.1 v.1.2.2.1 v.2.2.1
theorem t_z0u_0 (n : Nat) (K : Cont) (rec : Sig.sem jen → Option Res) (v : Sig.sem jen) : runT PP jfM Try.f32.ntmps 0 jdp (jgE n) jxu (jen.enc v) (jbq 0 (jdp.head 0) jen rec K) = jiT n K rec v := by kernel_rfl
noncomputable def jsg (n : Nat) (K : Cont) (m : Nat) (v : Sig.sem jen) : Option Res := jlr n (fun z0 z2 => K (.ex 0) (jqD.enc (((), (z0, ())), (v.2.1, (z2, ()))))) v.2.1 m v.1.2.1 v.1.2.2.1 v.2.2.1
theorem i_z0u_0 (n : Nat) (K : Cont) : ∀ m v, iter (jiT n K) m v = jsg n K m v := by
  intro m
  induction m with
  | zero => intro v; rfl
  | succ m ih =>
    intro v
    show jiT n K (iter (jiT n K) m) v = jiT n K (jsg n K m) v
    rw [show iter (jiT n K) m = jsg n K m from funext ih]
theorem o_z0u_0 (n : Nat) : ∀ L, jgE n 0 = some L → ∀ s K r, L s K = some r → ∃ x s', jbj (run PP jfM Try.f32.ntmps 0 n jdp none jxu) (gc 0 (jdp.head 0)) n s = some (x, s') ∧ K x s' = some r := by
  intro L hL s K r h
  have hL : some (jav 0 (jdp.head 0) jen fun K v => jsg n K n v) = some L := hL
  cases hL
  have hb : LOk PP jfM Try.f32.ntmps 0 n jdp (jgE n) jxu := ⟨⟨trivial, ⟨trivial, trivial⟩⟩, ⟨⟨trivial, ⟨trivial, trivial⟩⟩, trivial⟩⟩
  refine jaB hb (jiT n) (t_z0u_0 n) n s K r ?_
  rw [← h]
  unfold jav
  simp only [i_z0u_0]
noncomputable def jxt : Code := jaN (jad Try.f32) [1, 1, 1, 0, 1, 0, 0]
noncomputable def jiS (n : Nat) (K : Cont) (rec : Sig.sem jem → Option Res) (v : Sig.sem jem) : Option Res := jtl n (fun z0 z2 => K (.ex 2) (jqC.enc (((), (z0, ())), (v.2.1, (z2, ()))))) v.2.1 (fun z0 z1 z3 => rec (((), (z0, (z1, ()))), (v.2.1, (z3, ())))) v.1.2.1 v.1.2.2.1 v.2.2.1
theorem t_z0u_2 (n : Nat) (K : Cont) (rec : Sig.sem jem → Option Res) (v : Sig.sem jem) : runT PP jfM Try.f32.ntmps 0 jdp (jgE n) jxt (jem.enc v) (jbq 0 (jdp.head 2) jem rec K) = jiS n K rec v := by kernel_rfl
noncomputable def jsf (n : Nat) (K : Cont) (m : Nat) (v : Sig.sem jem) : Option Res := jlq n (fun z0 z2 => K (.ex 2) (jqC.enc (((), (z0, ())), (v.2.1, (z2, ()))))) v.2.1 m v.1.2.1 v.1.2.2.1 v.2.2.1
theorem i_z0u_2 (n : Nat) (K : Cont) : ∀ m v, iter (jiS n K) m v = jsf n K m v := by
  intro m
  induction m with
  | zero => intro v; rfl
  | succ m ih =>
    intro v
    show jiS n K (iter (jiS n K) m) v = jiS n K (jsf n K m) v
    rw [show iter (jiS n K) m = jsf n K m from funext ih]
theorem o_z0u_2 (n : Nat) : ∀ L, jgE n 2 = some L → ∀ s K r, L s K = some r → ∃ x s', jbj (run PP jfM Try.f32.ntmps 0 n jdp none jxt) (gc 0 (jdp.head 2)) n s = some (x, s') ∧ K x s' = some r := by
  intro L hL s K r h
  have hL : some (jav 0 (jdp.head 2) jem fun K v => jsf n K n v) = some L := hL
  cases hL
  have hb : LOk PP jfM Try.f32.ntmps 0 n jdp (jgE n) jxt := ⟨⟨trivial, ⟨trivial, trivial⟩⟩, ⟨⟨trivial, ⟨trivial, trivial⟩⟩, trivial⟩⟩
  refine jaB hb (jiS n) (t_z0u_2 n) n s K r ?_
  rw [← h]
  unfold jav
  simp only [i_z0u_2]
noncomputable def jxs : Code := jaN (jad Try.f32) [1, 1, 1, 1, 0, 1, 0, 0]
noncomputable def jiR (n : Nat) (K : Cont) (rec : Sig.sem jel → Option Res) (v : Sig.sem jel) : Option Res := jtk n (fun z0 z1 => K (.ex 4) (jqB.enc ((z0, ()), (z1, ())))) v.2.1 (fun z0 z1 z3 => rec (((), (z0, (z1, ()))), (v.2.1, (z3, ())))) v.1.2.1 v.1.2.2.1 v.2.2.1
theorem t_z0u_4 (n : Nat) (K : Cont) (rec : Sig.sem jel → Option Res) (v : Sig.sem jel) : runT PP jfM Try.f32.ntmps 0 jdp (jgE n) jxs (jel.enc v) (jbq 0 (jdp.head 4) jel rec K) = jiR n K rec v := by kernel_rfl
noncomputable def jse (n : Nat) (K : Cont) (m : Nat) (v : Sig.sem jel) : Option Res := jlp n (fun z0 z1 => K (.ex 4) (jqB.enc ((z0, ()), (z1, ())))) v.2.1 m v.1.2.1 v.1.2.2.1 v.2.2.1
theorem i_z0u_4 (n : Nat) (K : Cont) : ∀ m v, iter (jiR n K) m v = jse n K m v := by
  intro m
  induction m with
  | zero => intro v; rfl
  | succ m ih =>
    intro v
    show jiR n K (iter (jiR n K) m) v = jiR n K (jse n K m) v
    rw [show iter (jiR n K) m = jse n K m from funext ih]
theorem o_z0u_4 (n : Nat) : ∀ L, jgE n 4 = some L → ∀ s K r, L s K = some r → ∃ x s', jbj (run PP jfM Try.f32.ntmps 0 n jdp none jxs) (gc 0 (jdp.head 4)) n s = some (x, s') ∧ K x s' = some r := by
  intro L hL s K r h
  have hL : some (jav 0 (jdp.head 4) jel fun K v => jse n K n v) = some L := hL
  cases hL
  have hb : LOk PP jfM Try.f32.ntmps 0 n jdp (jgE n) jxs := ⟨⟨trivial, ⟨trivial, trivial⟩⟩, ⟨⟨trivial, ⟨trivial, trivial⟩⟩, trivial⟩⟩
  refine jaB hb (jiR n) (t_z0u_4 n) n s K r ?_
  rw [← h]
  unfold jav
  simp only [i_z0u_4]
theorem m_z0u (n : Nat) (a0 : jaa) : jbx PP jfM jdp (jgE n) Try.f32 (jad Try.f32) (EK.encs e_z0u ((a0, ()), ()).1) (HK.encs h_z0u ((a0, ()), ()).2) = jFt n a0 := by kernel_rfl
theorem g_z0u (n : Nat) (a0 : jaa) {r : Res} (h : jFt n a0 = some r) : runF PP jfM n jdp 32 (EK.encs e_z0u ((a0, ()), ()).1) (HK.encs h_z0u ((a0, ()), ()).2) = some r := by
  have hb : LOk PP jfM Try.f32.ntmps 0 n jdp (jgE n) (jad Try.f32) := ⟨trivial, ⟨trivial, ⟨⟨trivial, (o_z0u_0 n)⟩, ⟨⟨trivial, (o_z0u_2 n)⟩, ⟨⟨trivial, (o_z0u_4 n)⟩, ⟨trivial, trivial⟩⟩⟩⟩⟩⟩
  exact jas PP (c := jad Try.f32) Try.func32 (show Try.f32.body = some (jad Try.f32) from rfl) (show (1 : Nat) ≤ 86 by decide) hb ((m_z0u n a0).trans h) rfl (by kernel_rfl)
noncomputable def c_z0u : Spec := jbe e_z0u h_z0u jtV jum fun a b => jEA a.1
theorem k_z0u (hm : Try.prog.follows .mixedOrders = true) : jaJ PP 32 c_z0u := jaC (pol := jdp) hm (cf := jfM) (jaX (jaf (k_z0t hm) jay)) fun a b r h => ⟨FUEL, g_z0u FUEL a.1 (jar h)⟩
def jei : Sig := ⟨[3, 4, 5, 7], [.ptr 0 0 0, .ptr 1 0 0, .ptr 2 0 0, .ty (.int .i64)], [.cell jag, .cell jaG, .cell jaG]⟩
def jcc : Sig := ⟨[6], [.ty .bool], []⟩
def jqy : Sig := ⟨[3, 4, 5], [.ptr 0 0 0, .ptr 1 0 0, .ptr 2 0 0], [.cell jag, .cell jaG, .cell jaG]⟩
def jeh : Sig := ⟨[3, 4, 5, 8], [.ptr 0 0 0, .ptr 1 0 0, .ptr 2 0 0, .ty (.int .i64)], [.cell jag, .cell jaG, .cell jaG]⟩
def jqx : Sig := ⟨[], [], []⟩
def jeg : Sig := ⟨[3, 4, 5, 9], [.ptr 0 0 0, .ptr 1 0 0, .ptr 2 0 0, .ty (.int .i64)], [.cell jag, .cell jaG, .cell jaG]⟩
def s_z0v_t10 : Sig := ⟨[3, 4, 5, 9], [.ptr 0 0 0, .ptr 1 0 0, .ptr 2 0 0, .ty (.int .i64)], [.cell jag, .cell jaG, .cell jaG]⟩
def jcE : Sig := ⟨[3, 5, 9, 10], [.ptr 0 0 0, .ptr 1 0 0, .ty (.int .i64), .ty (.int .i64)], [.cell jag, .cell jaG]⟩
def jmK : Sig := ⟨[], [], []⟩
def jqw : Sig := ⟨[], [], []⟩
def jek : Sig := ⟨[3, 4, 5, 12], [.ptr 0 0 0, .ptr 1 0 0, .ptr 2 0 0, .ty (.int .i64)], [.cell jag, .cell jaG, .cell jaG]⟩
def s_z0v_t2 : Sig := ⟨[3, 4, 5, 12], [.ptr 0 0 0, .ptr 1 0 0, .ptr 2 0 0, .ty (.int .i64)], [.cell jag, .cell jaG, .cell jaG]⟩
def jej : Sig := ⟨[3, 5, 12, 13], [.ptr 0 0 0, .ptr 1 0 0, .ty (.int .i64), .ty (.int .i64)], [.cell jag, .cell jaG]⟩
def jqz : Sig := ⟨[], [], []⟩
def jqA : Sig := ⟨[], [], []⟩
def jbO : Pol := ⟨fun i => if i = 5 then some [(3, (.own jag)), (4, (.own jaG)), (5, (.own jaG)), (7, .keep)] else if i = 7 then some [(3, (.own jag)), (4, (.own jaG)), (5, (.own jaG)), (8, .keep)] else if i = 9 then some [(3, (.own jag)), (4, (.own jaG)), (5, (.own jaG)), (9, .keep)] else if i = 11 then some [(3, (.own jag)), (5, (.own jaG)), (9, .keep), (10, .keep)] else if i = 1 then some [(3, (.own jag)), (4, (.own jaG)), (5, (.own jaG)), (12, .keep)] else if i = 3 then some [(3, (.own jag)), (5, (.own jaG)), (12, .keep), (13, .keep)] else none, fun i => if i = 5 then some [(3, (.own jag)), (4, (.own jaG)), (5, (.own jaG))] else if i = 7 then some [] else if i = 10 then some [(3, (.own jag)), (4, (.own jaG)), (5, (.own jaG)), (9, .keep)] else if i = 11 then some [] else if i = 9 then some [] else if i = 2 then some [(3, (.own jag)), (4, (.own jaG)), (5, (.own jaG)), (12, .keep)] else if i = 3 then some [] else if i = 1 then some [] else none, some [(6, .keep)], [.keep], []⟩
def e_z0v : List EK := [.agg jag, .agg jaG, .agg jaG]
def h_z0v : List HK := []
noncomputable def jcq : CallF := mkCF [] []
noncomputable def jcC (n : Nat) : jbk := fun i => if i = 5 then some (jav 0 (jbO.head 5) jei fun K v => jlm n (fun z0 => K .rt (jcc.enc ((z0, ()), ()))) (fun _ => K (.ex 5) (jqy.enc (((), ((), ((), ()))), (v.2.1, (v.2.2.1, (v.2.2.2.1, ())))))) v.2.1 v.2.2.1 v.2.2.2.1 n v.1.2.2.2.1)
  else if i = 7 then some (jav 0 (jbO.head 7) jeh fun K v => jll n (fun z0 => K .rt (jcc.enc ((z0, ()), ()))) (fun _ => K (.ex 7) (jqx.enc ((), ()))) v.2.1 v.2.2.1 v.2.2.2.1 n v.1.2.2.2.1)
  else if i = 11 then some (jav 0 (jbO.head 11) jcE fun K v => jho n (fun z0 => K .rt (jcc.enc ((z0, ()), ()))) (fun _ => K (.ex 11) (jmK.enc ((), ()))) v.1.2.2.1 v.2.1 v.2.2.1 n v.1.2.2.2.1)
  else if i = 9 then some (jav 0 (jbO.head 9) jeg fun K v => jlk n (fun z0 => K .rt (jcc.enc ((z0, ()), ()))) (fun _ => K (.ex 9) (jqw.enc ((), ()))) v.2.1 v.2.2.1 v.2.2.2.1 n v.1.2.2.2.1)
  else if i = 3 then some (jav 0 (jbO.head 3) jej fun K v => jln n (fun z0 => K .rt (jcc.enc ((z0, ()), ()))) (fun _ => K (.ex 3) (jqz.enc ((), ()))) v.1.2.2.1 v.2.1 v.2.2.1 n v.1.2.2.2.1)
  else if i = 1 then some (jav 0 (jbO.head 1) jek fun K v => jlo n (fun z0 => K .rt (jcc.enc ((z0, ()), ()))) (fun _ => K (.ex 1) (jqA.enc ((), ()))) v.2.1 v.2.2.1 v.2.2.2.1 n v.1.2.2.2.1)
  else  none
noncomputable def jxp : Code := jaN (jad Try.f33) [1, 0, 1, 0, 1, 0, 0, 1, 0, 0]
noncomputable def jiO (n : Nat) (K : Cont) (rec : Sig.sem jei → Option Res) (v : Sig.sem jei) : Option Res := jth n (fun z0 => K .rt (jcc.enc ((z0, ()), ()))) (fun _ => K (.ex 5) (jqy.enc (((), ((), ((), ()))), (v.2.1, (v.2.2.1, (v.2.2.2.1, ())))))) v.2.1 v.2.2.1 v.2.2.2.1 (fun z0 => rec (((), ((), ((), (z0, ())))), (v.2.1, (v.2.2.1, (v.2.2.2.1, ()))))) v.1.2.2.2.1
theorem t_z0v_5 (n : Nat) (K : Cont) (rec : Sig.sem jei → Option Res) (v : Sig.sem jei) : runT PP jcq Try.f33.ntmps 0 jbO (jcC n) jxp (jei.enc v) (jbq 0 (jbO.head 5) jei rec K) = jiO n K rec v := by kernel_rfl
noncomputable def jsb (n : Nat) (K : Cont) (m : Nat) (v : Sig.sem jei) : Option Res := jlm n (fun z0 => K .rt (jcc.enc ((z0, ()), ()))) (fun _ => K (.ex 5) (jqy.enc (((), ((), ((), ()))), (v.2.1, (v.2.2.1, (v.2.2.2.1, ())))))) v.2.1 v.2.2.1 v.2.2.2.1 m v.1.2.2.2.1
theorem i_z0v_5 (n : Nat) (K : Cont) : ∀ m v, iter (jiO n K) m v = jsb n K m v := by
  intro m
  induction m with
  | zero => intro v; rfl
  | succ m ih =>
    intro v
    show jiO n K (iter (jiO n K) m) v = jiO n K (jsb n K m) v
    rw [show iter (jiO n K) m = jsb n K m from funext ih]
theorem o_z0v_5 (n : Nat) : ∀ L, jcC n 5 = some L → ∀ s K r, L s K = some r → ∃ x s', jbj (run PP jcq Try.f33.ntmps 0 n jbO none jxp) (gc 0 (jbO.head 5)) n s = some (x, s') ∧ K x s' = some r := by
  intro L hL s K r h
  have hL : some (jav 0 (jbO.head 5) jei fun K v => jsb n K n v) = some L := hL
  cases hL
  have hb : LOk PP jcq Try.f33.ntmps 0 n jbO (jcC n) jxp := ⟨⟨trivial, ⟨trivial, trivial⟩⟩, ⟨⟨trivial, ⟨⟨⟨trivial, ⟨⟨trivial, trivial⟩, trivial⟩⟩, trivial⟩, trivial⟩⟩, trivial⟩⟩
  refine jaB hb (jiO n) (t_z0v_5 n) n s K r ?_
  rw [← h]
  unfold jav
  simp only [i_z0v_5]
noncomputable def jxo : Code := jaN (jad Try.f33) [1, 0, 1, 0, 1, 0, 1, 1, 0, 0]
noncomputable def jiN (n : Nat) (K : Cont) (rec : Sig.sem jeh → Option Res) (v : Sig.sem jeh) : Option Res := jtg n (fun z0 => K .rt (jcc.enc ((z0, ()), ()))) (fun _ => K (.ex 7) (jqx.enc ((), ()))) v.2.1 v.2.2.1 v.2.2.2.1 (fun z0 => rec (((), ((), ((), (z0, ())))), (v.2.1, (v.2.2.1, (v.2.2.2.1, ()))))) v.1.2.2.2.1
theorem t_z0v_7 (n : Nat) (K : Cont) (rec : Sig.sem jeh → Option Res) (v : Sig.sem jeh) : runT PP jcq Try.f33.ntmps 0 jbO (jcC n) jxo (jeh.enc v) (jbq 0 (jbO.head 7) jeh rec K) = jiN n K rec v := by kernel_rfl
noncomputable def jsa (n : Nat) (K : Cont) (m : Nat) (v : Sig.sem jeh) : Option Res := jll n (fun z0 => K .rt (jcc.enc ((z0, ()), ()))) (fun _ => K (.ex 7) (jqx.enc ((), ()))) v.2.1 v.2.2.1 v.2.2.2.1 m v.1.2.2.2.1
theorem i_z0v_7 (n : Nat) (K : Cont) : ∀ m v, iter (jiN n K) m v = jsa n K m v := by
  intro m
  induction m with
  | zero => intro v; rfl
  | succ m ih =>
    intro v
    show jiN n K (iter (jiN n K) m) v = jiN n K (jsa n K m) v
    rw [show iter (jiN n K) m = jsa n K m from funext ih]
theorem o_z0v_7 (n : Nat) : ∀ L, jcC n 7 = some L → ∀ s K r, L s K = some r → ∃ x s', jbj (run PP jcq Try.f33.ntmps 0 n jbO none jxo) (gc 0 (jbO.head 7)) n s = some (x, s') ∧ K x s' = some r := by
  intro L hL s K r h
  have hL : some (jav 0 (jbO.head 7) jeh fun K v => jsa n K n v) = some L := hL
  cases hL
  have hb : LOk PP jcq Try.f33.ntmps 0 n jbO (jcC n) jxo := ⟨⟨trivial, ⟨trivial, trivial⟩⟩, ⟨⟨trivial, ⟨⟨trivial, trivial⟩, trivial⟩⟩, trivial⟩⟩
  refine jaB hb (jiN n) (t_z0v_7 n) n s K r ?_
  rw [← h]
  unfold jav
  simp only [i_z0v_7]
noncomputable def jru : Code := jaN (jad Try.f33) [1, 0, 1, 0, 1, 1, 1, 0, 1, 0, 0, 1, 0, 0, 1, 0, 1, 0, 0]
noncomputable def jgg (n : Nat) (K : Cont) (rec : Sig.sem jcE → Option Res) (v : Sig.sem jcE) : Option Res := jmr n (fun z0 => K .rt (jcc.enc ((z0, ()), ()))) (fun _ => K (.ex 11) (jmK.enc ((), ()))) v.1.2.2.1 v.2.1 v.2.2.1 (fun z1 => rec (((), ((), (v.1.2.2.1, (z1, ())))), (v.2.1, (v.2.2.1, ())))) v.1.2.2.2.1
theorem jCP (n : Nat) (K : Cont) (rec : Sig.sem jcE → Option Res) (v : Sig.sem jcE) : runT PP jcq Try.f33.ntmps 0 jbO (jcC n) jru (jcE.enc v) (jbq 0 (jbO.head 11) jcE rec K) = jgg n K rec v := by kernel_rfl
noncomputable def jmp (n : Nat) (K : Cont) (m : Nat) (v : Sig.sem jcE) : Option Res := jho n (fun z0 => K .rt (jcc.enc ((z0, ()), ()))) (fun _ => K (.ex 11) (jmK.enc ((), ()))) v.1.2.2.1 v.2.1 v.2.2.1 m v.1.2.2.2.1
theorem jDN (n : Nat) (K : Cont) : ∀ m v, iter (jgg n K) m v = jmp n K m v := by
  intro m
  induction m with
  | zero => intro v; rfl
  | succ m ih =>
    intro v
    show jgg n K (iter (jgg n K) m) v = jgg n K (jmp n K m) v
    rw [show iter (jgg n K) m = jmp n K m from funext ih]
theorem jDC (n : Nat) : ∀ L, jcC n 11 = some L → ∀ s K r, L s K = some r → ∃ x s', jbj (run PP jcq Try.f33.ntmps 0 n jbO none jru) (gc 0 (jbO.head 11)) n s = some (x, s') ∧ K x s' = some r := by
  intro L hL s K r h
  have hL : some (jav 0 (jbO.head 11) jcE fun K v => jmp n K n v) = some L := hL
  cases hL
  have hb : LOk PP jcq Try.f33.ntmps 0 n jbO (jcC n) jru := ⟨⟨trivial, ⟨trivial, trivial⟩⟩, ⟨⟨trivial, ⟨trivial, ⟨⟨trivial, trivial⟩, trivial⟩⟩⟩, trivial⟩⟩
  refine jaB hb (jgg n) (jCP n) n s K r ?_
  rw [← h]
  unfold jav
  simp only [jDN]
noncomputable def jxn : Code := jaN (jad Try.f33) [1, 0, 1, 0, 1, 1, 1, 0, 1, 0, 0]
noncomputable def jiM (n : Nat) (K : Cont) (rec : Sig.sem jeg → Option Res) (v : Sig.sem jeg) : Option Res := jtf n (fun z0 => K .rt (jcc.enc ((z0, ()), ()))) (fun _ => K (.ex 9) (jqw.enc ((), ()))) v.2.1 v.2.2.1 v.2.2.2.1 (fun z0 => rec (((), ((), ((), (z0, ())))), (v.2.1, (v.2.2.1, (v.2.2.2.1, ()))))) v.1.2.2.2.1
theorem t_z0v_9 (n : Nat) (K : Cont) (rec : Sig.sem jeg → Option Res) (v : Sig.sem jeg) : runT PP jcq Try.f33.ntmps 0 jbO (jcC n) jxn (jeg.enc v) (jbq 0 (jbO.head 9) jeg rec K) = jiM n K rec v := by kernel_rfl
noncomputable def jrZ (n : Nat) (K : Cont) (m : Nat) (v : Sig.sem jeg) : Option Res := jlk n (fun z0 => K .rt (jcc.enc ((z0, ()), ()))) (fun _ => K (.ex 9) (jqw.enc ((), ()))) v.2.1 v.2.2.1 v.2.2.2.1 m v.1.2.2.2.1
theorem i_z0v_9 (n : Nat) (K : Cont) : ∀ m v, iter (jiM n K) m v = jrZ n K m v := by
  intro m
  induction m with
  | zero => intro v; rfl
  | succ m ih =>
    intro v
    show jiM n K (iter (jiM n K) m) v = jiM n K (jrZ n K m) v
    rw [show iter (jiM n K) m = jrZ n K m from funext ih]
theorem o_z0v_9 (n : Nat) : ∀ L, jcC n 9 = some L → ∀ s K r, L s K = some r → ∃ x s', jbj (run PP jcq Try.f33.ntmps 0 n jbO none jxn) (gc 0 (jbO.head 9)) n s = some (x, s') ∧ K x s' = some r := by
  intro L hL s K r h
  have hL : some (jav 0 (jbO.head 9) jeg fun K v => jrZ n K n v) = some L := hL
  cases hL
  have hb : LOk PP jcq Try.f33.ntmps 0 n jbO (jcC n) jxn := ⟨⟨trivial, ⟨trivial, trivial⟩⟩, ⟨⟨⟨trivial, ⟨trivial, trivial⟩⟩, ⟨⟨trivial, (jDC n)⟩, trivial⟩⟩, trivial⟩⟩
  refine jaB hb (jiM n) (t_z0v_9 n) n s K r ?_
  rw [← h]
  unfold jav
  simp only [i_z0v_9]
noncomputable def jxq : Code := jaN (jad Try.f33) [1, 0, 1, 0, 1, 1, 1, 1, 1, 0, 0, 1, 0, 0, 1, 0, 1, 0, 0]
noncomputable def jiP (n : Nat) (K : Cont) (rec : Sig.sem jej → Option Res) (v : Sig.sem jej) : Option Res := jti n (fun z0 => K .rt (jcc.enc ((z0, ()), ()))) (fun _ => K (.ex 3) (jqz.enc ((), ()))) v.1.2.2.1 v.2.1 v.2.2.1 (fun z1 => rec (((), ((), (v.1.2.2.1, (z1, ())))), (v.2.1, (v.2.2.1, ())))) v.1.2.2.2.1
theorem t_z0v_3 (n : Nat) (K : Cont) (rec : Sig.sem jej → Option Res) (v : Sig.sem jej) : runT PP jcq Try.f33.ntmps 0 jbO (jcC n) jxq (jej.enc v) (jbq 0 (jbO.head 3) jej rec K) = jiP n K rec v := by kernel_rfl
noncomputable def jsc (n : Nat) (K : Cont) (m : Nat) (v : Sig.sem jej) : Option Res := jln n (fun z0 => K .rt (jcc.enc ((z0, ()), ()))) (fun _ => K (.ex 3) (jqz.enc ((), ()))) v.1.2.2.1 v.2.1 v.2.2.1 m v.1.2.2.2.1
theorem i_z0v_3 (n : Nat) (K : Cont) : ∀ m v, iter (jiP n K) m v = jsc n K m v := by
  intro m
  induction m with
  | zero => intro v; rfl
  | succ m ih =>
    intro v
    show jiP n K (iter (jiP n K) m) v = jiP n K (jsc n K m) v
    rw [show iter (jiP n K) m = jsc n K m from funext ih]
theorem o_z0v_3 (n : Nat) : ∀ L, jcC n 3 = some L → ∀ s K r, L s K = some r → ∃ x s', jbj (run PP jcq Try.f33.ntmps 0 n jbO none jxq) (gc 0 (jbO.head 3)) n s = some (x, s') ∧ K x s' = some r := by
  intro L hL s K r h
  have hL : some (jav 0 (jbO.head 3) jej fun K v => jsc n K n v) = some L := hL
  cases hL
  have hb : LOk PP jcq Try.f33.ntmps 0 n jbO (jcC n) jxq := ⟨⟨trivial, ⟨trivial, trivial⟩⟩, ⟨⟨trivial, ⟨⟨trivial, trivial⟩, trivial⟩⟩, trivial⟩⟩
  refine jaB hb (jiP n) (t_z0v_3 n) n s K r ?_
  rw [← h]
  unfold jav
  simp only [i_z0v_3]
noncomputable def jxr : Code := jaN (jad Try.f33) [1, 0, 1, 0, 1, 1, 1, 1, 1, 0, 0]
noncomputable def jiQ (n : Nat) (K : Cont) (rec : Sig.sem jek → Option Res) (v : Sig.sem jek) : Option Res := jtj n (fun z0 => K .rt (jcc.enc ((z0, ()), ()))) (fun _ => K (.ex 1) (jqA.enc ((), ()))) v.2.1 v.2.2.1 v.2.2.2.1 (fun z0 => rec (((), ((), ((), (z0, ())))), (v.2.1, (v.2.2.1, (v.2.2.2.1, ()))))) v.1.2.2.2.1
theorem t_z0v_1 (n : Nat) (K : Cont) (rec : Sig.sem jek → Option Res) (v : Sig.sem jek) : runT PP jcq Try.f33.ntmps 0 jbO (jcC n) jxr (jek.enc v) (jbq 0 (jbO.head 1) jek rec K) = jiQ n K rec v := by kernel_rfl
noncomputable def jsd (n : Nat) (K : Cont) (m : Nat) (v : Sig.sem jek) : Option Res := jlo n (fun z0 => K .rt (jcc.enc ((z0, ()), ()))) (fun _ => K (.ex 1) (jqA.enc ((), ()))) v.2.1 v.2.2.1 v.2.2.2.1 m v.1.2.2.2.1
theorem i_z0v_1 (n : Nat) (K : Cont) : ∀ m v, iter (jiQ n K) m v = jsd n K m v := by
  intro m
  induction m with
  | zero => intro v; rfl
  | succ m ih =>
    intro v
    show jiQ n K (iter (jiQ n K) m) v = jiQ n K (jsd n K m) v
    rw [show iter (jiQ n K) m = jsd n K m from funext ih]
theorem o_z0v_1 (n : Nat) : ∀ L, jcC n 1 = some L → ∀ s K r, L s K = some r → ∃ x s', jbj (run PP jcq Try.f33.ntmps 0 n jbO none jxr) (gc 0 (jbO.head 1)) n s = some (x, s') ∧ K x s' = some r := by
  intro L hL s K r h
  have hL : some (jav 0 (jbO.head 1) jek fun K v => jsd n K n v) = some L := hL
  cases hL
  have hb : LOk PP jcq Try.f33.ntmps 0 n jbO (jcC n) jxr := ⟨⟨trivial, ⟨trivial, trivial⟩⟩, ⟨⟨⟨trivial, ⟨trivial, trivial⟩⟩, ⟨⟨trivial, (o_z0v_3 n)⟩, trivial⟩⟩, trivial⟩⟩
  refine jaB hb (jiQ n) (t_z0v_1 n) n s K r ?_
  rw [← h]
  unfold jav
  simp only [i_z0v_1]
theorem m_z0v (n : Nat) (a0 : jaa) (a1 : jao) (a2 : jao) : jbx PP jcq jbO (jcC n) Try.f33 (jad Try.f33) (EK.encs e_z0v ((a0, (a1, (a2, ()))), ()).1) (HK.encs h_z0v ((a0, (a1, (a2, ()))), ()).2) = jFs n a0 a1 a2 := by kernel_rfl
theorem g_z0v (n : Nat) (a0 : jaa) (a1 : jao) (a2 : jao) {r : Res} (h : jFs n a0 a1 a2 = some r) : runF PP jcq n jbO 33 (EK.encs e_z0v ((a0, (a1, (a2, ()))), ()).1) (HK.encs h_z0v ((a0, (a1, (a2, ()))), ()).2) = some r := by
  have hb : LOk PP jcq Try.f33.ntmps 0 n jbO (jcC n) (jad Try.f33) := ⟨trivial, ⟨⟨trivial, ⟨trivial, ⟨⟨⟨trivial, (o_z0v_5 n)⟩, ⟨trivial, (o_z0v_7 n)⟩⟩, ⟨trivial, ⟨⟨trivial, (o_z0v_9 n)⟩, ⟨trivial, (o_z0v_1 n)⟩⟩⟩⟩⟩⟩, ⟨trivial, trivial⟩⟩⟩
  exact jas PP (c := jad Try.f33) Try.func33 (show Try.f33.body = some (jad Try.f33) from rfl) (show (3 : Nat) ≤ 195 by decide) hb ((m_z0v n a0 a1 a2).trans h) rfl (by kernel_rfl)
noncomputable def c_z0v : Spec := jbe e_z0v h_z0v jgt jgu fun a b => jEz a.1 a.2.1 a.2.2.1
theorem k_z0v (hm : Try.prog.follows .mixedOrders = true) : jaJ PP 33 c_z0v := jaC (pol := jbO) hm (cf := jcq) (jaX jay) fun a b r h => ⟨FUEL, g_z0v FUEL a.1 a.2.1 a.2.2.1 (jar h)⟩
def jef : Sig := ⟨[1, 3], [.ptr 0 0 0, .hs 1 0], [.cell jag, .row jaG]⟩
def jee : Sig := ⟨[1, 3, 4, 5], [.ptr 0 0 0, .hs 1 0, .hs 2 0, .ty (.int .i64)], [.cell jag, .row jaG, .row jaG]⟩
def jed : Sig := ⟨[1, 3, 4, 5, 6, 7], [.ptr 0 0 0, .hs 1 0, .hs 2 0, .ty (.int .i64), .ty .bool, .ty (.int .i64)], [.cell jag, .row jaG, .row jaG]⟩
def jqu : Sig := ⟨[1, 3, 4, 5, 6], [.ptr 0 0 0, .hs 1 0, .hs 2 0, .ty (.int .i64), .ty .bool], [.cell jag, .row jaG, .row jaG]⟩
def jqv : Sig := ⟨[1, 3, 4], [.ptr 0 0 0, .hs 1 0, .hs 2 0], [.cell jag, .row jaG, .row jaG]⟩
def jwh : Sig := ⟨[2], [.ty .bool], []⟩
def jdo : Pol := ⟨fun i => if i = 0 then some [(1, (.own jag)), (3, (.own jaG))] else if i = 2 then some [(1, (.own jag)), (3, (.own jaG)), (4, (.own jaG)), (5, .keep)] else if i = 4 then some [(1, (.own jag)), (3, (.own jaG)), (4, (.own jaG)), (5, .keep), (6, .keep), (7, .keep)] else none, fun i => if i = 4 then some [(1, (.own jag)), (3, (.own jaG)), (4, (.own jaG)), (5, .keep), (6, .keep)] else if i = 2 then some [(1, (.own jag)), (3, (.own jaG)), (4, (.own jaG))] else none, some [(2, .keep)], [.keep], []⟩
def e_z0w : List EK := [.agg jag]
def h_z0w : List HK := []
noncomputable def jfL : CallF := mkCF [(32, c_z0u), (33, c_z0v)] [(32, [jag]), (33, [jag, jaG, jaG])]
noncomputable def jgD (n : Nat) : jbk := fun i => if i = 4 then some (jav 0 (jdo.head 4) jed fun K v => jli n (fun z3 => K (.ex 4) (jqu.enc (((), (v.1.2.1, (v.1.2.2.1, (v.1.2.2.2.1, (z3, ()))))), (v.2.1, (v.2.2.1, (v.2.2.2.1, ())))))) v.1.2.1 v.1.2.2.2.1 v.2.1 v.2.2.1 n v.1.2.2.2.2.1 v.1.2.2.2.2.2.1)
  else if i = 2 then some (jav 0 (jdo.head 2) jee fun K v => jlj n (fun z1 z4 => K (.ex 2) (jqv.enc (((), (v.1.2.1, (z1, ()))), (v.2.1, (v.2.2.1, (z4, ())))))) v.1.2.1 v.2.1 v.2.2.1 n v.1.2.2.1 v.1.2.2.2.1 v.2.2.2.1)
  else if i = 0 then some (jav 0 (jdo.head 0) jef fun K v => jgW n (fun z0 => K .rt (jwh.enc ((z0, ()), ()))) v.2.1 n v.1.2.1 v.2.2.1)
  else  none
noncomputable def jxk : Code := jaN (jad Try.f15) [1, 1, 0, 0, 0, 1, 0, 1, 0, 0, 1, 0, 0, 1, 0, 1, 0, 0]
noncomputable def jiJ (n : Nat) (K : Cont) (rec : Sig.sem jed → Option Res) (v : Sig.sem jed) : Option Res := jtd n (fun z3 => K (.ex 4) (jqu.enc (((), (v.1.2.1, (v.1.2.2.1, (v.1.2.2.2.1, (z3, ()))))), (v.2.1, (v.2.2.1, (v.2.2.2.1, ())))))) v.1.2.1 v.1.2.2.2.1 v.2.1 v.2.2.1 (fun z3 z4 => rec (((), (v.1.2.1, (v.1.2.2.1, (v.1.2.2.2.1, (z3, (z4, ())))))), (v.2.1, (v.2.2.1, (v.2.2.2.1, ()))))) v.1.2.2.2.2.1 v.1.2.2.2.2.2.1
theorem t_z0w_4 (n : Nat) (K : Cont) (rec : Sig.sem jed → Option Res) (v : Sig.sem jed) : runT PP jfL Try.f15.ntmps 0 jdo (jgD n) jxk (jed.enc v) (jbq 0 (jdo.head 4) jed rec K) = jiJ n K rec v := by kernel_rfl
noncomputable def jrW (n : Nat) (K : Cont) (m : Nat) (v : Sig.sem jed) : Option Res := jli n (fun z3 => K (.ex 4) (jqu.enc (((), (v.1.2.1, (v.1.2.2.1, (v.1.2.2.2.1, (z3, ()))))), (v.2.1, (v.2.2.1, (v.2.2.2.1, ())))))) v.1.2.1 v.1.2.2.2.1 v.2.1 v.2.2.1 m v.1.2.2.2.2.1 v.1.2.2.2.2.2.1
theorem i_z0w_4 (n : Nat) (K : Cont) : ∀ m v, iter (jiJ n K) m v = jrW n K m v := by
  intro m
  induction m with
  | zero => intro v; rfl
  | succ m ih =>
    intro v
    show jiJ n K (iter (jiJ n K) m) v = jiJ n K (jrW n K m) v
    rw [show iter (jiJ n K) m = jrW n K m from funext ih]
theorem o_z0w_4 (n : Nat) : ∀ L, jgD n 4 = some L → ∀ s K r, L s K = some r → ∃ x s', jbj (run PP jfL Try.f15.ntmps 0 n jdo none jxk) (gc 0 (jdo.head 4)) n s = some (x, s') ∧ K x s' = some r := by
  intro L hL s K r h
  have hL : some (jav 0 (jdo.head 4) jed fun K v => jrW n K n v) = some L := hL
  cases hL
  have hb : LOk PP jfL Try.f15.ntmps 0 n jdo (jgD n) jxk := ⟨⟨trivial, ⟨trivial, trivial⟩⟩, ⟨trivial, trivial⟩⟩
  refine jaB hb (jiJ n) (t_z0w_4 n) n s K r ?_
  rw [← h]
  unfold jav
  simp only [i_z0w_4]
noncomputable def jxl : Code := jaN (jad Try.f15) [1, 1, 0, 0, 0, 1, 0, 1, 0, 0]
noncomputable def jiK (n : Nat) (K : Cont) (rec : Sig.sem jee → Option Res) (v : Sig.sem jee) : Option Res := jte n (fun z1 z4 => K (.ex 2) (jqv.enc (((), (v.1.2.1, (z1, ()))), (v.2.1, (v.2.2.1, (z4, ())))))) v.1.2.1 v.2.1 v.2.2.1 (fun z1 z2 z5 => rec (((), (v.1.2.1, (z1, (z2, ())))), (v.2.1, (v.2.2.1, (z5, ()))))) v.1.2.2.1 v.1.2.2.2.1 v.2.2.2.1
theorem t_z0w_2 (n : Nat) (K : Cont) (rec : Sig.sem jee → Option Res) (v : Sig.sem jee) : runT PP jfL Try.f15.ntmps 0 jdo (jgD n) jxl (jee.enc v) (jbq 0 (jdo.head 2) jee rec K) = jiK n K rec v := by kernel_rfl
noncomputable def jrX (n : Nat) (K : Cont) (m : Nat) (v : Sig.sem jee) : Option Res := jlj n (fun z1 z4 => K (.ex 2) (jqv.enc (((), (v.1.2.1, (z1, ()))), (v.2.1, (v.2.2.1, (z4, ())))))) v.1.2.1 v.2.1 v.2.2.1 m v.1.2.2.1 v.1.2.2.2.1 v.2.2.2.1
theorem i_z0w_2 (n : Nat) (K : Cont) : ∀ m v, iter (jiK n K) m v = jrX n K m v := by
  intro m
  induction m with
  | zero => intro v; rfl
  | succ m ih =>
    intro v
    show jiK n K (iter (jiK n K) m) v = jiK n K (jrX n K m) v
    rw [show iter (jiK n K) m = jrX n K m from funext ih]
theorem o_z0w_2 (n : Nat) : ∀ L, jgD n 2 = some L → ∀ s K r, L s K = some r → ∃ x s', jbj (run PP jfL Try.f15.ntmps 0 n jdo none jxl) (gc 0 (jdo.head 2)) n s = some (x, s') ∧ K x s' = some r := by
  intro L hL s K r h
  have hL : some (jav 0 (jdo.head 2) jee fun K v => jrX n K n v) = some L := hL
  cases hL
  have hb : LOk PP jfL Try.f15.ntmps 0 n jdo (jgD n) jxl := ⟨⟨trivial, ⟨trivial, trivial⟩⟩, ⟨⟨trivial, ⟨⟨trivial, (o_z0w_4 n)⟩, ⟨trivial, ⟨trivial, trivial⟩⟩⟩⟩, trivial⟩⟩
  refine jaB hb (jiK n) (t_z0w_2 n) n s K r ?_
  rw [← h]
  unfold jav
  simp only [i_z0w_2]
noncomputable def jxm : Code := jaN (jad Try.f15) [1, 1, 0, 0]
noncomputable def jiL (n : Nat) (K : Cont) (rec : Sig.sem jef → Option Res) (v : Sig.sem jef) : Option Res := jlF n (fun z0 => K .rt (jwh.enc ((z0, ()), ()))) v.2.1 (fun z0 z2 => rec (((), (z0, ())), (v.2.1, (z2, ())))) v.1.2.1 v.2.2.1
theorem t_z0w_0 (n : Nat) (K : Cont) (rec : Sig.sem jef → Option Res) (v : Sig.sem jef) : runT PP jfL Try.f15.ntmps 0 jdo (jgD n) jxm (jef.enc v) (jbq 0 (jdo.head 0) jef rec K) = jiL n K rec v := by kernel_rfl
noncomputable def jrY (n : Nat) (K : Cont) (m : Nat) (v : Sig.sem jef) : Option Res := jgW n (fun z0 => K .rt (jwh.enc ((z0, ()), ()))) v.2.1 m v.1.2.1 v.2.2.1
theorem i_z0w_0 (n : Nat) (K : Cont) : ∀ m v, iter (jiL n K) m v = jrY n K m v := by
  intro m
  induction m with
  | zero => intro v; rfl
  | succ m ih =>
    intro v
    show jiL n K (iter (jiL n K) m) v = jiL n K (jrY n K m) v
    rw [show iter (jiL n K) m = jrY n K m from funext ih]
theorem o_z0w_0 (n : Nat) : ∀ L, jgD n 0 = some L → ∀ s K r, L s K = some r → ∃ x s', jbj (run PP jfL Try.f15.ntmps 0 n jdo none jxm) (gc 0 (jdo.head 0)) n s = some (x, s') ∧ K x s' = some r := by
  intro L hL s K r h
  have hL : some (jav 0 (jdo.head 0) jef fun K v => jrY n K n v) = some L := hL
  cases hL
  have hb : LOk PP jfL Try.f15.ntmps 0 n jdo (jgD n) jxm := ⟨trivial, ⟨⟨trivial, (o_z0w_2 n)⟩, ⟨⟨trivial, ⟨⟨trivial, trivial⟩, trivial⟩⟩, trivial⟩⟩⟩
  refine jaB hb (jiL n) (t_z0w_0 n) n s K r ?_
  rw [← h]
  unfold jav
  simp only [i_z0w_0]
theorem m_z0w (n : Nat) (a0 : jaa) : jbx PP jfL jdo (jgD n) Try.f15 (jad Try.f15) (EK.encs e_z0w ((a0, ()), ()).1) (HK.encs h_z0w ((a0, ()), ()).2) = jFr n a0 := by kernel_rfl
theorem g_z0w (n : Nat) (a0 : jaa) {r : Res} (h : jFr n a0 = some r) : runF PP jfL n jdo 15 (EK.encs e_z0w ((a0, ()), ()).1) (HK.encs h_z0w ((a0, ()), ()).2) = some r := by
  have hb : LOk PP jfL Try.f15.ntmps 0 n jdo (jgD n) (jad Try.f15) := ⟨trivial, ⟨trivial, (o_z0w_0 n)⟩⟩
  exact jas PP (c := jad Try.f15) Try.func15 (show Try.f15.body = some (jad Try.f15) from rfl) (show (1 : Nat) ≤ 52 by decide) hb ((m_z0w n a0).trans h) rfl (by kernel_rfl)
noncomputable def c_z0w : Spec := jbe e_z0w h_z0w jmO jmV fun a b => jEy a.1
theorem k_z0w (hm : Try.prog.follows .mixedOrders = true) : jaJ PP 15 c_z0w := jaC (pol := jdo) hm (cf := jfL) (jaX (jaf (k_z0u hm) (jaf (k_z0v hm) jay))) fun a b r h => ⟨FUEL, g_z0w FUEL a.1 (jar h)⟩
def s_z0x_r : Sig := ⟨[6], [.ty (.int .i64)], []⟩
def jDm : Pol := ⟨fun i => none, fun i => none, some [(6, .keep)], [.keep], []⟩
def e_z0x : List EK := [.ty (.slice jaG), .ty (.int .i64), .ty (.int .i64)]
def h_z0x : List HK := []
noncomputable def jyY : CallF := mkCF [(44, jDY)] [(44, [(.slice jaG), (.int .i64), (.int .i64)])]
noncomputable def jGf (n : Nat) : jbk := fun i =>  none
theorem m_z0x (n : Nat) (a0 : (List jao)) (a1 : Int) (a2 : Int) : jbx PP jyY jDm (jGf n) Try.f46 (jad Try.f46) (EK.encs e_z0x ((a0, (a1, (a2, ()))), ()).1) (HK.encs h_z0x ((a0, (a1, (a2, ()))), ()).2) = jFq n a0 a1 a2 := by kernel_rfl
theorem g_z0x (n : Nat) (a0 : (List jao)) (a1 : Int) (a2 : Int) {r : Res} (h : jFq n a0 a1 a2 = some r) : runF PP jyY n jDm 46 (EK.encs e_z0x ((a0, (a1, (a2, ()))), ()).1) (HK.encs h_z0x ((a0, (a1, (a2, ()))), ()).2) = some r := by
  have hb : LOk PP jyY Try.f46.ntmps 0 n jDm (jGf n) (jad Try.f46) := ⟨trivial, ⟨trivial, ⟨⟨trivial, ⟨⟨trivial, trivial⟩, trivial⟩⟩, ⟨trivial, trivial⟩⟩⟩⟩
  exact jas PP (c := jad Try.f46) Try.func46 (show Try.f46.body = some (jad Try.f46) from rfl) (show (3 : Nat) ≤ 19 by decide) hb ((m_z0x n a0 a1 a2).trans h) rfl (by kernel_rfl)
noncomputable def jBT : Spec := jbe e_z0x h_z0x jmN jmU fun a b => jCk a.1 a.2.1 a.2.2.1
theorem jDH (hm : Try.prog.follows .mixedOrders = true) : jaJ PP 46 jBT := jaC (pol := jDm) hm (cf := jyY) (jaX (jaf (k_z0t hm) jay)) fun a b r h => ⟨FUEL, g_z0x FUEL a.1 a.2.1 a.2.2.1 (jar h)⟩
def s_z0y_r : Sig := ⟨[2], [.ty (.int .i64)], []⟩
def jDl : Pol := ⟨fun i => none, fun i => none, some [(2, .keep)], [.keep], []⟩
def e_z0y : List EK := [.ty (.int .i64)]
def h_z0y : List HK := []
noncomputable def jyX : CallF := mkCF [] []
noncomputable def jGe (n : Nat) : jbk := fun i =>  none
theorem m_z0y (n : Nat) (a0 : Int) : jbx PP jyX jDl (jGe n) Try.f28 (jad Try.f28) (EK.encs e_z0y ((a0, ()), ()).1) (HK.encs h_z0y ((a0, ()), ()).2) = jFp n a0 := by kernel_rfl
theorem g_z0y (n : Nat) (a0 : Int) {r : Res} (h : jFp n a0 = some r) : runF PP jyX n jDl 28 (EK.encs e_z0y ((a0, ()), ()).1) (HK.encs h_z0y ((a0, ()), ()).2) = some r := by
  have hb : LOk PP jyX Try.f28.ntmps 0 n jDl (jGe n) (jad Try.f28) := ⟨trivial, ⟨trivial, trivial⟩⟩
  exact jas PP (c := jad Try.f28) Try.func28 (show Try.f28.body = some (jad Try.f28) from rfl) (show (1 : Nat) ≤ 5 by decide) hb ((m_z0y n a0).trans h) rfl (by kernel_rfl)
noncomputable def jBS : Spec := jbe e_z0y h_z0y jtU jul fun a b => jEx a.1
theorem jDG (hm : Try.prog.follows .mixedOrders = true) : jaJ PP 28 jBS := jaC (pol := jDl) hm (cf := jyX) (jaX jay) fun a b r h => ⟨FUEL, g_z0y FUEL a.1 (jar h)⟩
def jec : Sig := ⟨[0, 4, 5, 7, 8], [.ty (.slice jaG), .ptr 0 0 0, .ptr 1 0 0, .ty (.int .i64), .ty (.int .i64)], [.cell jag, .cell jke]⟩
def jqt : Sig := ⟨[7], [.ty (.int .i64)], []⟩
def s_z0z_r : Sig := ⟨[6], [.ty (.int .i64)], []⟩
def jnr : Pol := ⟨fun i => if i = 0 then some [(0, .keep), (4, (.own jag)), (5, (.own jke)), (7, .keep), (8, .keep)] else none, fun i => if i = 0 then some [(7, .keep)] else none, some [(6, .keep)], [.keep], []⟩
def e_z0z : List EK := [.ty (.slice jaG), .agg jag, .agg jke]
def h_z0z : List HK := []
noncomputable def jnW : CallF := mkCF [(46, jBT), (28, jBS)] [(46, [(.slice jaG), (.int .i64), (.int .i64)]), (28, [(.int .i64)])]
noncomputable def juQ (n : Nat) : jbk := fun i => if i = 0 then some (jav 0 (jnr.head 0) jec fun K v => jlh n (fun z0 => K (.ex 0) (jqt.enc ((z0, ()), ()))) v.1.1 v.2.1 v.2.2.1 n v.1.2.2.2.1 v.1.2.2.2.2.1)
  else  none
noncomputable def jxj : Code := jaN (jad Try.f58) [1, 1, 0, 1, 0, 0]
noncomputable def jiI (n : Nat) (K : Cont) (rec : Sig.sem jec → Option Res) (v : Sig.sem jec) : Option Res := jtc n (fun z0 => K (.ex 0) (jqt.enc ((z0, ()), ()))) v.1.1 v.2.1 v.2.2.1 (fun z1 z2 => rec ((v.1.1, ((), ((), (z1, (z2, ()))))), (v.2.1, (v.2.2.1, ())))) v.1.2.2.2.1 v.1.2.2.2.2.1
theorem t_z0z_0 (n : Nat) (K : Cont) (rec : Sig.sem jec → Option Res) (v : Sig.sem jec) : runT PP jnW Try.f58.ntmps 0 jnr (juQ n) jxj (jec.enc v) (jbq 0 (jnr.head 0) jec rec K) = jiI n K rec v := by kernel_rfl
noncomputable def jrV (n : Nat) (K : Cont) (m : Nat) (v : Sig.sem jec) : Option Res := jlh n (fun z0 => K (.ex 0) (jqt.enc ((z0, ()), ()))) v.1.1 v.2.1 v.2.2.1 m v.1.2.2.2.1 v.1.2.2.2.2.1
theorem i_z0z_0 (n : Nat) (K : Cont) : ∀ m v, iter (jiI n K) m v = jrV n K m v := by
  intro m
  induction m with
  | zero => intro v; rfl
  | succ m ih =>
    intro v
    show jiI n K (iter (jiI n K) m) v = jiI n K (jrV n K m) v
    rw [show iter (jiI n K) m = jrV n K m from funext ih]
theorem o_z0z_0 (n : Nat) : ∀ L, juQ n 0 = some L → ∀ s K r, L s K = some r → ∃ x s', jbj (run PP jnW Try.f58.ntmps 0 n jnr none jxj) (gc 0 (jnr.head 0)) n s = some (x, s') ∧ K x s' = some r := by
  intro L hL s K r h
  have hL : some (jav 0 (jnr.head 0) jec fun K v => jrV n K n v) = some L := hL
  cases hL
  have hb : LOk PP jnW Try.f58.ntmps 0 n jnr (juQ n) jxj := ⟨⟨trivial, ⟨trivial, trivial⟩⟩, ⟨⟨trivial, ⟨trivial, trivial⟩⟩, trivial⟩⟩
  refine jaB hb (jiI n) (t_z0z_0 n) n s K r ?_
  rw [← h]
  unfold jav
  simp only [i_z0z_0]
theorem m_z0z (n : Nat) (a0 : (List jao)) (a1 : jaa) (a2 : jbl) : jbx PP jnW jnr (juQ n) Try.f58 (jad Try.f58) (EK.encs e_z0z ((a0, (a1, (a2, ()))), ()).1) (HK.encs h_z0z ((a0, (a1, (a2, ()))), ()).2) = jFo n a0 a1 a2 := by kernel_rfl
theorem g_z0z (n : Nat) (a0 : (List jao)) (a1 : jaa) (a2 : jbl) {r : Res} (h : jFo n a0 a1 a2 = some r) : runF PP jnW n jnr 58 (EK.encs e_z0z ((a0, (a1, (a2, ()))), ()).1) (HK.encs h_z0z ((a0, (a1, (a2, ()))), ()).2) = some r := by
  have hb : LOk PP jnW Try.f58.ntmps 0 n jnr (juQ n) (jad Try.f58) := ⟨trivial, ⟨trivial, ⟨⟨trivial, (o_z0z_0 n)⟩, ⟨trivial, trivial⟩⟩⟩⟩
  exact jas PP (c := jad Try.f58) Try.func58 (show Try.f58.body = some (jad Try.f58) from rfl) (show (3 : Nat) ≤ 42 by decide) hb ((m_z0z n a0 a1 a2).trans h) rfl (by kernel_rfl)
noncomputable def c_z0z : Spec := jbe e_z0z h_z0z jtT juk fun a b => jEw a.1 a.2.1 a.2.2.1
theorem k_z0z (hm : Try.prog.follows .mixedOrders = true) : jaJ PP 58 c_z0z := jaC (pol := jnr) hm (cf := jnW) (jaX (jaf (jDH hm) (jaf (jDG hm) jay))) fun a b r h => ⟨FUEL, g_z0z FUEL a.1 a.2.1 a.2.2.1 (jar h)⟩
def jeb : Sig := ⟨[0, 1, 5, 6], [.ty (.slice jaG), .ty (.slice jaV), .hs 0 0, .ty (.int .i64)], [.row (.int .i64)]⟩
def jqs : Sig := ⟨[5], [.hs 0 0], [.row (.int .i64)]⟩
def s_z10_r : Sig := ⟨[4], [.ty (.int .i64)], []⟩
def jnq : Pol := ⟨fun i => if i = 0 then some [(0, .keep), (1, .keep), (5, (.own (.int .i64))), (6, .keep)] else none, fun i => if i = 0 then some [(5, (.own (.int .i64)))] else none, some [(4, .keep)], [.keep], []⟩
def e_z10 : List EK := [.ty (.slice jaG), .ty (.slice jaV)]
def h_z10 : List HK := []
noncomputable def jnV : CallF := mkCF [(46, jBT), (28, jBS)] [(46, [(.slice jaG), (.int .i64), (.int .i64)]), (28, [(.int .i64)])]
noncomputable def juP (n : Nat) : jbk := fun i => if i = 0 then some (jav 0 (jnq.head 0) jeb fun K v => jgi n (fun z1 => K (.ex 0) (jqs.enc ((v.1.2.2.1, ()), (z1, ())))) v.1.1 v.1.2.1 v.1.2.2.1 n v.1.2.2.2.1 v.2.1)
  else  none
noncomputable def jxi : Code := jaN (jad Try.f59) [1, 1, 0, 1, 0, 0]
noncomputable def jiH (n : Nat) (K : Cont) (rec : Sig.sem jeb → Option Res) (v : Sig.sem jeb) : Option Res := jop n (fun z1 => K (.ex 0) (jqs.enc ((v.1.2.2.1, ()), (z1, ())))) v.1.1 v.1.2.1 v.1.2.2.1 (fun z3 z4 => rec ((v.1.1, (v.1.2.1, (v.1.2.2.1, (z3, ())))), (z4, ()))) v.1.2.2.2.1 v.2.1
theorem t_z10_0 (n : Nat) (K : Cont) (rec : Sig.sem jeb → Option Res) (v : Sig.sem jeb) : runT PP jnV Try.f59.ntmps 0 jnq (juP n) jxi (jeb.enc v) (jbq 0 (jnq.head 0) jeb rec K) = jiH n K rec v := by kernel_rfl
noncomputable def jrU (n : Nat) (K : Cont) (m : Nat) (v : Sig.sem jeb) : Option Res := jgi n (fun z1 => K (.ex 0) (jqs.enc ((v.1.2.2.1, ()), (z1, ())))) v.1.1 v.1.2.1 v.1.2.2.1 m v.1.2.2.2.1 v.2.1
theorem i_z10_0 (n : Nat) (K : Cont) : ∀ m v, iter (jiH n K) m v = jrU n K m v := by
  intro m
  induction m with
  | zero => intro v; rfl
  | succ m ih =>
    intro v
    show jiH n K (iter (jiH n K) m) v = jiH n K (jrU n K m) v
    rw [show iter (jiH n K) m = jrU n K m from funext ih]
theorem o_z10_0 (n : Nat) : ∀ L, juP n 0 = some L → ∀ s K r, L s K = some r → ∃ x s', jbj (run PP jnV Try.f59.ntmps 0 n jnq none jxi) (gc 0 (jnq.head 0)) n s = some (x, s') ∧ K x s' = some r := by
  intro L hL s K r h
  have hL : some (jav 0 (jnq.head 0) jeb fun K v => jrU n K n v) = some L := hL
  cases hL
  have hb : LOk PP jnV Try.f59.ntmps 0 n jnq (juP n) jxi := ⟨⟨trivial, ⟨trivial, trivial⟩⟩, ⟨⟨trivial, ⟨trivial, ⟨trivial, ⟨trivial, ⟨trivial, ⟨trivial, ⟨⟨trivial, ⟨trivial, trivial⟩⟩, ⟨trivial, ⟨trivial, ⟨⟨trivial, ⟨⟨trivial, ⟨trivial, trivial⟩⟩, trivial⟩⟩, trivial⟩⟩⟩⟩⟩⟩⟩⟩⟩⟩, trivial⟩⟩
  refine jaB hb (jiH n) (t_z10_0 n) n s K r ?_
  rw [← h]
  unfold jav
  simp only [i_z10_0]
theorem m_z10 (n : Nat) (a0 : (List jao)) (a1 : (List jaj)) : jbx PP jnV jnq (juP n) Try.f59 (jad Try.f59) (EK.encs e_z10 ((a0, (a1, ())), ()).1) (HK.encs h_z10 ((a0, (a1, ())), ()).2) = jFn n a0 a1 := by kernel_rfl
theorem g_z10 (n : Nat) (a0 : (List jao)) (a1 : (List jaj)) {r : Res} (h : jFn n a0 a1 = some r) : runF PP jnV n jnq 59 (EK.encs e_z10 ((a0, (a1, ())), ()).1) (HK.encs h_z10 ((a0, (a1, ())), ()).2) = some r := by
  have hb : LOk PP jnV Try.f59.ntmps 0 n jnq (juP n) (jad Try.f59) := ⟨trivial, ⟨trivial, ⟨⟨trivial, (o_z10_0 n)⟩, ⟨trivial, trivial⟩⟩⟩⟩
  exact jas PP (c := jad Try.f59) Try.func59 (show Try.f59.body = some (jad Try.f59) from rfl) (show (2 : Nat) ≤ 102 by decide) hb ((m_z10 n a0 a1).trans h) rfl (by kernel_rfl)
noncomputable def c_z10 : Spec := jbe e_z10 h_z10 joN jpb fun a b => jEv a.1 a.2.1
theorem k_z10 (hm : Try.prog.follows .mixedOrders = true) : jaJ PP 59 c_z10 := jaC (pol := jnq) hm (cf := jnV) (jaX (jaf (jDH hm) (jaf (jDG hm) jay))) fun a b r h => ⟨FUEL, g_z10 FUEL a.1 a.2.1 (jar h)⟩
def jea : Sig := ⟨[0, 3, 5, 6, 7], [.ty (.slice jaG), .ptr 0 0 0, .ty (.int .i64), .ty (.int .i64), .ty (.int .i64)], [.cell jaW]⟩
def jqr : Sig := ⟨[3, 5, 6], [.ptr 0 0 0, .ty (.int .i64), .ty (.int .i64)], [.cell jaW]⟩
def s_z11_r : Sig := ⟨[4], [.ty (.int .i64)], []⟩
def jnp : Pol := ⟨fun i => if i = 0 then some [(0, .keep), (3, (.own jaW)), (5, .keep), (6, .keep), (7, .keep)] else none, fun i => if i = 0 then some [(3, (.own jaW)), (5, .keep), (6, .keep)] else none, some [(4, .keep)], [.keep], []⟩
def e_z11 : List EK := [.ty (.slice jaG), .agg jaW]
def h_z11 : List HK := []
noncomputable def jnU : CallF := mkCF [(46, jBT), (28, jBS)] [(46, [(.slice jaG), (.int .i64), (.int .i64)]), (28, [(.int .i64)])]
noncomputable def juO (n : Nat) : jbk := fun i => if i = 0 then some (jav 0 (jnp.head 0) jea fun K v => jlg n (fun z0 z1 => K (.ex 0) (jqr.enc (((), (z0, (z1, ()))), (v.2.1, ())))) v.1.1 v.2.1 n v.1.2.2.1 v.1.2.2.2.1 v.1.2.2.2.2.1)
  else  none
noncomputable def jxh : Code := jaN (jad Try.f60) [1, 1, 0, 1, 0, 0]
noncomputable def jiG (n : Nat) (K : Cont) (rec : Sig.sem jea → Option Res) (v : Sig.sem jea) : Option Res := jtb n (fun z0 z1 => K (.ex 0) (jqr.enc (((), (z0, (z1, ()))), (v.2.1, ())))) v.1.1 v.2.1 (fun z1 z2 z3 => rec ((v.1.1, ((), (z1, (z2, (z3, ()))))), (v.2.1, ()))) v.1.2.2.1 v.1.2.2.2.1 v.1.2.2.2.2.1
theorem t_z11_0 (n : Nat) (K : Cont) (rec : Sig.sem jea → Option Res) (v : Sig.sem jea) : runT PP jnU Try.f60.ntmps 0 jnp (juO n) jxh (jea.enc v) (jbq 0 (jnp.head 0) jea rec K) = jiG n K rec v := by kernel_rfl
noncomputable def jrT (n : Nat) (K : Cont) (m : Nat) (v : Sig.sem jea) : Option Res := jlg n (fun z0 z1 => K (.ex 0) (jqr.enc (((), (z0, (z1, ()))), (v.2.1, ())))) v.1.1 v.2.1 m v.1.2.2.1 v.1.2.2.2.1 v.1.2.2.2.2.1
theorem i_z11_0 (n : Nat) (K : Cont) : ∀ m v, iter (jiG n K) m v = jrT n K m v := by
  intro m
  induction m with
  | zero => intro v; rfl
  | succ m ih =>
    intro v
    show jiG n K (iter (jiG n K) m) v = jiG n K (jrT n K m) v
    rw [show iter (jiG n K) m = jrT n K m from funext ih]
theorem o_z11_0 (n : Nat) : ∀ L, juO n 0 = some L → ∀ s K r, L s K = some r → ∃ x s', jbj (run PP jnU Try.f60.ntmps 0 n jnp none jxh) (gc 0 (jnp.head 0)) n s = some (x, s') ∧ K x s' = some r := by
  intro L hL s K r h
  have hL : some (jav 0 (jnp.head 0) jea fun K v => jrT n K n v) = some L := hL
  cases hL
  have hb : LOk PP jnU Try.f60.ntmps 0 n jnp (juO n) jxh := ⟨⟨trivial, ⟨trivial, trivial⟩⟩, ⟨⟨trivial, ⟨trivial, trivial⟩⟩, trivial⟩⟩
  refine jaB hb (jiG n) (t_z11_0 n) n s K r ?_
  rw [← h]
  unfold jav
  simp only [i_z11_0]
theorem m_z11 (n : Nat) (a0 : (List jao)) (a1 : jal) : jbx PP jnU jnp (juO n) Try.f60 (jad Try.f60) (EK.encs e_z11 ((a0, (a1, ())), ()).1) (HK.encs h_z11 ((a0, (a1, ())), ()).2) = jFm n a0 a1 := by kernel_rfl
theorem g_z11 (n : Nat) (a0 : (List jao)) (a1 : jal) {r : Res} (h : jFm n a0 a1 = some r) : runF PP jnU n jnp 60 (EK.encs e_z11 ((a0, (a1, ())), ()).1) (HK.encs h_z11 ((a0, (a1, ())), ()).2) = some r := by
  have hb : LOk PP jnU Try.f60.ntmps 0 n jnp (juO n) (jad Try.f60) := ⟨trivial, ⟨trivial, ⟨⟨trivial, (o_z11_0 n)⟩, ⟨⟨trivial, ⟨⟨trivial, trivial⟩, trivial⟩⟩, ⟨trivial, trivial⟩⟩⟩⟩⟩
  exact jas PP (c := jad Try.f60) Try.func60 (show Try.f60.body = some (jad Try.f60) from rfl) (show (2 : Nat) ≤ 36 by decide) hb ((m_z11 n a0 a1).trans h) rfl (by kernel_rfl)
noncomputable def c_z11 : Spec := jbe e_z11 h_z11 joM jpa fun a b => jEu a.1 a.2.1
theorem k_z11 (hm : Try.prog.follows .mixedOrders = true) : jaJ PP 60 c_z11 := jaC (pol := jnp) hm (cf := jnU) (jaX (jaf (jDH hm) (jaf (jDG hm) jay))) fun a b r h => ⟨FUEL, g_z11 FUEL a.1 a.2.1 (jar h)⟩
def jdZ : Sig := ⟨[1, 3, 4], [.ptr 0 0 0, .hs 1 0, .ty (.int .i64)], [.cell jag, .row jaG]⟩
def jdY : Sig := ⟨[1, 3, 4, 5, 6], [.ptr 0 0 0, .hs 1 0, .ty (.int .i64), .hs 2 0, .ty (.int .i64)], [.cell jag, .row jaG, .row jaG]⟩
def jqp : Sig := ⟨[1, 3, 4, 5], [.ptr 0 0 0, .hs 1 0, .ty (.int .i64), .hs 2 0], [.cell jag, .row jaG, .row jaG]⟩
def jdX : Sig := ⟨[1, 3, 4, 5, 7], [.ptr 0 0 0, .hs 1 0, .ty (.int .i64), .hs 2 0, .ty (.int .i64)], [.cell jag, .row jaG, .row jaG]⟩
def jqo : Sig := ⟨[1, 3, 4, 5], [.ptr 0 0 0, .hs 1 0, .ty (.int .i64), .hs 2 0], [.cell jag, .row jaG, .row jaG]⟩
def jdW : Sig := ⟨[1, 3, 4, 5, 8], [.ptr 0 0 0, .hs 1 0, .ty (.int .i64), .hs 2 0, .ty (.int .i64)], [.cell jag, .row jaG, .row jaG]⟩
def jqn : Sig := ⟨[1, 3, 4], [.ptr 0 0 0, .hs 1 0, .ty (.int .i64)], [.cell jag, .row jaG]⟩
def jqq : Sig := ⟨[3], [.hs 0 0], [.row jaG]⟩
def s_z12_r : Sig := ⟨[2], [.hs 0 0], [.row jaG]⟩
def jcw : Pol := ⟨fun i => if i = 0 then some [(1, (.own jag)), (3, (.own jaG)), (4, .keep)] else if i = 2 then some [(1, (.own jag)), (3, (.own jaG)), (4, .keep), (5, (.own jaG)), (6, .keep)] else if i = 4 then some [(1, (.own jag)), (3, (.own jaG)), (4, .keep), (5, (.own jaG)), (7, .keep)] else if i = 6 then some [(1, (.own jag)), (3, (.own jaG)), (4, .keep), (5, (.own jaG)), (8, .keep)] else none, fun i => if i = 2 then some [(1, (.own jag)), (3, (.own jaG)), (4, .keep), (5, (.own jaG))] else if i = 4 then some [(1, (.own jag)), (3, (.own jaG)), (4, .keep), (5, (.own jaG))] else if i = 6 then some [(1, (.own jag)), (3, (.own jaG)), (4, .keep)] else if i = 0 then some [(3, (.own jaG))] else none, some [(2, (.own jaG))], [(.own jaG)], []⟩
def e_z12 : List EK := [.agg jag]
def h_z12 : List HK := []
noncomputable def jdz : CallF := mkCF [(32, c_z0u), (44, jDY), (58, c_z0z), (59, c_z10), (60, c_z11)] [(32, [jag]), (44, [(.slice jaG), (.int .i64), (.int .i64)]), (58, [(.slice jaG), jag, jke]), (59, [(.slice jaG), (.slice jaV)]), (60, [(.slice jaG), jaW])]
noncomputable def jfl (n : Nat) : jbk := fun i => if i = 2 then some (jav 0 (jcw.head 2) jdY fun K v => jjt n (fun z4 => K (.ex 2) (jqp.enc (((), (v.1.2.1, (v.1.2.2.1, (v.1.2.2.2.1, ())))), (v.2.1, (z4, (v.2.2.2.1, ())))))) v.1.2.1 v.1.2.2.2.1 v.2.1 v.2.2.2.1 n v.1.2.2.2.2.1 v.2.2.1)
  else if i = 4 then some (jav 0 (jcw.head 4) jdX fun K v => jjs n (fun z4 => K (.ex 4) (jqo.enc (((), (v.1.2.1, (v.1.2.2.1, (v.1.2.2.2.1, ())))), (v.2.1, (z4, (v.2.2.2.1, ())))))) v.1.2.1 v.1.2.2.2.1 v.2.1 v.2.2.2.1 n v.1.2.2.2.2.1 v.2.2.1)
  else if i = 6 then some (jav 0 (jcw.head 6) jdW fun K v => jgU n (fun z3 => K (.ex 6) (jqn.enc (((), (v.1.2.1, (v.1.2.2.1, ()))), (v.2.1, (z3, ()))))) v.1.2.1 v.1.2.2.2.1 v.2.1 v.2.2.2.1 n v.1.2.2.2.2.1 v.2.2.1)
  else if i = 0 then some (jav 0 (jcw.head 0) jdZ fun K v => jgV n (fun z1 => K (.ex 0) (jqq.enc ((v.1.2.1, ()), (z1, ())))) v.1.2.1 v.2.1 n v.1.2.2.1 v.2.2.1)
  else  none
noncomputable def jxf : Code := jaN (jad Try.f47) [1, 1, 0, 1, 0, 0, 1, 0, 0, 1, 0, 1, 0, 0]
noncomputable def jiE (n : Nat) (K : Cont) (rec : Sig.sem jdY → Option Res) (v : Sig.sem jdY) : Option Res := jsZ n (fun z4 => K (.ex 2) (jqp.enc (((), (v.1.2.1, (v.1.2.2.1, (v.1.2.2.2.1, ())))), (v.2.1, (z4, (v.2.2.2.1, ())))))) v.1.2.1 v.1.2.2.2.1 v.2.1 v.2.2.2.1 (fun z3 z5 => rec (((), (v.1.2.1, (v.1.2.2.1, (v.1.2.2.2.1, (z3, ()))))), (v.2.1, (z5, (v.2.2.2.1, ()))))) v.1.2.2.2.2.1 v.2.2.1
theorem t_z12_2 (n : Nat) (K : Cont) (rec : Sig.sem jdY → Option Res) (v : Sig.sem jdY) : runT PP jdz Try.f47.ntmps 0 jcw (jfl n) jxf (jdY.enc v) (jbq 0 (jcw.head 2) jdY rec K) = jiE n K rec v := by kernel_rfl
noncomputable def jrR (n : Nat) (K : Cont) (m : Nat) (v : Sig.sem jdY) : Option Res := jjt n (fun z4 => K (.ex 2) (jqp.enc (((), (v.1.2.1, (v.1.2.2.1, (v.1.2.2.2.1, ())))), (v.2.1, (z4, (v.2.2.2.1, ())))))) v.1.2.1 v.1.2.2.2.1 v.2.1 v.2.2.2.1 m v.1.2.2.2.2.1 v.2.2.1
theorem i_z12_2 (n : Nat) (K : Cont) : ∀ m v, iter (jiE n K) m v = jrR n K m v := by
  intro m
  induction m with
  | zero => intro v; rfl
  | succ m ih =>
    intro v
    show jiE n K (iter (jiE n K) m) v = jiE n K (jrR n K m) v
    rw [show iter (jiE n K) m = jrR n K m from funext ih]
theorem o_z12_2 (n : Nat) : ∀ L, jfl n 2 = some L → ∀ s K r, L s K = some r → ∃ x s', jbj (run PP jdz Try.f47.ntmps 0 n jcw none jxf) (gc 0 (jcw.head 2)) n s = some (x, s') ∧ K x s' = some r := by
  intro L hL s K r h
  have hL : some (jav 0 (jcw.head 2) jdY fun K v => jrR n K n v) = some L := hL
  cases hL
  have hb : LOk PP jdz Try.f47.ntmps 0 n jcw (jfl n) jxf := ⟨⟨trivial, ⟨trivial, trivial⟩⟩, ⟨trivial, trivial⟩⟩
  refine jaB hb (jiE n) (t_z12_2 n) n s K r ?_
  rw [← h]
  unfold jav
  simp only [i_z12_2]
noncomputable def jxe : Code := jaN (jad Try.f47) [1, 1, 0, 1, 0, 0, 1, 0, 0, 1, 1, 0, 1, 0, 0]
noncomputable def jiD (n : Nat) (K : Cont) (rec : Sig.sem jdX → Option Res) (v : Sig.sem jdX) : Option Res := jsY n (fun z4 => K (.ex 4) (jqo.enc (((), (v.1.2.1, (v.1.2.2.1, (v.1.2.2.2.1, ())))), (v.2.1, (z4, (v.2.2.2.1, ())))))) v.1.2.1 v.1.2.2.2.1 v.2.1 v.2.2.2.1 (fun z3 z5 => rec (((), (v.1.2.1, (v.1.2.2.1, (v.1.2.2.2.1, (z3, ()))))), (v.2.1, (z5, (v.2.2.2.1, ()))))) v.1.2.2.2.2.1 v.2.2.1
theorem t_z12_4 (n : Nat) (K : Cont) (rec : Sig.sem jdX → Option Res) (v : Sig.sem jdX) : runT PP jdz Try.f47.ntmps 0 jcw (jfl n) jxe (jdX.enc v) (jbq 0 (jcw.head 4) jdX rec K) = jiD n K rec v := by kernel_rfl
noncomputable def jrQ (n : Nat) (K : Cont) (m : Nat) (v : Sig.sem jdX) : Option Res := jjs n (fun z4 => K (.ex 4) (jqo.enc (((), (v.1.2.1, (v.1.2.2.1, (v.1.2.2.2.1, ())))), (v.2.1, (z4, (v.2.2.2.1, ())))))) v.1.2.1 v.1.2.2.2.1 v.2.1 v.2.2.2.1 m v.1.2.2.2.2.1 v.2.2.1
theorem i_z12_4 (n : Nat) (K : Cont) : ∀ m v, iter (jiD n K) m v = jrQ n K m v := by
  intro m
  induction m with
  | zero => intro v; rfl
  | succ m ih =>
    intro v
    show jiD n K (iter (jiD n K) m) v = jiD n K (jrQ n K m) v
    rw [show iter (jiD n K) m = jrQ n K m from funext ih]
theorem o_z12_4 (n : Nat) : ∀ L, jfl n 4 = some L → ∀ s K r, L s K = some r → ∃ x s', jbj (run PP jdz Try.f47.ntmps 0 n jcw none jxe) (gc 0 (jcw.head 4)) n s = some (x, s') ∧ K x s' = some r := by
  intro L hL s K r h
  have hL : some (jav 0 (jcw.head 4) jdX fun K v => jrQ n K n v) = some L := hL
  cases hL
  have hb : LOk PP jdz Try.f47.ntmps 0 n jcw (jfl n) jxe := ⟨⟨trivial, ⟨trivial, trivial⟩⟩, ⟨trivial, trivial⟩⟩
  refine jaB hb (jiD n) (t_z12_4 n) n s K r ?_
  rw [← h]
  unfold jav
  simp only [i_z12_4]
noncomputable def jxd : Code := jaN (jad Try.f47) [1, 1, 0, 1, 0, 0, 1, 0, 0, 1, 1, 1, 1, 0, 0]
noncomputable def jiC (n : Nat) (K : Cont) (rec : Sig.sem jdW → Option Res) (v : Sig.sem jdW) : Option Res := jsX n (fun z3 => K (.ex 6) (jqn.enc (((), (v.1.2.1, (v.1.2.2.1, ()))), (v.2.1, (z3, ()))))) v.1.2.1 v.1.2.2.2.1 v.2.1 v.2.2.2.1 (fun z3 z5 => rec (((), (v.1.2.1, (v.1.2.2.1, (v.1.2.2.2.1, (z3, ()))))), (v.2.1, (z5, (v.2.2.2.1, ()))))) v.1.2.2.2.2.1 v.2.2.1
theorem t_z12_6 (n : Nat) (K : Cont) (rec : Sig.sem jdW → Option Res) (v : Sig.sem jdW) : runT PP jdz Try.f47.ntmps 0 jcw (jfl n) jxd (jdW.enc v) (jbq 0 (jcw.head 6) jdW rec K) = jiC n K rec v := by kernel_rfl
noncomputable def jrP (n : Nat) (K : Cont) (m : Nat) (v : Sig.sem jdW) : Option Res := jgU n (fun z3 => K (.ex 6) (jqn.enc (((), (v.1.2.1, (v.1.2.2.1, ()))), (v.2.1, (z3, ()))))) v.1.2.1 v.1.2.2.2.1 v.2.1 v.2.2.2.1 m v.1.2.2.2.2.1 v.2.2.1
theorem i_z12_6 (n : Nat) (K : Cont) : ∀ m v, iter (jiC n K) m v = jrP n K m v := by
  intro m
  induction m with
  | zero => intro v; rfl
  | succ m ih =>
    intro v
    show jiC n K (iter (jiC n K) m) v = jiC n K (jrP n K m) v
    rw [show iter (jiC n K) m = jrP n K m from funext ih]
theorem o_z12_6 (n : Nat) : ∀ L, jfl n 6 = some L → ∀ s K r, L s K = some r → ∃ x s', jbj (run PP jdz Try.f47.ntmps 0 n jcw none jxd) (gc 0 (jcw.head 6)) n s = some (x, s') ∧ K x s' = some r := by
  intro L hL s K r h
  have hL : some (jav 0 (jcw.head 6) jdW fun K v => jrP n K n v) = some L := hL
  cases hL
  have hb : LOk PP jdz Try.f47.ntmps 0 n jcw (jfl n) jxd := ⟨⟨trivial, ⟨trivial, trivial⟩⟩, ⟨trivial, trivial⟩⟩
  refine jaB hb (jiC n) (t_z12_6 n) n s K r ?_
  rw [← h]
  unfold jav
  simp only [i_z12_6]
noncomputable def jxg : Code := jaN (jad Try.f47) [1, 1, 0, 1, 0, 0]
noncomputable def jiF (n : Nat) (K : Cont) (rec : Sig.sem jdZ → Option Res) (v : Sig.sem jdZ) : Option Res := jta n (fun z1 => K (.ex 0) (jqq.enc ((v.1.2.1, ()), (z1, ())))) v.1.2.1 v.2.1 (fun z1 z3 => rec (((), (v.1.2.1, (z1, ()))), (v.2.1, (z3, ())))) v.1.2.2.1 v.2.2.1
theorem t_z12_0 (n : Nat) (K : Cont) (rec : Sig.sem jdZ → Option Res) (v : Sig.sem jdZ) : runT PP jdz Try.f47.ntmps 0 jcw (jfl n) jxg (jdZ.enc v) (jbq 0 (jcw.head 0) jdZ rec K) = jiF n K rec v := by kernel_rfl
noncomputable def jrS (n : Nat) (K : Cont) (m : Nat) (v : Sig.sem jdZ) : Option Res := jgV n (fun z1 => K (.ex 0) (jqq.enc ((v.1.2.1, ()), (z1, ())))) v.1.2.1 v.2.1 m v.1.2.2.1 v.2.2.1
theorem i_z12_0 (n : Nat) (K : Cont) : ∀ m v, iter (jiF n K) m v = jrS n K m v := by
  intro m
  induction m with
  | zero => intro v; rfl
  | succ m ih =>
    intro v
    show jiF n K (iter (jiF n K) m) v = jiF n K (jrS n K m) v
    rw [show iter (jiF n K) m = jrS n K m from funext ih]
theorem o_z12_0 (n : Nat) : ∀ L, jfl n 0 = some L → ∀ s K r, L s K = some r → ∃ x s', jbj (run PP jdz Try.f47.ntmps 0 n jcw none jxg) (gc 0 (jcw.head 0)) n s = some (x, s') ∧ K x s' = some r := by
  intro L hL s K r h
  have hL : some (jav 0 (jcw.head 0) jdZ fun K v => jrS n K n v) = some L := hL
  cases hL
  have hb : LOk PP jdz Try.f47.ntmps 0 n jcw (jfl n) jxg := ⟨⟨trivial, ⟨trivial, trivial⟩⟩, ⟨⟨trivial, ⟨⟨trivial, (o_z12_2 n)⟩, ⟨⟨trivial, (o_z12_4 n)⟩, ⟨trivial, (o_z12_6 n)⟩⟩⟩⟩, trivial⟩⟩
  refine jaB hb (jiF n) (t_z12_0 n) n s K r ?_
  rw [← h]
  unfold jav
  simp only [i_z12_0]
theorem m_z12 (n : Nat) (a0 : jaa) : jbx PP jdz jcw (jfl n) Try.f47 (jad Try.f47) (EK.encs e_z12 ((a0, ()), ()).1) (HK.encs h_z12 ((a0, ()), ()).2) = jFl n a0 := by kernel_rfl
theorem g_z12 (n : Nat) (a0 : jaa) {r : Res} (h : jFl n a0 = some r) : runF PP jdz n jcw 47 (EK.encs e_z12 ((a0, ()), ()).1) (HK.encs h_z12 ((a0, ()), ()).2) = some r := by
  have hb : LOk PP jdz Try.f47.ntmps 0 n jcw (jfl n) (jad Try.f47) := ⟨trivial, ⟨trivial, ⟨⟨trivial, (o_z12_0 n)⟩, ⟨trivial, trivial⟩⟩⟩⟩
  exact jas PP (c := jad Try.f47) Try.func47 (show Try.f47.body = some (jad Try.f47) from rfl) (show (1 : Nat) ≤ 101 by decide) hb ((m_z12 n a0).trans h) rfl (by kernel_rfl)
noncomputable def c_z12 : Spec := jbe e_z12 h_z12 jtS juj fun a b => jEt a.1
theorem k_z12 (hm : Try.prog.follows .mixedOrders = true) : jaJ PP 47 c_z12 := jaC (pol := jcw) hm (cf := jdz) (jaX (jaf (k_z0u hm) (jaf (k_z0t hm) (jaf (k_z0z hm) (jaf (k_z10 hm) (jaf (k_z11 hm) jay)))))) fun a b r h => ⟨FUEL, g_z12 FUEL a.1 (jar h)⟩
def s_z13_r : Sig := ⟨[6, 7], [.ty (.int .i64), .ty (.int .i64)], []⟩
def jDk : Pol := ⟨fun i => none, fun i => none, some [(6, .keep), (7, .keep)], [.keep, .keep], []⟩
def e_z13 : List EK := [.agg jag, .ty (.int .i64), .ty (.int .i64)]
def h_z13 : List HK := []
noncomputable def jyW : CallF := mkCF [(15, c_z0w), (47, c_z12), (46, jBT)] [(15, [jag]), (47, [jag]), (46, [(.slice jaG), (.int .i64), (.int .i64)])]
noncomputable def jGd (n : Nat) : jbk := fun i =>  none
theorem m_z13 (n : Nat) (a0 : jaa) (a1 : Int) (a2 : Int) : jbx PP jyW jDk (jGd n) Try.f35 (jad Try.f35) (EK.encs e_z13 ((a0, (a1, (a2, ()))), ()).1) (HK.encs h_z13 ((a0, (a1, (a2, ()))), ()).2) = jFk n a0 a1 a2 := by kernel_rfl
theorem g_z13 (n : Nat) (a0 : jaa) (a1 : Int) (a2 : Int) {r : Res} (h : jFk n a0 a1 a2 = some r) : runF PP jyW n jDk 35 (EK.encs e_z13 ((a0, (a1, (a2, ()))), ()).1) (HK.encs h_z13 ((a0, (a1, (a2, ()))), ()).2) = some r := by
  have hb : LOk PP jyW Try.f35.ntmps 0 n jDk (jGd n) (jad Try.f35) := ⟨trivial, ⟨⟨trivial, ⟨⟨trivial, trivial⟩, trivial⟩⟩, ⟨trivial, trivial⟩⟩⟩
  exact jas PP (c := jad Try.f35) Try.func35 (show Try.f35.body = some (jad Try.f35) from rfl) (show (3 : Nat) ≤ 15 by decide) hb ((m_z13 n a0 a1 a2).trans h) rfl (by kernel_rfl)
noncomputable def jDX : Spec := jbe e_z13 h_z13 joL joZ fun a b => jEs a.1 a.2.1 a.2.2.1
theorem k_z13 (hm : Try.prog.follows .mixedOrders = true) : jaJ PP 35 jDX := jaC (pol := jDk) hm (cf := jyW) (jaX (jaf (k_z0w hm) (jaf (k_z12 hm) (jaf (jDH hm) jay)))) fun a b r h => ⟨FUEL, g_z13 FUEL a.1 a.2.1 a.2.2.1 (jar h)⟩
def s_z14_r : Sig := ⟨[4, 5], [.ty (.int .i64), .ty (.int .i64)], []⟩
def jDj : Pol := ⟨fun i => none, fun i => none, some [(4, .keep), (5, .keep)], [.keep, .keep], []⟩
def e_z14 : List EK := [.agg jag, .ty (.int .i64)]
def h_z14 : List HK := []
noncomputable def jyV : CallF := mkCF [(35, jDX)] [(35, [jag, (.int .i64), (.int .i64)])]
noncomputable def jGc (n : Nat) : jbk := fun i =>  none
theorem m_z14 (n : Nat) (a0 : jaa) (a1 : Int) : jbx PP jyV jDj (jGc n) Try.f17 (jad Try.f17) (EK.encs e_z14 ((a0, (a1, ())), ()).1) (HK.encs h_z14 ((a0, (a1, ())), ()).2) = jFj n a0 a1 := by kernel_rfl
theorem g_z14 (n : Nat) (a0 : jaa) (a1 : Int) {r : Res} (h : jFj n a0 a1 = some r) : runF PP jyV n jDj 17 (EK.encs e_z14 ((a0, (a1, ())), ()).1) (HK.encs h_z14 ((a0, (a1, ())), ()).2) = some r := by
  have hb : LOk PP jyV Try.f17.ntmps 0 n jDj (jGc n) (jad Try.f17) := ⟨trivial, ⟨trivial, trivial⟩⟩
  exact jas PP (c := jad Try.f17) Try.func17 (show Try.f17.body = some (jad Try.f17) from rfl) (show (2 : Nat) ≤ 11 by decide) hb ((m_z14 n a0 a1).trans h) rfl (by kernel_rfl)
noncomputable def c_z14 : Spec := jbe e_z14 h_z14 jtR jui fun a b => jEr a.1 a.2.1
theorem k_z14 (hm : Try.prog.follows .mixedOrders = true) : jaJ PP 17 c_z14 := jaC (pol := jDj) hm (cf := jyV) (jaX (jaf (k_z13 hm) jay)) fun a b r h => ⟨FUEL, g_z14 FUEL a.1 a.2.1 (jar h)⟩
def jwg : Sig := ⟨[2], [.ty .bool], []⟩
def jdV : Sig := ⟨[1, 3, 4], [.ptr 0 0 0, .ty (.int .u64), .ty (.int .i64)], [.cell jaM]⟩
def jqm : Sig := ⟨[1, 3], [.ptr 0 0 0, .ty (.int .u64)], [.cell jaM]⟩
def jdU : Sig := ⟨[1, 3, 5], [.ptr 0 0 0, .ty (.int .u64), .ty (.int .i64)], [.cell jaM]⟩
def jql : Sig := ⟨[], [], []⟩
def jgo : Pol := ⟨fun i => if i = 0 then some [(1, (.own jaM)), (3, .keep), (4, .keep)] else if i = 2 then some [(1, (.own jaM)), (3, .keep), (5, .keep)] else none, fun i => if i = 0 then some [(1, (.own jaM)), (3, .keep)] else if i = 2 then some [] else none, some [(2, .keep)], [.keep], []⟩
def e_z15 : List EK := [.agg jaM]
def h_z15 : List HK := []
noncomputable def jhF : CallF := mkCF [] []
noncomputable def jlR (n : Nat) : jbk := fun i => if i = 0 then some (jav 0 (jgo.head 0) jdV fun K v => jbM n (fun z0 => K (.ex 0) (jqm.enc (((), (z0, ())), (v.2.1, ())))) v.2.1 n v.1.2.1 v.1.2.2.1)
  else if i = 2 then some (jav 0 (jgo.head 2) jdU fun K v => jbL n (fun z0 => K .rt (jwg.enc ((z0, ()), ()))) (fun _ => K (.ex 2) (jql.enc ((), ()))) v.1.2.1 v.2.1 n v.1.2.2.1)
  else  none
noncomputable def jxc : Code := jaN (jad Try.f53) [1, 1, 1, 1, 1, 0, 1, 0, 0]
noncomputable def jiB (n : Nat) (K : Cont) (rec : Sig.sem jdV → Option Res) (v : Sig.sem jdV) : Option Res := jsW n (fun z0 => K (.ex 0) (jqm.enc (((), (z0, ())), (v.2.1, ())))) v.2.1 (fun z0 z1 => rec (((), (z0, (z1, ()))), (v.2.1, ()))) v.1.2.1 v.1.2.2.1
theorem t_z15_0 (n : Nat) (K : Cont) (rec : Sig.sem jdV → Option Res) (v : Sig.sem jdV) : runT PP jhF Try.f53.ntmps 0 jgo (jlR n) jxc (jdV.enc v) (jbq 0 (jgo.head 0) jdV rec K) = jiB n K rec v := by kernel_rfl
noncomputable def jrO (n : Nat) (K : Cont) (m : Nat) (v : Sig.sem jdV) : Option Res := jbM n (fun z0 => K (.ex 0) (jqm.enc (((), (z0, ())), (v.2.1, ())))) v.2.1 m v.1.2.1 v.1.2.2.1
theorem i_z15_0 (n : Nat) (K : Cont) : ∀ m v, iter (jiB n K) m v = jrO n K m v := by
  intro m
  induction m with
  | zero => intro v; rfl
  | succ m ih =>
    intro v
    show jiB n K (iter (jiB n K) m) v = jiB n K (jrO n K m) v
    rw [show iter (jiB n K) m = jrO n K m from funext ih]
theorem o_z15_0 (n : Nat) : ∀ L, jlR n 0 = some L → ∀ s K r, L s K = some r → ∃ x s', jbj (run PP jhF Try.f53.ntmps 0 n jgo none jxc) (gc 0 (jgo.head 0)) n s = some (x, s') ∧ K x s' = some r := by
  intro L hL s K r h
  have hL : some (jav 0 (jgo.head 0) jdV fun K v => jrO n K n v) = some L := hL
  cases hL
  have hb : LOk PP jhF Try.f53.ntmps 0 n jgo (jlR n) jxc := ⟨⟨trivial, ⟨trivial, trivial⟩⟩, ⟨trivial, trivial⟩⟩
  refine jaB hb (jiB n) (t_z15_0 n) n s K r ?_
  rw [← h]
  unfold jav
  simp only [i_z15_0]
noncomputable def jxb : Code := jaN (jad Try.f53) [1, 1, 1, 1, 1, 1, 0, 1, 0, 0]
noncomputable def jiA (n : Nat) (K : Cont) (rec : Sig.sem jdU → Option Res) (v : Sig.sem jdU) : Option Res := jsV n (fun z0 => K .rt (jwg.enc ((z0, ()), ()))) (fun _ => K (.ex 2) (jql.enc ((), ()))) v.1.2.1 v.2.1 (fun z1 => rec (((), (v.1.2.1, (z1, ()))), (v.2.1, ()))) v.1.2.2.1
theorem t_z15_2 (n : Nat) (K : Cont) (rec : Sig.sem jdU → Option Res) (v : Sig.sem jdU) : runT PP jhF Try.f53.ntmps 0 jgo (jlR n) jxb (jdU.enc v) (jbq 0 (jgo.head 2) jdU rec K) = jiA n K rec v := by kernel_rfl
noncomputable def jrN (n : Nat) (K : Cont) (m : Nat) (v : Sig.sem jdU) : Option Res := jbL n (fun z0 => K .rt (jwg.enc ((z0, ()), ()))) (fun _ => K (.ex 2) (jql.enc ((), ()))) v.1.2.1 v.2.1 m v.1.2.2.1
theorem i_z15_2 (n : Nat) (K : Cont) : ∀ m v, iter (jiA n K) m v = jrN n K m v := by
  intro m
  induction m with
  | zero => intro v; rfl
  | succ m ih =>
    intro v
    show jiA n K (iter (jiA n K) m) v = jiA n K (jrN n K m) v
    rw [show iter (jiA n K) m = jrN n K m from funext ih]
theorem o_z15_2 (n : Nat) : ∀ L, jlR n 2 = some L → ∀ s K r, L s K = some r → ∃ x s', jbj (run PP jhF Try.f53.ntmps 0 n jgo none jxb) (gc 0 (jgo.head 2)) n s = some (x, s') ∧ K x s' = some r := by
  intro L hL s K r h
  have hL : some (jav 0 (jgo.head 2) jdU fun K v => jrN n K n v) = some L := hL
  cases hL
  have hb : LOk PP jhF Try.f53.ntmps 0 n jgo (jlR n) jxb := ⟨⟨trivial, ⟨trivial, trivial⟩⟩, ⟨⟨trivial, ⟨trivial, ⟨⟨trivial, trivial⟩, trivial⟩⟩⟩, trivial⟩⟩
  refine jaB hb (jiA n) (t_z15_2 n) n s K r ?_
  rw [← h]
  unfold jav
  simp only [i_z15_2]
theorem m_z15 (n : Nat) (a0 : jah) : jbx PP jhF jgo (jlR n) Try.f53 (jad Try.f53) (EK.encs e_z15 ((a0, ()), ()).1) (HK.encs h_z15 ((a0, ()), ()).2) = jFi n a0 := by kernel_rfl
theorem g_z15 (n : Nat) (a0 : jah) {r : Res} (h : jFi n a0 = some r) : runF PP jhF n jgo 53 (EK.encs e_z15 ((a0, ()), ()).1) (HK.encs h_z15 ((a0, ()), ()).2) = some r := by
  have hb : LOk PP jhF Try.f53.ntmps 0 n jgo (jlR n) (jad Try.f53) := ⟨trivial, ⟨⟨trivial, ⟨⟨trivial, trivial⟩, trivial⟩⟩, ⟨⟨trivial, ⟨⟨trivial, trivial⟩, trivial⟩⟩, ⟨⟨trivial, ⟨⟨trivial, trivial⟩, trivial⟩⟩, ⟨trivial, ⟨⟨trivial, (o_z15_0 n)⟩, ⟨⟨trivial, (o_z15_2 n)⟩, ⟨trivial, trivial⟩⟩⟩⟩⟩⟩⟩⟩
  exact jas PP (c := jad Try.f53) Try.func53 (show Try.f53.body = some (jad Try.f53) from rfl) (show (1 : Nat) ≤ 179 by decide) hb ((m_z15 n a0).trans h) rfl (by kernel_rfl)
noncomputable def c_z15 : Spec := jbe e_z15 h_z15 jat jau fun a b => jEq a.1
theorem k_z15 (hm : Try.prog.follows .mixedOrders = true) : jaJ PP 53 c_z15 := jaC (pol := jgo) hm (cf := jhF) (jaX jay) fun a b r h => ⟨FUEL, g_z15 FUEL a.1 (jar h)⟩
def jdT : Sig := ⟨[1, 3, 4], [.ptr 0 0 0, .hs 1 0, .ty (.int .i64)], [.cell jaM, .row (.int .i64)]⟩
def jqk : Sig := ⟨[1, 3], [.ptr 0 0 0, .hs 1 0], [.cell jaM, .row (.int .i64)]⟩
def s_z16_r : Sig := ⟨[2], [.hs 0 0], [.row (.int .i64)]⟩
def jno : Pol := ⟨fun i => if i = 0 then some [(1, (.own jaM)), (3, (.own (.int .i64))), (4, .keep)] else none, fun i => if i = 0 then some [(1, (.own jaM)), (3, (.own (.int .i64)))] else none, some [(2, (.own (.int .i64)))], [(.own (.int .i64))], []⟩
def e_z16 : List EK := [.agg jaM]
def h_z16 : List HK := []
noncomputable def jnT : CallF := mkCF [] []
noncomputable def juN (n : Nat) : jbk := fun i => if i = 0 then some (jav 0 (jno.head 0) jdT fun K v => jlf n (fun z0 z2 => K (.ex 0) (jqk.enc (((), (z0, ())), (v.2.1, (z2, ()))))) v.2.1 n v.1.2.1 v.1.2.2.1 v.2.2.1)
  else  none
noncomputable def jxa : Code := jaN (jad Try.f54) [1, 1, 0, 1, 0, 0]
noncomputable def jiz (n : Nat) (K : Cont) (rec : Sig.sem jdT → Option Res) (v : Sig.sem jdT) : Option Res := jsU n (fun z0 z2 => K (.ex 0) (jqk.enc (((), (z0, ())), (v.2.1, (z2, ()))))) v.2.1 (fun z0 z1 z3 => rec (((), (z0, (z1, ()))), (v.2.1, (z3, ())))) v.1.2.1 v.1.2.2.1 v.2.2.1
theorem t_z16_0 (n : Nat) (K : Cont) (rec : Sig.sem jdT → Option Res) (v : Sig.sem jdT) : runT PP jnT Try.f54.ntmps 0 jno (juN n) jxa (jdT.enc v) (jbq 0 (jno.head 0) jdT rec K) = jiz n K rec v := by kernel_rfl
noncomputable def jrM (n : Nat) (K : Cont) (m : Nat) (v : Sig.sem jdT) : Option Res := jlf n (fun z0 z2 => K (.ex 0) (jqk.enc (((), (z0, ())), (v.2.1, (z2, ()))))) v.2.1 m v.1.2.1 v.1.2.2.1 v.2.2.1
theorem i_z16_0 (n : Nat) (K : Cont) : ∀ m v, iter (jiz n K) m v = jrM n K m v := by
  intro m
  induction m with
  | zero => intro v; rfl
  | succ m ih =>
    intro v
    show jiz n K (iter (jiz n K) m) v = jiz n K (jrM n K m) v
    rw [show iter (jiz n K) m = jrM n K m from funext ih]
theorem o_z16_0 (n : Nat) : ∀ L, juN n 0 = some L → ∀ s K r, L s K = some r → ∃ x s', jbj (run PP jnT Try.f54.ntmps 0 n jno none jxa) (gc 0 (jno.head 0)) n s = some (x, s') ∧ K x s' = some r := by
  intro L hL s K r h
  have hL : some (jav 0 (jno.head 0) jdT fun K v => jrM n K n v) = some L := hL
  cases hL
  have hb : LOk PP jnT Try.f54.ntmps 0 n jno (juN n) jxa := ⟨⟨trivial, ⟨trivial, trivial⟩⟩, ⟨trivial, trivial⟩⟩
  refine jaB hb (jiz n) (t_z16_0 n) n s K r ?_
  rw [← h]
  unfold jav
  simp only [i_z16_0]
theorem m_z16 (n : Nat) (a0 : jah) : jbx PP jnT jno (juN n) Try.f54 (jad Try.f54) (EK.encs e_z16 ((a0, ()), ()).1) (HK.encs h_z16 ((a0, ()), ()).2) = jFh n a0 := by kernel_rfl
theorem g_z16 (n : Nat) (a0 : jah) {r : Res} (h : jFh n a0 = some r) : runF PP jnT n jno 54 (EK.encs e_z16 ((a0, ()), ()).1) (HK.encs h_z16 ((a0, ()), ()).2) = some r := by
  have hb : LOk PP jnT Try.f54.ntmps 0 n jno (juN n) (jad Try.f54) := ⟨trivial, ⟨trivial, ⟨⟨trivial, (o_z16_0 n)⟩, ⟨trivial, trivial⟩⟩⟩⟩
  exact jas PP (c := jad Try.f54) Try.func54 (show Try.f54.body = some (jad Try.f54) from rfl) (show (1 : Nat) ≤ 26 by decide) hb ((m_z16 n a0).trans h) rfl (by kernel_rfl)
noncomputable def c_z16 : Spec := jbe e_z16 h_z16 jtQ juh fun a b => jEp a.1
theorem k_z16 (hm : Try.prog.follows .mixedOrders = true) : jaJ PP 54 c_z16 := jaC (pol := jno) hm (cf := jnT) (jaX jay) fun a b r h => ⟨FUEL, g_z16 FUEL a.1 (jar h)⟩
def jdS : Sig := ⟨[0, 1, 4, 6], [.ty (.slice jaM), .ty (.int .i64), .ptr 0 0 0, .ty (.int .i64)], [.cell jaM]⟩
def jwf : Sig := ⟨[4, 5], [.ptr 0 0 0, .ty .bool], [.cell jaM]⟩
def jqj : Sig := ⟨[4], [.ptr 0 0 0], [.cell jaM]⟩
def jnn : Pol := ⟨fun i => if i = 0 then some [(0, .keep), (1, .keep), (4, (.own jaM)), (6, .keep)] else none, fun i => if i = 0 then some [(4, (.own jaM))] else none, some [(4, (.own jaM)), (5, .keep)], [.keep, .keep], []⟩
def e_z17 : List EK := [.ty (.slice jaM), .ty (.int .i64)]
def h_z17 : List HK := []
noncomputable def jnS : CallF := mkCF [] []
noncomputable def juM (n : Nat) : jbk := fun i => if i = 0 then some (jav 0 (jnn.head 0) jdS fun K v => jle n (fun z0 z1 => K .rt (jwf.enc (((), (z0, ())), (z1, ())))) (fun _ => K (.ex 0) (jqj.enc (((), ()), (v.2.1, ())))) v.1.1 v.1.2.1 v.2.1 n v.1.2.2.2.1)
  else  none
noncomputable def jwZ : Code := jaN (jad Try.f55) [1, 0, 1, 0, 0]
noncomputable def jiy (n : Nat) (K : Cont) (rec : Sig.sem jdS → Option Res) (v : Sig.sem jdS) : Option Res := jsT n (fun z0 z1 => K .rt (jwf.enc (((), (z0, ())), (z1, ())))) (fun _ => K (.ex 0) (jqj.enc (((), ()), (v.2.1, ())))) v.1.1 v.1.2.1 v.2.1 (fun z2 => rec ((v.1.1, (v.1.2.1, ((), (z2, ())))), (v.2.1, ()))) v.1.2.2.2.1
theorem t_z17_0 (n : Nat) (K : Cont) (rec : Sig.sem jdS → Option Res) (v : Sig.sem jdS) : runT PP jnS Try.f55.ntmps 0 jnn (juM n) jwZ (jdS.enc v) (jbq 0 (jnn.head 0) jdS rec K) = jiy n K rec v := by kernel_rfl
noncomputable def jrL (n : Nat) (K : Cont) (m : Nat) (v : Sig.sem jdS) : Option Res := jle n (fun z0 z1 => K .rt (jwf.enc (((), (z0, ())), (z1, ())))) (fun _ => K (.ex 0) (jqj.enc (((), ()), (v.2.1, ())))) v.1.1 v.1.2.1 v.2.1 m v.1.2.2.2.1
theorem i_z17_0 (n : Nat) (K : Cont) : ∀ m v, iter (jiy n K) m v = jrL n K m v := by
  intro m
  induction m with
  | zero => intro v; rfl
  | succ m ih =>
    intro v
    show jiy n K (iter (jiy n K) m) v = jiy n K (jrL n K m) v
    rw [show iter (jiy n K) m = jrL n K m from funext ih]
theorem o_z17_0 (n : Nat) : ∀ L, juM n 0 = some L → ∀ s K r, L s K = some r → ∃ x s', jbj (run PP jnS Try.f55.ntmps 0 n jnn none jwZ) (gc 0 (jnn.head 0)) n s = some (x, s') ∧ K x s' = some r := by
  intro L hL s K r h
  have hL : some (jav 0 (jnn.head 0) jdS fun K v => jrL n K n v) = some L := hL
  cases hL
  have hb : LOk PP jnS Try.f55.ntmps 0 n jnn (juM n) jwZ := ⟨⟨trivial, ⟨trivial, trivial⟩⟩, ⟨⟨trivial, ⟨⟨trivial, trivial⟩, trivial⟩⟩, trivial⟩⟩
  refine jaB hb (jiy n) (t_z17_0 n) n s K r ?_
  rw [← h]
  unfold jav
  simp only [i_z17_0]
theorem m_z17 (n : Nat) (a0 : (List jah)) (a1 : Int) : jbx PP jnS jnn (juM n) Try.f55 (jad Try.f55) (EK.encs e_z17 ((a0, (a1, ())), ()).1) (HK.encs h_z17 ((a0, (a1, ())), ()).2) = M_z17 n a0 a1 := by kernel_rfl
theorem g_z17 (n : Nat) (a0 : (List jah)) (a1 : Int) {r : Res} (h : M_z17 n a0 a1 = some r) : runF PP jnS n jnn 55 (EK.encs e_z17 ((a0, (a1, ())), ()).1) (HK.encs h_z17 ((a0, (a1, ())), ()).2) = some r := by
  have hb : LOk PP jnS Try.f55.ntmps 0 n jnn (juM n) (jad Try.f55) := ⟨trivial, ⟨⟨trivial, (o_z17_0 n)⟩, ⟨trivial, trivial⟩⟩⟩
  exact jas PP (c := jad Try.f55) Try.func55 (show Try.f55.body = some (jad Try.f55) from rfl) (show (2 : Nat) ≤ 25 by decide) hb ((m_z17 n a0 a1).trans h) rfl (by kernel_rfl)
noncomputable def c_z17 : Spec := jbe e_z17 h_z17 joK joY fun a b => jEo a.1 a.2.1
theorem k_z17 (hm : Try.prog.follows .mixedOrders = true) : jaJ PP 55 c_z17 := jaC (pol := jnn) hm (cf := jnS) (jaX jay) fun a b r h => ⟨FUEL, g_z17 FUEL a.1 a.2.1 (jar h)⟩
end Go.AMach
