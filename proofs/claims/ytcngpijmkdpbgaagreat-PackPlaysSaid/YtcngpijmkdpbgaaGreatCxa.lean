/- A part of the walk. -/
import Derived.Test.YtcngpijmkdpbgaaGreatDx
import Derived.Test.YtcngpijmkdpbgaaGreatProg
import Derived.Test.YtcngpijmkdpbgaaGreatHa
import Derived.Test.YtcngpijmkdpbgaaGreatAm23
namespace Go.AMach
set_option linter.unusedVariables false
set_option linter.unusedSimpArgs false
set_option linter.unnecessarySimpa false
open Go Go.Proofs
noncomputable abbrev PP : Program := Tryz.prog
set_option linter.unusedVariables false
theorem tT : True := trivial
noncomputable instance : Sites := ⟨fun k => if k = 0 then rfOf (jaR (jae Tryz.f26) [1, 1, 1, 1, 0, 1, 0]) else none⟩
def s_z00_r : Sig := ⟨[2, 3], [.nul 0, .ty (.int .i64)], []⟩
def s_z00_r1 : Sig := ⟨[2, 3], [.ptr 0 0 0, .ty (.int .i64)], [.one false [.hs 1 0], .row (.int .u8)]⟩
def p_z00 : Pol := ⟨fun i => none, fun i => none, some [(2, .keep), (3, .keep)], [.keep, .keep], []⟩
def jJa : List EK := [.ty .str]
def jGP : List HK := []
noncomputable def jAD : CallF := mkCF [] []
noncomputable def jQJ (n : Nat) : jaF := fun i =>  none
theorem m_z00 (n : Nat) (a : EK.sems jJa) (b : HK.sems jGP) : jaH PP jAD p_z00 (jQJ n) Tryz.f25 (jae Tryz.f25) (EK.encs jJa a) (HK.encs jGP b) = jwR n a.1 := by kernel_rfl
theorem g_z00 (n : Nat) (a : EK.sems jJa) (b : HK.sems jGP) {r : Res} (h : jwR n a.1 = some r) : runF PP jAD n p_z00 25 (EK.encs jJa a) (HK.encs jGP b) = some r :=
  jaf PP Tryz.func25 (show Tryz.f25.body = some (jae Tryz.f25) from rfl) (show (1 : Nat) ≤ 11 by decide) (show LOk PP jAD _ 0 n _ (jQJ n) _ from ⟨tT, ⟨tT, ⟨tT, tT⟩, tT⟩, tT, tT⟩) ((m_z00 n a b).trans h) rfl (by kernel_rfl)
noncomputable def c_z00 : Spec := jfl jJa jGP fun a b => (jdZ jxJ jyn (jCj a.1) (jdZ jiv jgo (jrl a.1) .no))
theorem k_z00 (hm : Tryz.prog.follows .mixedOrders = true) : jar PP 25 c_z00 := jbZ (pol := p_z00) hm (cf := jAD) (jav jah) fun a b r => (fun h => (jaX h).elim (fun ⟨x, hx, e⟩ => ⟨FUEL, e ▸ g_z00 FUEL a b (jad hx)⟩) (fun h => (jaX h).elim (fun ⟨x, hx, e⟩ => ⟨FUEL, e ▸ g_z00 FUEL a b (jad hx)⟩) (fun h => by cases h)))
def s_z01_r : Sig := ⟨[4, 5], [.ptr 0 0 0, .ty (.int .i64)], [.one false [.ptr 1 0 0, .nul 4, .ptr 3 0 0, .ty (.int .i64)], .one false [.hs 2 0], .row (.int .u8), .one false [.hs 4 0], .row (.int .u8)]⟩
def s_z01_r1 : Sig := ⟨[4, 5], [.ptr 0 0 0, .ty (.int .i64)], [.one false [.ptr 1 0 0, .nul 4, .nul 0, .ty (.int .i64)], .one false [.hs 2 0], .row (.int .u8)]⟩
def s_z01_r2 : Sig := ⟨[4, 5], [.nul 0, .ty (.int .i64)], []⟩
def p_z01 : Pol := ⟨fun i => none, fun i => none, some [(4, .keep), (5, .keep)], [.keep, .keep], []⟩
def jIZ : List EK := [.ty (.int .i64), .ty .str]
def jGO : List HK := []
noncomputable def jAC : CallF := mkCF [(25, c_z00)] [(25, [.str])]
noncomputable def jQI (n : Nat) : jaF := fun i =>  none
theorem m_z01 (n : Nat) (a : EK.sems jIZ) (b : HK.sems jGO) : jaH PP jAC p_z01 (jQI n) Tryz.f6 (jae Tryz.f6) (EK.encs jIZ a) (HK.encs jGO b) = juB n a.1 a.2.1 := by kernel_rfl
theorem g_z01 (n : Nat) (a : EK.sems jIZ) (b : HK.sems jGO) {r : Res} (h : juB n a.1 a.2.1 = some r) : runF PP jAC n p_z01 6 (EK.encs jIZ a) (HK.encs jGO b) = some r :=
  jaf PP Tryz.func6 (show Tryz.f6.body = some (jae Tryz.f6) from rfl) (show (2 : Nat) ≤ 29 by decide) (show LOk PP jAC _ 0 n _ (jQI n) _ from ⟨tT, tT, ⟨tT, ⟨tT, tT⟩, tT⟩, tT, tT, tT⟩) ((m_z01 n a b).trans h) rfl (by kernel_rfl)
noncomputable def c_z01 : Spec := jfl jIZ jGO fun a b => (jdZ jxI jym (jCi a.1 a.2.1) (jdZ jiu jiA (jrk a.1 a.2.1) .no))
theorem k_z01 (hm : Tryz.prog.follows .mixedOrders = true) : jar PP 6 c_z01 := jbZ (pol := p_z01) hm (cf := jAC) (jav (jab (k_z00 hm) jah)) fun a b r => (fun h => (jaX h).elim (fun ⟨x, hx, e⟩ => ⟨FUEL, e ▸ g_z01 FUEL a b (jad hx)⟩) (fun h => (jaX h).elim (fun ⟨x, hx, e⟩ => ⟨FUEL, e ▸ g_z01 FUEL a b (jad hx)⟩) (fun h => by cases h)))
def s_z02_r : Sig := ⟨[0], [.hs 0 0], [.row jay]⟩
def p_z02 : Pol := ⟨fun i => none, fun i => none, some [(0, (.own jay))], [(.own jay)], []⟩
def jIY : List EK := []
def jGN : List HK := []
noncomputable def jAB : CallF := mkCF [] []
noncomputable def jQH (n : Nat) : jaF := fun i =>  none
theorem m_z02 (n : Nat) (a : EK.sems jIY) (b : HK.sems jGN) : jaH PP jAB p_z02 (jQH n) Tryz.f46 (jae Tryz.f46) (EK.encs jIY a) (HK.encs jGN b) = M_z02 n := by kernel_rfl
theorem g_z02 (n : Nat) (a : EK.sems jIY) (b : HK.sems jGN) {r : Res} (h : M_z02 n = some r) : runF PP jAB n p_z02 46 (EK.encs jIY a) (HK.encs jGN b) = some r :=
  jaf PP Tryz.func46 (show Tryz.f46.body = some (jae Tryz.f46) from rfl) (show (0 : Nat) ≤ 6 by decide) (show LOk PP jAB _ 0 n _ (jQH n) _ from ⟨tT, tT, tT⟩) ((m_z02 n a b).trans h) rfl (by kernel_rfl)
noncomputable def c_z02 : Spec := jaG jIY jGN jsK jta fun a b => Q_z02
theorem k_z02 (hm : Tryz.prog.follows .mixedOrders = true) : jar PP 46 c_z02 := jaj (pol := p_z02) hm (cf := jAB) (jav jah) fun a b r h => ⟨FUEL, g_z02 FUEL a b (jad h)⟩
def s_z03_r : Sig := ⟨[2], [.ty .str], [.one false [.hs 1 0], .row (.int .u8)]⟩
def p_z03 : Pol := ⟨fun i => none, fun i => none, some [(2, .keep)], [.keep], []⟩
def jIX : List EK := [.ptr 0 0 0]
def jGM : List HK := [.one false [.hs 1 0], .row (.int .u8)]
noncomputable def jAA : CallF := mkCF [] []
noncomputable def jQG (n : Nat) : jaF := fun i =>  none
theorem m_z03 (n : Nat) (a : EK.sems jIX) (b : HK.sems jGM) : jaH PP jAA p_z03 (jQG n) Tryz.f48 (jae Tryz.f48) (EK.encs jIX a) (HK.encs jGM b) = jKx n b.1.1 b.2.1 := by kernel_rfl
theorem g_z03 (n : Nat) (a : EK.sems jIX) (b : HK.sems jGM) {r : Res} (h : jKx n b.1.1 b.2.1 = some r) : runF PP jAA n p_z03 48 (EK.encs jIX a) (HK.encs jGM b) = some r :=
  jaf PP Tryz.func48 (show Tryz.f48.body = some (jae Tryz.f48) from rfl) (show (1 : Nat) ≤ 10 by decide) (show LOk PP jAA _ 2 n _ (jQG n) _ from ⟨tT, ⟨tT, ⟨tT, tT⟩, tT⟩, tT, tT⟩) ((m_z03 n a b).trans h) rfl (by kernel_rfl)
noncomputable def jLP : Spec := jaG jIX jGM jDo jDU fun a b => jJO b.1.1 b.2.1
theorem k_z03 (hm : Tryz.prog.follows .mixedOrders = true) : jar PP 48 jLP := jaj (pol := p_z03) hm (cf := jAA) (jav jah) fun a b r h => ⟨FUEL, g_z03 FUEL a b (jad h)⟩
def s_z04_r : Sig := ⟨[2], [.ty .str], [.one false [.ptr 1 0 0, .nul 4, .ptr 3 0 0, .ty (.int .i64)], .one false [.hs 2 0], .row (.int .u8), .one false [.hs 4 0], .row (.int .u8)]⟩
def p_z04 : Pol := ⟨fun i => none, fun i => none, some [(2, .keep)], [.keep], []⟩
def jIW : List EK := [.ptr 0 0 0]
def jGL : List HK := [.one false [.ptr 1 0 0, .nul 4, .ptr 3 0 0, .ty (.int .i64)], .one false [.hs 2 0], .row (.int .u8), .one false [.hs 4 0], .row (.int .u8)]
noncomputable def jAz : CallF := mkCF [(48, jLP)] []
noncomputable def jQF (n : Nat) : jaF := fun i =>  none
theorem m_z04 (n : Nat) (a : EK.sems jIW) (b : HK.sems jGL) : jaH PP jAz p_z04 (jQF n) Tryz.f22 (jae Tryz.f22) (EK.encs jIW a) (HK.encs jGL b) = jOx n b.1.2.2.2.1 b.2.1.1 b.2.2.1 b.2.2.2.1.1 b.2.2.2.2.1 := by kernel_rfl
theorem g_z04 (n : Nat) (a : EK.sems jIW) (b : HK.sems jGL) {r : Res} (h : jOx n b.1.2.2.2.1 b.2.1.1 b.2.2.1 b.2.2.2.1.1 b.2.2.2.2.1 = some r) : runF PP jAz n p_z04 22 (EK.encs jIW a) (HK.encs jGL b) = some r :=
  jaf PP Tryz.func22 (show Tryz.f22.body = some (jae Tryz.f22) from rfl) (show (1 : Nat) ≤ 11 by decide) (show LOk PP jAz _ 5 n _ (jQF n) _ from ⟨tT, ⟨tT, ⟨tT, tT⟩, tT⟩, tT, tT⟩) ((m_z04 n a b).trans h) rfl (by kernel_rfl)
noncomputable def c_z04 : Spec := jaG jIW jGL jDn jDT fun a b => jNo b.1.2.2.2.1 b.2.1.1 b.2.2.1 b.2.2.2.1.1 b.2.2.2.2.1
theorem k_z04 (hm : Tryz.prog.follows .mixedOrders = true) : jar PP 22 c_z04 := jaj (pol := p_z04) hm (cf := jAz) (jav (jab (k_z03 hm) jah)) fun a b r h => ⟨FUEL, g_z04 FUEL a b (jad h)⟩
def s_z05_r : Sig := ⟨[2], [.ty .bool], []⟩
def p_z05 : Pol := ⟨fun i => none, fun i => none, some [(2, .keep)], [.keep], []⟩
def jIV : List EK := [.ty (.int .i64)]
def jGK : List HK := []
noncomputable def jAy : CallF := mkCF [] []
noncomputable def jQE (n : Nat) : jaF := fun i =>  none
theorem m_z05 (n : Nat) (a : EK.sems jIV) (b : HK.sems jGK) : jaH PP jAy p_z05 (jQE n) Tryz.f107 (jae Tryz.f107) (EK.encs jIV a) (HK.encs jGK b) = jOw n a.1 := by kernel_rfl
theorem g_z05 (n : Nat) (a : EK.sems jIV) (b : HK.sems jGK) {r : Res} (h : jOw n a.1 = some r) : runF PP jAy n p_z05 107 (EK.encs jIV a) (HK.encs jGK b) = some r :=
  jaf PP Tryz.func107 (show Tryz.f107.body = some (jae Tryz.f107) from rfl) (show (1 : Nat) ≤ 9 by decide) (show LOk PP jAy _ 0 n _ (jQE n) _ from ⟨tT, tT, tT⟩) ((m_z05 n a b).trans h) rfl (by kernel_rfl)
noncomputable def c_z05 : Spec := jaG jIV jGK jxG jyk fun a b => jNn a.1
theorem k_z05 (hm : Tryz.prog.follows .mixedOrders = true) : jar PP 107 c_z05 := jaj (pol := p_z05) hm (cf := jAy) (jav jah) fun a b r h => ⟨FUEL, g_z05 FUEL a b (jad h)⟩
def s_z06_r : Sig := ⟨[2], [.ty .bool], []⟩
def p_z06 : Pol := ⟨fun i => none, fun i => none, some [(2, .keep)], [.keep], []⟩
def jIU : List EK := [.agg SpanT]
def jGJ : List HK := []
noncomputable def jAx : CallF := mkCF [] []
noncomputable def jQD (n : Nat) : jaF := fun i =>  none
theorem m_z06 (n : Nat) (a : EK.sems jIU) (b : HK.sems jGJ) : jaH PP jAx p_z06 (jQD n) Tryz.f108 (jae Tryz.f108) (EK.encs jIU a) (HK.encs jGJ b) = jOv n a.1 := by kernel_rfl
theorem g_z06 (n : Nat) (a : EK.sems jIU) (b : HK.sems jGJ) {r : Res} (h : jOv n a.1 = some r) : runF PP jAx n p_z06 108 (EK.encs jIU a) (HK.encs jGJ b) = some r :=
  jaf PP Tryz.func108 (show Tryz.f108.body = some (jae Tryz.f108) from rfl) (show (1 : Nat) ≤ 29 by decide) (show LOk PP jAx _ 0 n _ (jQD n) _ from ⟨tT, ⟨tT, ⟨tT, tT⟩, tT⟩, tT, tT⟩) ((m_z06 n a b).trans h) rfl (by kernel_rfl)
noncomputable def c_z06 : Spec := jaG jIU jGJ jlA jlO fun a b => jNm a.1
theorem k_z06 (hm : Tryz.prog.follows .mixedOrders = true) : jar PP 108 c_z06 := jaj (pol := p_z06) hm (cf := jAx) (jav jah) fun a b r h => ⟨FUEL, g_z06 FUEL a b (jad h)⟩
def s_z07_r : Sig := ⟨[2], [.ty .bool], []⟩
def p_z07 : Pol := ⟨fun i => none, fun i => none, some [(2, .keep)], [.keep], []⟩
def jIT : List EK := [.agg jay]
def jGI : List HK := []
noncomputable def jAw : CallF := mkCF [] []
noncomputable def jQC (n : Nat) : jaF := fun i =>  none
theorem m_z07 (n : Nat) (a : EK.sems jIT) (b : HK.sems jGI) : jaH PP jAw p_z07 (jQC n) Tryz.f109 (jae Tryz.f109) (EK.encs jIT a) (HK.encs jGI b) = jOu n a.1 := by kernel_rfl
theorem g_z07 (n : Nat) (a : EK.sems jIT) (b : HK.sems jGI) {r : Res} (h : jOu n a.1 = some r) : runF PP jAw n p_z07 109 (EK.encs jIT a) (HK.encs jGI b) = some r :=
  jaf PP Tryz.func109 (show Tryz.f109.body = some (jae Tryz.f109) from rfl) (show (1 : Nat) ≤ 17 by decide) (show LOk PP jAw _ 0 n _ (jQC n) _ from ⟨tT, ⟨tT, ⟨tT, tT⟩, tT⟩, tT, tT⟩) ((m_z07 n a b).trans h) rfl (by kernel_rfl)
noncomputable def c_z07 : Spec := jaG jIT jGI jsJ jsZ fun a b => jNl a.1
theorem k_z07 (hm : Tryz.prog.follows .mixedOrders = true) : jar PP 109 c_z07 := jaj (pol := p_z07) hm (cf := jAw) (jav jah) fun a b r h => ⟨FUEL, g_z07 FUEL a b (jad h)⟩
def jvd : Sig := ⟨[2], [.ty .bool], []⟩
def jdT : Sig := ⟨[1, 57, 58, 59], [.ptr 0 0 0, .ty (.slice ArmT), .ty (.int .i64), .ty (.int .i64)], [.cell jay]⟩
def jpM : Sig := ⟨[], [], []⟩
def jnH : Pol := ⟨fun i => if i = 0 then some [(1, (.own jay)), (57, .keep), (58, .keep), (59, .keep)] else none, fun i => if i = 0 then some [] else none, some [(2, .keep)], [.keep], []⟩
def jIS : List EK := [.agg jay]
def jGH : List HK := []
noncomputable def jmU : CallF := mkCF [(107, c_z05), (108, c_z06), (109, c_z07)] [(107, [(.int .i64)]), (108, [SpanT]), (109, [jay])]
noncomputable def jtW (n : Nat) : jaF := fun i => if i = 0 then some (jaz 0 (jnH.head 0) jdT fun K v => jkg n (fun z0 => K .rt (jvd.enc ((z0, ()), ()))) (fun _ => K (.ex 0) (jpM.enc ((), ()))) v.1.2.1 v.1.2.2.1 v.2.1 n v.1.2.2.2.1)
  else  none
noncomputable def jwB : Code := jaR (jae Tryz.f97) [1, 1, 1, 0, 1, 0, 0]
noncomputable def jid (n : Nat) (K : Cont) (rec : Sig.sem jdT → Option Res) (v : Sig.sem jdT) : Option Res := jsh n (fun z0 => K .rt (jvd.enc ((z0, ()), ()))) (fun _ => K (.ex 0) (jpM.enc ((), ()))) v.1.2.1 v.1.2.2.1 v.2.1 (fun z2 => rec (((), (v.1.2.1, (v.1.2.2.1, (z2, ())))), (v.2.1, ()))) v.1.2.2.2.1
theorem t_z08_0 (n : Nat) (K : Cont) (rec : Sig.sem jdT → Option Res) (v : Sig.sem jdT) : runT PP jmU Tryz.f97.ntmps 0 jnH (jtW n) jwB (jdT.enc v) (jbp 0 (jnH.head 0) jdT rec K) = jid n K rec v := by kernel_rfl
noncomputable def jrb (n : Nat) (K : Cont) (m : Nat) (v : Sig.sem jdT) : Option Res := jkg n (fun z0 => K .rt (jvd.enc ((z0, ()), ()))) (fun _ => K (.ex 0) (jpM.enc ((), ()))) v.1.2.1 v.1.2.2.1 v.2.1 m v.1.2.2.2.1
theorem i_z08_0 (n : Nat) (K : Cont) : ∀ m v, iter (jid n K) m v = jrb n K m v := by
  intro m
  induction m with
  | zero => intro v; rfl
  | succ m ih =>
    intro v
    show jid n K (iter (jid n K) m) v = jid n K (jrb n K m) v
    rw [show iter (jid n K) m = jrb n K m from funext ih]
theorem o_z08_0 (n : Nat) : ∀ L, jtW n 0 = some L → ∀ s K r, L s K = some r → ∃ x s', jbj (run PP jmU Tryz.f97.ntmps 0 n jnH none jwB) (gc 0 (jnH.head 0)) n s = some (x, s') ∧ K x s' = some r := by
  intro L hL s K r h
  have hL : some (jaz 0 (jnH.head 0) jdT fun K v => jrb n K n v) = some L := hL
  cases hL
  have hb : LOk PP jmU Tryz.f97.ntmps 0 n jnH (jtW n) jwB := ⟨tT, ⟨tT, tT⟩, ⟨tT, tT, ⟨tT, tT⟩, tT⟩, tT⟩
  refine jaE hb (jid n) (t_z08_0 n) n s K r ?_
  rw [← h]
  unfold jaz
  simp only [i_z08_0]
theorem m_z08 (n : Nat) (a : EK.sems jIS) (b : HK.sems jGH) : jaH PP jmU jnH (jtW n) Tryz.f97 (jae Tryz.f97) (EK.encs jIS a) (HK.encs jGH b) = jOt n a.1 := by kernel_rfl
theorem g_z08 (n : Nat) (a : EK.sems jIS) (b : HK.sems jGH) {r : Res} (h : jOt n a.1 = some r) : runF PP jmU n jnH 97 (EK.encs jIS a) (HK.encs jGH b) = some r :=
  jaf PP Tryz.func97 (show Tryz.f97.body = some (jae Tryz.f97) from rfl) (show (1 : Nat) ≤ 99 by decide) (show LOk PP jmU _ 0 n _ (jtW n) _ from ⟨tT, ⟨tT, ⟨tT, tT⟩, tT⟩, ⟨tT, ⟨tT, tT⟩, tT⟩, ⟨tT, (o_z08_0 n)⟩, tT, tT⟩) ((m_z08 n a b).trans h) rfl (by kernel_rfl)
noncomputable def c_z08 : Spec := jaG jIS jGH jef jeg fun a b => jNk a.1
theorem k_z08 (hm : Tryz.prog.follows .mixedOrders = true) : jar PP 97 c_z08 := jaj (pol := jnH) hm (cf := jmU) (jav (jab (k_z05 hm) (jab (k_z06 hm) (jab (k_z07 hm) jah)))) fun a b r h => ⟨FUEL, g_z08 FUEL a b (jad h)⟩
def jdS : Sig := ⟨[0, 5, 6, 7], [.ty (.slice jay), .ty (.slice jay), .ty (.int .i64), .ty (.int .i64)], []⟩
def jvc : Sig := ⟨[2], [.ty .bool], []⟩
def jpL : Sig := ⟨[], [], []⟩
def jnG : Pol := ⟨fun i => if i = 0 then some [(0, .keep), (5, .keep), (6, .keep), (7, .keep)] else none, fun i => if i = 0 then some [] else none, some [(2, .keep)], [.keep], []⟩
def jIR : List EK := [.ty (.slice jay)]
def jGG : List HK := []
noncomputable def jmT : CallF := mkCF [(97, c_z08)] [(97, [jay])]
noncomputable def jtV (n : Nat) : jaF := fun i => if i = 0 then some (jaz 0 (jnG.head 0) jdS fun K v => jkf n (fun z0 => K .rt (jvc.enc ((z0, ()), ()))) (fun _ => K (.ex 0) (jpL.enc ((), ()))) v.1.1 v.1.2.1 v.1.2.2.1 n v.1.2.2.2.1)
  else  none
noncomputable def jwA : Code := jaR (jae Tryz.f73) [1, 0, 1, 0, 0]
noncomputable def jic (n : Nat) (K : Cont) (rec : Sig.sem jdS → Option Res) (v : Sig.sem jdS) : Option Res := jsg n (fun z0 => K .rt (jvc.enc ((z0, ()), ()))) (fun _ => K (.ex 0) (jpL.enc ((), ()))) v.1.1 v.1.2.1 v.1.2.2.1 (fun z3 => rec ((v.1.1, (v.1.2.1, (v.1.2.2.1, (z3, ())))), ())) v.1.2.2.2.1
theorem t_z09_0 (n : Nat) (K : Cont) (rec : Sig.sem jdS → Option Res) (v : Sig.sem jdS) : runT PP jmT Tryz.f73.ntmps 0 jnG (jtV n) jwA (jdS.enc v) (jbp 0 (jnG.head 0) jdS rec K) = jic n K rec v := by kernel_rfl
noncomputable def jra (n : Nat) (K : Cont) (m : Nat) (v : Sig.sem jdS) : Option Res := jkf n (fun z0 => K .rt (jvc.enc ((z0, ()), ()))) (fun _ => K (.ex 0) (jpL.enc ((), ()))) v.1.1 v.1.2.1 v.1.2.2.1 m v.1.2.2.2.1
theorem i_z09_0 (n : Nat) (K : Cont) : ∀ m v, iter (jic n K) m v = jra n K m v := by
  intro m
  induction m with
  | zero => intro v; rfl
  | succ m ih =>
    intro v
    show jic n K (iter (jic n K) m) v = jic n K (jra n K m) v
    rw [show iter (jic n K) m = jra n K m from funext ih]
theorem o_z09_0 (n : Nat) : ∀ L, jtV n 0 = some L → ∀ s K r, L s K = some r → ∃ x s', jbj (run PP jmT Tryz.f73.ntmps 0 n jnG none jwA) (gc 0 (jnG.head 0)) n s = some (x, s') ∧ K x s' = some r := by
  intro L hL s K r h
  have hL : some (jaz 0 (jnG.head 0) jdS fun K v => jra n K n v) = some L := hL
  cases hL
  have hb : LOk PP jmT Tryz.f73.ntmps 0 n jnG (jtV n) jwA := ⟨tT, ⟨tT, tT⟩, ⟨tT, tT, ⟨tT, tT⟩, tT⟩, tT⟩
  refine jaE hb (jic n) (t_z09_0 n) n s K r ?_
  rw [← h]
  unfold jaz
  simp only [i_z09_0]
theorem m_z09 (n : Nat) (a : EK.sems jIR) (b : HK.sems jGG) : jaH PP jmT jnG (jtV n) Tryz.f73 (jae Tryz.f73) (EK.encs jIR a) (HK.encs jGG b) = M_z09 n a.1 := by kernel_rfl
theorem g_z09 (n : Nat) (a : EK.sems jIR) (b : HK.sems jGG) {r : Res} (h : M_z09 n a.1 = some r) : runF PP jmT n jnG 73 (EK.encs jIR a) (HK.encs jGG b) = some r :=
  jaf PP Tryz.func73 (show Tryz.f73.body = some (jae Tryz.f73) from rfl) (show (1 : Nat) ≤ 31 by decide) (show LOk PP jmT _ 0 n _ (jtV n) _ from ⟨tT, ⟨tT, (o_z09_0 n)⟩, tT, tT⟩) ((m_z09 n a b).trans h) rfl (by kernel_rfl)
noncomputable def c_z09 : Spec := jaG jIR jGG jxF jyj fun a b => jNj a.1
theorem k_z09 (hm : Tryz.prog.follows .mixedOrders = true) : jar PP 73 c_z09 := jaj (pol := jnG) hm (cf := jmT) (jav (jab (k_z08 hm) jah)) fun a b r h => ⟨FUEL, g_z09 FUEL a b (jad h)⟩
def jdR : Sig := ⟨[3, 10, 11, 12], [.hs 0 0, .ty (.slice ArmT), .ty (.int .i64), .ty (.int .i64)], [.row (.int .i64)]⟩
def jpK : Sig := ⟨[3], [.hs 0 0], [.row (.int .i64)]⟩
def s_z0a_r : Sig := ⟨[2], [.hs 0 0], [.row (.int .i64)]⟩
def jnF : Pol := ⟨fun i => if i = 0 then some [(3, (.own (.int .i64))), (10, .keep), (11, .keep), (12, .keep)] else none, fun i => if i = 0 then some [(3, (.own (.int .i64)))] else none, some [(2, (.own (.int .i64)))], [(.own (.int .i64))], []⟩
def jIQ : List EK := [.agg jay]
def jGF : List HK := []
noncomputable def jmS : CallF := mkCF [] []
noncomputable def jtU (n : Nat) : jaF := fun i => if i = 0 then some (jaz 0 (jnF.head 0) jdR fun K v => jke n (fun z0 z1 => K (.ex 0) (jpK.enc ((z0, ()), (z1, ())))) v.1.2.1 v.1.2.2.1 n v.1.1 v.1.2.2.2.1 v.2.1)
  else  none
noncomputable def jwz : Code := jaR (jae Tryz.f98) [1, 1, 0, 1, 0, 0]
noncomputable def jib (n : Nat) (K : Cont) (rec : Sig.sem jdR → Option Res) (v : Sig.sem jdR) : Option Res := jsf n (fun z0 z1 => K (.ex 0) (jpK.enc ((z0, ()), (z1, ())))) v.1.2.1 v.1.2.2.1 (fun z0 z3 z4 => rec ((z0, (v.1.2.1, (v.1.2.2.1, (z3, ())))), (z4, ()))) v.1.1 v.1.2.2.2.1 v.2.1
theorem t_z0a_0 (n : Nat) (K : Cont) (rec : Sig.sem jdR → Option Res) (v : Sig.sem jdR) : runT PP jmS Tryz.f98.ntmps 0 jnF (jtU n) jwz (jdR.enc v) (jbp 0 (jnF.head 0) jdR rec K) = jib n K rec v := by kernel_rfl
noncomputable def jqZ (n : Nat) (K : Cont) (m : Nat) (v : Sig.sem jdR) : Option Res := jke n (fun z0 z1 => K (.ex 0) (jpK.enc ((z0, ()), (z1, ())))) v.1.2.1 v.1.2.2.1 m v.1.1 v.1.2.2.2.1 v.2.1
theorem i_z0a_0 (n : Nat) (K : Cont) : ∀ m v, iter (jib n K) m v = jqZ n K m v := by
  intro m
  induction m with
  | zero => intro v; rfl
  | succ m ih =>
    intro v
    show jib n K (iter (jib n K) m) v = jib n K (jqZ n K m) v
    rw [show iter (jib n K) m = jqZ n K m from funext ih]
theorem o_z0a_0 (n : Nat) : ∀ L, jtU n 0 = some L → ∀ s K r, L s K = some r → ∃ x s', jbj (run PP jmS Tryz.f98.ntmps 0 n jnF none jwz) (gc 0 (jnF.head 0)) n s = some (x, s') ∧ K x s' = some r := by
  intro L hL s K r h
  have hL : some (jaz 0 (jnF.head 0) jdR fun K v => jqZ n K n v) = some L := hL
  cases hL
  have hb : LOk PP jmS Tryz.f98.ntmps 0 n jnF (jtU n) jwz := ⟨tT, ⟨tT, tT⟩, ⟨tT, tT⟩, tT⟩
  refine jaE hb (jib n) (t_z0a_0 n) n s K r ?_
  rw [← h]
  unfold jaz
  simp only [i_z0a_0]
theorem m_z0a (n : Nat) (a : EK.sems jIQ) (b : HK.sems jGF) : jaH PP jmS jnF (jtU n) Tryz.f98 (jae Tryz.f98) (EK.encs jIQ a) (HK.encs jGF b) = M_z0a n a.1 := by kernel_rfl
theorem g_z0a (n : Nat) (a : EK.sems jIQ) (b : HK.sems jGF) {r : Res} (h : M_z0a n a.1 = some r) : runF PP jmS n jnF 98 (EK.encs jIQ a) (HK.encs jGF b) = some r :=
  jaf PP Tryz.func98 (show Tryz.f98.body = some (jae Tryz.f98) from rfl) (show (1 : Nat) ≤ 23 by decide) (show LOk PP jmS _ 0 n _ (jtU n) _ from ⟨tT, tT, ⟨tT, (o_z0a_0 n)⟩, tT, tT⟩) ((m_z0a n a b).trans h) rfl (by kernel_rfl)
noncomputable def c_z0a : Spec := jaG jIQ jGF jDm jDS fun a b => jNi a.1
theorem k_z0a (hm : Tryz.prog.follows .mixedOrders = true) : jar PP 98 c_z0a := jaj (pol := jnF) hm (cf := jmS) (jav jah) fun a b r h => ⟨FUEL, g_z0a FUEL a b (jad h)⟩
def jdQ : Sig := ⟨[1, 4, 8, 9, 10], [.ty (.int .i64), .ptr 0 0 0, .ty (.slice jay), .ty (.int .i64), .ty (.int .i64)], [.cell jay]⟩
def jvb : Sig := ⟨[4, 5], [.ptr 0 0 0, .ty .bool], [.cell jay]⟩
def jpJ : Sig := ⟨[4], [.ptr 0 0 0], [.cell jay]⟩
def jnE : Pol := ⟨fun i => if i = 0 then some [(1, .keep), (4, (.own jay)), (8, .keep), (9, .keep), (10, .keep)] else none, fun i => if i = 0 then some [(4, (.own jay))] else none, some [(4, (.own jay)), (5, .keep)], [.keep, .keep], []⟩
def jIP : List EK := [.ty (.slice jay), .ty (.int .i64)]
def jGE : List HK := []
noncomputable def jmR : CallF := mkCF [] []
noncomputable def jtT (n : Nat) : jaF := fun i => if i = 0 then some (jaz 0 (jnE.head 0) jdQ fun K v => jkd n (fun z0 z1 => K .rt (jvb.enc (((), (z0, ())), (z1, ())))) (fun _ => K (.ex 0) (jpJ.enc (((), ()), (v.2.1, ())))) v.1.1 v.1.2.2.1 v.1.2.2.2.1 v.2.1 n v.1.2.2.2.2.1)
  else  none
noncomputable def jwy : Code := jaR (jae Tryz.f77) [1, 0, 1, 0, 0]
noncomputable def jia (n : Nat) (K : Cont) (rec : Sig.sem jdQ → Option Res) (v : Sig.sem jdQ) : Option Res := jse n (fun z0 z1 => K .rt (jvb.enc (((), (z0, ())), (z1, ())))) (fun _ => K (.ex 0) (jpJ.enc (((), ()), (v.2.1, ())))) v.1.1 v.1.2.2.1 v.1.2.2.2.1 v.2.1 (fun z3 => rec ((v.1.1, ((), (v.1.2.2.1, (v.1.2.2.2.1, (z3, ()))))), (v.2.1, ()))) v.1.2.2.2.2.1
theorem t_z0b_0 (n : Nat) (K : Cont) (rec : Sig.sem jdQ → Option Res) (v : Sig.sem jdQ) : runT PP jmR Tryz.f77.ntmps 0 jnE (jtT n) jwy (jdQ.enc v) (jbp 0 (jnE.head 0) jdQ rec K) = jia n K rec v := by kernel_rfl
noncomputable def jqY (n : Nat) (K : Cont) (m : Nat) (v : Sig.sem jdQ) : Option Res := jkd n (fun z0 z1 => K .rt (jvb.enc (((), (z0, ())), (z1, ())))) (fun _ => K (.ex 0) (jpJ.enc (((), ()), (v.2.1, ())))) v.1.1 v.1.2.2.1 v.1.2.2.2.1 v.2.1 m v.1.2.2.2.2.1
theorem i_z0b_0 (n : Nat) (K : Cont) : ∀ m v, iter (jia n K) m v = jqY n K m v := by
  intro m
  induction m with
  | zero => intro v; rfl
  | succ m ih =>
    intro v
    show jia n K (iter (jia n K) m) v = jia n K (jqY n K m) v
    rw [show iter (jia n K) m = jqY n K m from funext ih]
theorem o_z0b_0 (n : Nat) : ∀ L, jtT n 0 = some L → ∀ s K r, L s K = some r → ∃ x s', jbj (run PP jmR Tryz.f77.ntmps 0 n jnE none jwy) (gc 0 (jnE.head 0)) n s = some (x, s') ∧ K x s' = some r := by
  intro L hL s K r h
  have hL : some (jaz 0 (jnE.head 0) jdQ fun K v => jqY n K n v) = some L := hL
  cases hL
  have hb : LOk PP jmR Tryz.f77.ntmps 0 n jnE (jtT n) jwy := ⟨tT, ⟨tT, tT⟩, ⟨tT, tT, ⟨tT, tT⟩, tT⟩, tT⟩
  refine jaE hb (jia n) (t_z0b_0 n) n s K r ?_
  rw [← h]
  unfold jaz
  simp only [i_z0b_0]
theorem m_z0b (n : Nat) (a : EK.sems jIP) (b : HK.sems jGE) : jaH PP jmR jnE (jtT n) Tryz.f77 (jae Tryz.f77) (EK.encs jIP a) (HK.encs jGE b) = M_z0b n a.1 a.2.1 := by kernel_rfl
theorem g_z0b (n : Nat) (a : EK.sems jIP) (b : HK.sems jGE) {r : Res} (h : M_z0b n a.1 a.2.1 = some r) : runF PP jmR n jnE 77 (EK.encs jIP a) (HK.encs jGE b) = some r :=
  jaf PP Tryz.func77 (show Tryz.f77.body = some (jae Tryz.f77) from rfl) (show (2 : Nat) ≤ 21 by decide) (show LOk PP jmR _ 0 n _ (jtT n) _ from ⟨tT, ⟨tT, (o_z0b_0 n)⟩, tT, tT⟩) ((m_z0b n a b).trans h) rfl (by kernel_rfl)
noncomputable def jJl : Spec := jaG jIP jGE jxE jyi fun a b => jNh a.1 a.2.1
theorem jLw (hm : Tryz.prog.follows .mixedOrders = true) : jar PP 77 jJl := jaj (pol := jnE) hm (cf := jmR) (jav jah) fun a b r h => ⟨FUEL, g_z0b FUEL a b (jad h)⟩
def jdP : Sig := ⟨[0, 9, 10, 11], [.ty (.slice jay), .ty (.slice jay), .ty (.int .i64), .ty (.int .i64)], []⟩
def jdO : Sig := ⟨[0, 9, 10, 11, 16, 17, 18], [.ty (.slice jay), .ty (.slice jay), .ty (.int .i64), .ty (.int .i64), .hs 0 0, .ty (.int .i64), .ty (.int .i64)], [.row (.int .i64)]⟩
def jjd : Sig := ⟨[2], [.ty .bool], []⟩
def jpH : Sig := ⟨[0, 9, 10, 11], [.ty (.slice jay), .ty (.slice jay), .ty (.int .i64), .ty (.int .i64)], []⟩
def jpI : Sig := ⟨[], [], []⟩
def jfI : Pol := ⟨fun i => if i = 0 then some [(0, .keep), (9, .keep), (10, .keep), (11, .keep)] else if i = 2 then some [(0, .keep), (9, .keep), (10, .keep), (11, .keep), (16, (.own (.int .i64))), (17, .keep), (18, .keep)] else none, fun i => if i = 2 then some [(0, .keep), (9, .keep), (10, .keep), (11, .keep)] else if i = 0 then some [] else none, some [(2, .keep)], [.keep], []⟩
def jIO : List EK := [.ty (.slice jay)]
def jGD : List HK := []
noncomputable def jgJ : CallF := mkCF [(98, c_z0a), (77, jJl)] [(98, [jay]), (77, [(.slice jay), (.int .i64)])]
noncomputable def jkE (n : Nat) : jaF := fun i => if i = 2 then some (jaz 0 (jfI.head 2) jdO fun K v => jkb n (fun z0 => K .rt (jjd.enc ((z0, ()), ()))) (fun _ => K (.ex 2) (jpH.enc ((v.1.1, (v.1.2.1, (v.1.2.2.1, (v.1.2.2.2.1, ())))), ()))) v.1.1 v.1.2.1 v.1.2.2.1 v.1.2.2.2.1 v.1.2.2.2.2.1 v.1.2.2.2.2.2.1 v.2.1 n v.1.2.2.2.2.2.2.1)
  else if i = 0 then some (jaz 0 (jfI.head 0) jdP fun K v => jkc n (fun z0 => K .rt (jjd.enc ((z0, ()), ()))) (fun _ => K (.ex 0) (jpI.enc ((), ()))) v.1.1 v.1.2.1 v.1.2.2.1 n v.1.2.2.2.1)
  else  none
noncomputable def jww : Code := jaR (jae Tryz.f74) [1, 0, 1, 0, 0, 1, 1, 0, 0, 1, 1, 0, 0]
noncomputable def jhY (n : Nat) (K : Cont) (rec : Sig.sem jdO → Option Res) (v : Sig.sem jdO) : Option Res := jsc n (fun z0 => K .rt (jjd.enc ((z0, ()), ()))) (fun _ => K (.ex 2) (jpH.enc ((v.1.1, (v.1.2.1, (v.1.2.2.1, (v.1.2.2.2.1, ())))), ()))) v.1.1 v.1.2.1 v.1.2.2.1 v.1.2.2.2.1 v.1.2.2.2.2.1 v.1.2.2.2.2.2.1 v.2.1 (fun z6 => rec ((v.1.1, (v.1.2.1, (v.1.2.2.1, (v.1.2.2.2.1, (v.1.2.2.2.2.1, (v.1.2.2.2.2.2.1, (z6, ()))))))), (v.2.1, ()))) v.1.2.2.2.2.2.2.1
theorem t_z0c_2 (n : Nat) (K : Cont) (rec : Sig.sem jdO → Option Res) (v : Sig.sem jdO) : runT PP jgJ Tryz.f74.ntmps 0 jfI (jkE n) jww (jdO.enc v) (jbp 0 (jfI.head 2) jdO rec K) = jhY n K rec v := by kernel_rfl
noncomputable def jqW (n : Nat) (K : Cont) (m : Nat) (v : Sig.sem jdO) : Option Res := jkb n (fun z0 => K .rt (jjd.enc ((z0, ()), ()))) (fun _ => K (.ex 2) (jpH.enc ((v.1.1, (v.1.2.1, (v.1.2.2.1, (v.1.2.2.2.1, ())))), ()))) v.1.1 v.1.2.1 v.1.2.2.1 v.1.2.2.2.1 v.1.2.2.2.2.1 v.1.2.2.2.2.2.1 v.2.1 m v.1.2.2.2.2.2.2.1
theorem i_z0c_2 (n : Nat) (K : Cont) : ∀ m v, iter (jhY n K) m v = jqW n K m v := by
  intro m
  induction m with
  | zero => intro v; rfl
  | succ m ih =>
    intro v
    show jhY n K (iter (jhY n K) m) v = jhY n K (jqW n K m) v
    rw [show iter (jhY n K) m = jqW n K m from funext ih]
theorem o_z0c_2 (n : Nat) : ∀ L, jkE n 2 = some L → ∀ s K r, L s K = some r → ∃ x s', jbj (run PP jgJ Tryz.f74.ntmps 0 n jfI none jww) (gc 0 (jfI.head 2)) n s = some (x, s') ∧ K x s' = some r := by
  intro L hL s K r h
  have hL : some (jaz 0 (jfI.head 2) jdO fun K v => jqW n K n v) = some L := hL
  cases hL
  have hb : LOk PP jgJ Tryz.f74.ntmps 0 n jfI (jkE n) jww := ⟨tT, ⟨tT, tT⟩, ⟨tT, tT, tT, ⟨tT, tT⟩, tT⟩, tT⟩
  refine jaE hb (jhY n) (t_z0c_2 n) n s K r ?_
  rw [← h]
  unfold jaz
  simp only [i_z0c_2]
noncomputable def jwx : Code := jaR (jae Tryz.f74) [1, 0, 1, 0, 0]
noncomputable def jhZ (n : Nat) (K : Cont) (rec : Sig.sem jdP → Option Res) (v : Sig.sem jdP) : Option Res := jsd n (fun z0 => K .rt (jjd.enc ((z0, ()), ()))) (fun _ => K (.ex 0) (jpI.enc ((), ()))) v.1.1 v.1.2.1 v.1.2.2.1 (fun z3 => rec ((v.1.1, (v.1.2.1, (v.1.2.2.1, (z3, ())))), ())) v.1.2.2.2.1
theorem t_z0c_0 (n : Nat) (K : Cont) (rec : Sig.sem jdP → Option Res) (v : Sig.sem jdP) : runT PP jgJ Tryz.f74.ntmps 0 jfI (jkE n) jwx (jdP.enc v) (jbp 0 (jfI.head 0) jdP rec K) = jhZ n K rec v := by kernel_rfl
noncomputable def jqX (n : Nat) (K : Cont) (m : Nat) (v : Sig.sem jdP) : Option Res := jkc n (fun z0 => K .rt (jjd.enc ((z0, ()), ()))) (fun _ => K (.ex 0) (jpI.enc ((), ()))) v.1.1 v.1.2.1 v.1.2.2.1 m v.1.2.2.2.1
theorem i_z0c_0 (n : Nat) (K : Cont) : ∀ m v, iter (jhZ n K) m v = jqX n K m v := by
  intro m
  induction m with
  | zero => intro v; rfl
  | succ m ih =>
    intro v
    show jhZ n K (iter (jhZ n K) m) v = jhZ n K (jqX n K m) v
    rw [show iter (jhZ n K) m = jqX n K m from funext ih]
theorem o_z0c_0 (n : Nat) : ∀ L, jkE n 0 = some L → ∀ s K r, L s K = some r → ∃ x s', jbj (run PP jgJ Tryz.f74.ntmps 0 n jfI none jwx) (gc 0 (jfI.head 0)) n s = some (x, s') ∧ K x s' = some r := by
  intro L hL s K r h
  have hL : some (jaz 0 (jfI.head 0) jdP fun K v => jqX n K n v) = some L := hL
  cases hL
  have hb : LOk PP jgJ Tryz.f74.ntmps 0 n jfI (jkE n) jwx := ⟨tT, ⟨tT, tT⟩, ⟨tT, tT, (o_z0c_2 n)⟩, tT⟩
  refine jaE hb (jhZ n) (t_z0c_0 n) n s K r ?_
  rw [← h]
  unfold jaz
  simp only [i_z0c_0]
theorem m_z0c (n : Nat) (a : EK.sems jIO) (b : HK.sems jGD) : jaH PP jgJ jfI (jkE n) Tryz.f74 (jae Tryz.f74) (EK.encs jIO a) (HK.encs jGD b) = M_z0c n a.1 := by kernel_rfl
theorem g_z0c (n : Nat) (a : EK.sems jIO) (b : HK.sems jGD) {r : Res} (h : M_z0c n a.1 = some r) : runF PP jgJ n jfI 74 (EK.encs jIO a) (HK.encs jGD b) = some r :=
  jaf PP Tryz.func74 (show Tryz.f74.body = some (jae Tryz.f74) from rfl) (show (1 : Nat) ≤ 40 by decide) (show LOk PP jgJ _ 0 n _ (jkE n) _ from ⟨tT, ⟨tT, (o_z0c_0 n)⟩, tT, tT⟩) ((m_z0c n a b).trans h) rfl (by kernel_rfl)
noncomputable def c_z0c : Spec := jaG jIO jGD jxD jyh fun a b => jNg a.1
theorem k_z0c (hm : Tryz.prog.follows .mixedOrders = true) : jar PP 74 c_z0c := jaj (pol := jfI) hm (cf := jgJ) (jav (jab (k_z0a hm) (jab (jLw hm) jah))) fun a b r h => ⟨FUEL, g_z0c FUEL a b (jad h)⟩
def s_z0d_r : Sig := ⟨[7], [.ty (.int .i64)], [.one true [.ty (.slice jay)], .one false [.mp 2], .mf (.int .i64) (.int .i64), .one true [.ty .bool], .one false [.mp 5], .mf (.int .i64) (.int .i64), .one false [.fn 99 [(0, 0, 0), (1, 0, 0), (3, 0, 0), (4, 0, 0), (6, 0, 0)]]]⟩
def jdN : Sig := ⟨[0, 2, 4, 5, 10, 40, 41, 42], [.ty (.int .i64), .ptr 1 0 0, .ptr 4 0 0, .ptr 6 0 0, .ty (.int .i64), .hs 7 0, .ty (.int .i64), .ty (.int .i64)], [.one true [.ty (.slice jay)], .one false [.mp 2], .mf (.int .i64) (.int .i64), .one true [.ty .bool], .one false [.mp 5], .mf (.int .i64) (.int .i64), .one false [.fn 99 [(0, 0, 0), (1, 0, 0), (3, 0, 0), (4, 0, 0), (6, 0, 0)]], .row (.int .i64)]⟩
def jpG : Sig := ⟨[0, 2, 4, 10], [.ty (.int .i64), .ptr 1 0 0, .ptr 4 0 0, .ty (.int .i64)], [.one true [.ty (.slice jay)], .one false [.mp 2], .mf (.int .i64) (.int .i64), .one true [.ty .bool], .one false [.mp 5], .mf (.int .i64) (.int .i64), .one false [.fn 99 [(0, 0, 0), (1, 0, 0), (3, 0, 0), (4, 0, 0), (6, 0, 0)]]]⟩
def jmb : Pol := ⟨fun i => if i = 1 then some [(0, .keep), (2, .keep), (4, .keep), (5, .keep), (10, .keep), (40, (.own (.int .i64))), (41, .keep), (42, .keep)] else none, fun i => if i = 1 then some [(0, .keep), (2, .keep), (4, .keep), (10, .keep)] else none, some [(7, .keep)], [.keep], []⟩
def juh : List EK := [.ty (.int .i64), .ptr 0 0 0, .ptr 1 0 0, .ptr 3 0 0, .ptr 4 0 0, .ptr 6 0 0]
def jub : List HK := [.one true [.ty (.slice jay)], .one false [.mp 2], .mf (.int .i64) (.int .i64), .one true [.ty .bool], .one false [.mp 5], .mf (.int .i64) (.int .i64), .one false [.fn 99 [(0, 0, 0), (1, 0, 0), (3, 0, 0), (4, 0, 0), (6, 0, 0)]]]
noncomputable def jmQ (qr_z0d : Int → (List jai) → (Int → Option (Int)) → Bool → (Int → Option (Int)) → Option (RS jbw jbx)) : CallF := mkCF [(77, jJl), (98, c_z0a), (99, (jaG juh jub jbw jbx fun a b => qr_z0d a.1 b.1.1 b.2.2.1 b.2.2.2.1.1 b.2.2.2.2.2.1))] [(77, [(.slice jay), (.int .i64)]), (98, [jay])]
noncomputable def jtS (n : Nat) (qr_z0d : Int → (List jai) → (Int → Option (Int)) → Bool → (Int → Option (Int)) → Option (RS jbw jbx)) : jaF := fun i => if i = 1 then some (jaz 7 (jmb.head 1) jdN fun K v => jka n qr_z0d (fun z1 z2 z3 z4 z5 => K (.ex 1) (jpG.enc ((v.1.1, ((), ((), (z1, ())))), ((z2, ()), (((), ()), (z3, ((z4, ()), (((), ()), (z5, (((), ()), ())))))))))) v.1.1 v.1.2.2.2.2.2.1 v.1.2.2.2.2.2.2.1 v.2.2.2.2.2.2.2.2.1 n v.1.2.2.2.2.1 v.1.2.2.2.2.2.2.2.1 v.2.1.1 v.2.2.2.1 v.2.2.2.2.1.1 v.2.2.2.2.2.2.1)
  else  none
noncomputable def jwv : Code := jaR (jae Tryz.f99) [1, 1, 1, 1, 1, 0, 1, 0, 0]
noncomputable def jhX (qr_z0d : Int → (List jai) → (Int → Option (Int)) → Bool → (Int → Option (Int)) → Option (RS jbw jbx)) (n : Nat) (K : Cont) (rec : Sig.sem jdN → Option Res) (v : Sig.sem jdN) : Option Res := jsb n qr_z0d (fun z1 z2 z3 z4 z5 => K (.ex 1) (jpG.enc ((v.1.1, ((), ((), (z1, ())))), ((z2, ()), (((), ()), (z3, ((z4, ()), (((), ()), (z5, (((), ()), ())))))))))) v.1.1 v.1.2.2.2.2.2.1 v.1.2.2.2.2.2.2.1 v.2.2.2.2.2.2.2.2.1 (fun z1 z4 z5 z6 z7 z8 => rec ((v.1.1, ((), ((), ((), (z1, (v.1.2.2.2.2.2.1, (v.1.2.2.2.2.2.2.1, (z4, ())))))))), ((z5, ()), (((), ()), (z6, ((z7, ()), (((), ()), (z8, (((), ()), (v.2.2.2.2.2.2.2.2.1, ())))))))))) v.1.2.2.2.2.1 v.1.2.2.2.2.2.2.2.1 v.2.1.1 v.2.2.2.1 v.2.2.2.2.1.1 v.2.2.2.2.2.2.1
theorem t_z0d_1 (qr_z0d : Int → (List jai) → (Int → Option (Int)) → Bool → (Int → Option (Int)) → Option (RS jbw jbx)) (n : Nat) (K : Cont) (rec : Sig.sem jdN → Option Res) (v : Sig.sem jdN) : runT PP (jmQ qr_z0d) Tryz.f99.ntmps 7 jmb (jtS n qr_z0d) jwv (jdN.enc v) (jbp 7 (jmb.head 1) jdN rec K) = jhX qr_z0d n K rec v := by kernel_rfl
noncomputable def jqV (qr_z0d : Int → (List jai) → (Int → Option (Int)) → Bool → (Int → Option (Int)) → Option (RS jbw jbx)) (n : Nat) (K : Cont) (m : Nat) (v : Sig.sem jdN) : Option Res := jka n qr_z0d (fun z1 z2 z3 z4 z5 => K (.ex 1) (jpG.enc ((v.1.1, ((), ((), (z1, ())))), ((z2, ()), (((), ()), (z3, ((z4, ()), (((), ()), (z5, (((), ()), ())))))))))) v.1.1 v.1.2.2.2.2.2.1 v.1.2.2.2.2.2.2.1 v.2.2.2.2.2.2.2.2.1 m v.1.2.2.2.2.1 v.1.2.2.2.2.2.2.2.1 v.2.1.1 v.2.2.2.1 v.2.2.2.2.1.1 v.2.2.2.2.2.2.1
theorem i_z0d_1 (qr_z0d : Int → (List jai) → (Int → Option (Int)) → Bool → (Int → Option (Int)) → Option (RS jbw jbx)) (n : Nat) (K : Cont) : ∀ m v, iter (jhX qr_z0d n K) m v = jqV qr_z0d n K m v := by
  intro m
  induction m with
  | zero => intro v; rfl
  | succ m ih =>
    intro v
    show jhX qr_z0d n K (iter (jhX qr_z0d n K) m) v = jhX qr_z0d n K (jqV qr_z0d n K m) v
    rw [show iter (jhX qr_z0d n K) m = jqV qr_z0d n K m from funext ih]
theorem o_z0d_1 (qr_z0d : Int → (List jai) → (Int → Option (Int)) → Bool → (Int → Option (Int)) → Option (RS jbw jbx)) (n : Nat) : ∀ L, jtS n qr_z0d 1 = some L → ∀ s K r, L s K = some r → ∃ x s', jbj (run PP (jmQ qr_z0d) Tryz.f99.ntmps 7 n jmb none jwv) (gc 7 (jmb.head 1)) n s = some (x, s') ∧ K x s' = some r := by
  intro L hL s K r h
  have hL : some (jaz 7 (jmb.head 1) jdN fun K v => jqV qr_z0d n K n v) = some L := hL
  cases hL
  have hb : LOk PP (jmQ qr_z0d) Tryz.f99.ntmps 7 n jmb (jtS n qr_z0d) jwv := ⟨tT, ⟨tT, tT⟩, ⟨tT, tT⟩, tT⟩
  refine jaE hb (jhX qr_z0d n) (t_z0d_1 qr_z0d n) n s K r ?_
  rw [← h]
  unfold jaz
  simp only [i_z0d_1]
theorem m_z0d (n : Nat) (qr_z0d : Int → (List jai) → (Int → Option (Int)) → Bool → (Int → Option (Int)) → Option (RS jbw jbx)) (a : EK.sems juh) (b : HK.sems jub) : jaH PP (jmQ qr_z0d) jmb (jtS n qr_z0d) Tryz.f99 (jae Tryz.f99) (EK.encs juh a) (HK.encs jub b) = jKw n qr_z0d a.1 b.1.1 b.2.2.1 b.2.2.2.1.1 b.2.2.2.2.2.1 := by kernel_rfl
theorem g_z0d (n : Nat) (qr_z0d : Int → (List jai) → (Int → Option (Int)) → Bool → (Int → Option (Int)) → Option (RS jbw jbx)) (a : EK.sems juh) (b : HK.sems jub) {r : Res} (h : jKw n qr_z0d a.1 b.1.1 b.2.2.1 b.2.2.2.1.1 b.2.2.2.2.2.1 = some r) : runF PP (jmQ qr_z0d) n jmb 99 (EK.encs juh a) (HK.encs jub b) = some r :=
  jaf PP Tryz.func99 (show Tryz.f99.body = some (jae Tryz.f99) from rfl) (show (6 : Nat) ≤ 62 by decide) (show LOk PP (jmQ qr_z0d) _ 7 n _ (jtS n qr_z0d) _ from ⟨tT, tT, ⟨tT, ⟨tT, tT⟩, tT, ⟨tT, tT, tT⟩, tT, ⟨tT, tT⟩, tT⟩, tT, tT, ⟨tT, (o_z0d_1 qr_z0d n)⟩, tT, tT, tT, tT⟩) ((m_z0d n qr_z0d a b).trans h) rfl (by kernel_rfl)
noncomputable def c_z0d : Spec := jaG juh jub jbw jbx fun a b => jNf a.1 b.1.1 b.2.2.1 b.2.2.2.1.1 b.2.2.2.2.2.1
theorem kr_z0d (hm : Tryz.prog.follows .mixedOrders = true) (qr_z0d : Int → (List jai) → (Int → Option (Int)) → Bool → (Int → Option (Int)) → Option (RS jbw jbx)) (hr : jar PP 99 (jaG juh jub jbw jbx fun a b => qr_z0d a.1 b.1.1 b.2.2.1 b.2.2.2.1.1 b.2.2.2.2.2.1)) : CallSound PP (jmQ qr_z0d) := jav (jab (jLw hm) (jab (k_z0a hm) (jab (hr) jah)))
theorem jQL (hm : Tryz.prog.follows .mixedOrders = true) : ∀ dp, jar PP 99 (jaG juh jub jbw jbx fun a b => jnc dp a.1 b.1.1 b.2.2.1 b.2.2.2.1.1 b.2.2.2.2.2.1)
  | 0 => jaj (pol := jmb) hm (cf := mkCF [] []) (jav jah) fun a b r h => by cases h
  | dp + 1 => jaj (pol := jmb) hm (kr_z0d hm (jnc dp) (jQL hm dp)) fun a b r h => ⟨FUEL, g_z0d FUEL (jnc dp) a b (jad h)⟩
theorem k_z0d (hm : Tryz.prog.follows .mixedOrders = true) : jar PP 99 c_z0d := jQL hm FUEL
def jdM : Sig := ⟨[6, 7, 13, 14, 15], [.ptr 0 0 0, .ptr 1 0 0, .ty (.slice jay), .ty (.int .i64), .ty (.int .i64)], [.one true [.ty .bool], .one false [.fn 99 [(2, 0, 0), (3, 0, 0), (0, 0, 0), (5, 0, 0), (1, 0, 0)]], .one true [.ty (.slice jay)], .one false [.mp 4], .mf (.int .i64) (.int .i64), .one false [.mp 6], .mf (.int .i64) (.int .i64)]⟩
def jpF : Sig := ⟨[6, 7], [.ptr 0 0 0, .ptr 1 0 0], [.one true [.ty .bool], .one false [.fn 99 [(2, 0, 0), (3, 0, 0), (0, 0, 0), (5, 0, 0), (1, 0, 0)]], .one true [.ty (.slice jay)], .one false [.mp 4], .mf (.int .i64) (.int .i64), .one false [.mp 6], .mf (.int .i64) (.int .i64)]⟩
def s_z0e_r : Sig := ⟨[2, 3], [.fn 99 [(0, 0, 0), (1, 0, 0), (3, 0, 0), (4, 0, 0), (6, 0, 0)], .ty .bool], [.one true [.ty (.slice jay)], .one false [.mp 2], .mf (.int .i64) (.int .i64), .one true [.ty .bool], .one false [.mp 5], .mf (.int .i64) (.int .i64), .one false [.fn 99 [(0, 0, 0), (1, 0, 0), (3, 0, 0), (4, 0, 0), (6, 0, 0)]]]⟩
def jnD : Pol := ⟨fun i => if i = 0 then some [(6, .keep), (7, .keep), (13, .keep), (14, .keep), (15, .keep)] else none, fun i => if i = 0 then some [(6, .keep), (7, .keep)] else none, some [(2, .keep), (3, .keep)], [.keep, .keep], []⟩
def jIN : List EK := [.ty (.slice jay)]
def jGC : List HK := []
noncomputable def jmP : CallF := mkCF [(99, c_z0d)] []
noncomputable def jtR (n : Nat) : jaF := fun i => if i = 0 then some (jaz 0 (jnD.head 0) jdM fun K v => jjZ n (fun z0 z1 z2 z3 => K (.ex 0) (jpF.enc (((), ((), ())), ((z0, ()), (((), ()), ((z1, ()), (((), ()), (z2, (((), ()), (z3, ())))))))))) v.1.2.2.1 v.1.2.2.2.1 n v.1.2.2.2.2.1 v.2.1.1 v.2.2.2.1.1 v.2.2.2.2.2.1 v.2.2.2.2.2.2.2.1)
  else  none
noncomputable def jwu : Code := jaR (jae Tryz.f75) [1, 1, 1, 1, 1, 0, 1, 0, 0]
noncomputable def jhW (n : Nat) (K : Cont) (rec : Sig.sem jdM → Option Res) (v : Sig.sem jdM) : Option Res := jsa n (fun z0 z1 z2 z3 => K (.ex 0) (jpF.enc (((), ((), ())), ((z0, ()), (((), ()), ((z1, ()), (((), ()), (z2, (((), ()), (z3, ())))))))))) v.1.2.2.1 v.1.2.2.2.1 (fun z2 z3 z4 z5 z6 => rec (((), ((), (v.1.2.2.1, (v.1.2.2.2.1, (z2, ()))))), ((z3, ()), (((), ()), ((z4, ()), (((), ()), (z5, (((), ()), (z6, ()))))))))) v.1.2.2.2.2.1 v.2.1.1 v.2.2.2.1.1 v.2.2.2.2.2.1 v.2.2.2.2.2.2.2.1
theorem t_z0e_0 (n : Nat) (K : Cont) (rec : Sig.sem jdM → Option Res) (v : Sig.sem jdM) : runT PP jmP Tryz.f75.ntmps 0 jnD (jtR n) jwu (jdM.enc v) (jbp 0 (jnD.head 0) jdM rec K) = jhW n K rec v := by kernel_rfl
noncomputable def jqU (n : Nat) (K : Cont) (m : Nat) (v : Sig.sem jdM) : Option Res := jjZ n (fun z0 z1 z2 z3 => K (.ex 0) (jpF.enc (((), ((), ())), ((z0, ()), (((), ()), ((z1, ()), (((), ()), (z2, (((), ()), (z3, ())))))))))) v.1.2.2.1 v.1.2.2.2.1 m v.1.2.2.2.2.1 v.2.1.1 v.2.2.2.1.1 v.2.2.2.2.2.1 v.2.2.2.2.2.2.2.1
theorem i_z0e_0 (n : Nat) (K : Cont) : ∀ m v, iter (jhW n K) m v = jqU n K m v := by
  intro m
  induction m with
  | zero => intro v; rfl
  | succ m ih =>
    intro v
    show jhW n K (iter (jhW n K) m) v = jhW n K (jqU n K m) v
    rw [show iter (jhW n K) m = jqU n K m from funext ih]
theorem o_z0e_0 (n : Nat) : ∀ L, jtR n 0 = some L → ∀ s K r, L s K = some r → ∃ x s', jbj (run PP jmP Tryz.f75.ntmps 0 n jnD none jwu) (gc 0 (jnD.head 0)) n s = some (x, s') ∧ K x s' = some r := by
  intro L hL s K r h
  have hL : some (jaz 0 (jnD.head 0) jdM fun K v => jqU n K n v) = some L := hL
  cases hL
  have hb : LOk PP jmP Tryz.f75.ntmps 0 n jnD (jtR n) jwu := ⟨tT, ⟨tT, tT⟩, ⟨tT, tT⟩, tT⟩
  refine jaE hb (jhW n) (t_z0e_0 n) n s K r ?_
  rw [← h]
  unfold jaz
  simp only [i_z0e_0]
theorem m_z0e (n : Nat) (a : EK.sems jIN) (b : HK.sems jGC) : jaH PP jmP jnD (jtR n) Tryz.f75 (jae Tryz.f75) (EK.encs jIN a) (HK.encs jGC b) = M_z0e n a.1 := by kernel_rfl
theorem g_z0e (n : Nat) (a : EK.sems jIN) (b : HK.sems jGC) {r : Res} (h : M_z0e n a.1 = some r) : runF PP jmP n jnD 75 (EK.encs jIN a) (HK.encs jGC b) = some r :=
  jaf PP Tryz.func75 (show Tryz.f75.body = some (jae Tryz.f75) from rfl) (show (1 : Nat) ≤ 26 by decide) (show LOk PP jmP _ 0 n _ (jtR n) _ from ⟨tT, tT, tT, tT, tT, ⟨tT, (o_z0e_0 n)⟩, tT, tT⟩) ((m_z0e n a b).trans h) rfl (by kernel_rfl)
noncomputable def c_z0e : Spec := jaG jIN jGC jsI jsY fun a b => jJN a.1
theorem k_z0e (hm : Tryz.prog.follows .mixedOrders = true) : jar PP 75 c_z0e := jaj (pol := jnD) hm (cf := jmP) (jav (jab (k_z0d hm) jah)) fun a b r h => ⟨FUEL, g_z0e FUEL a b (jad h)⟩
def s_z0f_r : Sig := ⟨[2], [.ty (.int .i64)], []⟩
def p_z0f : Pol := ⟨fun i => none, fun i => none, some [(2, .keep)], [.keep], []⟩
def jIM : List EK := [.ty (.slice jay)]
def jGB : List HK := []
noncomputable def jAv : CallF := mkCF [(73, c_z09), (74, c_z0c), (75, c_z0e)] [(73, [(.slice jay)]), (74, [(.slice jay)]), (75, [(.slice jay)])]
noncomputable def jQB (n : Nat) : jaF := fun i =>  none
theorem m_z0f (n : Nat) (a : EK.sems jIM) (b : HK.sems jGB) : jaH PP jAv p_z0f (jQB n) Tryz.f52 (jae Tryz.f52) (EK.encs jIM a) (HK.encs jGB b) = jOs n a.1 := by kernel_rfl
theorem g_z0f (n : Nat) (a : EK.sems jIM) (b : HK.sems jGB) {r : Res} (h : jOs n a.1 = some r) : runF PP jAv n p_z0f 52 (EK.encs jIM a) (HK.encs jGB b) = some r :=
  jaf PP Tryz.func52 (show Tryz.f52.body = some (jae Tryz.f52) from rfl) (show (1 : Nat) ≤ 24 by decide) (show LOk PP jAv _ 0 n _ (jQB n) _ from ⟨tT, ⟨tT, ⟨tT, tT⟩, tT, ⟨tT, tT⟩, tT, ⟨tT, tT⟩, tT⟩, ⟨tT, tT, ⟨tT, tT⟩, tT⟩, tT, tT⟩) ((m_z0f n a b).trans h) rfl (by kernel_rfl)
noncomputable def c_z0f : Spec := jaG jIM jGB jlz jlN fun a b => jNe a.1
theorem k_z0f (hm : Tryz.prog.follows .mixedOrders = true) : jar PP 52 c_z0f := jaj (pol := p_z0f) hm (cf := jAv) (jav (jab (k_z09 hm) (jab (k_z0c hm) (jab (k_z0e hm) jah)))) fun a b r h => ⟨FUEL, g_z0f FUEL a b (jad h)⟩
def s_z0g_r : Sig := ⟨[4], [.fn 76 [(0, 0, 0), (1, 0, 0)]], [.one true [.ty (.slice jay)], .one true [.ty .str]]⟩
def p_z0g : Pol := ⟨fun i => none, fun i => none, some [(4, .keep)], [.keep], []⟩
def jIL : List EK := [.ty (.slice jay), .ty .str]
def jGA : List HK := []
noncomputable def jAu : CallF := mkCF [] []
noncomputable def jQA (n : Nat) : jaF := fun i =>  none
theorem m_z0g (n : Nat) (a : EK.sems jIL) (b : HK.sems jGA) : jaH PP jAu p_z0g (jQA n) Tryz.f53 (jae Tryz.f53) (EK.encs jIL a) (HK.encs jGA b) = M_z0g n a.1 a.2.1 := by kernel_rfl
theorem g_z0g (n : Nat) (a : EK.sems jIL) (b : HK.sems jGA) {r : Res} (h : M_z0g n a.1 a.2.1 = some r) : runF PP jAu n p_z0g 53 (EK.encs jIL a) (HK.encs jGA b) = some r :=
  jaf PP Tryz.func53 (show Tryz.f53.body = some (jae Tryz.f53) from rfl) (show (2 : Nat) ≤ 6 by decide) (show LOk PP jAu _ 0 n _ (jQA n) _ from ⟨tT, tT, tT⟩) ((m_z0g n a b).trans h) rfl (by kernel_rfl)
noncomputable def c_z0g : Spec := jaG jIL jGA jDl jDR fun a b => jNd a.1 a.2.1
theorem k_z0g (hm : Tryz.prog.follows .mixedOrders = true) : jar PP 53 c_z0g := jaj (pol := p_z0g) hm (cf := jAu) (jav jah) fun a b r h => ⟨FUEL, g_z0g FUEL a b (jad h)⟩
def s_z0h_r : Sig := ⟨[2], [.ty .bool], []⟩
def p_z0h : Pol := ⟨fun i => none, fun i => none, some [(2, .keep)], [.keep], []⟩
def jIK : List EK := [.agg jay]
def jGz : List HK := []
noncomputable def jAt : CallF := mkCF [] []
noncomputable def jQz (n : Nat) : jaF := fun i =>  none
theorem m_z0h (n : Nat) (a : EK.sems jIK) (b : HK.sems jGz) : jaH PP jAt p_z0h (jQz n) Tryz.f100 (jae Tryz.f100) (EK.encs jIK a) (HK.encs jGz b) = jOr n a.1 := by kernel_rfl
theorem g_z0h (n : Nat) (a : EK.sems jIK) (b : HK.sems jGz) {r : Res} (h : jOr n a.1 = some r) : runF PP jAt n p_z0h 100 (EK.encs jIK a) (HK.encs jGz b) = some r :=
  jaf PP Tryz.func100 (show Tryz.f100.body = some (jae Tryz.f100) from rfl) (show (1 : Nat) ≤ 50 by decide) (show LOk PP jAt _ 0 n _ (jQz n) _ from ⟨tT, ⟨tT, ⟨tT, tT⟩, tT⟩, ⟨tT, ⟨tT, tT⟩, tT⟩, tT, tT⟩) ((m_z0h n a b).trans h) rfl (by kernel_rfl)
noncomputable def c_z0h : Spec := jaG jIK jGz jcR jcS fun a b => jNc a.1
theorem k_z0h (hm : Tryz.prog.follows .mixedOrders = true) : jar PP 100 c_z0h := jaj (pol := p_z0h) hm (cf := jAt) (jav jah) fun a b r h => ⟨FUEL, g_z0h FUEL a b (jad h)⟩
def s_z0i_r : Sig := ⟨[6], [.ty (.int .i64)], []⟩
def p_z0i : Pol := ⟨fun i => none, fun i => none, some [(6, .keep)], [.keep], []⟩
def jIJ : List EK := [.ty .str, .ty (.int .i64), .ty (.int .i64)]
def jGy : List HK := []
noncomputable def jAs : CallF := mkCF [] []
noncomputable def jQy (n : Nat) : jaF := fun i =>  none
theorem m_z0i (n : Nat) (a : EK.sems jIJ) (b : HK.sems jGy) : jaH PP jAs p_z0i (jQy n) Tryz.f85 (jae Tryz.f85) (EK.encs jIJ a) (HK.encs jGy b) = jCq n a.1 a.2.1 a.2.2.1 := by kernel_rfl
theorem g_z0i (n : Nat) (a : EK.sems jIJ) (b : HK.sems jGy) {r : Res} (h : jCq n a.1 a.2.1 a.2.2.1 = some r) : runF PP jAs n p_z0i 85 (EK.encs jIJ a) (HK.encs jGy b) = some r :=
  jaf PP Tryz.func85 (show Tryz.f85.body = some (jae Tryz.f85) from rfl) (show (3 : Nat) ≤ 26 by decide) (show LOk PP jAs _ 0 n _ (jQy n) _ from ⟨tT, ⟨tT, ⟨tT, tT⟩, tT, ⟨tT, tT⟩, tT⟩, tT, tT⟩) ((m_z0i n a b).trans h) rfl (by kernel_rfl)
noncomputable def c_z0i : Spec := jaG jIJ jGy jly jlM fun a b => jCh a.1 a.2.1 a.2.2.1
theorem k_z0i (hm : Tryz.prog.follows .mixedOrders = true) : jar PP 85 c_z0i := jaj (pol := p_z0i) hm (cf := jAs) (jav jah) fun a b r h => ⟨FUEL, g_z0i FUEL a b (jad h)⟩
def s_z0j_r : Sig := ⟨[4], [.ptr 0 0 0], [.cell jaL]⟩
def p_z0j : Pol := ⟨fun i => none, fun i => none, some [(4, (.own jaL))], [.keep], []⟩
def jII : List EK := [.agg jaL, .ty (.int .i64)]
def jGx : List HK := []
noncomputable def jAr : CallF := mkCF [] []
noncomputable def jQx (n : Nat) : jaF := fun i =>  none
theorem m_z0j (n : Nat) (a : EK.sems jII) (b : HK.sems jGx) : jaH PP jAr p_z0j (jQx n) Tryz.f95 (jae Tryz.f95) (EK.encs jII a) (HK.encs jGx b) = jwQ n a.1 a.2.1 := by kernel_rfl
theorem g_z0j (n : Nat) (a : EK.sems jII) (b : HK.sems jGx) {r : Res} (h : jwQ n a.1 a.2.1 = some r) : runF PP jAr n p_z0j 95 (EK.encs jII a) (HK.encs jGx b) = some r :=
  jaf PP Tryz.func95 (show Tryz.f95.body = some (jae Tryz.f95) from rfl) (show (2 : Nat) ≤ 33 by decide) (show LOk PP jAr _ 0 n _ (jQx n) _ from ⟨tT, ⟨tT, ⟨tT, tT⟩, tT, ⟨tT, tT⟩, tT⟩, tT, tT⟩) ((m_z0j n a b).trans h) rfl (by kernel_rfl)
noncomputable def c_z0j : Spec := jaG jII jGx jlx jlL fun a b => jCg a.1 a.2.1
theorem k_z0j (hm : Tryz.prog.follows .mixedOrders = true) : jar PP 95 c_z0j := jaj (pol := p_z0j) hm (cf := jAr) (jav jah) fun a b r h => ⟨FUEL, g_z0j FUEL a b (jad h)⟩
def s_z0k_r : Sig := ⟨[2], [.ptr 0 0 0], [.cell jaL]⟩
def p_z0k : Pol := ⟨fun i => none, fun i => none, some [(2, (.own jaL))], [.keep], []⟩
def jIH : List EK := [.ty (.int .u64)]
def jGw : List HK := []
noncomputable def jAq : CallF := mkCF [] []
noncomputable def jQw (n : Nat) : jaF := fun i =>  none
theorem m_z0k (n : Nat) (a : EK.sems jIH) (b : HK.sems jGw) : jaH PP jAq p_z0k (jQw n) Tryz.f69 (jae Tryz.f69) (EK.encs jIH a) (HK.encs jGw b) = M_z0k n a.1 := by kernel_rfl
theorem g_z0k (n : Nat) (a : EK.sems jIH) (b : HK.sems jGw) {r : Res} (h : M_z0k n a.1 = some r) : runF PP jAq n p_z0k 69 (EK.encs jIH a) (HK.encs jGw b) = some r :=
  jaf PP Tryz.func69 (show Tryz.f69.body = some (jae Tryz.f69) from rfl) (show (1 : Nat) ≤ 5 by decide) (show LOk PP jAq _ 0 n _ (jQw n) _ from ⟨tT, tT, tT⟩) ((m_z0k n a b).trans h) rfl (by kernel_rfl)
noncomputable def jLO : Spec := jaG jIH jGw jDk jDQ fun a b => jJM a.1
theorem k_z0k (hm : Tryz.prog.follows .mixedOrders = true) : jar PP 69 jLO := jaj (pol := p_z0k) hm (cf := jAq) (jav jah) fun a b r h => ⟨FUEL, g_z0k FUEL a b (jad h)⟩
def s_z0l_r : Sig := ⟨[4], [.ptr 0 0 0], [.cell jaL]⟩
def p_z0l : Pol := ⟨fun i => none, fun i => none, some [(4, (.own jaL))], [.keep], []⟩
def jIG : List EK := [.agg jaL, .agg jaL]
def jGv : List HK := []
noncomputable def jAp : CallF := mkCF [] []
noncomputable def jQv (n : Nat) : jaF := fun i =>  none
theorem m_z0l (n : Nat) (a : EK.sems jIG) (b : HK.sems jGv) : jaH PP jAp p_z0l (jQv n) Tryz.f94 (jae Tryz.f94) (EK.encs jIG a) (HK.encs jGv b) = jOq n a.1 a.2.1 := by kernel_rfl
theorem g_z0l (n : Nat) (a : EK.sems jIG) (b : HK.sems jGv) {r : Res} (h : jOq n a.1 a.2.1 = some r) : runF PP jAp n p_z0l 94 (EK.encs jIG a) (HK.encs jGv b) = some r :=
  jaf PP Tryz.func94 (show Tryz.f94.body = some (jae Tryz.f94) from rfl) (show (2 : Nat) ≤ 16 by decide) (show LOk PP jAp _ 0 n _ (jQv n) _ from ⟨tT, tT, tT⟩) ((m_z0l n a b).trans h) rfl (by kernel_rfl)
noncomputable def c_z0l : Spec := jaG jIG jGv jDj jDP fun a b => jCf a.1 a.2.1
theorem k_z0l (hm : Tryz.prog.follows .mixedOrders = true) : jar PP 94 c_z0l := jaj (pol := p_z0l) hm (cf := jAp) (jav jah) fun a b r h => ⟨FUEL, g_z0l FUEL a b (jad h)⟩
def s_z0m_r : Sig := ⟨[2], [.ptr 0 0 0], [.cell jaL]⟩
def p_z0m : Pol := ⟨fun i => none, fun i => none, some [(2, (.own jaL))], [.keep], []⟩
def jIF : List EK := [.agg jaL]
def jGu : List HK := []
noncomputable def jAo : CallF := mkCF [] []
noncomputable def jQu (n : Nat) : jaF := fun i =>  none
theorem m_z0m (n : Nat) (a : EK.sems jIF) (b : HK.sems jGu) : jaH PP jAo p_z0m (jQu n) Tryz.f110 (jae Tryz.f110) (EK.encs jIF a) (HK.encs jGu b) = M_z0m n a.1 := by kernel_rfl
theorem g_z0m (n : Nat) (a : EK.sems jIF) (b : HK.sems jGu) {r : Res} (h : M_z0m n a.1 = some r) : runF PP jAo n p_z0m 110 (EK.encs jIF a) (HK.encs jGu b) = some r :=
  jaf PP Tryz.func110 (show Tryz.f110.body = some (jae Tryz.f110) from rfl) (show (1 : Nat) ≤ 10 by decide) (show LOk PP jAo _ 0 n _ (jQu n) _ from ⟨tT, tT, tT⟩) ((m_z0m n a b).trans h) rfl (by kernel_rfl)
noncomputable def c_z0m : Spec := jaG jIF jGu jDi jDO fun a b => jJL a.1
theorem k_z0m (hm : Tryz.prog.follows .mixedOrders = true) : jar PP 110 c_z0m := jaj (pol := p_z0m) hm (cf := jAo) (jav jah) fun a b r h => ⟨FUEL, g_z0m FUEL a b (jad h)⟩
def s_z0n_r : Sig := ⟨[4], [.ptr 0 0 0], [.cell jaL]⟩
def p_z0n : Pol := ⟨fun i => none, fun i => none, some [(4, (.own jaL))], [.keep], []⟩
def jIE : List EK := [.agg jaL, .ty (.int .i64)]
def jGt : List HK := []
noncomputable def jAn : CallF := mkCF [] []
noncomputable def jQt (n : Nat) : jaF := fun i =>  none
theorem m_z0n (n : Nat) (a : EK.sems jIE) (b : HK.sems jGt) : jaH PP jAn p_z0n (jQt n) Tryz.f87 (jae Tryz.f87) (EK.encs jIE a) (HK.encs jGt b) = jwP n a.1 a.2.1 := by kernel_rfl
theorem g_z0n (n : Nat) (a : EK.sems jIE) (b : HK.sems jGt) {r : Res} (h : jwP n a.1 a.2.1 = some r) : runF PP jAn n p_z0n 87 (EK.encs jIE a) (HK.encs jGt b) = some r :=
  jaf PP Tryz.func87 (show Tryz.f87.body = some (jae Tryz.f87) from rfl) (show (2 : Nat) ≤ 33 by decide) (show LOk PP jAn _ 0 n _ (jQt n) _ from ⟨tT, ⟨tT, ⟨tT, tT⟩, tT, ⟨tT, tT⟩, tT⟩, tT, tT⟩) ((m_z0n n a b).trans h) rfl (by kernel_rfl)
noncomputable def c_z0n : Spec := jaG jIE jGt jlw jlK fun a b => jCe a.1 a.2.1
theorem k_z0n (hm : Tryz.prog.follows .mixedOrders = true) : jar PP 87 c_z0n := jaj (pol := p_z0n) hm (cf := jAn) (jav jah) fun a b r h => ⟨FUEL, g_z0n FUEL a b (jad h)⟩
def s_z0o_r : Sig := ⟨[2], [.ptr 0 0 0], [.cell jaL]⟩
def p_z0o : Pol := ⟨fun i => none, fun i => none, some [(2, (.own jaL))], [.keep], []⟩
def jID : List EK := [.ty (.int .i64)]
def jGs : List HK := []
noncomputable def jAm : CallF := mkCF [(110, c_z0m), (87, c_z0n)] [(110, [jaL]), (87, [jaL, (.int .i64)])]
noncomputable def jQs (n : Nat) : jaF := fun i =>  none
theorem m_z0o (n : Nat) (a : EK.sems jID) (b : HK.sems jGs) : jaH PP jAm p_z0o (jQs n) Tryz.f106 (jae Tryz.f106) (EK.encs jID a) (HK.encs jGs b) = jKv n a.1 := by kernel_rfl
theorem g_z0o (n : Nat) (a : EK.sems jID) (b : HK.sems jGs) {r : Res} (h : jKv n a.1 = some r) : runF PP jAm n p_z0o 106 (EK.encs jID a) (HK.encs jGs b) = some r :=
  jaf PP Tryz.func106 (show Tryz.f106.body = some (jae Tryz.f106) from rfl) (show (1 : Nat) ≤ 10 by decide) (show LOk PP jAm _ 0 n _ (jQs n) _ from ⟨tT, tT, tT⟩) ((m_z0o n a b).trans h) rfl (by kernel_rfl)
noncomputable def c_z0o : Spec := jaG jID jGs jxC jyg fun a b => jCd a.1
theorem k_z0o (hm : Tryz.prog.follows .mixedOrders = true) : jar PP 106 c_z0o := jaj (pol := p_z0o) hm (cf := jAm) (jav (jab (k_z0m hm) (jab (k_z0n hm) jah))) fun a b r h => ⟨FUEL, g_z0o FUEL a b (jad h)⟩
def s_z0p_r : Sig := ⟨[4], [.ptr 0 0 0], [.cell jaL]⟩
def p_z0p : Pol := ⟨fun i => none, fun i => none, some [(4, (.own jaL))], [.keep], []⟩
def jIC : List EK := [.agg jaL, .agg jaL]
def jGr : List HK := []
noncomputable def jAl : CallF := mkCF [] []
noncomputable def jQr (n : Nat) : jaF := fun i =>  none
theorem m_z0p (n : Nat) (a : EK.sems jIC) (b : HK.sems jGr) : jaH PP jAl p_z0p (jQr n) Tryz.f86 (jae Tryz.f86) (EK.encs jIC a) (HK.encs jGr b) = jKu n a.1 a.2.1 := by kernel_rfl
theorem g_z0p (n : Nat) (a : EK.sems jIC) (b : HK.sems jGr) {r : Res} (h : jKu n a.1 a.2.1 = some r) : runF PP jAl n p_z0p 86 (EK.encs jIC a) (HK.encs jGr b) = some r :=
  jaf PP Tryz.func86 (show Tryz.f86.body = some (jae Tryz.f86) from rfl) (show (2 : Nat) ≤ 16 by decide) (show LOk PP jAl _ 0 n _ (jQr n) _ from ⟨tT, tT, tT⟩) ((m_z0p n a b).trans h) rfl (by kernel_rfl)
noncomputable def c_z0p : Spec := jaG jIC jGr jDh jDN fun a b => jwG a.1 a.2.1
theorem k_z0p (hm : Tryz.prog.follows .mixedOrders = true) : jar PP 86 c_z0p := jaj (pol := p_z0p) hm (cf := jAl) (jav jah) fun a b r h => ⟨FUEL, g_z0p FUEL a b (jad h)⟩
def s_z0q_r : Sig := ⟨[4], [.ptr 0 0 0], [.cell jaL]⟩
def p_z0q : Pol := ⟨fun i => none, fun i => none, some [(4, (.own jaL))], [.keep], []⟩
def jIB : List EK := [.agg jaL, .ty (.int .i64)]
def jGq : List HK := []
noncomputable def jAk : CallF := mkCF [(106, c_z0o), (86, c_z0p)] [(106, [(.int .i64)]), (86, [jaL, jaL])]
noncomputable def jQq (n : Nat) : jaF := fun i =>  none
theorem m_z0q (n : Nat) (a : EK.sems jIB) (b : HK.sems jGq) : jaH PP jAk p_z0q (jQq n) Tryz.f96 (jae Tryz.f96) (EK.encs jIB a) (HK.encs jGq b) = jCp n a.1 a.2.1 := by kernel_rfl
theorem g_z0q (n : Nat) (a : EK.sems jIB) (b : HK.sems jGq) {r : Res} (h : jCp n a.1 a.2.1 = some r) : runF PP jAk n p_z0q 96 (EK.encs jIB a) (HK.encs jGq b) = some r :=
  jaf PP Tryz.func96 (show Tryz.f96.body = some (jae Tryz.f96) from rfl) (show (2 : Nat) ≤ 9 by decide) (show LOk PP jAk _ 0 n _ (jQq n) _ from ⟨tT, tT, tT⟩) ((m_z0q n a b).trans h) rfl (by kernel_rfl)
noncomputable def c_z0q : Spec := jaG jIB jGq jxB jyf fun a b => jCc a.1 a.2.1
theorem k_z0q (hm : Tryz.prog.follows .mixedOrders = true) : jar PP 96 c_z0q := jaj (pol := p_z0q) hm (cf := jAk) (jav (jab (k_z0o hm) (jab (k_z0p hm) jah))) fun a b r h => ⟨FUEL, g_z0q FUEL a b (jad h)⟩
def s_z0r_r : Sig := ⟨[6, 7], [.ptr 0 0 0, .ty (.int .i64)], [.cell jaL]⟩
def jdL : Sig := ⟨[0, 1, 2, 6, 9, 10, 11, 33, 34], [.ty .str, .ty (.int .i64), .ty (.int .i64), .ptr 0 0 0, .ty (.int .i64), .ty (.int .i64), .ptr 1 0 0, .ty (.int .i64), .ty (.int .i64)], [.cell jaL, .cell jaL]⟩
def jpE : Sig := ⟨[0, 1, 2, 6, 10, 11], [.ty .str, .ty (.int .i64), .ty (.int .i64), .ptr 0 0 0, .ty (.int .i64), .ptr 1 0 0], [.cell jaL, .cell jaL]⟩
def jnC : Pol := ⟨fun i => if i = 0 then some [(0, .keep), (1, .keep), (2, .keep), (6, (.own jaL)), (9, .keep), (10, .keep), (11, (.own jaL)), (33, .keep), (34, .keep)] else none, fun i => if i = 0 then some [(0, .keep), (1, .keep), (2, .keep), (6, (.own jaL)), (10, .keep), (11, (.own jaL))] else none, some [(6, (.own jaL)), (7, .keep)], [.keep, .keep], []⟩
def jIA : List EK := [.ty .str, .ty (.int .i64), .ty (.int .i64)]
def jGp : List HK := []
noncomputable def jmO : CallF := mkCF [(85, c_z0i), (95, c_z0j), (69, jLO), (94, c_z0l), (96, c_z0q)] [(85, [.str, (.int .i64), (.int .i64)]), (95, [jaL, (.int .i64)]), (69, [(.int .u64)]), (94, [jaL, jaL]), (96, [jaL, (.int .i64)])]
noncomputable def jtQ (n : Nat) : jaF := fun i => if i = 0 then some (jaz 0 (jnC.head 0) jdL fun K v => jjY n (fun z5 => K (.ex 0) (jpE.enc ((v.1.1, (v.1.2.1, (v.1.2.2.1, ((), (v.1.2.2.2.2.2.1, ((), ())))))), (v.2.1, (z5, ()))))) v.1.1 v.1.2.1 v.1.2.2.1 v.1.2.2.2.2.1 v.1.2.2.2.2.2.1 v.1.2.2.2.2.2.2.2.1 v.2.1 n v.1.2.2.2.2.2.2.2.2.1 v.2.2.1)
  else  none
noncomputable def jwt : Code := jaR (jae Tryz.f71) [1, 1, 1, 1, 0, 1, 0, 0]
noncomputable def jhV (n : Nat) (K : Cont) (rec : Sig.sem jdL → Option Res) (v : Sig.sem jdL) : Option Res := jrZ n (fun z5 => K (.ex 0) (jpE.enc ((v.1.1, (v.1.2.1, (v.1.2.2.1, ((), (v.1.2.2.2.2.2.1, ((), ())))))), (v.2.1, (z5, ()))))) v.1.1 v.1.2.1 v.1.2.2.1 v.1.2.2.2.2.1 v.1.2.2.2.2.2.1 v.1.2.2.2.2.2.2.2.1 v.2.1 (fun z6 z8 => rec ((v.1.1, (v.1.2.1, (v.1.2.2.1, ((), (v.1.2.2.2.2.1, (v.1.2.2.2.2.2.1, ((), (v.1.2.2.2.2.2.2.2.1, (z6, ()))))))))), (v.2.1, (z8, ())))) v.1.2.2.2.2.2.2.2.2.1 v.2.2.1
theorem t_z0r_0 (n : Nat) (K : Cont) (rec : Sig.sem jdL → Option Res) (v : Sig.sem jdL) : runT PP jmO Tryz.f71.ntmps 0 jnC (jtQ n) jwt (jdL.enc v) (jbp 0 (jnC.head 0) jdL rec K) = jhV n K rec v := by kernel_rfl
noncomputable def jqT (n : Nat) (K : Cont) (m : Nat) (v : Sig.sem jdL) : Option Res := jjY n (fun z5 => K (.ex 0) (jpE.enc ((v.1.1, (v.1.2.1, (v.1.2.2.1, ((), (v.1.2.2.2.2.2.1, ((), ())))))), (v.2.1, (z5, ()))))) v.1.1 v.1.2.1 v.1.2.2.1 v.1.2.2.2.2.1 v.1.2.2.2.2.2.1 v.1.2.2.2.2.2.2.2.1 v.2.1 m v.1.2.2.2.2.2.2.2.2.1 v.2.2.1
theorem i_z0r_0 (n : Nat) (K : Cont) : ∀ m v, iter (jhV n K) m v = jqT n K m v := by
  intro m
  induction m with
  | zero => intro v; rfl
  | succ m ih =>
    intro v
    show jhV n K (iter (jhV n K) m) v = jhV n K (jqT n K m) v
    rw [show iter (jhV n K) m = jqT n K m from funext ih]
theorem o_z0r_0 (n : Nat) : ∀ L, jtQ n 0 = some L → ∀ s K r, L s K = some r → ∃ x s', jbj (run PP jmO Tryz.f71.ntmps 0 n jnC none jwt) (gc 0 (jnC.head 0)) n s = some (x, s') ∧ K x s' = some r := by
  intro L hL s K r h
  have hL : some (jaz 0 (jnC.head 0) jdL fun K v => jqT n K n v) = some L := hL
  cases hL
  have hb : LOk PP jmO Tryz.f71.ntmps 0 n jnC (jtQ n) jwt := ⟨tT, ⟨tT, tT⟩, ⟨tT, tT⟩, tT⟩
  refine jaE hb (jhV n) (t_z0r_0 n) n s K r ?_
  rw [← h]
  unfold jaz
  simp only [i_z0r_0]
theorem m_z0r (n : Nat) (a : EK.sems jIA) (b : HK.sems jGp) : jaH PP jmO jnC (jtQ n) Tryz.f71 (jae Tryz.f71) (EK.encs jIA a) (HK.encs jGp b) = jKt n a.1 a.2.1 a.2.2.1 := by kernel_rfl
theorem g_z0r (n : Nat) (a : EK.sems jIA) (b : HK.sems jGp) {r : Res} (h : jKt n a.1 a.2.1 a.2.2.1 = some r) : runF PP jmO n jnC 71 (EK.encs jIA a) (HK.encs jGp b) = some r :=
  jaf PP Tryz.func71 (show Tryz.f71.body = some (jae Tryz.f71) from rfl) (show (3 : Nat) ≤ 70 by decide) (show LOk PP jmO _ 0 n _ (jtQ n) _ from ⟨tT, ⟨tT, tT, ⟨tT, tT⟩, tT⟩, tT, tT, ⟨tT, (o_z0r_0 n)⟩, tT, tT, tT, tT⟩) ((m_z0r n a b).trans h) rfl (by kernel_rfl)
noncomputable def c_z0r : Spec := jaG jIA jGp jxA jye fun a b => jJK a.1 a.2.1 a.2.2.1
theorem k_z0r (hm : Tryz.prog.follows .mixedOrders = true) : jar PP 71 c_z0r := jaj (pol := jnC) hm (cf := jmO) (jav (jab (k_z0i hm) (jab (k_z0j hm) (jab (k_z0k hm) (jab (k_z0l hm) (jab (k_z0q hm) jah)))))) fun a b r h => ⟨FUEL, g_z0r FUEL a b (jad h)⟩
def s_z0s_r : Sig := ⟨[8, 9], [.ty (.int .i64), .ty .bool], []⟩
def p_z0s : Pol := ⟨fun i => none, fun i => none, some [(8, .keep), (9, .keep)], [.keep, .keep], []⟩
def jIz : List EK := [.ty .str, .ty (.int .i64), .ty (.int .i64), .ty (.int .i64)]
def jGo : List HK := []
noncomputable def jAj : CallF := mkCF [(71, c_z0r)] [(71, [.str, (.int .i64), (.int .i64)])]
noncomputable def jQp (n : Nat) : jaF := fun i =>  none
theorem m_z0s (n : Nat) (a : EK.sems jIz) (b : HK.sems jGo) : jaH PP jAj p_z0s (jQp n) Tryz.f101 (jae Tryz.f101) (EK.encs jIz a) (HK.encs jGo b) = jOp n a.1 a.2.1 a.2.2.1 a.2.2.2.1 := by kernel_rfl
theorem g_z0s (n : Nat) (a : EK.sems jIz) (b : HK.sems jGo) {r : Res} (h : jOp n a.1 a.2.1 a.2.2.1 a.2.2.2.1 = some r) : runF PP jAj n p_z0s 101 (EK.encs jIz a) (HK.encs jGo b) = some r :=
  jaf PP Tryz.func101 (show Tryz.f101.body = some (jae Tryz.f101) from rfl) (show (4 : Nat) ≤ 34 by decide) (show LOk PP jAj _ 0 n _ (jQp n) _ from ⟨tT, ⟨tT, ⟨tT, tT⟩, tT⟩, tT, tT, tT⟩) ((m_z0s n a b).trans h) rfl (by kernel_rfl)
noncomputable def c_z0s : Spec := jaG jIz jGo jsH jsX fun a b => jNb a.1 a.2.1 a.2.2.1 a.2.2.2.1
theorem k_z0s (hm : Tryz.prog.follows .mixedOrders = true) : jar PP 101 c_z0s := jaj (pol := p_z0s) hm (cf := jAj) (jav (jab (k_z0r hm) jah)) fun a b r h => ⟨FUEL, g_z0s FUEL a b (jad h)⟩
def s_z0t_r : Sig := ⟨[6, 7], [.ty (.int .i64), .ty (.int .i64)], []⟩
def p_z0t : Pol := ⟨fun i => none, fun i => none, some [(6, .keep), (7, .keep)], [.keep, .keep], []⟩
def jIy : List EK := [.agg jay, .ty .str, .ty (.int .i64)]
def jGn : List HK := []
noncomputable def jAi : CallF := mkCF [(100, c_z0h), (101, c_z0s)] [(100, [jay]), (101, [.str, (.int .i64), (.int .i64), (.int .i64)])]
noncomputable def jQo (n : Nat) : jaF := fun i =>  none
theorem m_z0t (n : Nat) (a : EK.sems jIy) (b : HK.sems jGn) : jaH PP jAi p_z0t (jQo n) Tryz.f78 (jae Tryz.f78) (EK.encs jIy a) (HK.encs jGn b) = jOo n a.1 a.2.1 a.2.2.1 := by kernel_rfl
theorem g_z0t (n : Nat) (a : EK.sems jIy) (b : HK.sems jGn) {r : Res} (h : jOo n a.1 a.2.1 a.2.2.1 = some r) : runF PP jAi n p_z0t 78 (EK.encs jIy a) (HK.encs jGn b) = some r :=
  jaf PP Tryz.func78 (show Tryz.f78.body = some (jae Tryz.f78) from rfl) (show (3 : Nat) ≤ 58 by decide) (show LOk PP jAi _ 0 n _ (jQo n) _ from ⟨tT, ⟨tT, ⟨tT, tT⟩, tT⟩, tT, ⟨tT, ⟨tT, ⟨tT, ⟨tT, tT⟩, tT⟩, tT⟩, tT⟩, ⟨tT, ⟨tT, tT⟩, tT, ⟨tT, tT⟩, tT⟩, tT, tT⟩) ((m_z0t n a b).trans h) rfl (by kernel_rfl)
noncomputable def c_z0t : Spec := jaG jIy jGn jcf jcg fun a b => jNa a.1 a.2.1 a.2.2.1
theorem k_z0t (hm : Tryz.prog.follows .mixedOrders = true) : jar PP 78 c_z0t := jaj (pol := p_z0t) hm (cf := jAi) (jav (jab (k_z0h hm) (jab (k_z0s hm) jah))) fun a b r h => ⟨FUEL, g_z0t FUEL a b (jad h)⟩
def jdK : Sig := ⟨[2, 7, 18, 19, 20], [.ty (.int .u32), .ptr 0 0 0, .ty (.slice ArmT), .ty (.int .i64), .ty (.int .i64)], [.cell jay]⟩
def jva : Sig := ⟨[6], [.ty (.int .i64)], []⟩
def jpD : Sig := ⟨[7], [.ptr 0 0 0], [.cell jay]⟩
def jnB : Pol := ⟨fun i => if i = 0 then some [(2, .keep), (7, (.own jay)), (18, .keep), (19, .keep), (20, .keep)] else none, fun i => if i = 0 then some [(7, (.own jay))] else none, some [(6, .keep)], [.keep], []⟩
def jIx : List EK := [.ty (.slice jay), .ty (.int .i64), .ty (.int .u32)]
def jGm : List HK := []
noncomputable def jmN : CallF := mkCF [(77, jJl)] [(77, [(.slice jay), (.int .i64)])]
noncomputable def jtP (n : Nat) : jaF := fun i => if i = 0 then some (jaz 0 (jnB.head 0) jdK fun K v => jeB n (fun z0 => K .rt (jva.enc ((z0, ()), ()))) (fun _ => K (.ex 0) (jpD.enc (((), ()), (v.2.1, ())))) v.1.1 v.1.2.2.1 v.1.2.2.2.1 v.2.1 n v.1.2.2.2.2.1)
  else  none
noncomputable def jws : Code := jaR (jae Tryz.f102) [1, 1, 0, 1, 0, 0]
noncomputable def jhU (n : Nat) (K : Cont) (rec : Sig.sem jdK → Option Res) (v : Sig.sem jdK) : Option Res := jii n (fun z0 => K .rt (jva.enc ((z0, ()), ()))) (fun _ => K (.ex 0) (jpD.enc (((), ()), (v.2.1, ())))) v.1.1 v.1.2.2.1 v.1.2.2.2.1 v.2.1 (fun z3 => rec ((v.1.1, ((), (v.1.2.2.1, (v.1.2.2.2.1, (z3, ()))))), (v.2.1, ()))) v.1.2.2.2.2.1
theorem t_z0u_0 (n : Nat) (K : Cont) (rec : Sig.sem jdK → Option Res) (v : Sig.sem jdK) : runT PP jmN Tryz.f102.ntmps 0 jnB (jtP n) jws (jdK.enc v) (jbp 0 (jnB.head 0) jdK rec K) = jhU n K rec v := by kernel_rfl
noncomputable def jqS (n : Nat) (K : Cont) (m : Nat) (v : Sig.sem jdK) : Option Res := jeB n (fun z0 => K .rt (jva.enc ((z0, ()), ()))) (fun _ => K (.ex 0) (jpD.enc (((), ()), (v.2.1, ())))) v.1.1 v.1.2.2.1 v.1.2.2.2.1 v.2.1 m v.1.2.2.2.2.1
theorem i_z0u_0 (n : Nat) (K : Cont) : ∀ m v, iter (jhU n K) m v = jqS n K m v := by
  intro m
  induction m with
  | zero => intro v; rfl
  | succ m ih =>
    intro v
    show jhU n K (iter (jhU n K) m) v = jhU n K (jqS n K m) v
    rw [show iter (jhU n K) m = jqS n K m from funext ih]
theorem o_z0u_0 (n : Nat) : ∀ L, jtP n 0 = some L → ∀ s K r, L s K = some r → ∃ x s', jbj (run PP jmN Tryz.f102.ntmps 0 n jnB none jws) (gc 0 (jnB.head 0)) n s = some (x, s') ∧ K x s' = some r := by
  intro L hL s K r h
  have hL : some (jaz 0 (jnB.head 0) jdK fun K v => jqS n K n v) = some L := hL
  cases hL
  have hb : LOk PP jmN Tryz.f102.ntmps 0 n jnB (jtP n) jws := ⟨tT, ⟨tT, tT⟩, ⟨tT, tT, ⟨tT, tT⟩, tT⟩, tT⟩
  refine jaE hb (jhU n) (t_z0u_0 n) n s K r ?_
  rw [← h]
  unfold jaz
  simp only [i_z0u_0]
theorem m_z0u (n : Nat) (a : EK.sems jIx) (b : HK.sems jGm) : jaH PP jmN jnB (jtP n) Tryz.f102 (jae Tryz.f102) (EK.encs jIx a) (HK.encs jGm b) = jKs n a.1 a.2.1 a.2.2.1 := by kernel_rfl
theorem g_z0u (n : Nat) (a : EK.sems jIx) (b : HK.sems jGm) {r : Res} (h : jKs n a.1 a.2.1 a.2.2.1 = some r) : runF PP jmN n jnB 102 (EK.encs jIx a) (HK.encs jGm b) = some r :=
  jaf PP Tryz.func102 (show Tryz.f102.body = some (jae Tryz.f102) from rfl) (show (3 : Nat) ≤ 33 by decide) (show LOk PP jmN _ 0 n _ (jtP n) _ from ⟨tT, tT, ⟨tT, (o_z0u_0 n)⟩, tT, tT⟩) ((m_z0u n a b).trans h) rfl (by kernel_rfl)
noncomputable def c_z0u : Spec := jaG jIx jGm joa joh fun a b => jwF a.1 a.2.1 a.2.2.1
theorem k_z0u (hm : Tryz.prog.follows .mixedOrders = true) : jar PP 102 c_z0u := jaj (pol := jnB) hm (cf := jmN) (jav (jab (jLw hm) jah)) fun a b r h => ⟨FUEL, g_z0u FUEL a b (jad h)⟩
def s_z0v_r : Sig := ⟨[8, 9], [.ty (.int .i64), .ty (.int .i64)], []⟩
def p_z0v : Pol := ⟨fun i => none, fun i => none, some [(8, .keep), (9, .keep)], [.keep, .keep], []⟩
def jIw : List EK := [.ty (.slice jay), .agg jay, .ty .str, .ty (.int .i64)]
def jGl : List HK := []
noncomputable def jAh : CallF := mkCF [(101, c_z0s), (102, c_z0u)] [(101, [.str, (.int .i64), (.int .i64), (.int .i64)]), (102, [(.slice jay), (.int .i64), (.int .u32)])]
noncomputable def jQn (n : Nat) : jaF := fun i =>  none
theorem m_z0v (n : Nat) (a : EK.sems jIw) (b : HK.sems jGl) : jaH PP jAh p_z0v (jQn n) Tryz.f79 (jae Tryz.f79) (EK.encs jIw a) (HK.encs jGl b) = jOn n a.1 a.2.1 a.2.2.1 a.2.2.2.1 := by kernel_rfl
theorem g_z0v (n : Nat) (a : EK.sems jIw) (b : HK.sems jGl) {r : Res} (h : jOn n a.1 a.2.1 a.2.2.1 a.2.2.2.1 = some r) : runF PP jAh n p_z0v 79 (EK.encs jIw a) (HK.encs jGl b) = some r :=
  jaf PP Tryz.func79 (show Tryz.f79.body = some (jae Tryz.f79) from rfl) (show (4 : Nat) ≤ 37 by decide) (show LOk PP jAh _ 0 n _ (jQn n) _ from ⟨tT, tT, ⟨tT, ⟨tT, tT, tT, ⟨tT, tT⟩, tT⟩, tT⟩, tT, ⟨tT, ⟨tT, tT⟩, tT⟩, tT, tT⟩) ((m_z0v n a b).trans h) rfl (by kernel_rfl)
noncomputable def c_z0v : Spec := jaG jIw jGl jgC jgD fun a b => jMZ a.1 a.2.1 a.2.2.1 a.2.2.2.1
theorem k_z0v (hm : Tryz.prog.follows .mixedOrders = true) : jar PP 79 c_z0v := jaj (pol := p_z0v) hm (cf := jAh) (jav (jab (k_z0s hm) (jab (k_z0u hm) jah))) fun a b r h => ⟨FUEL, g_z0v FUEL a b (jad h)⟩
def jdJ : Sig := ⟨[0, 1, 2, 4, 5, 6], [.yl 0, .ptr 5 0 0, .ptr 6 0 0, .ty (.int .i64), .ptr 8 0 0, .ty .bool], [.lp 0 [.junk, .junk, .junk, .junk, .junk, .junk, .junk, .ptr 1 0 0, .ptr 3 0 0, .ptr 4 0 0, .junk, .junk, .junk, .junk, .junk, .junk, .junk, .junk, .junk, .junk, .junk, .junk, .junk, .junk, .junk, .junk, .junk, .junk, .junk, .junk, .junk, .junk], .one false [.hs 7 0], .gone, .one true [.ty (.int .i64)], .one true [.ty (.int .i64)], .one true [.ty (.slice jay)], .one true [.ty .str], .row jaq, .cell jay]⟩
def juZ : Sig := ⟨[], [], [.lp 0 [.junk, .junk, .junk, .junk, .junk, .junk, .junk, .ptr 1 0 0, .ptr 3 0 0, .ptr 4 0 0, .junk, .junk, .junk, .junk, .junk, .junk, .junk, .junk, .junk, .junk, .junk, .junk, .junk, .junk, .junk, .junk, .junk, .junk, .junk, .junk, .junk, .junk], .one false [.hs 7 0], .gone, .one true [.ty (.int .i64)], .one true [.ty (.int .i64)], .one true [.ty (.slice jay)], .one true [.ty .str], .row jaq]⟩
def jpC : Sig := ⟨[], [], [.lp 0 [.junk, .junk, .junk, .junk, .junk, .junk, .junk, .ptr 1 0 0, .ptr 3 0 0, .ptr 4 0 0, .junk, .junk, .junk, .junk, .junk, .junk, .junk, .junk, .junk, .junk, .junk, .junk, .junk, .junk, .junk, .junk, .junk, .junk, .junk, .junk, .junk, .junk], .one false [.hs 7 0], .gone, .one true [.ty (.int .i64)], .one true [.ty (.int .i64)], .one true [.ty (.slice jay)], .one true [.ty .str], .row jaq]⟩
def jnA : Pol := ⟨fun i => if i = 0 then some [(0, .keep), (1, .keep), (2, .keep), (4, .keep), (5, (.own jay)), (6, .keep)] else none, fun i => if i = 0 then some [] else none, some [], [], [2]⟩
def jIv : List EK := [.yl 0, .ptr 5 0 0, .ptr 6 0 0]
def jGk : List HK := [.lp 0 [.junk, .junk, .junk, .junk, .junk, .junk, .junk, .ptr 1 0 0, .ptr 3 0 0, .ptr 4 0 0, .junk, .junk, .junk, .junk, .junk, .junk, .junk, .junk, .junk, .junk, .junk, .junk, .junk, .junk, .junk, .junk, .junk, .junk, .junk, .junk, .junk, .junk], .one false [.hs 2 0], .row jaq, .one true [.ty (.int .i64)], .one true [.ty (.int .i64)], .one true [.ty (.slice jay)], .one true [.ty .str]]
noncomputable def jmM : CallF := mkCF [(77, jJl), (78, c_z0t), (79, c_z0v)] [(77, [(.slice jay), (.int .i64)]), (78, [jay, .str, (.int .i64)]), (79, [(.slice jay), jay, .str, (.int .i64)])]
noncomputable def jtO (n : Nat) : jaF := fun i => if i = 0 then some (jaz 7 (jnA.head 0) jdJ fun K v => jih n (fun z0 z1 z2 z5 => K .rt (juZ.enc ((), (((), ((), ((), ((), ((), ((), ((), ((), ((), ((), ((), ((), ((), ((), ((), ((), ((), ((), ((), ((), ((), ((), ((), ((), ((), ((), ((), ((), ((), ((), ((), ((), ())))))))))))))))))))))))))))))))), ((z0, ()), ((), ((z1, ()), ((z2, ()), ((v.2.2.2.2.2.2.1.1, ()), ((v.2.2.2.2.2.2.2.1.1, ()), (z5, ()))))))))))) (fun z0 z1 z2 z5 => K (.ex 0) (jpC.enc ((), (((), ((), ((), ((), ((), ((), ((), ((), ((), ((), ((), ((), ((), ((), ((), ((), ((), ((), ((), ((), ((), ((), ((), ((), ((), ((), ((), ((), ((), ((), ((), ((), ())))))))))))))))))))))))))))))))), ((z0, ()), ((), ((z1, ()), ((z2, ()), ((v.2.2.2.2.2.2.1.1, ()), ((v.2.2.2.2.2.2.2.1.1, ()), (z5, ()))))))))))) v.2.2.2.2.2.2.1.1 v.2.2.2.2.2.2.2.1.1 n v.1.2.2.2.1 v.1.2.2.2.2.2.1 v.2.2.1.1 v.2.2.2.2.1.1 v.2.2.2.2.2.1.1 v.2.2.2.2.2.2.2.2.1 v.2.2.2.2.2.2.2.2.2.1)
  else  none
noncomputable def jwr : Code := jaR (jae Tryz.f76) [1, 1, 0, 0]
noncomputable def jhT (n : Nat) (K : Cont) (rec : Sig.sem jdJ → Option Res) (v : Sig.sem jdJ) : Option Res := jkk n (fun z0 z1 z2 z5 => K .rt (juZ.enc ((), (((), ((), ((), ((), ((), ((), ((), ((), ((), ((), ((), ((), ((), ((), ((), ((), ((), ((), ((), ((), ((), ((), ((), ((), ((), ((), ((), ((), ((), ((), ((), ((), ())))))))))))))))))))))))))))))))), ((z0, ()), ((), ((z1, ()), ((z2, ()), ((v.2.2.2.2.2.2.1.1, ()), ((v.2.2.2.2.2.2.2.1.1, ()), (z5, ()))))))))))) (fun z0 z1 z2 z5 => K (.ex 0) (jpC.enc ((), (((), ((), ((), ((), ((), ((), ((), ((), ((), ((), ((), ((), ((), ((), ((), ((), ((), ((), ((), ((), ((), ((), ((), ((), ((), ((), ((), ((), ((), ((), ((), ((), ())))))))))))))))))))))))))))))))), ((z0, ()), ((), ((z1, ()), ((z2, ()), ((v.2.2.2.2.2.2.1.1, ()), ((v.2.2.2.2.2.2.2.1.1, ()), (z5, ()))))))))))) v.2.2.2.2.2.2.1.1 v.2.2.2.2.2.2.2.1.1 (fun z0 z1 z2 z3 z4 z7 z8 => rec (((), ((), ((), (z0, ((), (z1, ())))))), (((), ((), ((), ((), ((), ((), ((), ((), ((), ((), ((), ((), ((), ((), ((), ((), ((), ((), ((), ((), ((), ((), ((), ((), ((), ((), ((), ((), ((), ((), ((), ((), ())))))))))))))))))))))))))))))))), ((z2, ()), ((), ((z3, ()), ((z4, ()), ((v.2.2.2.2.2.2.1.1, ()), ((v.2.2.2.2.2.2.2.1.1, ()), (z7, (z8, ()))))))))))) v.1.2.2.2.1 v.1.2.2.2.2.2.1 v.2.2.1.1 v.2.2.2.2.1.1 v.2.2.2.2.2.1.1 v.2.2.2.2.2.2.2.2.1 v.2.2.2.2.2.2.2.2.2.1
theorem t_z0w_0 (n : Nat) (K : Cont) (rec : Sig.sem jdJ → Option Res) (v : Sig.sem jdJ) : runT PP jmM Tryz.f76.ntmps 7 jnA (jtO n) jwr (jdJ.enc v) (jbp 7 (jnA.head 0) jdJ rec K) = jhT n K rec v := by kernel_rfl
noncomputable def jqR (n : Nat) (K : Cont) (m : Nat) (v : Sig.sem jdJ) : Option Res := jih n (fun z0 z1 z2 z5 => K .rt (juZ.enc ((), (((), ((), ((), ((), ((), ((), ((), ((), ((), ((), ((), ((), ((), ((), ((), ((), ((), ((), ((), ((), ((), ((), ((), ((), ((), ((), ((), ((), ((), ((), ((), ((), ())))))))))))))))))))))))))))))))), ((z0, ()), ((), ((z1, ()), ((z2, ()), ((v.2.2.2.2.2.2.1.1, ()), ((v.2.2.2.2.2.2.2.1.1, ()), (z5, ()))))))))))) (fun z0 z1 z2 z5 => K (.ex 0) (jpC.enc ((), (((), ((), ((), ((), ((), ((), ((), ((), ((), ((), ((), ((), ((), ((), ((), ((), ((), ((), ((), ((), ((), ((), ((), ((), ((), ((), ((), ((), ((), ((), ((), ((), ())))))))))))))))))))))))))))))))), ((z0, ()), ((), ((z1, ()), ((z2, ()), ((v.2.2.2.2.2.2.1.1, ()), ((v.2.2.2.2.2.2.2.1.1, ()), (z5, ()))))))))))) v.2.2.2.2.2.2.1.1 v.2.2.2.2.2.2.2.1.1 m v.1.2.2.2.1 v.1.2.2.2.2.2.1 v.2.2.1.1 v.2.2.2.2.1.1 v.2.2.2.2.2.1.1 v.2.2.2.2.2.2.2.2.1 v.2.2.2.2.2.2.2.2.2.1
theorem i_z0w_0 (n : Nat) (K : Cont) : ∀ m v, iter (jhT n K) m v = jqR n K m v := by
  intro m
  induction m with
  | zero => intro v; rfl
  | succ m ih =>
    intro v
    show jhT n K (iter (jhT n K) m) v = jhT n K (jqR n K m) v
    rw [show iter (jhT n K) m = jqR n K m from funext ih]
theorem o_z0w_0 (n : Nat) : ∀ L, jtO n 0 = some L → ∀ s K r, L s K = some r → ∃ x s', jbj (run PP jmM Tryz.f76.ntmps 7 n jnA none jwr) (gc 7 (jnA.head 0)) n s = some (x, s') ∧ K x s' = some r := by
  intro L hL s K r h
  have hL : some (jaz 7 (jnA.head 0) jdJ fun K v => jqR n K n v) = some L := hL
  cases hL
  have hb : LOk PP jmM Tryz.f76.ntmps 7 n jnA (jtO n) jwr := ⟨⟨tT, tT, tT⟩, tT, ⟨tT, ⟨tT, tT⟩, tT⟩, tT, ⟨tT, tT, tT⟩, tT, tT⟩
  refine jaE hb (jhT n) (t_z0w_0 n) n s K r ?_
  rw [← h]
  unfold jaz
  simp only [i_z0w_0]
theorem m_z0w (n : Nat) (a : EK.sems jIv) (b : HK.sems jGk) : jaH PP jmM jnA (jtO n) Tryz.f76 (jae Tryz.f76) (EK.encs jIv a) (HK.encs jGk b) = jOm n b.2.1.1 b.2.2.1 b.2.2.2.1.1 b.2.2.2.2.1.1 b.2.2.2.2.2.1.1 b.2.2.2.2.2.2.1.1 := by kernel_rfl
theorem g_z0w (n : Nat) (a : EK.sems jIv) (b : HK.sems jGk) {r : Res} (h : jOm n b.2.1.1 b.2.2.1 b.2.2.2.1.1 b.2.2.2.2.1.1 b.2.2.2.2.2.1.1 b.2.2.2.2.2.2.1.1 = some r) : runF PP jmM n jnA 76 (EK.encs jIv a) (HK.encs jGk b) = some r :=
  jaf PP Tryz.func76 (show Tryz.f76.body = some (jae Tryz.f76) from rfl) (show (3 : Nat) ≤ 59 by decide) (show LOk PP jmM _ 7 n _ (jtO n) _ from ⟨tT, tT, (o_z0w_0 n)⟩) ((m_z0w n a b).trans h) rfl (by kernel_rfl)
noncomputable def c_z0w : Spec := jaG jIv jGk jsG jsW fun a b => jMY b.2.1.1 b.2.2.1 b.2.2.2.1.1 b.2.2.2.2.1.1 b.2.2.2.2.2.1.1 b.2.2.2.2.2.2.1.1
theorem k_z0w (hm : Tryz.prog.follows .mixedOrders = true) : jar PP 76 c_z0w := jaj (pol := jnA) hm (cf := jmM) (jav (jab (jLw hm) (jab (k_z0t hm) (jab (k_z0v hm) jah)))) fun a b r h => ⟨FUEL, g_z0w FUEL a b (jad h)⟩
def s_z0x_r : Sig := ⟨[4, 5, 6], [.hs 0 0, .ty (.int .i64), .ty (.int .i64)], [.row jaq]⟩
def p_z0x : Pol := ⟨fun i => none, fun i => none, some [(4, (.own jaq)), (5, .keep), (6, .keep)], [(.own jaq), .keep, .keep], []⟩
def jIu : List EK := [.ty (.slice jay), .ty .str]
def jGj : List HK := []
noncomputable def jAg : CallF := { (mkCFs [(52, c_z0f), (53, c_z0g), (76, c_z0w)] [(52, [(.slice jay)]), (53, [(.slice jay), .str])] 26 0 [7, 8, 9]) with grow := [53] }
noncomputable def jQm (n : Nat) : jaF := fun i =>  none
theorem m_z0x (n : Nat) (a : EK.sems jIu) (b : HK.sems jGj) : jaH PP jAg p_z0x (jQm n) Tryz.f26 (jae Tryz.f26) (EK.encs jIu a) (HK.encs jGj b) = jOl n a.1 a.2.1 := by kernel_rfl
theorem g_z0x (n : Nat) (a : EK.sems jIu) (b : HK.sems jGj) {r : Res} (h : jOl n a.1 a.2.1 = some r) : runF PP jAg n p_z0x 26 (EK.encs jIu a) (HK.encs jGj b) = some r :=
  jaf PP Tryz.func26 (show Tryz.f26.body = some (jae Tryz.f26) from rfl) (show (2 : Nat) ≤ 32 by decide) (show LOk PP jAg _ 0 n _ (jQm n) _ from ⟨tT, ⟨tT, ⟨tT, tT⟩, tT⟩, tT, tT, ⟨tT, tT⟩, tT, tT⟩) ((m_z0x n a b).trans h) rfl (by kernel_rfl)
noncomputable def c_z0x : Spec := jaG jIu jGj jxz jyd fun a b => jMX a.1 a.2.1
theorem k_z0x (hm : Tryz.prog.follows .mixedOrders = true) : jar PP 26 c_z0x := jaj (pol := p_z0x) hm (cf := jAg) (CallSound.grow <| tabs_ok Tryz.func26 (show Tryz.f26.body = some (jae Tryz.f26) from rfl) (RfOk.seq trivial (RfOk.seq (RfOk.seq trivial (RfOk.cond (RfOk.seq trivial trivial) trivial)) (RfOk.seq trivial (RfOk.seq trivial (RfOk.seq (RfOk.seq trivial (RfOk.block (RfOk.range (by kernel_rfl)))) (RfOk.seq trivial trivial)))))) (jab (k_z0f hm) (jab (k_z0g hm) (jab (k_z0w hm) jah)))) fun a b r h => ⟨FUEL, g_z0x FUEL a b (jad h)⟩
def s_z0y_r : Sig := ⟨[4, 5], [.ty (.int .i64), .ty (.int .i64)], [.one false [.ptr 1 0 0, .hs 5 0, .ptr 3 0 0, .ty (.int .i64)], .one false [.hs 2 0], .row (.int .u8), .one false [.hs 4 0], .row (.int .u8), .row jaq]⟩
def p_z0y : Pol := ⟨fun i => none, fun i => none, some [(4, .keep), (5, .keep)], [.keep, .keep], []⟩
def jIt : List EK := [.ptr 0 0 0, .ty (.slice jay)]
def jGi : List HK := [.one false [.ptr 1 0 0, .nul 4, .ptr 3 0 0, .ty (.int .i64)], .one false [.hs 2 0], .row (.int .u8), .one false [.hs 4 0], .row (.int .u8)]
noncomputable def jAf : CallF := mkCF [(22, c_z04), (26, c_z0x)] [(26, [(.slice jay), .str])]
noncomputable def jQl (n : Nat) : jaF := fun i =>  none
theorem m_z0y (n : Nat) (a : EK.sems jIt) (b : HK.sems jGi) : jaH PP jAf p_z0y (jQl n) Tryz.f8 (jae Tryz.f8) (EK.encs jIt a) (HK.encs jGi b) = jOk n a.2.1 b.1.2.2.2.1 b.2.1.1 b.2.2.1 b.2.2.2.1.1 b.2.2.2.2.1 := by kernel_rfl
theorem g_z0y (n : Nat) (a : EK.sems jIt) (b : HK.sems jGi) {r : Res} (h : jOk n a.2.1 b.1.2.2.2.1 b.2.1.1 b.2.2.1 b.2.2.2.1.1 b.2.2.2.2.1 = some r) : runF PP jAf n p_z0y 8 (EK.encs jIt a) (HK.encs jGi b) = some r :=
  jaf PP Tryz.func8 (show Tryz.f8.body = some (jae Tryz.f8) from rfl) (show (2 : Nat) ≤ 26 by decide) (show LOk PP jAf _ 5 n _ (jQl n) _ from ⟨tT, ⟨tT, ⟨tT, tT⟩, tT⟩, tT, tT, tT, tT⟩) ((m_z0y n a b).trans h) rfl (by kernel_rfl)
noncomputable def c_z0y : Spec := jaG jIt jGi jDg jDM fun a b => jMW a.2.1 b.1.2.2.2.1 b.2.1.1 b.2.2.1 b.2.2.2.1.1 b.2.2.2.2.1
theorem k_z0y (hm : Tryz.prog.follows .mixedOrders = true) : jar PP 8 c_z0y := jaj (pol := p_z0y) hm (cf := jAf) (jav (jab (k_z04 hm) (jab (k_z0x hm) jah))) fun a b r h => ⟨FUEL, g_z0y FUEL a b (jad h)⟩
def s_z0z_r : Sig := ⟨[0], [.nul 0], []⟩
def s_z0z_r1 : Sig := ⟨[0], [.ptr 0 0 0], [.one false [.ptr 1 0 0, .hs 3 0, .ptr 4 0 0, .ty (.int .i64)], .one false [.hs 2 0], .row (.int .u8), .row jaq, .one false [.hs 5 0], .row (.int .u8)]⟩
def p_z0z : Pol := ⟨fun i => none, fun i => none, some [(0, .keep)], [.keep], []⟩
def jIs : List EK := []
def jGh : List HK := []
noncomputable def jAe : CallF := { (mkCF [(6, c_z01), (46, c_z02), (8, c_z0y)] [(6, [(.int .i64), .str]), (46, [])]) with mix := jLr [(8, [none, some ((.slice jay))])] }
noncomputable def jQk (n : Nat) : jaF := fun i =>  none
theorem m_z0z (n : Nat) (a : EK.sems jIs) (b : HK.sems jGh) : jaH PP jAe p_z0z (jQk n) Tryz.f16 (jae Tryz.f16) (EK.encs jIs a) (HK.encs jGh b) = jOj n := by kernel_rfl
theorem g_z0z (n : Nat) (a : EK.sems jIs) (b : HK.sems jGh) {r : Res} (h : jOj n = some r) : runF PP jAe n p_z0z 16 (EK.encs jIs a) (HK.encs jGh b) = some r :=
  jaf PP Tryz.func16 (show Tryz.f16.body = some (jae Tryz.f16) from rfl) (show (0 : Nat) ≤ 24 by decide) (show LOk PP jAe _ 0 n _ (jQk n) _ from ⟨tT, tT, ⟨tT, ⟨tT, tT⟩, tT⟩, tT, ⟨tT, ⟨tT, tT⟩, tT⟩, tT, tT⟩) ((m_z0z n a b).trans h) rfl (by kernel_rfl)
noncomputable def c_z0z : Spec := jfl jIs jGh fun a b => (jdZ jlv jlJ (Q_z0z) (jdZ jit jiz (jwE) .no))
theorem k_z0z (hm : Tryz.prog.follows .mixedOrders = true) : jar PP 16 c_z0z := jbZ (pol := p_z0z) hm (cf := jAe) (CallSound.mix <| jav (jab (k_z01 hm) (jab (k_z02 hm) (jab (k_z0y hm) jah)))) fun a b r => (fun h => (jaX h).elim (fun ⟨x, hx, e⟩ => ⟨FUEL, e ▸ g_z0z FUEL a b (jad hx)⟩) (fun h => (jaX h).elim (fun ⟨x, hx, e⟩ => ⟨FUEL, e ▸ g_z0z FUEL a b (jad hx)⟩) (fun h => by cases h)))
noncomputable def c_z10 : Spec := jaG [.ty (.slice jaq)] [] jDf jDL fun a b => jJJ a.1
theorem k_z10 (hm : Tryz.prog.follows .mixedOrders = true) : jar PP 31 c_z10 := H27.clone_ok
def s_z11_r : Sig := ⟨[2], [.hs 6 0], [.one false [.ptr 1 0 0, .hs 3 0, .ptr 4 0 0, .ty (.int .i64)], .one false [.hs 2 0], .row (.int .u8), .row jaq, .one false [.hs 5 0], .row (.int .u8), .row jaq]⟩
def p_z11 : Pol := ⟨fun i => none, fun i => none, some [(2, (.own jaq))], [(.own jaq)], []⟩
def jIr : List EK := [.ptr 0 0 0]
def jGg : List HK := [.one false [.ptr 1 0 0, .hs 3 0, .ptr 4 0 0, .ty (.int .i64)], .one false [.hs 2 0], .row (.int .u8), .row jaq, .one false [.hs 5 0], .row (.int .u8)]
noncomputable def jAd : CallF := mkCF [(31, c_z10)] [(31, [(.slice jaq)])]
noncomputable def jQj (n : Nat) : jaF := fun i =>  none
theorem m_z11 (n : Nat) (a : EK.sems jIr) (b : HK.sems jGg) : jaH PP jAd p_z11 (jQj n) Tryz.f18 (jae Tryz.f18) (EK.encs jIr a) (HK.encs jGg b) = jOi n b.1.2.1 b.1.2.2.2.1 b.2.1.1 b.2.2.1 b.2.2.2.1 b.2.2.2.2.1.1 b.2.2.2.2.2.1 := by kernel_rfl
theorem g_z11 (n : Nat) (a : EK.sems jIr) (b : HK.sems jGg) {r : Res} (h : jOi n b.1.2.1 b.1.2.2.2.1 b.2.1.1 b.2.2.1 b.2.2.2.1 b.2.2.2.2.1.1 b.2.2.2.2.2.1 = some r) : runF PP jAd n p_z11 18 (EK.encs jIr a) (HK.encs jGg b) = some r :=
  jaf PP Tryz.func18 (show Tryz.f18.body = some (jae Tryz.f18) from rfl) (show (1 : Nat) ≤ 11 by decide) (show LOk PP jAd _ 6 n _ (jQj n) _ from ⟨tT, ⟨tT, ⟨tT, tT⟩, tT⟩, tT, tT⟩) ((m_z11 n a b).trans h) rfl (by kernel_rfl)
noncomputable def c_z11 : Spec := jaG jIr jGg jDe jDK fun a b => jMV b.1.2.1 b.1.2.2.2.1 b.2.1.1 b.2.2.1 b.2.2.2.1 b.2.2.2.2.1.1 b.2.2.2.2.2.1
theorem k_z11 (hm : Tryz.prog.follows .mixedOrders = true) : jar PP 18 c_z11 := jaj (pol := p_z11) hm (cf := jAd) (jav (jab (k_z10 hm) jah)) fun a b r h => ⟨FUEL, g_z11 FUEL a b (jad h)⟩
def juY : Sig := ⟨[4], [.ty .bool], []⟩
def jdI : Sig := ⟨[0, 1, 5], [.ty (.slice jaq), .ty (.slice jaq), .ty (.int .i64)], []⟩
def jpB : Sig := ⟨[], [], []⟩
def jnz : Pol := ⟨fun i => if i = 0 then some [(0, .keep), (1, .keep), (5, .keep)] else none, fun i => if i = 0 then some [] else none, some [(4, .keep)], [.keep], []⟩
def jIq : List EK := [.ty (.slice jaq), .ty (.slice jaq)]
def jGf : List HK := []
noncomputable def jmL : CallF := mkCF [] []
noncomputable def jtN (n : Nat) : jaF := fun i => if i = 0 then some (jaz 0 (jnz.head 0) jdI fun K v => jjX n (fun z0 => K .rt (juY.enc ((z0, ()), ()))) (fun _ => K (.ex 0) (jpB.enc ((), ()))) v.1.1 v.1.2.1 n v.1.2.2.1)
  else  none
noncomputable def jwq : Code := jaR (jae Tryz.f17) [1, 1, 0, 1, 0, 0]
noncomputable def jhS (n : Nat) (K : Cont) (rec : Sig.sem jdI → Option Res) (v : Sig.sem jdI) : Option Res := jrY n (fun z0 => K .rt (juY.enc ((z0, ()), ()))) (fun _ => K (.ex 0) (jpB.enc ((), ()))) v.1.1 v.1.2.1 (fun z2 => rec ((v.1.1, (v.1.2.1, (z2, ()))), ())) v.1.2.2.1
theorem t_z12_0 (n : Nat) (K : Cont) (rec : Sig.sem jdI → Option Res) (v : Sig.sem jdI) : runT PP jmL Tryz.f17.ntmps 0 jnz (jtN n) jwq (jdI.enc v) (jbp 0 (jnz.head 0) jdI rec K) = jhS n K rec v := by kernel_rfl
noncomputable def jqQ (n : Nat) (K : Cont) (m : Nat) (v : Sig.sem jdI) : Option Res := jjX n (fun z0 => K .rt (juY.enc ((z0, ()), ()))) (fun _ => K (.ex 0) (jpB.enc ((), ()))) v.1.1 v.1.2.1 m v.1.2.2.1
theorem i_z12_0 (n : Nat) (K : Cont) : ∀ m v, iter (jhS n K) m v = jqQ n K m v := by
  intro m
  induction m with
  | zero => intro v; rfl
  | succ m ih =>
    intro v
    show jhS n K (iter (jhS n K) m) v = jhS n K (jqQ n K m) v
    rw [show iter (jhS n K) m = jqQ n K m from funext ih]
theorem o_z12_0 (n : Nat) : ∀ L, jtN n 0 = some L → ∀ s K r, L s K = some r → ∃ x s', jbj (run PP jmL Tryz.f17.ntmps 0 n jnz none jwq) (gc 0 (jnz.head 0)) n s = some (x, s') ∧ K x s' = some r := by
  intro L hL s K r h
  have hL : some (jaz 0 (jnz.head 0) jdI fun K v => jqQ n K n v) = some L := hL
  cases hL
  have hb : LOk PP jmL Tryz.f17.ntmps 0 n jnz (jtN n) jwq := ⟨⟨tT, tT, tT⟩, ⟨tT, ⟨tT, tT⟩, tT⟩, tT⟩
  refine jaE hb (jhS n) (t_z12_0 n) n s K r ?_
  rw [← h]
  unfold jaz
  simp only [i_z12_0]
theorem m_z12 (n : Nat) (a : EK.sems jIq) (b : HK.sems jGf) : jaH PP jmL jnz (jtN n) Tryz.f17 (jae Tryz.f17) (EK.encs jIq a) (HK.encs jGf b) = jOh n a.1 a.2.1 := by kernel_rfl
theorem g_z12 (n : Nat) (a : EK.sems jIq) (b : HK.sems jGf) {r : Res} (h : jOh n a.1 a.2.1 = some r) : runF PP jmL n jnz 17 (EK.encs jIq a) (HK.encs jGf b) = some r :=
  jaf PP Tryz.func17 (show Tryz.f17.body = some (jae Tryz.f17) from rfl) (show (2 : Nat) ≤ 26 by decide) (show LOk PP jmL _ 0 n _ (jtN n) _ from ⟨tT, ⟨tT, ⟨tT, tT⟩, tT⟩, ⟨tT, (o_z12_0 n)⟩, tT, tT⟩) ((m_z12 n a b).trans h) rfl (by kernel_rfl)
noncomputable def c_z12 : Spec := jaG jIq jGf jsF jsV fun a b => jJI a.1 a.2.1
theorem k_z12 (hm : Tryz.prog.follows .mixedOrders = true) : jar PP 17 c_z12 := jaj (pol := jnz) hm (cf := jmL) (jav jah) fun a b r h => ⟨FUEL, g_z12 FUEL a b (jad h)⟩
def s_z13_r : Sig := ⟨[2], [.ty (.int .i64)], [.one false [.ptr 1 0 0, .hs 3 0, .ptr 4 0 0, .ty (.int .i64)], .one false [.hs 2 0], .row (.int .u8), .row jaq, .one false [.hs 5 0], .row (.int .u8)]⟩
def p_z13 : Pol := ⟨fun i => none, fun i => none, some [(2, .keep)], [.keep], []⟩
def jIp : List EK := [.ptr 0 0 0]
def jGe : List HK := [.one false [.ptr 1 0 0, .hs 3 0, .ptr 4 0 0, .ty (.int .i64)], .one false [.hs 2 0], .row (.int .u8), .row jaq, .one false [.hs 5 0], .row (.int .u8)]
noncomputable def jAc : CallF := mkCF [] []
noncomputable def jQi (n : Nat) : jaF := fun i =>  none
theorem m_z13 (n : Nat) (a : EK.sems jIp) (b : HK.sems jGe) : jaH PP jAc p_z13 (jQi n) Tryz.f19 (jae Tryz.f19) (EK.encs jIp a) (HK.encs jGe b) = M_z13 n b.1.2.1 b.1.2.2.2.1 b.2.1.1 b.2.2.1 b.2.2.2.1 b.2.2.2.2.1.1 b.2.2.2.2.2.1 := by kernel_rfl
theorem g_z13 (n : Nat) (a : EK.sems jIp) (b : HK.sems jGe) {r : Res} (h : M_z13 n b.1.2.1 b.1.2.2.2.1 b.2.1.1 b.2.2.1 b.2.2.2.1 b.2.2.2.2.1.1 b.2.2.2.2.2.1 = some r) : runF PP jAc n p_z13 19 (EK.encs jIp a) (HK.encs jGe b) = some r :=
  jaf PP Tryz.func19 (show Tryz.f19.body = some (jae Tryz.f19) from rfl) (show (1 : Nat) ≤ 9 by decide) (show LOk PP jAc _ 6 n _ (jQi n) _ from ⟨tT, ⟨tT, ⟨tT, tT⟩, tT⟩, tT, tT⟩) ((m_z13 n a b).trans h) rfl (by kernel_rfl)
noncomputable def c_z13 : Spec := jaG jIp jGe jDd jDJ fun a b => jMU b.1.2.1 b.1.2.2.2.1 b.2.1.1 b.2.2.1 b.2.2.2.1 b.2.2.2.2.1.1 b.2.2.2.2.2.1
theorem k_z13 (hm : Tryz.prog.follows .mixedOrders = true) : jar PP 19 c_z13 := jaj (pol := p_z13) hm (cf := jAc) (jav jah) fun a b r h => ⟨FUEL, g_z13 FUEL a b (jad h)⟩
def s_z14_r : Sig := ⟨[6], [.ptr 0 0 0], [.cell jaT]⟩
def p_z14 : Pol := ⟨fun i => none, fun i => none, some [(6, (.own jaT))], [.keep], []⟩
def jIo : List EK := [.ty (.int .i64), .ty (.int .i64), .ty (.int .i64)]
def jGd : List HK := []
noncomputable def jAb : CallF := mkCF [] []
noncomputable def jQh (n : Nat) : jaF := fun i =>  none
theorem m_z14 (n : Nat) (a : EK.sems jIo) (b : HK.sems jGd) : jaH PP jAb p_z14 (jQh n) Tryz.f21 (jae Tryz.f21) (EK.encs jIo a) (HK.encs jGd b) = M_z14 n a.1 a.2.1 a.2.2.1 := by kernel_rfl
theorem g_z14 (n : Nat) (a : EK.sems jIo) (b : HK.sems jGd) {r : Res} (h : M_z14 n a.1 a.2.1 a.2.2.1 = some r) : runF PP jAb n p_z14 21 (EK.encs jIo a) (HK.encs jGd b) = some r :=
  jaf PP Tryz.func21 (show Tryz.f21.body = some (jae Tryz.f21) from rfl) (show (3 : Nat) ≤ 11 by decide) (show LOk PP jAb _ 0 n _ (jQh n) _ from ⟨tT, tT, tT⟩) ((m_z14 n a b).trans h) rfl (by kernel_rfl)
noncomputable def c_z14 : Spec := jaG jIo jGd jDc jDI fun a b => Q_z14 a.1 a.2.1 a.2.2.1
theorem k_z14 (hm : Tryz.prog.follows .mixedOrders = true) : jar PP 21 c_z14 := jaj (pol := p_z14) hm (cf := jAb) (jav jah) fun a b r h => ⟨FUEL, g_z14 FUEL a b (jad h)⟩
def juX : Sig := ⟨[4, 5, 6], [.ptr 1 0 0, .ty (.int .i64), .ty (.int .i64)], [.one false [.ptr 1 0 0, .hs 3 0, .ptr 4 0 0, .ty (.int .i64)], .one false [.hs 2 0], .row (.int .u8), .row jaq, .one false [.hs 5 0], .row (.int .u8)]⟩
def s_z15_r1 : Sig := ⟨[4, 5, 6], [.ptr 4 0 0, .ty (.int .i64), .ty (.int .i64)], [.one false [.ptr 1 0 0, .hs 3 0, .ptr 4 0 0, .ty (.int .i64)], .one false [.hs 2 0], .row (.int .u8), .row jaq, .one false [.hs 5 0], .row (.int .u8)]⟩
def jdH : Sig := ⟨[0, 3, 32, 33, 34], [.ptr 0 0 0, .ptr 6 0 0, .hs 3 0, .ty (.int .i64), .ty (.int .i64)], [.one false [.ptr 1 0 0, .hs 3 0, .ptr 4 0 0, .ty (.int .i64)], .one false [.hs 2 0], .row (.int .u8), .row jaq, .one false [.hs 5 0], .row (.int .u8), .cell jaT]⟩
def jpA : Sig := ⟨[], [], [.one false [.ptr 1 0 0, .hs 3 0, .ptr 4 0 0, .ty (.int .i64)], .one false [.hs 2 0], .row (.int .u8), .row jaq, .one false [.hs 5 0], .row (.int .u8)]⟩
def s_z15_r2 : Sig := ⟨[4, 5, 6], [.nul 0, .ty (.int .i64), .ty (.int .i64)], [.one false [.ptr 1 0 0, .hs 3 0, .ptr 4 0 0, .ty (.int .i64)], .one false [.hs 2 0], .row (.int .u8), .row jaq, .one false [.hs 5 0], .row (.int .u8)]⟩
def jny : Pol := ⟨fun i => if i = 1 then some [(0, .keep), (3, (.own jaT)), (32, (.own jaq)), (33, .keep), (34, .keep)] else none, fun i => if i = 1 then some [] else none, some [(4, .keep), (5, .keep), (6, .keep)], [.keep, .keep, .keep], []⟩
def jIn : List EK := [.ptr 0 0 0, .agg jaT]
def jGc : List HK := [.one false [.ptr 1 0 0, .hs 3 0, .ptr 4 0 0, .ty (.int .i64)], .one false [.hs 2 0], .row (.int .u8), .row jaq, .one false [.hs 5 0], .row (.int .u8)]
noncomputable def jmK : CallF := mkCF [] []
noncomputable def jtM (n : Nat) : jaF := fun i => if i = 1 then some (jaz 6 (jny.head 1) jdH fun K v => jjW n (fun z0 z1 => K .rt (juX.enc (((), (z0, (z1, ()))), (((), (v.2.1.2.1, ((), (v.2.1.2.2.2.1, ())))), ((v.2.2.1.1, ()), (v.2.2.2.1, (v.2.2.2.2.1, ((v.2.2.2.2.2.1.1, ()), (v.2.2.2.2.2.2.1, ()))))))))) (fun _ => K (.ex 1) (jpA.enc ((), (((), (v.2.1.2.1, ((), (v.2.1.2.2.2.1, ())))), ((v.2.2.1.1, ()), (v.2.2.2.1, (v.2.2.2.2.1, ((v.2.2.2.2.2.1.1, ()), (v.2.2.2.2.2.2.1, ()))))))))) v.1.2.2.1 v.1.2.2.2.1 v.2.2.2.2.1 v.2.2.2.2.2.2.2.1 n v.1.2.2.2.2.1)
  else  none
noncomputable def jwp : Code := jaR (jae Tryz.f32) [1, 1, 0, 1, 0, 1, 1, 1, 1, 1, 0, 1, 0, 0]
noncomputable def jhR (n : Nat) (K : Cont) (rec : Sig.sem jdH → Option Res) (v : Sig.sem jdH) : Option Res := jrX n (fun z0 z1 => K .rt (juX.enc (((), (z0, (z1, ()))), (((), (v.2.1.2.1, ((), (v.2.1.2.2.2.1, ())))), ((v.2.2.1.1, ()), (v.2.2.2.1, (v.2.2.2.2.1, ((v.2.2.2.2.2.1.1, ()), (v.2.2.2.2.2.2.1, ()))))))))) (fun _ => K (.ex 1) (jpA.enc ((), (((), (v.2.1.2.1, ((), (v.2.1.2.2.2.1, ())))), ((v.2.2.1.1, ()), (v.2.2.2.1, (v.2.2.2.2.1, ((v.2.2.2.2.2.1.1, ()), (v.2.2.2.2.2.2.1, ()))))))))) v.1.2.2.1 v.1.2.2.2.1 v.2.2.2.2.1 v.2.2.2.2.2.2.2.1 (fun z2 => rec (((), ((), (v.1.2.2.1, (v.1.2.2.2.1, (z2, ()))))), (((), (v.2.1.2.1, ((), (v.2.1.2.2.2.1, ())))), ((v.2.2.1.1, ()), (v.2.2.2.1, (v.2.2.2.2.1, ((v.2.2.2.2.2.1.1, ()), (v.2.2.2.2.2.2.1, (v.2.2.2.2.2.2.2.1, ()))))))))) v.1.2.2.2.2.1
theorem t_z15_1 (n : Nat) (K : Cont) (rec : Sig.sem jdH → Option Res) (v : Sig.sem jdH) : runT PP jmK Tryz.f32.ntmps 6 jny (jtM n) jwp (jdH.enc v) (jbp 6 (jny.head 1) jdH rec K) = jhR n K rec v := by kernel_rfl
noncomputable def jqP (n : Nat) (K : Cont) (m : Nat) (v : Sig.sem jdH) : Option Res := jjW n (fun z0 z1 => K .rt (juX.enc (((), (z0, (z1, ()))), (((), (v.2.1.2.1, ((), (v.2.1.2.2.2.1, ())))), ((v.2.2.1.1, ()), (v.2.2.2.1, (v.2.2.2.2.1, ((v.2.2.2.2.2.1.1, ()), (v.2.2.2.2.2.2.1, ()))))))))) (fun _ => K (.ex 1) (jpA.enc ((), (((), (v.2.1.2.1, ((), (v.2.1.2.2.2.1, ())))), ((v.2.2.1.1, ()), (v.2.2.2.1, (v.2.2.2.2.1, ((v.2.2.2.2.2.1.1, ()), (v.2.2.2.2.2.2.1, ()))))))))) v.1.2.2.1 v.1.2.2.2.1 v.2.2.2.2.1 v.2.2.2.2.2.2.2.1 m v.1.2.2.2.2.1
theorem i_z15_1 (n : Nat) (K : Cont) : ∀ m v, iter (jhR n K) m v = jqP n K m v := by
  intro m
  induction m with
  | zero => intro v; rfl
  | succ m ih =>
    intro v
    show jhR n K (iter (jhR n K) m) v = jhR n K (jqP n K m) v
    rw [show iter (jhR n K) m = jqP n K m from funext ih]
theorem o_z15_1 (n : Nat) : ∀ L, jtM n 1 = some L → ∀ s K r, L s K = some r → ∃ x s', jbj (run PP jmK Tryz.f32.ntmps 6 n jny none jwp) (gc 6 (jny.head 1)) n s = some (x, s') ∧ K x s' = some r := by
  intro L hL s K r h
  have hL : some (jaz 6 (jny.head 1) jdH fun K v => jqP n K n v) = some L := hL
  cases hL
  have hb : LOk PP jmK Tryz.f32.ntmps 6 n jny (jtM n) jwp := ⟨tT, ⟨tT, tT⟩, ⟨tT, tT, ⟨tT, tT⟩, tT⟩, tT⟩
  refine jaE hb (jhR n) (t_z15_1 n) n s K r ?_
  rw [← h]
  unfold jaz
  simp only [i_z15_1]
theorem m_z15 (n : Nat) (a : EK.sems jIn) (b : HK.sems jGc) : jaH PP jmK jny (jtM n) Tryz.f32 (jae Tryz.f32) (EK.encs jIn a) (HK.encs jGc b) = jwO n a.2.1 b.1.2.1 b.1.2.2.2.1 b.2.1.1 b.2.2.1 b.2.2.2.1 b.2.2.2.2.1.1 b.2.2.2.2.2.1 := by kernel_rfl
theorem g_z15 (n : Nat) (a : EK.sems jIn) (b : HK.sems jGc) {r : Res} (h : jwO n a.2.1 b.1.2.1 b.1.2.2.2.1 b.2.1.1 b.2.2.1 b.2.2.2.1 b.2.2.2.2.1.1 b.2.2.2.2.2.1 = some r) : runF PP jmK n jny 32 (EK.encs jIn a) (HK.encs jGc b) = some r :=
  jaf PP Tryz.func32 (show Tryz.f32.body = some (jae Tryz.f32) from rfl) (show (2 : Nat) ≤ 51 by decide) (show LOk PP jmK _ 6 n _ (jtM n) _ from ⟨tT, ⟨tT, ⟨tT, tT⟩, tT⟩, ⟨tT, tT, ⟨tT, tT⟩, tT, ⟨tT, tT⟩, tT, ⟨tT, (o_z15_1 n)⟩, tT⟩, tT, tT⟩) ((m_z15 n a b).trans h) rfl (by kernel_rfl)
noncomputable def jLN : Spec := jfl jIn jGc fun a b => (jdZ jlu jeF (jus a.2.1 b.1.2.1 b.1.2.2.2.1 b.2.1.1 b.2.2.1 b.2.2.2.1 b.2.2.2.2.1.1 b.2.2.2.2.2.1) (jdZ jgj jgn (jju a.2.1 b.1.2.1 b.1.2.2.2.1 b.2.1.1 b.2.2.1 b.2.2.2.1 b.2.2.2.2.1.1 b.2.2.2.2.2.1) (jdZ jeS jeV (jrj a.2.1 b.1.2.1 b.1.2.2.2.1 b.2.1.1 b.2.2.1 b.2.2.2.1 b.2.2.2.2.1.1 b.2.2.2.2.2.1) .no)))
theorem k_z15 (hm : Tryz.prog.follows .mixedOrders = true) : jar PP 32 jLN := jbZ (pol := jny) hm (cf := jmK) (jav jah) fun a b r => (fun h => (jaX h).elim (fun ⟨x, hx, e⟩ => ⟨FUEL, e ▸ g_z15 FUEL a b (jad hx)⟩) (fun h => (jaX h).elim (fun ⟨x, hx, e⟩ => ⟨FUEL, e ▸ g_z15 FUEL a b (jad hx)⟩) (fun h => (jaX h).elim (fun ⟨x, hx, e⟩ => ⟨FUEL, e ▸ g_z15 FUEL a b (jad hx)⟩) (fun h => by cases h))))
def s_z16_r : Sig := ⟨[4], [.ty (.int .i64)], []⟩
def p_z16 : Pol := ⟨fun i => none, fun i => none, some [(4, .keep)], [.keep], []⟩
def jIm : List EK := [.ty (.int .i64), .ty (.int .i64)]
def jGb : List HK := []
noncomputable def jAa : CallF := mkCF [] []
noncomputable def jQg (n : Nat) : jaF := fun i =>  none
theorem m_z16 (n : Nat) (a : EK.sems jIm) (b : HK.sems jGb) : jaH PP jAa p_z16 (jQg n) Tryz.f34 (jae Tryz.f34) (EK.encs jIm a) (HK.encs jGb b) = jOg n a.1 a.2.1 := by kernel_rfl
theorem g_z16 (n : Nat) (a : EK.sems jIm) (b : HK.sems jGb) {r : Res} (h : jOg n a.1 a.2.1 = some r) : runF PP jAa n p_z16 34 (EK.encs jIm a) (HK.encs jGb b) = some r :=
  jaf PP Tryz.func34 (show Tryz.f34.body = some (jae Tryz.f34) from rfl) (show (2 : Nat) ≤ 12 by decide) (show LOk PP jAa _ 0 n _ (jQg n) _ from ⟨tT, ⟨tT, ⟨tT, tT⟩, tT⟩, tT, tT⟩) ((m_z16 n a b).trans h) rfl (by kernel_rfl)
noncomputable def c_z16 : Spec := jaG jIm jGb jxy jyc fun a b => jCb a.1 a.2.1
theorem k_z16 (hm : Tryz.prog.follows .mixedOrders = true) : jar PP 34 c_z16 := jaj (pol := p_z16) hm (cf := jAa) (jav jah) fun a b r h => ⟨FUEL, g_z16 FUEL a b (jad h)⟩
def s_z17_r : Sig := ⟨[6, 7], [.ptr 0 0 0, .ty (.int .i64)], [.cell jaL]⟩
def p_z17 : Pol := ⟨fun i => none, fun i => none, some [(6, (.own jaL)), (7, .keep)], [.keep, .keep], []⟩
def jIl : List EK := [.nul 0, .ty (.int .i64), .ty (.int .i64)]
def jGa : List HK := []
noncomputable def jzZ : CallF := mkCF [] []
noncomputable def jQf (n : Nat) : jaF := fun i =>  none
theorem m_z17 (n : Nat) (a : EK.sems jIl) (b : HK.sems jGa) : jaH PP jzZ p_z17 (jQf n) Tryz.f47 (jae Tryz.f47) (EK.encs jIl a) (HK.encs jGa b) = M_z17 n a.2.1 a.2.2.1 := by kernel_rfl
theorem g_z17 (n : Nat) (a : EK.sems jIl) (b : HK.sems jGa) {r : Res} (h : M_z17 n a.2.1 a.2.2.1 = some r) : runF PP jzZ n p_z17 47 (EK.encs jIl a) (HK.encs jGa b) = some r :=
  jaf PP Tryz.func47 (show Tryz.f47.body = some (jae Tryz.f47) from rfl) (show (3 : Nat) ≤ 30 by decide) (show LOk PP jzZ _ 0 n _ (jQf n) _ from ⟨tT, ⟨tT, ⟨tT, tT⟩, tT⟩, tT, tT, tT⟩) ((m_z17 n a b).trans h) rfl (by kernel_rfl)
noncomputable def c_z17 : Spec := jaG jIl jGa jDb jDH fun a b => Q_z17 a.2.1 a.2.2.1
theorem k_z17 (hm : Tryz.prog.follows .mixedOrders = true) : jar PP 47 c_z17 := jaj (pol := p_z17) hm (cf := jzZ) (jav jah) fun a b r h => ⟨FUEL, g_z17 FUEL a b (jad h)⟩
def s_z18_r : Sig := ⟨[6, 7], [.hs 1 0, .ty (.int .i64)], [.one false [.hs 1 0], .row (.int .u8)]⟩
def s_z18_r1 : Sig := ⟨[6, 7], [.hv 1, .ty (.int .i64)], [.one false [.hs 1 0], .row (.int .u8)]⟩
def p_z18 : Pol := ⟨fun i => none, fun i => none, some [(6, (.own (.int .u8))), (7, .keep)], [(.own (.int .u8)), .keep], []⟩
def jIk : List EK := [.ptr 0 0 0, .ty (.int .i64), .ty (.int .i64)]
def jFZ : List HK := [.one false [.hs 1 0], .row (.int .u8)]
noncomputable def jzY : CallF := mkCF [] []
noncomputable def jQe (n : Nat) : jaF := fun i =>  none
theorem m_z18 (n : Nat) (a : EK.sems jIk) (b : HK.sems jFZ) : jaH PP jzY p_z18 (jQe n) Tryz.f58 (jae Tryz.f58) (EK.encs jIk a) (HK.encs jFZ b) = jwN n a.2.1 a.2.2.1 b.1.1 b.2.1 := by kernel_rfl
theorem g_z18 (n : Nat) (a : EK.sems jIk) (b : HK.sems jFZ) {r : Res} (h : jwN n a.2.1 a.2.2.1 b.1.1 b.2.1 = some r) : runF PP jzY n p_z18 58 (EK.encs jIk a) (HK.encs jFZ b) = some r :=
  jaf PP Tryz.func58 (show Tryz.f58.body = some (jae Tryz.f58) from rfl) (show (3 : Nat) ≤ 49 by decide) (show LOk PP jzY _ 2 n _ (jQe n) _ from ⟨tT, ⟨tT, ⟨tT, tT⟩, tT⟩, tT, tT, tT⟩) ((m_z18 n a b).trans h) rfl (by kernel_rfl)
noncomputable def c_z18 : Spec := jfl jIk jFZ fun a b => (jdZ jkq jlI (jCa a.2.1 a.2.2.1 b.1.1 b.2.1) (jdZ jgi jgm (jri a.2.1 a.2.2.1 b.1.1 b.2.1) .no))
theorem k_z18 (hm : Tryz.prog.follows .mixedOrders = true) : jar PP 58 c_z18 := jbZ (pol := p_z18) hm (cf := jzY) (jav jah) fun a b r => (fun h => (jaX h).elim (fun ⟨x, hx, e⟩ => ⟨FUEL, e ▸ g_z18 FUEL a b (jad hx)⟩) (fun h => (jaX h).elim (fun ⟨x, hx, e⟩ => ⟨FUEL, e ▸ g_z18 FUEL a b (jad hx)⟩) (fun h => by cases h)))
def s_z19_r : Sig := ⟨[6, 7], [.ptr 2 0 0, .ty (.int .i64)], [.one false [.hs 1 0], .row (.int .u8), .cell jaL]⟩
def p_z19 : Pol := ⟨fun i => none, fun i => none, some [(6, (.own jaL)), (7, .keep)], [.keep, .keep], []⟩
def jIj : List EK := [.ptr 0 0 0, .ty (.int .i64), .ty (.int .i64)]
def jFY : List HK := [.one false [.hs 1 0], .row (.int .u8)]
noncomputable def jzX : CallF := mkCF [(58, c_z18), (71, c_z0r)] [(71, [.str, (.int .i64), (.int .i64)])]
noncomputable def jQd (n : Nat) : jaF := fun i =>  none
theorem m_z19 (n : Nat) (a : EK.sems jIj) (b : HK.sems jFY) : jaH PP jzX p_z19 (jQd n) Tryz.f47 (jae Tryz.f47) (EK.encs jIj a) (HK.encs jFY b) = jOf n a.2.1 a.2.2.1 b.1.1 b.2.1 := by kernel_rfl
theorem g_z19 (n : Nat) (a : EK.sems jIj) (b : HK.sems jFY) {r : Res} (h : jOf n a.2.1 a.2.2.1 b.1.1 b.2.1 = some r) : runF PP jzX n p_z19 47 (EK.encs jIj a) (HK.encs jFY b) = some r :=
  jaf PP Tryz.func47 (show Tryz.f47.body = some (jae Tryz.f47) from rfl) (show (3 : Nat) ≤ 30 by decide) (show LOk PP jzX _ 2 n _ (jQd n) _ from ⟨tT, ⟨tT, ⟨tT, tT⟩, tT⟩, tT, tT, tT⟩) ((m_z19 n a b).trans h) rfl (by kernel_rfl)
noncomputable def c_z19 : Spec := jaG jIj jFY jxx jyb fun a b => jMT a.2.1 a.2.2.1 b.1.1 b.2.1
theorem k_z19 (hm : Tryz.prog.follows .mixedOrders = true) : jar PP 47 c_z19 := jaj (pol := p_z19) hm (cf := jzX) (jav (jab (k_z18 hm) (jab (k_z0r hm) jah))) fun a b r h => ⟨FUEL, g_z19 FUEL a b (jad h)⟩
def s_z1a_r : Sig := ⟨[4, 5], [.ptr 6 0 0, .ty (.int .i64)], [.one false [.ptr 1 0 0, .hs 3 0, .ptr 4 0 0, .ty (.int .i64)], .one false [.hs 2 0], .row (.int .u8), .row jaq, .one false [.hs 5 0], .row (.int .u8), .cell jaL]⟩
def p_z1a : Pol := ⟨fun i => none, fun i => none, some [(4, (.own jaL)), (5, .keep)], [.keep, .keep], []⟩
def jIi : List EK := [.ptr 0 0 0, .agg jaT]
def jFX : List HK := [.one false [.ptr 1 0 0, .hs 3 0, .ptr 4 0 0, .ty (.int .i64)], .one false [.hs 2 0], .row (.int .u8), .row jaq, .one false [.hs 5 0], .row (.int .u8)]
noncomputable def jzW : CallF := mkCF [(32, jLN), (34, c_z16), (47, (jon c_z17 c_z19))] [(34, [(.int .i64), (.int .i64)])]
noncomputable def jQc (n : Nat) : jaF := fun i =>  none
theorem m_z1a (n : Nat) (a : EK.sems jIi) (b : HK.sems jFX) : jaH PP jzW p_z1a (jQc n) Tryz.f20 (jae Tryz.f20) (EK.encs jIi a) (HK.encs jFX b) = jOe n a.2.1 b.1.2.1 b.1.2.2.2.1 b.2.1.1 b.2.2.1 b.2.2.2.1 b.2.2.2.2.1.1 b.2.2.2.2.2.1 := by kernel_rfl
theorem g_z1a (n : Nat) (a : EK.sems jIi) (b : HK.sems jFX) {r : Res} (h : jOe n a.2.1 b.1.2.1 b.1.2.2.2.1 b.2.1.1 b.2.2.1 b.2.2.2.1 b.2.2.2.2.1.1 b.2.2.2.2.2.1 = some r) : runF PP jzW n p_z1a 20 (EK.encs jIi a) (HK.encs jFX b) = some r :=
  jaf PP Tryz.func20 (show Tryz.f20.body = some (jae Tryz.f20) from rfl) (show (2 : Nat) ≤ 37 by decide) (show LOk PP jzW _ 6 n _ (jQc n) _ from ⟨tT, tT, ⟨tT, ⟨tT, tT⟩, tT⟩, tT, ⟨tT, ⟨tT, tT⟩, tT⟩, tT, tT⟩) ((m_z1a n a b).trans h) rfl (by kernel_rfl)
noncomputable def c_z1a : Spec := jaG jIi jFX jfw jfz fun a b => jMS a.2.1 b.1.2.1 b.1.2.2.2.1 b.2.1.1 b.2.2.1 b.2.2.2.1 b.2.2.2.2.1.1 b.2.2.2.2.2.1
theorem k_z1a (hm : Tryz.prog.follows .mixedOrders = true) : jar PP 20 c_z1a := jaj (pol := p_z1a) hm (cf := jzW) (jav (jab (k_z15 hm) (jab (k_z16 hm) (jab (jiH (k_z17 hm) (k_z19 hm)) jah)))) fun a b r h => ⟨FUEL, g_z1a FUEL a b (jad h)⟩
def s_z1b_r : Sig := ⟨[2], [.ty (.int .i64)], []⟩
def p_z1b : Pol := ⟨fun i => none, fun i => none, some [(2, .keep)], [.keep], []⟩
def jIh : List EK := [.nul 0]
def jFW : List HK := []
noncomputable def jzV : CallF := mkCF [] []
noncomputable def jQb (n : Nat) : jaF := fun i =>  none
theorem m_z1b (n : Nat) (a : EK.sems jIh) (b : HK.sems jFW) : jaH PP jzV p_z1b (jQb n) Tryz.f57 (jae Tryz.f57) (EK.encs jIh a) (HK.encs jFW b) = M_z1b n := by kernel_rfl
theorem g_z1b (n : Nat) (a : EK.sems jIh) (b : HK.sems jFW) {r : Res} (h : M_z1b n = some r) : runF PP jzV n p_z1b 57 (EK.encs jIh a) (HK.encs jFW b) = some r :=
  jaf PP Tryz.func57 (show Tryz.f57.body = some (jae Tryz.f57) from rfl) (show (1 : Nat) ≤ 10 by decide) (show LOk PP jzV _ 0 n _ (jQb n) _ from ⟨tT, ⟨tT, ⟨tT, tT⟩, tT⟩, tT, tT⟩) ((m_z1b n a b).trans h) rfl (by kernel_rfl)
noncomputable def c_z1b : Spec := jaG jIh jFW jsE jsU fun a b => Q_z1b
theorem k_z1b (hm : Tryz.prog.follows .mixedOrders = true) : jar PP 57 c_z1b := jaj (pol := p_z1b) hm (cf := jzV) (jav jah) fun a b r h => ⟨FUEL, g_z1b FUEL a b (jad h)⟩
def s_z1c_r : Sig := ⟨[6, 7], [.ty (.int .i64), .ty (.int .i64)], []⟩
def p_z1c : Pol := ⟨fun i => none, fun i => none, some [(6, .keep), (7, .keep)], [.keep, .keep], []⟩
def jIg : List EK := [.nul 0, .ty (.int .i64), .agg jaT]
def jFV : List HK := []
noncomputable def jzU : CallF := mkCF [(57, c_z1b)] []
noncomputable def jQa (n : Nat) : jaF := fun i =>  none
theorem m_z1c (n : Nat) (a : EK.sems jIg) (b : HK.sems jFV) : jaH PP jzU p_z1c (jQa n) Tryz.f65 (jae Tryz.f65) (EK.encs jIg a) (HK.encs jFV b) = M_z1c n a.2.1 a.2.2.1 := by kernel_rfl
theorem g_z1c (n : Nat) (a : EK.sems jIg) (b : HK.sems jFV) {r : Res} (h : M_z1c n a.2.1 a.2.2.1 = some r) : runF PP jzU n p_z1c 65 (EK.encs jIg a) (HK.encs jFV b) = some r :=
  jaf PP Tryz.func65 (show Tryz.f65.body = some (jae Tryz.f65) from rfl) (show (3 : Nat) ≤ 26 by decide) (show LOk PP jzU _ 0 n _ (jQa n) _ from ⟨tT, ⟨tT, ⟨tT, tT⟩, tT⟩, tT, tT⟩) ((m_z1c n a b).trans h) rfl (by kernel_rfl)
noncomputable def c_z1c : Spec := jaG jIg jFV jsD jsT fun a b => Q_z1c a.2.1 a.2.2.1
theorem k_z1c (hm : Tryz.prog.follows .mixedOrders = true) : jar PP 65 c_z1c := jaj (pol := p_z1c) hm (cf := jzU) (jav (jab (k_z1b hm) jah)) fun a b r h => ⟨FUEL, g_z1c FUEL a b (jad h)⟩
def s_z1d_r : Sig := ⟨[2], [.ty (.int .i64)], [.one false [.hs 1 0], .row (.int .u8)]⟩
def p_z1d : Pol := ⟨fun i => none, fun i => none, some [(2, .keep)], [.keep], []⟩
def jIf : List EK := [.ptr 0 0 0]
def jFU : List HK := [.one false [.hs 1 0], .row (.int .u8)]
noncomputable def jzT : CallF := mkCF [] []
noncomputable def jPZ (n : Nat) : jaF := fun i =>  none
theorem m_z1d (n : Nat) (a : EK.sems jIf) (b : HK.sems jFU) : jaH PP jzT p_z1d (jPZ n) Tryz.f57 (jae Tryz.f57) (EK.encs jIf a) (HK.encs jFU b) = M_z1d n b.1.1 b.2.1 := by kernel_rfl
theorem g_z1d (n : Nat) (a : EK.sems jIf) (b : HK.sems jFU) {r : Res} (h : M_z1d n b.1.1 b.2.1 = some r) : runF PP jzT n p_z1d 57 (EK.encs jIf a) (HK.encs jFU b) = some r :=
  jaf PP Tryz.func57 (show Tryz.f57.body = some (jae Tryz.f57) from rfl) (show (1 : Nat) ≤ 10 by decide) (show LOk PP jzT _ 2 n _ (jPZ n) _ from ⟨tT, ⟨tT, ⟨tT, tT⟩, tT⟩, tT, tT⟩) ((m_z1d n a b).trans h) rfl (by kernel_rfl)
noncomputable def c_z1d : Spec := jaG jIf jFU jDa jDG fun a b => jMR b.1.1 b.2.1
theorem k_z1d (hm : Tryz.prog.follows .mixedOrders = true) : jar PP 57 c_z1d := jaj (pol := p_z1d) hm (cf := jzT) (jav jah) fun a b r h => ⟨FUEL, g_z1d FUEL a b (jad h)⟩
def s_z1e_r : Sig := ⟨[6, 7], [.ty (.int .i64), .ty (.int .i64)], [.one false [.hs 1 0], .row (.int .u8)]⟩
def p_z1e : Pol := ⟨fun i => none, fun i => none, some [(6, .keep), (7, .keep)], [.keep, .keep], []⟩
def jIe : List EK := [.ptr 0 0 0, .ty (.int .i64), .agg jaT]
def jFT : List HK := [.one false [.hs 1 0], .row (.int .u8)]
noncomputable def jzS : CallF := mkCF [(57, c_z1d)] []
noncomputable def jPY (n : Nat) : jaF := fun i =>  none
theorem m_z1e (n : Nat) (a : EK.sems jIe) (b : HK.sems jFT) : jaH PP jzS p_z1e (jPY n) Tryz.f65 (jae Tryz.f65) (EK.encs jIe a) (HK.encs jFT b) = jOd n a.2.1 a.2.2.1 b.1.1 b.2.1 := by kernel_rfl
theorem g_z1e (n : Nat) (a : EK.sems jIe) (b : HK.sems jFT) {r : Res} (h : jOd n a.2.1 a.2.2.1 b.1.1 b.2.1 = some r) : runF PP jzS n p_z1e 65 (EK.encs jIe a) (HK.encs jFT b) = some r :=
  jaf PP Tryz.func65 (show Tryz.f65.body = some (jae Tryz.f65) from rfl) (show (3 : Nat) ≤ 26 by decide) (show LOk PP jzS _ 2 n _ (jPY n) _ from ⟨tT, ⟨tT, ⟨tT, tT⟩, tT⟩, tT, tT⟩) ((m_z1e n a b).trans h) rfl (by kernel_rfl)
noncomputable def c_z1e : Spec := jaG jIe jFT jsC jsS fun a b => jMQ a.2.1 a.2.2.1 b.1.1 b.2.1
theorem k_z1e (hm : Tryz.prog.follows .mixedOrders = true) : jar PP 65 c_z1e := jaj (pol := p_z1e) hm (cf := jzS) (jav (jab (k_z1d hm) jah)) fun a b r h => ⟨FUEL, g_z1e FUEL a b (jad h)⟩
def s_z1f_r : Sig := ⟨[4, 5], [.ty (.int .i64), .ty (.int .i64)], [.one false [.ptr 1 0 0, .hs 3 0, .ptr 4 0 0, .ty (.int .i64)], .one false [.hs 2 0], .row (.int .u8), .row jaq, .one false [.hs 5 0], .row (.int .u8)]⟩
def p_z1f : Pol := ⟨fun i => none, fun i => none, some [(4, .keep), (5, .keep)], [.keep, .keep], []⟩
def jId : List EK := [.ptr 0 0 0, .agg jaT]
def jFS : List HK := [.one false [.ptr 1 0 0, .hs 3 0, .ptr 4 0 0, .ty (.int .i64)], .one false [.hs 2 0], .row (.int .u8), .row jaq, .one false [.hs 5 0], .row (.int .u8)]
noncomputable def jzR : CallF := mkCF [(32, jLN), (65, (jon c_z1c c_z1e))] []
noncomputable def jPX (n : Nat) : jaF := fun i =>  none
theorem m_z1f (n : Nat) (a : EK.sems jId) (b : HK.sems jFS) : jaH PP jzR p_z1f (jPX n) Tryz.f39 (jae Tryz.f39) (EK.encs jId a) (HK.encs jFS b) = jOc n a.2.1 b.1.2.1 b.1.2.2.2.1 b.2.1.1 b.2.2.1 b.2.2.2.1 b.2.2.2.2.1.1 b.2.2.2.2.2.1 := by kernel_rfl
theorem g_z1f (n : Nat) (a : EK.sems jId) (b : HK.sems jFS) {r : Res} (h : jOc n a.2.1 b.1.2.1 b.1.2.2.2.1 b.2.1.1 b.2.2.1 b.2.2.2.1 b.2.2.2.2.1.1 b.2.2.2.2.2.1 = some r) : runF PP jzR n p_z1f 39 (EK.encs jId a) (HK.encs jFS b) = some r :=
  jaf PP Tryz.func39 (show Tryz.f39.body = some (jae Tryz.f39) from rfl) (show (2 : Nat) ≤ 25 by decide) (show LOk PP jzR _ 6 n _ (jPX n) _ from ⟨tT, tT, ⟨tT, ⟨tT, tT⟩, tT⟩, tT, tT⟩) ((m_z1f n a b).trans h) rfl (by kernel_rfl)
noncomputable def c_z1f : Spec := jaG jId jFS jkp jkr fun a b => jMP a.2.1 b.1.2.1 b.1.2.2.2.1 b.2.1.1 b.2.2.1 b.2.2.2.1 b.2.2.2.2.1.1 b.2.2.2.2.2.1
theorem k_z1f (hm : Tryz.prog.follows .mixedOrders = true) : jar PP 39 c_z1f := jaj (pol := p_z1f) hm (cf := jzR) (jav (jab (k_z15 hm) (jab (jiH (k_z1c hm) (k_z1e hm)) jah))) fun a b r h => ⟨FUEL, g_z1f FUEL a b (jad h)⟩
def s_z1g_r : Sig := ⟨[4, 5], [.ty (.int .i64), .ty (.int .i64)], [.one false [.ptr 1 0 0, .hs 3 0, .ptr 4 0 0, .ty (.int .i64)], .one false [.hs 2 0], .row (.int .u8), .row jaq, .one false [.hs 5 0], .row (.int .u8)]⟩
def p_z1g : Pol := ⟨fun i => none, fun i => none, some [(4, .keep), (5, .keep)], [.keep, .keep], []⟩
def jIc : List EK := [.ptr 0 0 0, .agg jaT]
def jFR : List HK := [.one false [.ptr 1 0 0, .hs 3 0, .ptr 4 0 0, .ty (.int .i64)], .one false [.hs 2 0], .row (.int .u8), .row jaq, .one false [.hs 5 0], .row (.int .u8)]
noncomputable def jzQ : CallF := mkCF [(39, c_z1f)] []
noncomputable def jPW (n : Nat) : jaF := fun i =>  none
theorem m_z1g (n : Nat) (a : EK.sems jIc) (b : HK.sems jFR) : jaH PP jzQ p_z1g (jPW n) Tryz.f35 (jae Tryz.f35) (EK.encs jIc a) (HK.encs jFR b) = jOb n a.2.1 b.1.2.1 b.1.2.2.2.1 b.2.1.1 b.2.2.1 b.2.2.2.1 b.2.2.2.2.1.1 b.2.2.2.2.2.1 := by kernel_rfl
theorem g_z1g (n : Nat) (a : EK.sems jIc) (b : HK.sems jFR) {r : Res} (h : jOb n a.2.1 b.1.2.1 b.1.2.2.2.1 b.2.1.1 b.2.2.1 b.2.2.2.1 b.2.2.2.2.1.1 b.2.2.2.2.2.1 = some r) : runF PP jzQ n p_z1g 35 (EK.encs jIc a) (HK.encs jFR b) = some r :=
  jaf PP Tryz.func35 (show Tryz.f35.body = some (jae Tryz.f35) from rfl) (show (2 : Nat) ≤ 18 by decide) (show LOk PP jzQ _ 6 n _ (jPW n) _ from ⟨tT, ⟨tT, ⟨tT, tT⟩, tT⟩, tT, tT⟩) ((m_z1g n a b).trans h) rfl (by kernel_rfl)
noncomputable def jLM : Spec := jaG jIc jFR jxw jya fun a b => jMO a.2.1 b.1.2.1 b.1.2.2.2.1 b.2.1.1 b.2.2.1 b.2.2.2.1 b.2.2.2.2.1.1 b.2.2.2.2.2.1
theorem k_z1g (hm : Tryz.prog.follows .mixedOrders = true) : jar PP 35 jLM := jaj (pol := p_z1g) hm (cf := jzQ) (jav (jab (k_z1f hm) jah)) fun a b r h => ⟨FUEL, g_z1g FUEL a b (jad h)⟩
def s_z1h_r : Sig := ⟨[6], [.ty (.int .i64)], [.one false [.hs 1 0], .row (.int .u8)]⟩
def p_z1h : Pol := ⟨fun i => none, fun i => none, some [(6, .keep)], [.keep], []⟩
def jIb : List EK := [.ptr 0 0 0, .ty (.int .i64), .ty (.int .i64)]
def jFQ : List HK := [.one false [.hs 1 0], .row (.int .u8)]
noncomputable def jzP : CallF := mkCF [] []
noncomputable def jPV (n : Nat) : jaF := fun i =>  none
theorem m_z1h (n : Nat) (a : EK.sems jIb) (b : HK.sems jFQ) : jaH PP jzP p_z1h (jPV n) Tryz.f60 (jae Tryz.f60) (EK.encs jIb a) (HK.encs jFQ b) = jCo n a.2.1 a.2.2.1 b.1.1 b.2.1 := by kernel_rfl
theorem g_z1h (n : Nat) (a : EK.sems jIb) (b : HK.sems jFQ) {r : Res} (h : jCo n a.2.1 a.2.2.1 b.1.1 b.2.1 = some r) : runF PP jzP n p_z1h 60 (EK.encs jIb a) (HK.encs jFQ b) = some r :=
  jaf PP Tryz.func60 (show Tryz.f60.body = some (jae Tryz.f60) from rfl) (show (3 : Nat) ≤ 36 by decide) (show LOk PP jzP _ 2 n _ (jPV n) _ from ⟨tT, ⟨tT, ⟨tT, tT⟩, tT, ⟨tT, tT⟩, tT, ⟨tT, tT⟩, tT⟩, tT, tT⟩) ((m_z1h n a b).trans h) rfl (by kernel_rfl)
noncomputable def jLL : Spec := jaG jIb jFQ jlt jlH fun a b => jBZ a.2.1 a.2.2.1 b.1.1 b.2.1
theorem k_z1h (hm : Tryz.prog.follows .mixedOrders = true) : jar PP 60 jLL := jaj (pol := p_z1h) hm (cf := jzP) (jav jah) fun a b r h => ⟨FUEL, g_z1h FUEL a b (jad h)⟩
def s_z1i_r : Sig := ⟨[6], [.ty (.int .i64)], [.one false [.hs 1 0], .row (.int .u8)]⟩
def s_z1i_r1 : Sig := ⟨[6], [.ty (.int .i64)], [.one false [.hs 2 0], .row (.int .u8), .row (.int .u8)]⟩
def p_z1i : Pol := ⟨fun i => none, fun i => none, some [(6, .keep)], [.keep], []⟩
def jIa : List EK := [.ptr 0 0 0, .ty (.int .i64), .ty (.int .i64)]
def jFP : List HK := [.one false [.hs 1 0], .row (.int .u8)]
noncomputable def jzO : CallF := mkCF [(60, jLL)] []
noncomputable def jPU (n : Nat) : jaF := fun i =>  none
theorem m_z1i (n : Nat) (a : EK.sems jIa) (b : HK.sems jFP) : jaH PP jzO p_z1i (jPU n) Tryz.f36 (jae Tryz.f36) (EK.encs jIa a) (HK.encs jFP b) = jjw n a.2.1 a.2.2.1 b.1.1 b.2.1 := by kernel_rfl
theorem g_z1i (n : Nat) (a : EK.sems jIa) (b : HK.sems jFP) {r : Res} (h : jjw n a.2.1 a.2.2.1 b.1.1 b.2.1 = some r) : runF PP jzO n p_z1i 36 (EK.encs jIa a) (HK.encs jFP b) = some r :=
  jaf PP Tryz.func36 (show Tryz.f36.body = some (jae Tryz.f36) from rfl) (show (3 : Nat) ≤ 47 by decide) (show LOk PP jzO _ 2 n _ (jPU n) _ from ⟨tT, ⟨tT, tT, ⟨tT, tT⟩, tT⟩, ⟨tT, ⟨tT, tT⟩, tT⟩, tT, tT, tT, tT⟩) ((m_z1i n a b).trans h) rfl (by kernel_rfl)
noncomputable def c_z1i : Spec := jfl jIa jFP fun a b => (jdZ jls jlG (jrh a.2.1 a.2.2.1 b.1.1 b.2.1) (jdZ jcB jcn (jrg a.2.1 a.2.2.1 b.1.1 b.2.1) .no))
theorem k_z1i (hm : Tryz.prog.follows .mixedOrders = true) : jar PP 36 c_z1i := jbZ (pol := p_z1i) hm (cf := jzO) (jav (jab (k_z1h hm) jah)) fun a b r => (fun h => (jaX h).elim (fun ⟨x, hx, e⟩ => ⟨FUEL, e ▸ g_z1i FUEL a b (jad hx)⟩) (fun h => (jaX h).elim (fun ⟨x, hx, e⟩ => ⟨FUEL, e ▸ g_z1i FUEL a b (jad hx)⟩) (fun h => by cases h)))
def jdG : Sig := ⟨[0, 1, 2, 11, 12, 13], [.ptr 0 0 0, .ty (.int .i64), .ty (.int .i64), .hs 3 0, .ty (.int .i64), .ty (.int .i64)], [.one false [.ptr 1 0 0, .hs 3 0, .ptr 4 0 0, .ty (.int .i64)], .one false [.hs 2 0], .row (.int .u8), .row jaq, .one false [.hs 5 0], .row (.int .u8)]⟩
def jpz : Sig := ⟨[], [], [.one false [.ptr 1 0 0, .hs 3 0, .ptr 4 0 0, .ty (.int .i64)], .one false [.hs 2 0], .row (.int .u8), .row jaq, .one false [.hs 5 0], .row (.int .u8)]⟩
def jnx : Pol := ⟨fun i => if i = 0 then some [(0, .keep), (1, .keep), (2, .keep), (11, (.own jaq)), (12, .keep), (13, .keep)] else none, fun i => if i = 0 then some [] else none, none, [], []⟩
def jHZ : List EK := [.ptr 0 0 0, .ty (.int .i64), .ty (.int .i64)]
def jFO : List HK := [.one false [.ptr 1 0 0, .hs 3 0, .ptr 4 0 0, .ty (.int .i64)], .one false [.hs 2 0], .row (.int .u8), .row jaq, .one false [.hs 5 0], .row (.int .u8)]
noncomputable def jmJ : CallF := mkCF [] []
noncomputable def jtL (n : Nat) : jaF := fun i => if i = 0 then some (jaz 6 (jnx.head 0) jdG fun K v => jjV n (fun z4 => K (.ex 0) (jpz.enc ((), (((), (v.2.1.2.1, ((), (v.2.1.2.2.2.1, ())))), ((v.2.2.1.1, ()), (v.2.2.2.1, (z4, ((v.2.2.2.2.2.1.1, ()), (v.2.2.2.2.2.2.1, ()))))))))) v.1.2.1 v.1.2.2.1 v.1.2.2.2.1 v.1.2.2.2.2.1 v.2.1.2.1 n v.1.2.2.2.2.2.1 v.2.2.2.2.1)
  else  none
noncomputable def jwo : Code := jaR (jae Tryz.f37) [1, 0, 0]
noncomputable def jhQ (n : Nat) (K : Cont) (rec : Sig.sem jdG → Option Res) (v : Sig.sem jdG) : Option Res := jrW n (fun z4 => K (.ex 0) (jpz.enc ((), (((), (v.2.1.2.1, ((), (v.2.1.2.2.2.1, ())))), ((v.2.2.1.1, ()), (v.2.2.2.1, (z4, ((v.2.2.2.2.2.1.1, ()), (v.2.2.2.2.2.2.1, ()))))))))) v.1.2.1 v.1.2.2.1 v.1.2.2.2.1 v.1.2.2.2.2.1 v.2.1.2.1 (fun z4 z9 => rec (((), (v.1.2.1, (v.1.2.2.1, (v.1.2.2.2.1, (v.1.2.2.2.2.1, (z4, ())))))), (((), (v.2.1.2.1, ((), (v.2.1.2.2.2.1, ())))), ((v.2.2.1.1, ()), (v.2.2.2.1, (z9, ((v.2.2.2.2.2.1.1, ()), (v.2.2.2.2.2.2.1, ())))))))) v.1.2.2.2.2.2.1 v.2.2.2.2.1
theorem t_z1j_0 (n : Nat) (K : Cont) (rec : Sig.sem jdG → Option Res) (v : Sig.sem jdG) : runT PP jmJ Tryz.f37.ntmps 6 jnx (jtL n) jwo (jdG.enc v) (jbp 6 (jnx.head 0) jdG rec K) = jhQ n K rec v := by kernel_rfl
noncomputable def jqO (n : Nat) (K : Cont) (m : Nat) (v : Sig.sem jdG) : Option Res := jjV n (fun z4 => K (.ex 0) (jpz.enc ((), (((), (v.2.1.2.1, ((), (v.2.1.2.2.2.1, ())))), ((v.2.2.1.1, ()), (v.2.2.2.1, (z4, ((v.2.2.2.2.2.1.1, ()), (v.2.2.2.2.2.2.1, ()))))))))) v.1.2.1 v.1.2.2.1 v.1.2.2.2.1 v.1.2.2.2.2.1 v.2.1.2.1 m v.1.2.2.2.2.2.1 v.2.2.2.2.1
theorem i_z1j_0 (n : Nat) (K : Cont) : ∀ m v, iter (jhQ n K) m v = jqO n K m v := by
  intro m
  induction m with
  | zero => intro v; rfl
  | succ m ih =>
    intro v
    show jhQ n K (iter (jhQ n K) m) v = jhQ n K (jqO n K m) v
    rw [show iter (jhQ n K) m = jqO n K m from funext ih]
theorem o_z1j_0 (n : Nat) : ∀ L, jtL n 0 = some L → ∀ s K r, L s K = some r → ∃ x s', jbj (run PP jmJ Tryz.f37.ntmps 6 n jnx none jwo) (gc 6 (jnx.head 0)) n s = some (x, s') ∧ K x s' = some r := by
  intro L hL s K r h
  have hL : some (jaz 6 (jnx.head 0) jdG fun K v => jqO n K n v) = some L := hL
  cases hL
  have hb : LOk PP jmJ Tryz.f37.ntmps 6 n jnx (jtL n) jwo := ⟨tT, ⟨tT, tT⟩, ⟨tT, tT, tT, tT⟩, tT⟩
  refine jaE hb (jhQ n) (t_z1j_0 n) n s K r ?_
  rw [← h]
  unfold jaz
  simp only [i_z1j_0]
theorem m_z1j (n : Nat) (a : EK.sems jHZ) (b : HK.sems jFO) : jaH PP jmJ jnx (jtL n) Tryz.f37 (jae Tryz.f37) (EK.encs jHZ a) (HK.encs jFO b) = jOa n a.2.1 a.2.2.1 b.1.2.1 b.1.2.2.2.1 b.2.1.1 b.2.2.1 b.2.2.2.1 b.2.2.2.2.1.1 b.2.2.2.2.2.1 := by kernel_rfl
theorem g_z1j (n : Nat) (a : EK.sems jHZ) (b : HK.sems jFO) {r : Res} (h : jOa n a.2.1 a.2.2.1 b.1.2.1 b.1.2.2.2.1 b.2.1.1 b.2.2.1 b.2.2.2.1 b.2.2.2.2.1.1 b.2.2.2.2.2.1 = some r) : runF PP jmJ n jnx 37 (EK.encs jHZ a) (HK.encs jFO b) = some r :=
  jaf PP Tryz.func37 (show Tryz.f37.body = some (jae Tryz.f37) from rfl) (show (3 : Nat) ≤ 35 by decide) (show LOk PP jmJ _ 6 n _ (jtL n) _ from ⟨tT, (o_z1j_0 n)⟩) ((m_z1j n a b).trans h) rfl (by kernel_rfl)
noncomputable def c_z1j : Spec := jaG jHZ jFO jxv jxZ fun a b => jMN a.2.1 a.2.2.1 b.1.2.1 b.1.2.2.2.1 b.2.1.1 b.2.2.1 b.2.2.2.1 b.2.2.2.2.1.1 b.2.2.2.2.2.1
theorem k_z1j (hm : Tryz.prog.follows .mixedOrders = true) : jar PP 37 c_z1j := jaj (pol := jnx) hm (cf := jmJ) (jav jah) fun a b r h => ⟨FUEL, g_z1j FUEL a b (jad h)⟩
def s_z1k_r : Sig := ⟨[6], [.ty (.int .i64)], [.one false [.ptr 1 0 0, .hs 3 0, .ptr 4 0 0, .ty (.int .i64)], .one false [.hs 2 0], .row (.int .u8), .row jaq, .one false [.hs 5 0], .row (.int .u8)]⟩
def s_z1k_r1 : Sig := ⟨[6], [.ty (.int .i64)], [.one false [.ptr 1 0 0, .hs 3 0, .ptr 4 0 0, .ty (.int .i64)], .one false [.hs 6 0], .row (.int .u8), .row jaq, .one false [.hs 5 0], .row (.int .u8), .row (.int .u8)]⟩
def p_z1k : Pol := ⟨fun i => none, fun i => none, some [(6, .keep)], [.keep], []⟩
def jHY : List EK := [.ptr 0 0 0, .agg jaT, .ty (.int .i64)]
def jFN : List HK := [.one false [.ptr 1 0 0, .hs 3 0, .ptr 4 0 0, .ty (.int .i64)], .one false [.hs 2 0], .row (.int .u8), .row jaq, .one false [.hs 5 0], .row (.int .u8)]
noncomputable def jzN : CallF := mkCF [(35, jLM), (36, c_z1i), (37, c_z1j)] []
noncomputable def jPT (n : Nat) : jaF := fun i =>  none
theorem m_z1k (n : Nat) (a : EK.sems jHY) (b : HK.sems jFN) : jaH PP jzN p_z1k (jPT n) Tryz.f13 (jae Tryz.f13) (EK.encs jHY a) (HK.encs jFN b) = jnK n a.2.1 a.2.2.1 b.1.2.1 b.1.2.2.2.1 b.2.1.1 b.2.2.1 b.2.2.2.1 b.2.2.2.2.1.1 b.2.2.2.2.2.1 := by kernel_rfl
theorem g_z1k (n : Nat) (a : EK.sems jHY) (b : HK.sems jFN) {r : Res} (h : jnK n a.2.1 a.2.2.1 b.1.2.1 b.1.2.2.2.1 b.2.1.1 b.2.2.1 b.2.2.2.1 b.2.2.2.2.1.1 b.2.2.2.2.2.1 = some r) : runF PP jzN n p_z1k 13 (EK.encs jHY a) (HK.encs jFN b) = some r :=
  jaf PP Tryz.func13 (show Tryz.f13.body = some (jae Tryz.f13) from rfl) (show (3 : Nat) ≤ 38 by decide) (show LOk PP jzN _ 6 n _ (jPT n) _ from ⟨tT, tT, ⟨tT, ⟨tT, tT⟩, tT, ⟨tT, tT⟩, tT, ⟨tT, tT⟩, tT⟩, tT, tT, tT⟩) ((m_z1k n a b).trans h) rfl (by kernel_rfl)
noncomputable def jLK : Spec := jfl jHY jFN fun a b => (jdZ jlr jlF (jwD a.2.1 a.2.2.1 b.1.2.1 b.1.2.2.2.1 b.2.1.1 b.2.2.1 b.2.2.2.1 b.2.2.2.2.1.1 b.2.2.2.2.2.1) (jdZ jgh jeU (jrf a.2.1 a.2.2.1 b.1.2.1 b.1.2.2.2.1 b.2.1.1 b.2.2.1 b.2.2.2.1 b.2.2.2.2.1.1 b.2.2.2.2.2.1) .no))
theorem k_z1k (hm : Tryz.prog.follows .mixedOrders = true) : jar PP 13 jLK := jbZ (pol := p_z1k) hm (cf := jzN) (jav (jab (k_z1g hm) (jab (k_z1i hm) (jab (k_z1j hm) jah)))) fun a b r => (fun h => (jaX h).elim (fun ⟨x, hx, e⟩ => ⟨FUEL, e ▸ g_z1k FUEL a b (jad hx)⟩) (fun h => (jaX h).elim (fun ⟨x, hx, e⟩ => ⟨FUEL, e ▸ g_z1k FUEL a b (jad hx)⟩) (fun h => by cases h)))
def s_z1l_r : Sig := ⟨[2], [.ty .str], [.one false [.ptr 1 0 0, .hs 3 0, .ptr 4 0 0, .ty (.int .i64)], .one false [.hs 2 0], .row (.int .u8), .row jaq, .one false [.hs 5 0], .row (.int .u8)]⟩
def p_z1l : Pol := ⟨fun i => none, fun i => none, some [(2, .keep)], [.keep], []⟩
def jHX : List EK := [.ptr 0 0 0]
def jFM : List HK := [.one false [.ptr 1 0 0, .hs 3 0, .ptr 4 0 0, .ty (.int .i64)], .one false [.hs 2 0], .row (.int .u8), .row jaq, .one false [.hs 5 0], .row (.int .u8)]
noncomputable def jzM : CallF := mkCF [(48, jLP)] []
noncomputable def jPS (n : Nat) : jaF := fun i =>  none
theorem m_z1l (n : Nat) (a : EK.sems jHX) (b : HK.sems jFM) : jaH PP jzM p_z1l (jPS n) Tryz.f22 (jae Tryz.f22) (EK.encs jHX a) (HK.encs jFM b) = jNZ n b.1.2.1 b.1.2.2.2.1 b.2.1.1 b.2.2.1 b.2.2.2.1 b.2.2.2.2.1.1 b.2.2.2.2.2.1 := by kernel_rfl
theorem g_z1l (n : Nat) (a : EK.sems jHX) (b : HK.sems jFM) {r : Res} (h : jNZ n b.1.2.1 b.1.2.2.2.1 b.2.1.1 b.2.2.1 b.2.2.2.1 b.2.2.2.2.1.1 b.2.2.2.2.2.1 = some r) : runF PP jzM n p_z1l 22 (EK.encs jHX a) (HK.encs jFM b) = some r :=
  jaf PP Tryz.func22 (show Tryz.f22.body = some (jae Tryz.f22) from rfl) (show (1 : Nat) ≤ 11 by decide) (show LOk PP jzM _ 6 n _ (jPS n) _ from ⟨tT, ⟨tT, ⟨tT, tT⟩, tT⟩, tT, tT⟩) ((m_z1l n a b).trans h) rfl (by kernel_rfl)
noncomputable def jLJ : Spec := jaG jHX jFM jCZ jDF fun a b => jMM b.1.2.1 b.1.2.2.2.1 b.2.1.1 b.2.2.1 b.2.2.2.1 b.2.2.2.2.1.1 b.2.2.2.2.2.1
theorem k_z1l (hm : Tryz.prog.follows .mixedOrders = true) : jar PP 22 jLJ := jaj (pol := p_z1l) hm (cf := jzM) (jav (jab (k_z03 hm) jah)) fun a b r h => ⟨FUEL, g_z1l FUEL a b (jad h)⟩
def s_z1m_r : Sig := ⟨[4], [.ptr 0 0 0], [.cell jaT]⟩
def p_z1m : Pol := ⟨fun i => none, fun i => none, some [(4, (.own jaT))], [.keep], []⟩
def jHW : List EK := [.ty (.int .i64), .ty (.int .i64)]
def jFL : List HK := []
noncomputable def jzL : CallF := mkCF [] []
noncomputable def jPR (n : Nat) : jaF := fun i =>  none
theorem m_z1m (n : Nat) (a : EK.sems jHW) (b : HK.sems jFL) : jaH PP jzL p_z1m (jPR n) Tryz.f24 (jae Tryz.f24) (EK.encs jHW a) (HK.encs jFL b) = M_z1m n a.1 a.2.1 := by kernel_rfl
theorem g_z1m (n : Nat) (a : EK.sems jHW) (b : HK.sems jFL) {r : Res} (h : M_z1m n a.1 a.2.1 = some r) : runF PP jzL n p_z1m 24 (EK.encs jHW a) (HK.encs jFL b) = some r :=
  jaf PP Tryz.func24 (show Tryz.f24.body = some (jae Tryz.f24) from rfl) (show (2 : Nat) ≤ 8 by decide) (show LOk PP jzL _ 0 n _ (jPR n) _ from ⟨tT, tT, tT⟩) ((m_z1m n a b).trans h) rfl (by kernel_rfl)
noncomputable def c_z1m : Spec := jaG jHW jFL jCY jDE fun a b => Q_z1m a.1 a.2.1
theorem k_z1m (hm : Tryz.prog.follows .mixedOrders = true) : jar PP 24 c_z1m := jaj (pol := p_z1m) hm (cf := jzL) (jav jah) fun a b r h => ⟨FUEL, g_z1m FUEL a b (jad h)⟩
def s_z1n_r : Sig := ⟨[6], [.ty (.int .i64)], [.one false [.hs 1 0], .row (.int .u8)]⟩
def p_z1n : Pol := ⟨fun i => none, fun i => none, some [(6, .keep)], [.keep], []⟩
def jHV : List EK := [.ptr 0 0 0, .ty (.int .i64), .ty (.int .i64)]
def jFK : List HK := [.one false [.hs 1 0], .row (.int .u8)]
noncomputable def jzK : CallF := mkCF [(60, jLL)] []
noncomputable def jPQ (n : Nat) : jaF := fun i =>  none
theorem m_z1n (n : Nat) (a : EK.sems jHV) (b : HK.sems jFK) : jaH PP jzK p_z1n (jPQ n) Tryz.f49 (jae Tryz.f49) (EK.encs jHV a) (HK.encs jFK b) = jCn n a.2.1 a.2.2.1 b.1.1 b.2.1 := by kernel_rfl
theorem g_z1n (n : Nat) (a : EK.sems jHV) (b : HK.sems jFK) {r : Res} (h : jCn n a.2.1 a.2.2.1 b.1.1 b.2.1 = some r) : runF PP jzK n p_z1n 49 (EK.encs jHV a) (HK.encs jFK b) = some r :=
  jaf PP Tryz.func49 (show Tryz.f49.body = some (jae Tryz.f49) from rfl) (show (3 : Nat) ≤ 40 by decide) (show LOk PP jzK _ 2 n _ (jPQ n) _ from ⟨tT, tT, ⟨tT, tT, tT⟩, tT, tT⟩) ((m_z1n n a b).trans h) rfl (by kernel_rfl)
noncomputable def c_z1n : Spec := jaG jHV jFK jxu jxY fun a b => jJH a.2.1 a.2.2.1 b.1.1 b.2.1
theorem k_z1n (hm : Tryz.prog.follows .mixedOrders = true) : jar PP 49 c_z1n := jaj (pol := p_z1n) hm (cf := jzK) (jav (jab (k_z1h hm) jah)) fun a b r h => ⟨FUEL, g_z1n FUEL a b (jad h)⟩
def s_z1o_r : Sig := ⟨[4], [.ty .bool], [.one true [.ty (.int .i64)], .one true [.ty (.int .i64)]]⟩
def p_z1o : Pol := ⟨fun i => none, fun i => none, some [(4, .keep)], [.keep], []⟩
def jHU : List EK := [.agg jaq, .ptr 0 0 0, .ptr 1 0 0]
def jFJ : List HK := [.one true [.ty (.int .i64)], .one true [.ty (.int .i64)]]
noncomputable def jzJ : CallF := mkCF [] []
noncomputable def jPP (n : Nat) : jaF := fun i =>  none
theorem m_z1o (n : Nat) (a : EK.sems jHU) (b : HK.sems jFJ) : jaH PP jzJ p_z1o (jPP n) Tryz.f51 (jae Tryz.f51) (EK.encs jHU a) (HK.encs jFJ b) = jNY n a.1 b.1.1 b.2.1.1 := by kernel_rfl
theorem g_z1o (n : Nat) (a : EK.sems jHU) (b : HK.sems jFJ) {r : Res} (h : jNY n a.1 b.1.1 b.2.1.1 = some r) : runF PP jzJ n p_z1o 51 (EK.encs jHU a) (HK.encs jFJ b) = some r :=
  jaf PP Tryz.func51 (show Tryz.f51.body = some (jae Tryz.f51) from rfl) (show (3 : Nat) ≤ 17 by decide) (show LOk PP jzJ _ 2 n _ (jPP n) _ from ⟨tT, tT, tT⟩) ((m_z1o n a b).trans h) rfl (by kernel_rfl)
noncomputable def c_z1o : Spec := jaG jHU jFJ jxt jxX fun a b => jML a.1 b.1.1 b.2.1.1
theorem k_z1o (hm : Tryz.prog.follows .mixedOrders = true) : jar PP 51 c_z1o := jaj (pol := p_z1o) hm (cf := jzJ) (jav jah) fun a b r h => ⟨FUEL, g_z1o FUEL a b (jad h)⟩
def jdF : Sig := ⟨[0, 1, 7, 8], [.ty (.slice jaq), .fn 51 [(0, 0, 0), (1, 0, 0)], .ty (.int .i64), .ty (.int .i64)], [.one true [.ty (.int .i64)], .one true [.ty (.int .i64)]]⟩
def juW : Sig := ⟨[4], [.ty (.int .i64)], [.one true [.ty (.int .i64)], .one true [.ty (.int .i64)]]⟩
def jpy : Sig := ⟨[], [], [.one true [.ty (.int .i64)], .one true [.ty (.int .i64)]]⟩
def jnw : Pol := ⟨fun i => if i = 0 then some [(0, .keep), (1, .keep), (7, .keep), (8, .keep)] else none, fun i => if i = 0 then some [] else none, some [(4, .keep)], [.keep], []⟩
def jHT : List EK := [.ty (.slice jaq), .fn 51 [(0, 0, 0), (1, 0, 0)]]
def jFI : List HK := [.one true [.ty (.int .i64)], .one true [.ty (.int .i64)]]
noncomputable def jmI : CallF := mkCF [(51, c_z1o)] []
noncomputable def jtK (n : Nat) : jaF := fun i => if i = 0 then some (jaz 2 (jnw.head 0) jdF fun K v => jfY n (fun z0 z1 z2 => K .rt (juW.enc ((z0, ()), ((z1, ()), ((z2, ()), ()))))) (fun z0 z1 => K (.ex 0) (jpy.enc ((), ((z0, ()), ((z1, ()), ()))))) v.1.1 v.1.2.2.1 n v.1.2.2.2.1 v.2.1.1 v.2.2.1.1)
  else  none
noncomputable def jwn : Code := jaR (jae Tryz.f72) [1, 0, 1, 0, 0]
noncomputable def jhP (n : Nat) (K : Cont) (rec : Sig.sem jdF → Option Res) (v : Sig.sem jdF) : Option Res := jrV n (fun z0 z1 z2 => K .rt (juW.enc ((z0, ()), ((z1, ()), ((z2, ()), ()))))) (fun z0 z1 => K (.ex 0) (jpy.enc ((), ((z0, ()), ((z1, ()), ()))))) v.1.1 v.1.2.2.1 (fun z2 z3 z4 => rec ((v.1.1, ((), (v.1.2.2.1, (z2, ())))), ((z3, ()), ((z4, ()), ())))) v.1.2.2.2.1 v.2.1.1 v.2.2.1.1
theorem t_z1p_0 (n : Nat) (K : Cont) (rec : Sig.sem jdF → Option Res) (v : Sig.sem jdF) : runT PP jmI Tryz.f72.ntmps 2 jnw (jtK n) jwn (jdF.enc v) (jbp 2 (jnw.head 0) jdF rec K) = jhP n K rec v := by kernel_rfl
noncomputable def jqN (n : Nat) (K : Cont) (m : Nat) (v : Sig.sem jdF) : Option Res := jfY n (fun z0 z1 z2 => K .rt (juW.enc ((z0, ()), ((z1, ()), ((z2, ()), ()))))) (fun z0 z1 => K (.ex 0) (jpy.enc ((), ((z0, ()), ((z1, ()), ()))))) v.1.1 v.1.2.2.1 m v.1.2.2.2.1 v.2.1.1 v.2.2.1.1
theorem i_z1p_0 (n : Nat) (K : Cont) : ∀ m v, iter (jhP n K) m v = jqN n K m v := by
  intro m
  induction m with
  | zero => intro v; rfl
  | succ m ih =>
    intro v
    show jhP n K (iter (jhP n K) m) v = jhP n K (jqN n K m) v
    rw [show iter (jhP n K) m = jqN n K m from funext ih]
theorem o_z1p_0 (n : Nat) : ∀ L, jtK n 0 = some L → ∀ s K r, L s K = some r → ∃ x s', jbj (run PP jmI Tryz.f72.ntmps 2 n jnw none jwn) (gc 2 (jnw.head 0)) n s = some (x, s') ∧ K x s' = some r := by
  intro L hL s K r h
  have hL : some (jaz 2 (jnw.head 0) jdF fun K v => jqN n K n v) = some L := hL
  cases hL
  have hb : LOk PP jmI Tryz.f72.ntmps 2 n jnw (jtK n) jwn := ⟨tT, ⟨tT, tT⟩, ⟨tT, tT, ⟨tT, tT⟩, tT⟩, tT⟩
  refine jaE hb (jhP n) (t_z1p_0 n) n s K r ?_
  rw [← h]
  unfold jaz
  simp only [i_z1p_0]
theorem m_z1p (n : Nat) (a : EK.sems jHT) (b : HK.sems jFI) : jaH PP jmI jnw (jtK n) Tryz.f72 (jae Tryz.f72) (EK.encs jHT a) (HK.encs jFI b) = M_z1p n a.1 b.1.1 b.2.1.1 := by kernel_rfl
theorem g_z1p (n : Nat) (a : EK.sems jHT) (b : HK.sems jFI) {r : Res} (h : M_z1p n a.1 b.1.1 b.2.1.1 = some r) : runF PP jmI n jnw 72 (EK.encs jHT a) (HK.encs jFI b) = some r :=
  jaf PP Tryz.func72 (show Tryz.f72.body = some (jae Tryz.f72) from rfl) (show (2 : Nat) ≤ 19 by decide) (show LOk PP jmI _ 2 n _ (jtK n) _ from ⟨tT, ⟨tT, (o_z1p_0 n)⟩, tT, tT⟩) ((m_z1p n a b).trans h) rfl (by kernel_rfl)
noncomputable def c_z1p : Spec := jaG jHT jFI jnZ jog fun a b => jJG a.1 b.1.1 b.2.1.1
theorem k_z1p (hm : Tryz.prog.follows .mixedOrders = true) : jar PP 72 c_z1p := jaj (pol := jnw) hm (cf := jmI) (jav (jab (k_z1o hm) jah)) fun a b r h => ⟨FUEL, g_z1p FUEL a b (jad h)⟩
def s_z1q_r : Sig := ⟨[4], [.hs 0 0], [.row jaq, .one true [.ty (.int .i64)], .one true [.ty (.int .i64)]]⟩
def jdE : Sig := ⟨[0, 1, 5, 6], [.hs 0 0, .fn 51 [(1, 0, 0), (2, 0, 0)], .ty (.int .i64), .ty (.int .i64)], [.row jaq, .one true [.ty (.int .i64)], .one true [.ty (.int .i64)]]⟩
def jpx : Sig := ⟨[0, 5], [.hs 0 0, .ty (.int .i64)], [.row jaq, .one true [.ty (.int .i64)], .one true [.ty (.int .i64)]]⟩
def jnv : Pol := ⟨fun i => if i = 0 then some [(0, (.own jaq)), (1, .keep), (5, .keep), (6, .keep)] else none, fun i => if i = 0 then some [(0, (.own jaq)), (5, .keep)] else none, some [(4, (.own jaq))], [(.own jaq)], []⟩
def jHS : List EK := [.hs 0 0, .fn 51 [(1, 0, 0), (2, 0, 0)]]
def jFH : List HK := [.row jaq, .one true [.ty (.int .i64)], .one true [.ty (.int .i64)]]
noncomputable def jmH : CallF := { (mkCF [(72, c_z1p), (51, c_z1o)] []) with mix := jLr [(72, [some ((.slice jaq)), none])] }
noncomputable def jtJ (n : Nat) : jaF := fun i => if i = 0 then some (jaz 3 (jnv.head 0) jdE fun K v => jfX n (fun z1 z2 z3 z4 => K (.ex 0) (jpx.enc ((v.1.1, (z1, ())), (z2, ((z3, ()), ((z4, ()), ())))))) v.1.1 n v.1.2.2.1 v.1.2.2.2.1 v.2.1 v.2.2.1.1 v.2.2.2.1.1)
  else  none
noncomputable def jwm : Code := jaR (jae Tryz.f50) [1, 1, 1, 0, 1, 0, 0]
noncomputable def jhO (n : Nat) (K : Cont) (rec : Sig.sem jdE → Option Res) (v : Sig.sem jdE) : Option Res := jrU n (fun z1 z2 z3 z4 => K (.ex 0) (jpx.enc ((v.1.1, (z1, ())), (z2, ((z3, ()), ((z4, ()), ())))))) v.1.1 (fun z1 z2 z3 z4 z5 => rec ((v.1.1, ((), (z1, (z2, ())))), (z3, ((z4, ()), ((z5, ()), ()))))) v.1.2.2.1 v.1.2.2.2.1 v.2.1 v.2.2.1.1 v.2.2.2.1.1
theorem t_z1q_0 (n : Nat) (K : Cont) (rec : Sig.sem jdE → Option Res) (v : Sig.sem jdE) : runT PP jmH Tryz.f50.ntmps 3 jnv (jtJ n) jwm (jdE.enc v) (jbp 3 (jnv.head 0) jdE rec K) = jhO n K rec v := by kernel_rfl
noncomputable def jqM (n : Nat) (K : Cont) (m : Nat) (v : Sig.sem jdE) : Option Res := jfX n (fun z1 z2 z3 z4 => K (.ex 0) (jpx.enc ((v.1.1, (z1, ())), (z2, ((z3, ()), ((z4, ()), ())))))) v.1.1 m v.1.2.2.1 v.1.2.2.2.1 v.2.1 v.2.2.1.1 v.2.2.2.1.1
theorem i_z1q_0 (n : Nat) (K : Cont) : ∀ m v, iter (jhO n K) m v = jqM n K m v := by
  intro m
  induction m with
  | zero => intro v; rfl
  | succ m ih =>
    intro v
    show jhO n K (iter (jhO n K) m) v = jhO n K (jqM n K m) v
    rw [show iter (jhO n K) m = jqM n K m from funext ih]
theorem o_z1q_0 (n : Nat) : ∀ L, jtJ n 0 = some L → ∀ s K r, L s K = some r → ∃ x s', jbj (run PP jmH Tryz.f50.ntmps 3 n jnv none jwm) (gc 3 (jnv.head 0)) n s = some (x, s') ∧ K x s' = some r := by
  intro L hL s K r h
  have hL : some (jaz 3 (jnv.head 0) jdE fun K v => jqM n K n v) = some L := hL
  cases hL
  have hb : LOk PP jmH Tryz.f50.ntmps 3 n jnv (jtJ n) jwm := ⟨⟨tT, tT, tT⟩, ⟨tT, tT, ⟨tT, tT⟩, tT⟩, tT⟩
  refine jaE hb (jhO n) (t_z1q_0 n) n s K r ?_
  rw [← h]
  unfold jaz
  simp only [i_z1q_0]
theorem m_z1q (n : Nat) (a : EK.sems jHS) (b : HK.sems jFH) : jaH PP jmH jnv (jtJ n) Tryz.f50 (jae Tryz.f50) (EK.encs jHS a) (HK.encs jFH b) = jKr n a.1 b.1 b.2.1.1 b.2.2.1.1 := by kernel_rfl
theorem g_z1q (n : Nat) (a : EK.sems jHS) (b : HK.sems jFH) {r : Res} (h : jKr n a.1 b.1 b.2.1.1 b.2.2.1.1 = some r) : runF PP jmH n jnv 50 (EK.encs jHS a) (HK.encs jFH b) = some r :=
  jaf PP Tryz.func50 (show Tryz.f50.body = some (jae Tryz.f50) from rfl) (show (2 : Nat) ≤ 42 by decide) (show LOk PP jmH _ 3 n _ (jtJ n) _ from ⟨tT, tT, ⟨tT, ⟨tT, tT⟩, tT⟩, ⟨tT, (o_z1q_0 n)⟩, tT, tT, tT⟩) ((m_z1q n a b).trans h) rfl (by kernel_rfl)
noncomputable def c_z1q : Spec := jaG jHS jFH jsB jsR fun a b => jMK a.1 b.1 b.2.1.1 b.2.2.1.1
theorem k_z1q (hm : Tryz.prog.follows .mixedOrders = true) : jar PP 50 c_z1q := jaj (pol := jnv) hm (cf := jmH) (CallSound.mix <| jav (jab (k_z1p hm) (jab (k_z1o hm) jah))) fun a b r h => ⟨FUEL, g_z1q FUEL a b (jad h)⟩
def s_z1r_r : Sig := ⟨[6], [.ty (.int .i64)], [.one false [.ptr 1 0 0, .hs 3 0, .ptr 4 0 0, .ty (.int .i64)], .one false [.hs 2 0], .row (.int .u8), .row jaq, .one false [.hs 5 0], .row (.int .u8)]⟩
def p_z1r : Pol := ⟨fun i => none, fun i => none, some [(6, .keep)], [.keep], []⟩
def jHR : List EK := [.ptr 0 0 0, .agg jaT, .ty (.int .i64)]
def jFG : List HK := [.one false [.ptr 1 0 0, .hs 3 0, .ptr 4 0 0, .ty (.int .i64)], .one false [.hs 2 0], .row (.int .u8), .row jaq, .one false [.hs 5 0], .row (.int .u8)]
noncomputable def jzI : CallF := mkCF [(35, jLM), (49, c_z1n), (50, c_z1q), (37, c_z1j)] []
noncomputable def jPO (n : Nat) : jaF := fun i =>  none
theorem m_z1r (n : Nat) (a : EK.sems jHR) (b : HK.sems jFG) : jaH PP jzI p_z1r (jPO n) Tryz.f23 (jae Tryz.f23) (EK.encs jHR a) (HK.encs jFG b) = jCm n a.2.1 a.2.2.1 b.1.2.1 b.1.2.2.2.1 b.2.1.1 b.2.2.1 b.2.2.2.1 b.2.2.2.2.1.1 b.2.2.2.2.2.1 := by kernel_rfl
theorem g_z1r (n : Nat) (a : EK.sems jHR) (b : HK.sems jFG) {r : Res} (h : jCm n a.2.1 a.2.2.1 b.1.2.1 b.1.2.2.2.1 b.2.1.1 b.2.2.1 b.2.2.2.1 b.2.2.2.2.1.1 b.2.2.2.2.2.1 = some r) : runF PP jzI n p_z1r 23 (EK.encs jHR a) (HK.encs jFG b) = some r :=
  jaf PP Tryz.func23 (show Tryz.f23.body = some (jae Tryz.f23) from rfl) (show (3 : Nat) ≤ 47 by decide) (show LOk PP jzI _ 6 n _ (jPO n) _ from ⟨tT, tT, ⟨tT, ⟨tT, tT⟩, tT, ⟨tT, tT⟩, tT⟩, tT, tT, tT, tT⟩) ((m_z1r n a b).trans h) rfl (by kernel_rfl)
noncomputable def c_z1r : Spec := jaG jHR jFG jsA jsQ fun a b => jJF a.2.1 a.2.2.1 b.1.2.1 b.1.2.2.2.1 b.2.1.1 b.2.2.1 b.2.2.2.1 b.2.2.2.2.1.1 b.2.2.2.2.2.1
theorem k_z1r (hm : Tryz.prog.follows .mixedOrders = true) : jar PP 23 c_z1r := jaj (pol := p_z1r) hm (cf := jzI) (jav (jab (k_z1g hm) (jab (k_z1n hm) (jab (k_z1q hm) (jab (k_z1j hm) jah))))) fun a b r h => ⟨FUEL, g_z1r FUEL a b (jad h)⟩
def s_z1s_r : Sig := ⟨[0], [.ty .bool], []⟩
def p_z1s : Pol := ⟨fun i => none, fun i => none, some [(0, .keep)], [.keep], []⟩
def jHQ : List EK := []
def jFF : List HK := []
noncomputable def jzH : CallF := mkCF [(16, c_z0z), (18, c_z11), (17, c_z12), (19, c_z13), (21, c_z14), (20, c_z1a), (13, jLK), (22, jLJ), (24, c_z1m), (23, c_z1r)] [(16, []), (17, [(.slice jaq), (.slice jaq)]), (21, [(.int .i64), (.int .i64), (.int .i64)]), (24, [(.int .i64), (.int .i64)])]
noncomputable def jPN (n : Nat) : jaF := fun i =>  none
theorem m_z1s (n : Nat) (a : EK.sems jHQ) (b : HK.sems jFF) : jaH PP jzH p_z1s (jPN n) Tryz.f5 (jae Tryz.f5) (EK.encs jHQ a) (HK.encs jFF b) = M_z1s n := by kernel_rfl
theorem g_z1s (n : Nat) (a : EK.sems jHQ) (b : HK.sems jFF) {r : Res} (h : M_z1s n = some r) : runF PP jzH n p_z1s 5 (EK.encs jHQ a) (HK.encs jFF b) = some r :=
  jaf PP Tryz.func5 (show Tryz.f5.body = some (jae Tryz.f5) from rfl) (show (0 : Nat) ≤ 95 by decide) (show LOk PP jzH _ 0 n _ (jPN n) _ from ⟨tT, tT, ⟨tT, ⟨tT, tT⟩, tT⟩, tT, ⟨tT, ⟨tT, tT⟩, tT⟩, tT, tT, tT, tT⟩) ((m_z1s n a b).trans h) rfl (by kernel_rfl)
noncomputable def c_z1s : Spec := jaG jHQ jFF jbK jbL fun a b => jMJ
theorem k_z1s (hm : Tryz.prog.follows .mixedOrders = true) : jar PP 5 c_z1s := jaj (pol := p_z1s) hm (cf := jzH) (jav (jab (k_z0z hm) (jab (k_z11 hm) (jab (k_z12 hm) (jab (k_z13 hm) (jab (k_z14 hm) (jab (k_z1a hm) (jab (k_z1k hm) (jab (k_z1l hm) (jab (k_z1m hm) (jab (k_z1r hm) jah))))))))))) fun a b r h => ⟨FUEL, g_z1s FUEL a b (jad h)⟩
def jdD : Sig := ⟨[0, 3, 4], [.ty (.slice jay), .ty (.int .i64), .ty (.int .i64)], []⟩
def jpw : Sig := ⟨[3], [.ty (.int .i64)], []⟩
def s_z1t_r : Sig := ⟨[2], [.ty .bool], []⟩
def jnu : Pol := ⟨fun i => if i = 0 then some [(0, .keep), (3, .keep), (4, .keep)] else none, fun i => if i = 0 then some [(3, .keep)] else none, some [(2, .keep)], [.keep], []⟩
def jHP : List EK := [.ty (.slice jay)]
def jFE : List HK := []
noncomputable def jmG : CallF := mkCF [] []
noncomputable def jtI (n : Nat) : jaF := fun i => if i = 0 then some (jaz 0 (jnu.head 0) jdD fun K v => jjU n (fun z0 => K (.ex 0) (jpw.enc ((z0, ()), ()))) v.1.1 n v.1.2.1 v.1.2.2.1)
  else  none
noncomputable def jwl : Code := jaR (jae Tryz.f4) [1, 1, 0, 1, 0, 0]
noncomputable def jhN (n : Nat) (K : Cont) (rec : Sig.sem jdD → Option Res) (v : Sig.sem jdD) : Option Res := jrT n (fun z0 => K (.ex 0) (jpw.enc ((z0, ()), ()))) v.1.1 (fun z1 z2 => rec ((v.1.1, (z1, (z2, ()))), ())) v.1.2.1 v.1.2.2.1
theorem t_z1t_0 (n : Nat) (K : Cont) (rec : Sig.sem jdD → Option Res) (v : Sig.sem jdD) : runT PP jmG Tryz.f4.ntmps 0 jnu (jtI n) jwl (jdD.enc v) (jbp 0 (jnu.head 0) jdD rec K) = jhN n K rec v := by kernel_rfl
noncomputable def jqL (n : Nat) (K : Cont) (m : Nat) (v : Sig.sem jdD) : Option Res := jjU n (fun z0 => K (.ex 0) (jpw.enc ((z0, ()), ()))) v.1.1 m v.1.2.1 v.1.2.2.1
theorem i_z1t_0 (n : Nat) (K : Cont) : ∀ m v, iter (jhN n K) m v = jqL n K m v := by
  intro m
  induction m with
  | zero => intro v; rfl
  | succ m ih =>
    intro v
    show jhN n K (iter (jhN n K) m) v = jhN n K (jqL n K m) v
    rw [show iter (jhN n K) m = jqL n K m from funext ih]
theorem o_z1t_0 (n : Nat) : ∀ L, jtI n 0 = some L → ∀ s K r, L s K = some r → ∃ x s', jbj (run PP jmG Tryz.f4.ntmps 0 n jnu none jwl) (gc 0 (jnu.head 0)) n s = some (x, s') ∧ K x s' = some r := by
  intro L hL s K r h
  have hL : some (jaz 0 (jnu.head 0) jdD fun K v => jqL n K n v) = some L := hL
  cases hL
  have hb : LOk PP jmG Tryz.f4.ntmps 0 n jnu (jtI n) jwl := ⟨⟨tT, tT, tT⟩, tT, tT⟩
  refine jaE hb (jhN n) (t_z1t_0 n) n s K r ?_
  rw [← h]
  unfold jaz
  simp only [i_z1t_0]
theorem m_z1t (n : Nat) (a : EK.sems jHP) (b : HK.sems jFE) : jaH PP jmG jnu (jtI n) Tryz.f4 (jae Tryz.f4) (EK.encs jHP a) (HK.encs jFE b) = M_z1t n a.1 := by kernel_rfl
theorem g_z1t (n : Nat) (a : EK.sems jHP) (b : HK.sems jFE) {r : Res} (h : M_z1t n a.1 = some r) : runF PP jmG n jnu 4 (EK.encs jHP a) (HK.encs jFE b) = some r :=
  jaf PP Tryz.func4 (show Tryz.f4.body = some (jae Tryz.f4) from rfl) (show (1 : Nat) ≤ 27 by decide) (show LOk PP jmG _ 0 n _ (jtI n) _ from ⟨tT, tT, ⟨tT, (o_z1t_0 n)⟩, tT, tT⟩) ((m_z1t n a b).trans h) rfl (by kernel_rfl)
noncomputable def c_z1t : Spec := jaG jHP jFE jxs jxW fun a b => jMI a.1
theorem k_z1t (hm : Tryz.prog.follows .mixedOrders = true) : jar PP 4 c_z1t := jaj (pol := jnu) hm (cf := jmG) (jav jah) fun a b r h => ⟨FUEL, g_z1t FUEL a b (jad h)⟩
def s_z1u_r : Sig := ⟨[4, 5], [.nul 0, .ty (.int .i64)], []⟩
def s_z1u_r1 : Sig := ⟨[4, 5], [.ptr 0 0 0, .ty (.int .i64)], [.one true [.ty .str, .ty .str, .ty (.int .i64), .nul 4]]⟩
def p_z1u : Pol := ⟨fun i => none, fun i => none, some [(4, .keep), (5, .keep)], [.keep, .keep], []⟩
def jHO : List EK := [.ty (.int .i64), .ty .str]
def jFD : List HK := []
noncomputable def jzG : CallF := mkCF [] []
noncomputable def jPM (n : Nat) : jaF := fun i =>  none
theorem m_z1u (n : Nat) (a : EK.sems jHO) (b : HK.sems jFD) : jaH PP jzG p_z1u (jPM n) Tryz.f7 (jae Tryz.f7) (EK.encs jHO a) (HK.encs jFD b) = jwM n a.1 a.2.1 := by kernel_rfl
theorem g_z1u (n : Nat) (a : EK.sems jHO) (b : HK.sems jFD) {r : Res} (h : jwM n a.1 a.2.1 = some r) : runF PP jzG n p_z1u 7 (EK.encs jHO a) (HK.encs jFD b) = some r :=
  jaf PP Tryz.func7 (show Tryz.f7.body = some (jae Tryz.f7) from rfl) (show (2 : Nat) ≤ 15 by decide) (show LOk PP jzG _ 0 n _ (jPM n) _ from ⟨tT, ⟨tT, ⟨tT, tT⟩, tT⟩, tT, tT⟩) ((m_z1u n a b).trans h) rfl (by kernel_rfl)
noncomputable def c_z1u : Spec := jfl jHO jFD fun a b => (jdZ jxr jxV (jBY a.1 a.2.1) (jdZ jis jgl (jre a.1 a.2.1) .no))
theorem k_z1u (hm : Tryz.prog.follows .mixedOrders = true) : jar PP 7 c_z1u := jbZ (pol := p_z1u) hm (cf := jzG) (jav jah) fun a b r => (fun h => (jaX h).elim (fun ⟨x, hx, e⟩ => ⟨FUEL, e ▸ g_z1u FUEL a b (jad hx)⟩) (fun h => (jaX h).elim (fun ⟨x, hx, e⟩ => ⟨FUEL, e ▸ g_z1u FUEL a b (jad hx)⟩) (fun h => by cases h)))
def juV : Sig := ⟨[2], [.ty .bool], []⟩
def jdC : Sig := ⟨[1, 3, 4], [.ptr 0 0 0, .ty (.int .u64), .ty (.int .i64)], [.cell jay]⟩
def jpv : Sig := ⟨[1, 3], [.ptr 0 0 0, .ty (.int .u64)], [.cell jay]⟩
def jdB : Sig := ⟨[1, 3, 5], [.ptr 0 0 0, .ty (.int .u64), .ty (.int .i64)], [.cell jay]⟩
def jpu : Sig := ⟨[], [], []⟩
def jfH : Pol := ⟨fun i => if i = 0 then some [(1, (.own jay)), (3, .keep), (4, .keep)] else if i = 2 then some [(1, (.own jay)), (3, .keep), (5, .keep)] else none, fun i => if i = 0 then some [(1, (.own jay)), (3, .keep)] else if i = 2 then some [] else none, some [(2, .keep)], [.keep], []⟩
def jHN : List EK := [.agg jay]
def jFC : List HK := []
noncomputable def jgI : CallF := mkCF [] []
noncomputable def jkD (n : Nat) : jaF := fun i => if i = 0 then some (jaz 0 (jfH.head 0) jdC fun K v => jbu n (fun z0 => K (.ex 0) (jpv.enc (((), (z0, ())), (v.2.1, ())))) v.2.1 n v.1.2.1 v.1.2.2.1)
  else if i = 2 then some (jaz 0 (jfH.head 2) jdB fun K v => jbt n (fun z0 => K .rt (juV.enc ((z0, ()), ()))) (fun _ => K (.ex 2) (jpu.enc ((), ()))) v.1.2.1 v.2.1 n v.1.2.2.1)
  else  none
noncomputable def jwk : Code := jaR (jae Tryz.f80) [1, 1, 1, 1, 1, 0, 1, 0, 0]
noncomputable def jhM (n : Nat) (K : Cont) (rec : Sig.sem jdC → Option Res) (v : Sig.sem jdC) : Option Res := jrS n (fun z0 => K (.ex 0) (jpv.enc (((), (z0, ())), (v.2.1, ())))) v.2.1 (fun z0 z1 => rec (((), (z0, (z1, ()))), (v.2.1, ()))) v.1.2.1 v.1.2.2.1
theorem t_z1v_0 (n : Nat) (K : Cont) (rec : Sig.sem jdC → Option Res) (v : Sig.sem jdC) : runT PP jgI Tryz.f80.ntmps 0 jfH (jkD n) jwk (jdC.enc v) (jbp 0 (jfH.head 0) jdC rec K) = jhM n K rec v := by kernel_rfl
noncomputable def jqK (n : Nat) (K : Cont) (m : Nat) (v : Sig.sem jdC) : Option Res := jbu n (fun z0 => K (.ex 0) (jpv.enc (((), (z0, ())), (v.2.1, ())))) v.2.1 m v.1.2.1 v.1.2.2.1
theorem i_z1v_0 (n : Nat) (K : Cont) : ∀ m v, iter (jhM n K) m v = jqK n K m v := by
  intro m
  induction m with
  | zero => intro v; rfl
  | succ m ih =>
    intro v
    show jhM n K (iter (jhM n K) m) v = jhM n K (jqK n K m) v
    rw [show iter (jhM n K) m = jqK n K m from funext ih]
theorem o_z1v_0 (n : Nat) : ∀ L, jkD n 0 = some L → ∀ s K r, L s K = some r → ∃ x s', jbj (run PP jgI Tryz.f80.ntmps 0 n jfH none jwk) (gc 0 (jfH.head 0)) n s = some (x, s') ∧ K x s' = some r := by
  intro L hL s K r h
  have hL : some (jaz 0 (jfH.head 0) jdC fun K v => jqK n K n v) = some L := hL
  cases hL
  have hb : LOk PP jgI Tryz.f80.ntmps 0 n jfH (jkD n) jwk := ⟨⟨tT, tT, tT⟩, tT, tT⟩
  refine jaE hb (jhM n) (t_z1v_0 n) n s K r ?_
  rw [← h]
  unfold jaz
  simp only [i_z1v_0]
noncomputable def jwj : Code := jaR (jae Tryz.f80) [1, 1, 1, 1, 1, 1, 0, 1, 0, 0]
noncomputable def jhL (n : Nat) (K : Cont) (rec : Sig.sem jdB → Option Res) (v : Sig.sem jdB) : Option Res := jrR n (fun z0 => K .rt (juV.enc ((z0, ()), ()))) (fun _ => K (.ex 2) (jpu.enc ((), ()))) v.1.2.1 v.2.1 (fun z1 => rec (((), (v.1.2.1, (z1, ()))), (v.2.1, ()))) v.1.2.2.1
theorem t_z1v_2 (n : Nat) (K : Cont) (rec : Sig.sem jdB → Option Res) (v : Sig.sem jdB) : runT PP jgI Tryz.f80.ntmps 0 jfH (jkD n) jwj (jdB.enc v) (jbp 0 (jfH.head 2) jdB rec K) = jhL n K rec v := by kernel_rfl
noncomputable def jqJ (n : Nat) (K : Cont) (m : Nat) (v : Sig.sem jdB) : Option Res := jbt n (fun z0 => K .rt (juV.enc ((z0, ()), ()))) (fun _ => K (.ex 2) (jpu.enc ((), ()))) v.1.2.1 v.2.1 m v.1.2.2.1
theorem i_z1v_2 (n : Nat) (K : Cont) : ∀ m v, iter (jhL n K) m v = jqJ n K m v := by
  intro m
  induction m with
  | zero => intro v; rfl
  | succ m ih =>
    intro v
    show jhL n K (iter (jhL n K) m) v = jhL n K (jqJ n K m) v
    rw [show iter (jhL n K) m = jqJ n K m from funext ih]
theorem o_z1v_2 (n : Nat) : ∀ L, jkD n 2 = some L → ∀ s K r, L s K = some r → ∃ x s', jbj (run PP jgI Tryz.f80.ntmps 0 n jfH none jwj) (gc 0 (jfH.head 2)) n s = some (x, s') ∧ K x s' = some r := by
  intro L hL s K r h
  have hL : some (jaz 0 (jfH.head 2) jdB fun K v => jqJ n K n v) = some L := hL
  cases hL
  have hb : LOk PP jgI Tryz.f80.ntmps 0 n jfH (jkD n) jwj := ⟨⟨tT, tT, tT⟩, ⟨tT, tT, ⟨tT, tT⟩, tT⟩, tT⟩
  refine jaE hb (jhL n) (t_z1v_2 n) n s K r ?_
  rw [← h]
  unfold jaz
  simp only [i_z1v_2]
theorem m_z1v (n : Nat) (a : EK.sems jHN) (b : HK.sems jFC) : jaH PP jgI jfH (jkD n) Tryz.f80 (jae Tryz.f80) (EK.encs jHN a) (HK.encs jFC b) = jNX n a.1 := by kernel_rfl
theorem g_z1v (n : Nat) (a : EK.sems jHN) (b : HK.sems jFC) {r : Res} (h : jNX n a.1 = some r) : runF PP jgI n jfH 80 (EK.encs jHN a) (HK.encs jFC b) = some r :=
  jaf PP Tryz.func80 (show Tryz.f80.body = some (jae Tryz.f80) from rfl) (show (1 : Nat) ≤ 179 by decide) (show LOk PP jgI _ 0 n _ (jkD n) _ from ⟨tT, ⟨tT, ⟨tT, tT⟩, tT⟩, ⟨tT, ⟨tT, tT⟩, tT⟩, ⟨tT, ⟨tT, tT⟩, tT⟩, tT, ⟨tT, (o_z1v_0 n)⟩, ⟨tT, (o_z1v_2 n)⟩, tT, tT⟩) ((m_z1v n a b).trans h) rfl (by kernel_rfl)
noncomputable def c_z1v : Spec := jaG jHN jFC jas jat fun a b => jMH a.1
theorem k_z1v (hm : Tryz.prog.follows .mixedOrders = true) : jar PP 80 c_z1v := jaj (pol := jfH) hm (cf := jgI) (jav jah) fun a b r h => ⟨FUEL, g_z1v FUEL a b (jad h)⟩
def jdA : Sig := ⟨[1, 3, 4], [.ptr 0 0 0, .hs 1 0, .ty (.int .i64)], [.cell jay, .row (.int .i64)]⟩
def jpt : Sig := ⟨[1, 3], [.ptr 0 0 0, .hs 1 0], [.cell jay, .row (.int .i64)]⟩
def s_z1w_r : Sig := ⟨[2], [.hs 0 0], [.row (.int .i64)]⟩
def jnt : Pol := ⟨fun i => if i = 0 then some [(1, (.own jay)), (3, (.own (.int .i64))), (4, .keep)] else none, fun i => if i = 0 then some [(1, (.own jay)), (3, (.own (.int .i64)))] else none, some [(2, (.own (.int .i64)))], [(.own (.int .i64))], []⟩
def jHM : List EK := [.agg jay]
def jFB : List HK := []
noncomputable def jmF : CallF := mkCF [] []
noncomputable def jtH (n : Nat) : jaF := fun i => if i = 0 then some (jaz 0 (jnt.head 0) jdA fun K v => jjT n (fun z0 z2 => K (.ex 0) (jpt.enc (((), (z0, ())), (v.2.1, (z2, ()))))) v.2.1 n v.1.2.1 v.1.2.2.1 v.2.2.1)
  else  none
noncomputable def jwi : Code := jaR (jae Tryz.f81) [1, 1, 0, 1, 0, 0]
noncomputable def jhK (n : Nat) (K : Cont) (rec : Sig.sem jdA → Option Res) (v : Sig.sem jdA) : Option Res := jrQ n (fun z0 z2 => K (.ex 0) (jpt.enc (((), (z0, ())), (v.2.1, (z2, ()))))) v.2.1 (fun z0 z1 z3 => rec (((), (z0, (z1, ()))), (v.2.1, (z3, ())))) v.1.2.1 v.1.2.2.1 v.2.2.1
theorem t_z1w_0 (n : Nat) (K : Cont) (rec : Sig.sem jdA → Option Res) (v : Sig.sem jdA) : runT PP jmF Tryz.f81.ntmps 0 jnt (jtH n) jwi (jdA.enc v) (jbp 0 (jnt.head 0) jdA rec K) = jhK n K rec v := by kernel_rfl
noncomputable def jqI (n : Nat) (K : Cont) (m : Nat) (v : Sig.sem jdA) : Option Res := jjT n (fun z0 z2 => K (.ex 0) (jpt.enc (((), (z0, ())), (v.2.1, (z2, ()))))) v.2.1 m v.1.2.1 v.1.2.2.1 v.2.2.1
theorem i_z1w_0 (n : Nat) (K : Cont) : ∀ m v, iter (jhK n K) m v = jqI n K m v := by
  intro m
  induction m with
  | zero => intro v; rfl
  | succ m ih =>
    intro v
    show jhK n K (iter (jhK n K) m) v = jhK n K (jqI n K m) v
    rw [show iter (jhK n K) m = jqI n K m from funext ih]
theorem o_z1w_0 (n : Nat) : ∀ L, jtH n 0 = some L → ∀ s K r, L s K = some r → ∃ x s', jbj (run PP jmF Tryz.f81.ntmps 0 n jnt none jwi) (gc 0 (jnt.head 0)) n s = some (x, s') ∧ K x s' = some r := by
  intro L hL s K r h
  have hL : some (jaz 0 (jnt.head 0) jdA fun K v => jqI n K n v) = some L := hL
  cases hL
  have hb : LOk PP jmF Tryz.f81.ntmps 0 n jnt (jtH n) jwi := ⟨⟨tT, tT, tT⟩, tT, tT⟩
  refine jaE hb (jhK n) (t_z1w_0 n) n s K r ?_
  rw [← h]
  unfold jaz
  simp only [i_z1w_0]
theorem m_z1w (n : Nat) (a : EK.sems jHM) (b : HK.sems jFB) : jaH PP jmF jnt (jtH n) Tryz.f81 (jae Tryz.f81) (EK.encs jHM a) (HK.encs jFB b) = jNW n a.1 := by kernel_rfl
theorem g_z1w (n : Nat) (a : EK.sems jHM) (b : HK.sems jFB) {r : Res} (h : jNW n a.1 = some r) : runF PP jmF n jnt 81 (EK.encs jHM a) (HK.encs jFB b) = some r :=
  jaf PP Tryz.func81 (show Tryz.f81.body = some (jae Tryz.f81) from rfl) (show (1 : Nat) ≤ 26 by decide) (show LOk PP jmF _ 0 n _ (jtH n) _ from ⟨tT, tT, ⟨tT, (o_z1w_0 n)⟩, tT, tT⟩) ((m_z1w n a b).trans h) rfl (by kernel_rfl)
noncomputable def c_z1w : Spec := jaG jHM jFB jCX jDD fun a b => jMG a.1
theorem k_z1w (hm : Tryz.prog.follows .mixedOrders = true) : jar PP 81 c_z1w := jaj (pol := jnt) hm (cf := jmF) (jav jah) fun a b r h => ⟨FUEL, g_z1w FUEL a b (jad h)⟩
def jdz : Sig := ⟨[0, 1, 4, 6], [.ty (.slice jay), .ty (.int .i64), .ptr 0 0 0, .ty (.int .i64)], [.cell jay]⟩
def juU : Sig := ⟨[4, 5], [.ptr 0 0 0, .ty .bool], [.cell jay]⟩
def jps : Sig := ⟨[4], [.ptr 0 0 0], [.cell jay]⟩
def jns : Pol := ⟨fun i => if i = 0 then some [(0, .keep), (1, .keep), (4, (.own jay)), (6, .keep)] else none, fun i => if i = 0 then some [(4, (.own jay))] else none, some [(4, (.own jay)), (5, .keep)], [.keep, .keep], []⟩
def jHL : List EK := [.ty (.slice jay), .ty (.int .i64)]
def jFA : List HK := []
noncomputable def jmE : CallF := mkCF [] []
noncomputable def jtG (n : Nat) : jaF := fun i => if i = 0 then some (jaz 0 (jns.head 0) jdz fun K v => jjS n (fun z0 z1 => K .rt (juU.enc (((), (z0, ())), (z1, ())))) (fun _ => K (.ex 0) (jps.enc (((), ()), (v.2.1, ())))) v.1.1 v.1.2.1 v.2.1 n v.1.2.2.2.1)
  else  none
noncomputable def jwh : Code := jaR (jae Tryz.f82) [1, 0, 1, 0, 0]
noncomputable def jhJ (n : Nat) (K : Cont) (rec : Sig.sem jdz → Option Res) (v : Sig.sem jdz) : Option Res := jrP n (fun z0 z1 => K .rt (juU.enc (((), (z0, ())), (z1, ())))) (fun _ => K (.ex 0) (jps.enc (((), ()), (v.2.1, ())))) v.1.1 v.1.2.1 v.2.1 (fun z2 => rec ((v.1.1, (v.1.2.1, ((), (z2, ())))), (v.2.1, ()))) v.1.2.2.2.1
theorem t_z1x_0 (n : Nat) (K : Cont) (rec : Sig.sem jdz → Option Res) (v : Sig.sem jdz) : runT PP jmE Tryz.f82.ntmps 0 jns (jtG n) jwh (jdz.enc v) (jbp 0 (jns.head 0) jdz rec K) = jhJ n K rec v := by kernel_rfl
noncomputable def jqH (n : Nat) (K : Cont) (m : Nat) (v : Sig.sem jdz) : Option Res := jjS n (fun z0 z1 => K .rt (juU.enc (((), (z0, ())), (z1, ())))) (fun _ => K (.ex 0) (jps.enc (((), ()), (v.2.1, ())))) v.1.1 v.1.2.1 v.2.1 m v.1.2.2.2.1
theorem i_z1x_0 (n : Nat) (K : Cont) : ∀ m v, iter (jhJ n K) m v = jqH n K m v := by
  intro m
  induction m with
  | zero => intro v; rfl
  | succ m ih =>
    intro v
    show jhJ n K (iter (jhJ n K) m) v = jhJ n K (jqH n K m) v
    rw [show iter (jhJ n K) m = jqH n K m from funext ih]
theorem o_z1x_0 (n : Nat) : ∀ L, jtG n 0 = some L → ∀ s K r, L s K = some r → ∃ x s', jbj (run PP jmE Tryz.f82.ntmps 0 n jns none jwh) (gc 0 (jns.head 0)) n s = some (x, s') ∧ K x s' = some r := by
  intro L hL s K r h
  have hL : some (jaz 0 (jns.head 0) jdz fun K v => jqH n K n v) = some L := hL
  cases hL
  have hb : LOk PP jmE Tryz.f82.ntmps 0 n jns (jtG n) jwh := ⟨⟨tT, tT, tT⟩, ⟨tT, ⟨tT, tT⟩, tT⟩, tT⟩
  refine jaE hb (jhJ n) (t_z1x_0 n) n s K r ?_
  rw [← h]
  unfold jaz
  simp only [i_z1x_0]
theorem m_z1x (n : Nat) (a : EK.sems jHL) (b : HK.sems jFA) : jaH PP jmE jns (jtG n) Tryz.f82 (jae Tryz.f82) (EK.encs jHL a) (HK.encs jFA b) = M_z1x n a.1 a.2.1 := by kernel_rfl
theorem g_z1x (n : Nat) (a : EK.sems jHL) (b : HK.sems jFA) {r : Res} (h : M_z1x n a.1 a.2.1 = some r) : runF PP jmE n jns 82 (EK.encs jHL a) (HK.encs jFA b) = some r :=
  jaf PP Tryz.func82 (show Tryz.f82.body = some (jae Tryz.f82) from rfl) (show (2 : Nat) ≤ 25 by decide) (show LOk PP jmE _ 0 n _ (jtG n) _ from ⟨tT, ⟨tT, (o_z1x_0 n)⟩, tT, tT⟩) ((m_z1x n a b).trans h) rfl (by kernel_rfl)
noncomputable def c_z1x : Spec := jaG jHL jFA jxq jxU fun a b => jMF a.1 a.2.1
theorem k_z1x (hm : Tryz.prog.follows .mixedOrders = true) : jar PP 82 c_z1x := jaj (pol := jns) hm (cf := jmE) (jav jah) fun a b r h => ⟨FUEL, g_z1x FUEL a b (jad h)⟩
def jdy : Sig := ⟨[0, 1, 5, 6], [.ty (.slice jay), .ty (.int .i64), .hs 0 0, .ty (.int .i64)], [.row (.int .i64)]⟩
def jdx : Sig := ⟨[0, 1, 5, 6, 7, 8], [.ty (.slice jay), .ty (.int .i64), .hs 0 0, .ty (.int .i64), .hs 1 0, .ty (.int .i64)], [.row (.int .i64), .row (.int .i64)]⟩
def jdw : Sig := ⟨[0, 1, 5, 6, 7, 8, 9, 10], [.ty (.slice jay), .ty (.int .i64), .hs 0 0, .ty (.int .i64), .hs 1 0, .ty (.int .i64), .hs 2 0, .ty (.int .i64)], [.row (.int .i64), .row (.int .i64), .row (.int .i64)]⟩
def jdv : Sig := ⟨[0, 1, 5, 6, 7, 8, 9, 10, 11], [.ty (.slice jay), .ty (.int .i64), .hs 0 0, .ty (.int .i64), .hs 1 0, .ty (.int .i64), .hs 2 0, .ty (.int .i64), .ty (.int .i64)], [.row (.int .i64), .row (.int .i64), .row (.int .i64)]⟩
def jpo : Sig := ⟨[0, 1, 5, 6, 7, 8, 9, 10], [.ty (.slice jay), .ty (.int .i64), .hs 0 0, .ty (.int .i64), .hs 1 0, .ty (.int .i64), .hs 2 0, .ty (.int .i64)], [.row (.int .i64), .row (.int .i64), .row (.int .i64)]⟩
def jpp : Sig := ⟨[0, 1, 5, 6, 7, 8], [.ty (.slice jay), .ty (.int .i64), .hs 0 0, .ty (.int .i64), .hs 1 0, .ty (.int .i64)], [.row (.int .i64), .row (.int .i64)]⟩
def jpq : Sig := ⟨[0, 1, 6, 7], [.ty (.slice jay), .ty (.int .i64), .ty (.int .i64), .hs 0 0], [.row (.int .i64)]⟩
def jpr : Sig := ⟨[5], [.hs 0 0], [.row (.int .i64)]⟩
def s_z1y_r : Sig := ⟨[4], [.hs 0 0], [.row (.int .i64)]⟩
def jce : Pol := ⟨fun i => if i = 0 then some [(0, .keep), (1, .keep), (5, (.own (.int .i64))), (6, .keep)] else if i = 2 then some [(0, .keep), (1, .keep), (5, (.own (.int .i64))), (6, .keep), (7, (.own (.int .i64))), (8, .keep)] else if i = 4 then some [(0, .keep), (1, .keep), (5, (.own (.int .i64))), (6, .keep), (7, (.own (.int .i64))), (8, .keep), (9, (.own (.int .i64))), (10, .keep)] else if i = 6 then some [(0, .keep), (1, .keep), (5, (.own (.int .i64))), (6, .keep), (7, (.own (.int .i64))), (8, .keep), (9, (.own (.int .i64))), (10, .keep), (11, .keep)] else none, fun i => if i = 6 then some [(0, .keep), (1, .keep), (5, (.own (.int .i64))), (6, .keep), (7, (.own (.int .i64))), (8, .keep), (9, (.own (.int .i64))), (10, .keep)] else if i = 4 then some [(0, .keep), (1, .keep), (5, (.own (.int .i64))), (6, .keep), (7, (.own (.int .i64))), (8, .keep)] else if i = 2 then some [(0, .keep), (1, .keep), (6, .keep), (7, (.own (.int .i64)))] else if i = 0 then some [(5, (.own (.int .i64)))] else none, some [(4, (.own (.int .i64)))], [(.own (.int .i64))], []⟩
def jHK : List EK := [.ty (.slice jay), .ty (.int .i64)]
def jFz : List HK := []
noncomputable def jcV : CallF := mkCF [(81, c_z1w)] [(81, [jay])]
noncomputable def jeu (n : Nat) : jaF := fun i => if i = 6 then some (jaz 0 (jce.head 6) jdv fun K v => jjP n (fun z9 => K (.ex 6) (jpo.enc ((v.1.1, (v.1.2.1, (v.1.2.2.1, (v.1.2.2.2.1, (v.1.2.2.2.2.1, (v.1.2.2.2.2.2.1, (v.1.2.2.2.2.2.2.1, (v.1.2.2.2.2.2.2.2.1, ())))))))), (v.2.1, (z9, (v.2.2.2.1, ())))))) v.1.1 v.1.2.1 v.1.2.2.1 v.1.2.2.2.1 v.1.2.2.2.2.1 v.1.2.2.2.2.2.1 v.1.2.2.2.2.2.2.1 v.1.2.2.2.2.2.2.2.1 v.2.1 v.2.2.2.1 n v.1.2.2.2.2.2.2.2.2.1 v.2.2.1)
  else if i = 4 then some (jaz 0 (jce.head 4) jdw fun K v => jjQ n (fun z7 => K (.ex 4) (jpp.enc ((v.1.1, (v.1.2.1, (v.1.2.2.1, (v.1.2.2.2.1, (v.1.2.2.2.2.1, (v.1.2.2.2.2.2.1, ())))))), (v.2.1, (z7, ()))))) v.1.1 v.1.2.1 v.1.2.2.1 v.1.2.2.2.1 v.1.2.2.2.2.1 v.1.2.2.2.2.2.1 v.1.2.2.2.2.2.2.1 v.2.1 v.2.2.2.1 n v.1.2.2.2.2.2.2.2.1 v.2.2.1)
  else if i = 2 then some (jaz 0 (jce.head 2) jdx fun K v => jjR n (fun z4 => K (.ex 2) (jpq.enc ((v.1.1, (v.1.2.1, (v.1.2.2.2.1, (v.1.2.2.2.2.1, ())))), (z4, ())))) v.1.1 v.1.2.1 v.1.2.2.1 v.1.2.2.2.1 v.1.2.2.2.2.1 v.2.1 n v.1.2.2.2.2.2.1 v.2.2.1)
  else if i = 0 then some (jaz 0 (jce.head 0) jdy fun K v => jig n (fun z0 z1 => K (.ex 0) (jpr.enc ((z0, ()), (z1, ())))) v.1.1 v.1.2.1 n v.1.2.2.1 v.1.2.2.2.1 v.2.1)
  else  none
noncomputable def jwd : Code := jaR (jae Tryz.f83) [1, 1, 0, 1, 0, 0, 1, 0, 0, 1, 0, 1, 0, 0, 1, 0, 0, 1, 0, 1, 0, 0, 1, 0, 0, 1, 0, 0]
noncomputable def jhF (n : Nat) (K : Cont) (rec : Sig.sem jdv → Option Res) (v : Sig.sem jdv) : Option Res := jrL n (fun z9 => K (.ex 6) (jpo.enc ((v.1.1, (v.1.2.1, (v.1.2.2.1, (v.1.2.2.2.1, (v.1.2.2.2.2.1, (v.1.2.2.2.2.2.1, (v.1.2.2.2.2.2.2.1, (v.1.2.2.2.2.2.2.2.1, ())))))))), (v.2.1, (z9, (v.2.2.2.1, ())))))) v.1.1 v.1.2.1 v.1.2.2.1 v.1.2.2.2.1 v.1.2.2.2.2.1 v.1.2.2.2.2.2.1 v.1.2.2.2.2.2.2.1 v.1.2.2.2.2.2.2.2.1 v.2.1 v.2.2.2.1 (fun z8 z10 => rec ((v.1.1, (v.1.2.1, (v.1.2.2.1, (v.1.2.2.2.1, (v.1.2.2.2.2.1, (v.1.2.2.2.2.2.1, (v.1.2.2.2.2.2.2.1, (v.1.2.2.2.2.2.2.2.1, (z8, ()))))))))), (v.2.1, (z10, (v.2.2.2.1, ()))))) v.1.2.2.2.2.2.2.2.2.1 v.2.2.1
theorem t_z1y_6 (n : Nat) (K : Cont) (rec : Sig.sem jdv → Option Res) (v : Sig.sem jdv) : runT PP jcV Tryz.f83.ntmps 0 jce (jeu n) jwd (jdv.enc v) (jbp 0 (jce.head 6) jdv rec K) = jhF n K rec v := by kernel_rfl
noncomputable def jqD (n : Nat) (K : Cont) (m : Nat) (v : Sig.sem jdv) : Option Res := jjP n (fun z9 => K (.ex 6) (jpo.enc ((v.1.1, (v.1.2.1, (v.1.2.2.1, (v.1.2.2.2.1, (v.1.2.2.2.2.1, (v.1.2.2.2.2.2.1, (v.1.2.2.2.2.2.2.1, (v.1.2.2.2.2.2.2.2.1, ())))))))), (v.2.1, (z9, (v.2.2.2.1, ())))))) v.1.1 v.1.2.1 v.1.2.2.1 v.1.2.2.2.1 v.1.2.2.2.2.1 v.1.2.2.2.2.2.1 v.1.2.2.2.2.2.2.1 v.1.2.2.2.2.2.2.2.1 v.2.1 v.2.2.2.1 m v.1.2.2.2.2.2.2.2.2.1 v.2.2.1
theorem i_z1y_6 (n : Nat) (K : Cont) : ∀ m v, iter (jhF n K) m v = jqD n K m v := by
  intro m
  induction m with
  | zero => intro v; rfl
  | succ m ih =>
    intro v
    show jhF n K (iter (jhF n K) m) v = jhF n K (jqD n K m) v
    rw [show iter (jhF n K) m = jqD n K m from funext ih]
theorem o_z1y_6 (n : Nat) : ∀ L, jeu n 6 = some L → ∀ s K r, L s K = some r → ∃ x s', jbj (run PP jcV Tryz.f83.ntmps 0 n jce none jwd) (gc 0 (jce.head 6)) n s = some (x, s') ∧ K x s' = some r := by
  intro L hL s K r h
  have hL : some (jaz 0 (jce.head 6) jdv fun K v => jqD n K n v) = some L := hL
  cases hL
  have hb : LOk PP jcV Tryz.f83.ntmps 0 n jce (jeu n) jwd := ⟨⟨tT, tT, tT⟩, ⟨tT, tT, tT⟩, tT⟩
  refine jaE hb (jhF n) (t_z1y_6 n) n s K r ?_
  rw [← h]
  unfold jaz
  simp only [i_z1y_6]
noncomputable def jwe : Code := jaR (jae Tryz.f83) [1, 1, 0, 1, 0, 0, 1, 0, 0, 1, 0, 1, 0, 0, 1, 0, 0, 1, 0, 1, 0, 0]
noncomputable def jhG (n : Nat) (K : Cont) (rec : Sig.sem jdw → Option Res) (v : Sig.sem jdw) : Option Res := jrM n (fun z7 => K (.ex 4) (jpp.enc ((v.1.1, (v.1.2.1, (v.1.2.2.1, (v.1.2.2.2.1, (v.1.2.2.2.2.1, (v.1.2.2.2.2.2.1, ())))))), (v.2.1, (z7, ()))))) v.1.1 v.1.2.1 v.1.2.2.1 v.1.2.2.2.1 v.1.2.2.2.2.1 v.1.2.2.2.2.2.1 v.1.2.2.2.2.2.2.1 v.2.1 v.2.2.2.1 (fun z7 z9 => rec ((v.1.1, (v.1.2.1, (v.1.2.2.1, (v.1.2.2.2.1, (v.1.2.2.2.2.1, (v.1.2.2.2.2.2.1, (v.1.2.2.2.2.2.2.1, (z7, ())))))))), (v.2.1, (z9, (v.2.2.2.1, ()))))) v.1.2.2.2.2.2.2.2.1 v.2.2.1
theorem t_z1y_4 (n : Nat) (K : Cont) (rec : Sig.sem jdw → Option Res) (v : Sig.sem jdw) : runT PP jcV Tryz.f83.ntmps 0 jce (jeu n) jwe (jdw.enc v) (jbp 0 (jce.head 4) jdw rec K) = jhG n K rec v := by kernel_rfl
noncomputable def jqE (n : Nat) (K : Cont) (m : Nat) (v : Sig.sem jdw) : Option Res := jjQ n (fun z7 => K (.ex 4) (jpp.enc ((v.1.1, (v.1.2.1, (v.1.2.2.1, (v.1.2.2.2.1, (v.1.2.2.2.2.1, (v.1.2.2.2.2.2.1, ())))))), (v.2.1, (z7, ()))))) v.1.1 v.1.2.1 v.1.2.2.1 v.1.2.2.2.1 v.1.2.2.2.2.1 v.1.2.2.2.2.2.1 v.1.2.2.2.2.2.2.1 v.2.1 v.2.2.2.1 m v.1.2.2.2.2.2.2.2.1 v.2.2.1
theorem i_z1y_4 (n : Nat) (K : Cont) : ∀ m v, iter (jhG n K) m v = jqE n K m v := by
  intro m
  induction m with
  | zero => intro v; rfl
  | succ m ih =>
    intro v
    show jhG n K (iter (jhG n K) m) v = jhG n K (jqE n K m) v
    rw [show iter (jhG n K) m = jqE n K m from funext ih]
theorem o_z1y_4 (n : Nat) : ∀ L, jeu n 4 = some L → ∀ s K r, L s K = some r → ∃ x s', jbj (run PP jcV Tryz.f83.ntmps 0 n jce none jwe) (gc 0 (jce.head 4)) n s = some (x, s') ∧ K x s' = some r := by
  intro L hL s K r h
  have hL : some (jaz 0 (jce.head 4) jdw fun K v => jqE n K n v) = some L := hL
  cases hL
  have hb : LOk PP jcV Tryz.f83.ntmps 0 n jce (jeu n) jwe := ⟨⟨tT, tT, tT⟩, ⟨tT, (o_z1y_6 n)⟩, tT⟩
  refine jaE hb (jhG n) (t_z1y_4 n) n s K r ?_
  rw [← h]
  unfold jaz
  simp only [i_z1y_4]
noncomputable def jwf : Code := jaR (jae Tryz.f83) [1, 1, 0, 1, 0, 0, 1, 0, 0, 1, 0, 1, 0, 0]
noncomputable def jhH (n : Nat) (K : Cont) (rec : Sig.sem jdx → Option Res) (v : Sig.sem jdx) : Option Res := jrN n (fun z4 => K (.ex 2) (jpq.enc ((v.1.1, (v.1.2.1, (v.1.2.2.2.1, (v.1.2.2.2.2.1, ())))), (z4, ())))) v.1.1 v.1.2.1 v.1.2.2.1 v.1.2.2.2.1 v.1.2.2.2.2.1 v.2.1 (fun z5 z7 => rec ((v.1.1, (v.1.2.1, (v.1.2.2.1, (v.1.2.2.2.1, (v.1.2.2.2.2.1, (z5, ())))))), (v.2.1, (z7, ())))) v.1.2.2.2.2.2.1 v.2.2.1
theorem t_z1y_2 (n : Nat) (K : Cont) (rec : Sig.sem jdx → Option Res) (v : Sig.sem jdx) : runT PP jcV Tryz.f83.ntmps 0 jce (jeu n) jwf (jdx.enc v) (jbp 0 (jce.head 2) jdx rec K) = jhH n K rec v := by kernel_rfl
noncomputable def jqF (n : Nat) (K : Cont) (m : Nat) (v : Sig.sem jdx) : Option Res := jjR n (fun z4 => K (.ex 2) (jpq.enc ((v.1.1, (v.1.2.1, (v.1.2.2.2.1, (v.1.2.2.2.2.1, ())))), (z4, ())))) v.1.1 v.1.2.1 v.1.2.2.1 v.1.2.2.2.1 v.1.2.2.2.2.1 v.2.1 m v.1.2.2.2.2.2.1 v.2.2.1
theorem i_z1y_2 (n : Nat) (K : Cont) : ∀ m v, iter (jhH n K) m v = jqF n K m v := by
  intro m
  induction m with
  | zero => intro v; rfl
  | succ m ih =>
    intro v
    show jhH n K (iter (jhH n K) m) v = jhH n K (jqF n K m) v
    rw [show iter (jhH n K) m = jqF n K m from funext ih]
theorem o_z1y_2 (n : Nat) : ∀ L, jeu n 2 = some L → ∀ s K r, L s K = some r → ∃ x s', jbj (run PP jcV Tryz.f83.ntmps 0 n jce none jwf) (gc 0 (jce.head 2)) n s = some (x, s') ∧ K x s' = some r := by
  intro L hL s K r h
  have hL : some (jaz 0 (jce.head 2) jdx fun K v => jqF n K n v) = some L := hL
  cases hL
  have hb : LOk PP jcV Tryz.f83.ntmps 0 n jce (jeu n) jwf := ⟨⟨tT, tT, tT⟩, ⟨tT, ⟨tT, (o_z1y_4 n)⟩, tT⟩, tT⟩
  refine jaE hb (jhH n) (t_z1y_2 n) n s K r ?_
  rw [← h]
  unfold jaz
  simp only [i_z1y_2]
noncomputable def jwg : Code := jaR (jae Tryz.f83) [1, 1, 0, 1, 0, 0]
noncomputable def jhI (n : Nat) (K : Cont) (rec : Sig.sem jdy → Option Res) (v : Sig.sem jdy) : Option Res := jrO n (fun z0 z1 => K (.ex 0) (jpr.enc ((z0, ()), (z1, ())))) v.1.1 v.1.2.1 (fun z2 z3 z4 => rec ((v.1.1, (v.1.2.1, (z2, (z3, ())))), (z4, ()))) v.1.2.2.1 v.1.2.2.2.1 v.2.1
theorem t_z1y_0 (n : Nat) (K : Cont) (rec : Sig.sem jdy → Option Res) (v : Sig.sem jdy) : runT PP jcV Tryz.f83.ntmps 0 jce (jeu n) jwg (jdy.enc v) (jbp 0 (jce.head 0) jdy rec K) = jhI n K rec v := by kernel_rfl
noncomputable def jqG (n : Nat) (K : Cont) (m : Nat) (v : Sig.sem jdy) : Option Res := jig n (fun z0 z1 => K (.ex 0) (jpr.enc ((z0, ()), (z1, ())))) v.1.1 v.1.2.1 m v.1.2.2.1 v.1.2.2.2.1 v.2.1
theorem i_z1y_0 (n : Nat) (K : Cont) : ∀ m v, iter (jhI n K) m v = jqG n K m v := by
  intro m
  induction m with
  | zero => intro v; rfl
  | succ m ih =>
    intro v
    show jhI n K (iter (jhI n K) m) v = jhI n K (jqG n K m) v
    rw [show iter (jhI n K) m = jqG n K m from funext ih]
theorem o_z1y_0 (n : Nat) : ∀ L, jeu n 0 = some L → ∀ s K r, L s K = some r → ∃ x s', jbj (run PP jcV Tryz.f83.ntmps 0 n jce none jwg) (gc 0 (jce.head 0)) n s = some (x, s') ∧ K x s' = some r := by
  intro L hL s K r h
  have hL : some (jaz 0 (jce.head 0) jdy fun K v => jqG n K n v) = some L := hL
  cases hL
  have hb : LOk PP jcV Tryz.f83.ntmps 0 n jce (jeu n) jwg := ⟨⟨tT, tT, tT⟩, ⟨tT, ⟨tT, (o_z1y_2 n)⟩, tT⟩, tT⟩
  refine jaE hb (jhI n) (t_z1y_0 n) n s K r ?_
  rw [← h]
  unfold jaz
  simp only [i_z1y_0]
theorem m_z1y (n : Nat) (a : EK.sems jHK) (b : HK.sems jFz) : jaH PP jcV jce (jeu n) Tryz.f83 (jae Tryz.f83) (EK.encs jHK a) (HK.encs jFz b) = jNV n a.1 a.2.1 := by kernel_rfl
theorem g_z1y (n : Nat) (a : EK.sems jHK) (b : HK.sems jFz) {r : Res} (h : jNV n a.1 a.2.1 = some r) : runF PP jcV n jce 83 (EK.encs jHK a) (HK.encs jFz b) = some r :=
  jaf PP Tryz.func83 (show Tryz.f83.body = some (jae Tryz.f83) from rfl) (show (2 : Nat) ≤ 76 by decide) (show LOk PP jcV _ 0 n _ (jeu n) _ from ⟨tT, tT, ⟨tT, (o_z1y_0 n)⟩, tT, tT⟩) ((m_z1y n a b).trans h) rfl (by kernel_rfl)
noncomputable def c_z1y : Spec := jaG jHK jFz jCW jDC fun a b => jME a.1 a.2.1
theorem k_z1y (hm : Tryz.prog.follows .mixedOrders = true) : jar PP 83 c_z1y := jaj (pol := jce) hm (cf := jcV) (jav (jab (k_z1w hm) jah)) fun a b r h => ⟨FUEL, g_z1y FUEL a b (jad h)⟩
def jdu : Sig := ⟨[0, 3], [.ty (.slice jay), .ty (.int .i64)], []⟩
def jcO : Sig := ⟨[2], [.ty (.int .i64)], []⟩
def jpn : Sig := ⟨[0], [.ty (.slice jay)], []⟩
def jdt : Sig := ⟨[0, 4], [.ty (.slice jay), .ty (.int .i64)], []⟩
def jds : Sig := ⟨[0, 4, 5, 6], [.ty (.slice jay), .ty (.int .i64), .hs 0 0, .ty (.int .i64)], [.row (.int .i64)]⟩
def jpl : Sig := ⟨[0, 4], [.ty (.slice jay), .ty (.int .i64)], []⟩
def jpm : Sig := ⟨[0], [.ty (.slice jay)], []⟩
def jdr : Sig := ⟨[0, 9, 10], [.ty (.slice jay), .hs 0 0, .ty (.int .i64)], [.row (.int .i64)]⟩
def jpk : Sig := ⟨[], [], []⟩
def jcd : Pol := ⟨fun i => if i = 0 then some [(0, .keep), (3, .keep)] else if i = 2 then some [(0, .keep), (4, .keep)] else if i = 4 then some [(0, .keep), (4, .keep), (5, (.own (.int .i64))), (6, .keep)] else if i = 6 then some [(0, .keep), (9, (.own (.int .i64))), (10, .keep)] else none, fun i => if i = 0 then some [(0, .keep)] else if i = 4 then some [(0, .keep), (4, .keep)] else if i = 2 then some [(0, .keep)] else if i = 6 then some [] else none, some [(2, .keep)], [.keep], []⟩
def jHJ : List EK := [.ty (.slice jay)]
def jFy : List HK := []
noncomputable def jcU : CallF := mkCF [(80, c_z1v), (81, c_z1w), (82, c_z1x), (83, c_z1y)] [(80, [jay]), (81, [jay]), (82, [(.slice jay), (.int .i64)]), (83, [(.slice jay), (.int .i64)])]
noncomputable def jet (n : Nat) : jaF := fun i => if i = 0 then some (jaz 0 (jcd.head 0) jdu fun K v => jjO n (fun z0 => K .rt (jcO.enc ((z0, ()), ()))) (fun _ => K (.ex 0) (jpn.enc ((v.1.1, ()), ()))) v.1.1 n v.1.2.1)
  else if i = 4 then some (jaz 0 (jcd.head 4) jds fun K v => jjM n (fun z0 => K .rt (jcO.enc ((z0, ()), ()))) (fun _ => K (.ex 4) (jpl.enc ((v.1.1, (v.1.2.1, ())), ()))) v.1.1 v.1.2.1 v.1.2.2.1 v.2.1 n v.1.2.2.2.1)
  else if i = 2 then some (jaz 0 (jcd.head 2) jdt fun K v => jjN n (fun z0 => K .rt (jcO.enc ((z0, ()), ()))) (fun _ => K (.ex 2) (jpm.enc ((v.1.1, ()), ()))) v.1.1 n v.1.2.1)
  else if i = 6 then some (jaz 0 (jcd.head 6) jdr fun K v => jjL n (fun z0 => K .rt (jcO.enc ((z0, ()), ()))) (fun _ => K (.ex 6) (jpk.enc ((), ()))) v.1.1 v.1.2.1 v.2.1 n v.1.2.2.1)
  else  none
noncomputable def jwc : Code := jaR (jae Tryz.f54) [1, 0, 1, 0, 0]
noncomputable def jhE (n : Nat) (K : Cont) (rec : Sig.sem jdu → Option Res) (v : Sig.sem jdu) : Option Res := jrK n (fun z0 => K .rt (jcO.enc ((z0, ()), ()))) (fun _ => K (.ex 0) (jpn.enc ((v.1.1, ()), ()))) v.1.1 (fun z1 => rec ((v.1.1, (z1, ())), ())) v.1.2.1
theorem t_z1z_0 (n : Nat) (K : Cont) (rec : Sig.sem jdu → Option Res) (v : Sig.sem jdu) : runT PP jcU Tryz.f54.ntmps 0 jcd (jet n) jwc (jdu.enc v) (jbp 0 (jcd.head 0) jdu rec K) = jhE n K rec v := by kernel_rfl
noncomputable def jqC (n : Nat) (K : Cont) (m : Nat) (v : Sig.sem jdu) : Option Res := jjO n (fun z0 => K .rt (jcO.enc ((z0, ()), ()))) (fun _ => K (.ex 0) (jpn.enc ((v.1.1, ()), ()))) v.1.1 m v.1.2.1
theorem i_z1z_0 (n : Nat) (K : Cont) : ∀ m v, iter (jhE n K) m v = jqC n K m v := by
  intro m
  induction m with
  | zero => intro v; rfl
  | succ m ih =>
    intro v
    show jhE n K (iter (jhE n K) m) v = jhE n K (jqC n K m) v
    rw [show iter (jhE n K) m = jqC n K m from funext ih]
theorem o_z1z_0 (n : Nat) : ∀ L, jet n 0 = some L → ∀ s K r, L s K = some r → ∃ x s', jbj (run PP jcU Tryz.f54.ntmps 0 n jcd none jwc) (gc 0 (jcd.head 0)) n s = some (x, s') ∧ K x s' = some r := by
  intro L hL s K r h
  have hL : some (jaz 0 (jcd.head 0) jdu fun K v => jqC n K n v) = some L := hL
  cases hL
  have hb : LOk PP jcU Tryz.f54.ntmps 0 n jcd (jet n) jwc := ⟨⟨tT, tT, tT⟩, ⟨tT, ⟨tT, tT⟩, tT⟩, tT⟩
  refine jaE hb (jhE n) (t_z1z_0 n) n s K r ?_
  rw [← h]
  unfold jaz
  simp only [i_z1z_0]
noncomputable def jwa : Code := jaR (jae Tryz.f54) [1, 1, 1, 0, 1, 0, 0, 1, 0, 0, 1, 1, 0, 0]
noncomputable def jhC (n : Nat) (K : Cont) (rec : Sig.sem jds → Option Res) (v : Sig.sem jds) : Option Res := jrI n (fun z0 => K .rt (jcO.enc ((z0, ()), ()))) (fun _ => K (.ex 4) (jpl.enc ((v.1.1, (v.1.2.1, ())), ()))) v.1.1 v.1.2.1 v.1.2.2.1 v.2.1 (fun z3 => rec ((v.1.1, (v.1.2.1, (v.1.2.2.1, (z3, ())))), (v.2.1, ()))) v.1.2.2.2.1
theorem t_z1z_4 (n : Nat) (K : Cont) (rec : Sig.sem jds → Option Res) (v : Sig.sem jds) : runT PP jcU Tryz.f54.ntmps 0 jcd (jet n) jwa (jds.enc v) (jbp 0 (jcd.head 4) jds rec K) = jhC n K rec v := by kernel_rfl
noncomputable def jqA (n : Nat) (K : Cont) (m : Nat) (v : Sig.sem jds) : Option Res := jjM n (fun z0 => K .rt (jcO.enc ((z0, ()), ()))) (fun _ => K (.ex 4) (jpl.enc ((v.1.1, (v.1.2.1, ())), ()))) v.1.1 v.1.2.1 v.1.2.2.1 v.2.1 m v.1.2.2.2.1
theorem i_z1z_4 (n : Nat) (K : Cont) : ∀ m v, iter (jhC n K) m v = jqA n K m v := by
  intro m
  induction m with
  | zero => intro v; rfl
  | succ m ih =>
    intro v
    show jhC n K (iter (jhC n K) m) v = jhC n K (jqA n K m) v
    rw [show iter (jhC n K) m = jqA n K m from funext ih]
theorem o_z1z_4 (n : Nat) : ∀ L, jet n 4 = some L → ∀ s K r, L s K = some r → ∃ x s', jbj (run PP jcU Tryz.f54.ntmps 0 n jcd none jwa) (gc 0 (jcd.head 4)) n s = some (x, s') ∧ K x s' = some r := by
  intro L hL s K r h
  have hL : some (jaz 0 (jcd.head 4) jds fun K v => jqA n K n v) = some L := hL
  cases hL
  have hb : LOk PP jcU Tryz.f54.ntmps 0 n jcd (jet n) jwa := ⟨⟨tT, tT, tT⟩, ⟨tT, tT, ⟨tT, tT⟩, tT⟩, tT⟩
  refine jaE hb (jhC n) (t_z1z_4 n) n s K r ?_
  rw [← h]
  unfold jaz
  simp only [i_z1z_4]
noncomputable def jwb : Code := jaR (jae Tryz.f54) [1, 1, 1, 0, 1, 0, 0]
noncomputable def jhD (n : Nat) (K : Cont) (rec : Sig.sem jdt → Option Res) (v : Sig.sem jdt) : Option Res := jrJ n (fun z0 => K .rt (jcO.enc ((z0, ()), ()))) (fun _ => K (.ex 2) (jpm.enc ((v.1.1, ()), ()))) v.1.1 (fun z1 => rec ((v.1.1, (z1, ())), ())) v.1.2.1
theorem t_z1z_2 (n : Nat) (K : Cont) (rec : Sig.sem jdt → Option Res) (v : Sig.sem jdt) : runT PP jcU Tryz.f54.ntmps 0 jcd (jet n) jwb (jdt.enc v) (jbp 0 (jcd.head 2) jdt rec K) = jhD n K rec v := by kernel_rfl
noncomputable def jqB (n : Nat) (K : Cont) (m : Nat) (v : Sig.sem jdt) : Option Res := jjN n (fun z0 => K .rt (jcO.enc ((z0, ()), ()))) (fun _ => K (.ex 2) (jpm.enc ((v.1.1, ()), ()))) v.1.1 m v.1.2.1
theorem i_z1z_2 (n : Nat) (K : Cont) : ∀ m v, iter (jhD n K) m v = jqB n K m v := by
  intro m
  induction m with
  | zero => intro v; rfl
  | succ m ih =>
    intro v
    show jhD n K (iter (jhD n K) m) v = jhD n K (jqB n K m) v
    rw [show iter (jhD n K) m = jqB n K m from funext ih]
theorem o_z1z_2 (n : Nat) : ∀ L, jet n 2 = some L → ∀ s K r, L s K = some r → ∃ x s', jbj (run PP jcU Tryz.f54.ntmps 0 n jcd none jwb) (gc 0 (jcd.head 2)) n s = some (x, s') ∧ K x s' = some r := by
  intro L hL s K r h
  have hL : some (jaz 0 (jcd.head 2) jdt fun K v => jqB n K n v) = some L := hL
  cases hL
  have hb : LOk PP jcU Tryz.f54.ntmps 0 n jcd (jet n) jwb := ⟨⟨tT, tT, tT⟩, ⟨tT, tT, (o_z1z_4 n)⟩, tT⟩
  refine jaE hb (jhD n) (t_z1z_2 n) n s K r ?_
  rw [← h]
  unfold jaz
  simp only [i_z1z_2]
noncomputable def jvZ : Code := jaR (jae Tryz.f54) [1, 1, 1, 1, 1, 0, 1, 0, 0]
noncomputable def jhB (n : Nat) (K : Cont) (rec : Sig.sem jdr → Option Res) (v : Sig.sem jdr) : Option Res := jrH n (fun z0 => K .rt (jcO.enc ((z0, ()), ()))) (fun _ => K (.ex 6) (jpk.enc ((), ()))) v.1.1 v.1.2.1 v.2.1 (fun z2 => rec ((v.1.1, (v.1.2.1, (z2, ()))), (v.2.1, ()))) v.1.2.2.1
theorem t_z1z_6 (n : Nat) (K : Cont) (rec : Sig.sem jdr → Option Res) (v : Sig.sem jdr) : runT PP jcU Tryz.f54.ntmps 0 jcd (jet n) jvZ (jdr.enc v) (jbp 0 (jcd.head 6) jdr rec K) = jhB n K rec v := by kernel_rfl
noncomputable def jqz (n : Nat) (K : Cont) (m : Nat) (v : Sig.sem jdr) : Option Res := jjL n (fun z0 => K .rt (jcO.enc ((z0, ()), ()))) (fun _ => K (.ex 6) (jpk.enc ((), ()))) v.1.1 v.1.2.1 v.2.1 m v.1.2.2.1
theorem i_z1z_6 (n : Nat) (K : Cont) : ∀ m v, iter (jhB n K) m v = jqz n K m v := by
  intro m
  induction m with
  | zero => intro v; rfl
  | succ m ih =>
    intro v
    show jhB n K (iter (jhB n K) m) v = jhB n K (jqz n K m) v
    rw [show iter (jhB n K) m = jqz n K m from funext ih]
theorem o_z1z_6 (n : Nat) : ∀ L, jet n 6 = some L → ∀ s K r, L s K = some r → ∃ x s', jbj (run PP jcU Tryz.f54.ntmps 0 n jcd none jvZ) (gc 0 (jcd.head 6)) n s = some (x, s') ∧ K x s' = some r := by
  intro L hL s K r h
  have hL : some (jaz 0 (jcd.head 6) jdr fun K v => jqz n K n v) = some L := hL
  cases hL
  have hb : LOk PP jcU Tryz.f54.ntmps 0 n jcd (jet n) jvZ := ⟨⟨tT, tT, tT⟩, ⟨tT, ⟨tT, tT⟩, tT⟩, tT⟩
  refine jaE hb (jhB n) (t_z1z_6 n) n s K r ?_
  rw [← h]
  unfold jaz
  simp only [i_z1z_6]
theorem m_z1z (n : Nat) (a : EK.sems jHJ) (b : HK.sems jFy) : jaH PP jcU jcd (jet n) Tryz.f54 (jae Tryz.f54) (EK.encs jHJ a) (HK.encs jFy b) = juA n a.1 := by kernel_rfl
theorem g_z1z (n : Nat) (a : EK.sems jHJ) (b : HK.sems jFy) {r : Res} (h : juA n a.1 = some r) : runF PP jcU n jcd 54 (EK.encs jHJ a) (HK.encs jFy b) = some r :=
  jaf PP Tryz.func54 (show Tryz.f54.body = some (jae Tryz.f54) from rfl) (show (1 : Nat) ≤ 104 by decide) (show LOk PP jcU _ 0 n _ (jet n) _ from ⟨tT, ⟨tT, (o_z1z_0 n)⟩, ⟨tT, ⟨tT, tT⟩, tT⟩, ⟨tT, (o_z1z_2 n)⟩, tT, ⟨tT, (o_z1z_6 n)⟩, tT, tT⟩) ((m_z1z n a b).trans h) rfl (by kernel_rfl)
noncomputable def c_z1z : Spec := jaG jHJ jFy jfv jfy fun a b => jMD a.1
theorem k_z1z (hm : Tryz.prog.follows .mixedOrders = true) : jar PP 54 c_z1z := jaj (pol := jcd) hm (cf := jcU) (jav (jab (k_z1v hm) (jab (k_z1w hm) (jab (k_z1x hm) (jab (k_z1y hm) jah))))) fun a b r h => ⟨FUEL, g_z1z FUEL a b (jad h)⟩
def s_z20_r : Sig := ⟨[2], [.ty .bool], []⟩
def p_z20 : Pol := ⟨fun i => none, fun i => none, some [(2, .keep)], [.keep], []⟩
def jHI : List EK := [.agg jay]
def jFx : List HK := []
noncomputable def jzF : CallF := mkCF [] []
noncomputable def jPL (n : Nat) : jaF := fun i =>  none
theorem m_z20 (n : Nat) (a : EK.sems jHI) (b : HK.sems jFx) : jaH PP jzF p_z20 (jPL n) Tryz.f84 (jae Tryz.f84) (EK.encs jHI a) (HK.encs jFx b) = M_z20 n a.1 := by kernel_rfl
theorem g_z20 (n : Nat) (a : EK.sems jHI) (b : HK.sems jFx) {r : Res} (h : M_z20 n a.1 = some r) : runF PP jzF n p_z20 84 (EK.encs jHI a) (HK.encs jFx b) = some r :=
  jaf PP Tryz.func84 (show Tryz.f84.body = some (jae Tryz.f84) from rfl) (show (1 : Nat) ≤ 50 by decide) (show LOk PP jzF _ 0 n _ (jPL n) _ from ⟨tT, ⟨tT, ⟨tT, tT⟩, tT⟩, ⟨tT, ⟨tT, tT⟩, tT⟩, tT, tT⟩) ((m_z20 n a b).trans h) rfl (by kernel_rfl)
noncomputable def c_z20 : Spec := jaG jHI jFx jfm jfn fun a b => jMC a.1
theorem k_z20 (hm : Tryz.prog.follows .mixedOrders = true) : jar PP 84 c_z20 := jaj (pol := p_z20) hm (cf := jzF) (jav jah) fun a b r h => ⟨FUEL, g_z20 FUEL a b (jad h)⟩
def s_z21_r : Sig := ⟨[6], [.ty (.int .i64)], []⟩
def p_z21 : Pol := ⟨fun i => none, fun i => none, some [(6, .keep)], [.keep], []⟩
def jHH : List EK := [.ty .str, .ty (.int .i64), .ty (.int .i64)]
def jFw : List HK := []
noncomputable def jzE : CallF := mkCF [] []
noncomputable def jPK (n : Nat) : jaF := fun i =>  none
theorem m_z21 (n : Nat) (a : EK.sems jHH) (b : HK.sems jFw) : jaH PP jzE p_z21 (jPK n) Tryz.f88 (jae Tryz.f88) (EK.encs jHH a) (HK.encs jFw b) = jKq n a.1 a.2.1 a.2.2.1 := by kernel_rfl
theorem g_z21 (n : Nat) (a : EK.sems jHH) (b : HK.sems jFw) {r : Res} (h : jKq n a.1 a.2.1 a.2.2.1 = some r) : runF PP jzE n p_z21 88 (EK.encs jHH a) (HK.encs jFw b) = some r :=
  jaf PP Tryz.func88 (show Tryz.f88.body = some (jae Tryz.f88) from rfl) (show (3 : Nat) ≤ 24 by decide) (show LOk PP jzE _ 0 n _ (jPK n) _ from ⟨tT, ⟨tT, ⟨tT, tT⟩, tT⟩, ⟨tT, ⟨tT, tT⟩, tT⟩, tT, tT⟩) ((m_z21 n a b).trans h) rfl (by kernel_rfl)
noncomputable def jJk : Spec := jaG jHH jFw jlq jlE fun a b => jJE a.1 a.2.1 a.2.2.1
theorem jLv (hm : Tryz.prog.follows .mixedOrders = true) : jar PP 88 jJk := jaj (pol := p_z21) hm (cf := jzE) (jav jah) fun a b r h => ⟨FUEL, g_z21 FUEL a b (jad h)⟩
def jdq : Sig := ⟨[5, 6], [.ty (.int .i64), .ty (.int .i64)], []⟩
def jpj : Sig := ⟨[5], [.ty (.int .i64)], []⟩
def s_z22_r : Sig := ⟨[4], [.ty (.int .u64)], []⟩
def jnr : Pol := ⟨fun i => if i = 0 then some [(5, .keep), (6, .keep)] else none, fun i => if i = 0 then some [(5, .keep)] else none, some [(4, .keep)], [.keep], []⟩
def jHG : List EK := [.ty .str, .ty (.int .i64)]
def jFv : List HK := []
noncomputable def jmD : CallF := mkCF [] []
noncomputable def jtF (n : Nat) : jaF := fun i => if i = 0 then some (jaz 0 (jnr.head 0) jdq fun K v => jjK n (fun z0 => K (.ex 0) (jpj.enc ((z0, ()), ()))) n v.1.1 v.1.2.1)
  else  none
noncomputable def jvY : Code := jaR (jae Tryz.f90) [1, 1, 0, 1, 0, 0]
noncomputable def jhA (n : Nat) (K : Cont) (rec : Sig.sem jdq → Option Res) (v : Sig.sem jdq) : Option Res := jrG n (fun z0 => K (.ex 0) (jpj.enc ((z0, ()), ()))) (fun z0 z1 => rec ((z0, (z1, ())), ())) v.1.1 v.1.2.1
theorem t_z22_0 (n : Nat) (K : Cont) (rec : Sig.sem jdq → Option Res) (v : Sig.sem jdq) : runT PP jmD Tryz.f90.ntmps 0 jnr (jtF n) jvY (jdq.enc v) (jbp 0 (jnr.head 0) jdq rec K) = jhA n K rec v := by kernel_rfl
noncomputable def jqy (n : Nat) (K : Cont) (m : Nat) (v : Sig.sem jdq) : Option Res := jjK n (fun z0 => K (.ex 0) (jpj.enc ((z0, ()), ()))) m v.1.1 v.1.2.1
theorem i_z22_0 (n : Nat) (K : Cont) : ∀ m v, iter (jhA n K) m v = jqy n K m v := by
  intro m
  induction m with
  | zero => intro v; rfl
  | succ m ih =>
    intro v
    show jhA n K (iter (jhA n K) m) v = jhA n K (jqy n K m) v
    rw [show iter (jhA n K) m = jqy n K m from funext ih]
theorem o_z22_0 (n : Nat) : ∀ L, jtF n 0 = some L → ∀ s K r, L s K = some r → ∃ x s', jbj (run PP jmD Tryz.f90.ntmps 0 n jnr none jvY) (gc 0 (jnr.head 0)) n s = some (x, s') ∧ K x s' = some r := by
  intro L hL s K r h
  have hL : some (jaz 0 (jnr.head 0) jdq fun K v => jqy n K n v) = some L := hL
  cases hL
  have hb : LOk PP jmD Tryz.f90.ntmps 0 n jnr (jtF n) jvY := ⟨⟨tT, tT, tT⟩, tT, tT⟩
  refine jaE hb (jhA n) (t_z22_0 n) n s K r ?_
  rw [← h]
  unfold jaz
  simp only [i_z22_0]
theorem m_z22 (n : Nat) (a : EK.sems jHG) (b : HK.sems jFv) : jaH PP jmD jnr (jtF n) Tryz.f90 (jae Tryz.f90) (EK.encs jHG a) (HK.encs jFv b) = jNU n a.1 a.2.1 := by kernel_rfl
theorem g_z22 (n : Nat) (a : EK.sems jHG) (b : HK.sems jFv) {r : Res} (h : jNU n a.1 a.2.1 = some r) : runF PP jmD n jnr 90 (EK.encs jHG a) (HK.encs jFv b) = some r :=
  jaf PP Tryz.func90 (show Tryz.f90.body = some (jae Tryz.f90) from rfl) (show (2 : Nat) ≤ 23 by decide) (show LOk PP jmD _ 0 n _ (jtF n) _ from ⟨tT, tT, ⟨tT, (o_z22_0 n)⟩, tT, tT⟩) ((m_z22 n a b).trans h) rfl (by kernel_rfl)
noncomputable def c_z22 : Spec := jaG jHG jFv jCV jDB fun a b => jMB a.1 a.2.1
theorem k_z22 (hm : Tryz.prog.follows .mixedOrders = true) : jar PP 90 c_z22 := jaj (pol := jnr) hm (cf := jmD) (jav jah) fun a b r h => ⟨FUEL, g_z22 FUEL a b (jad h)⟩
def s_z23_r : Sig := ⟨[4], [.ptr 0 0 0], [.cell jaL]⟩
def p_z23 : Pol := ⟨fun i => none, fun i => none, some [(4, (.own jaL))], [.keep], []⟩
def jHF : List EK := [.agg jaL, .ty (.int .u64)]
def jFu : List HK := []
noncomputable def jzD : CallF := mkCF [] []
noncomputable def jPJ (n : Nat) : jaF := fun i =>  none
theorem m_z23 (n : Nat) (a : EK.sems jHF) (b : HK.sems jFu) : jaH PP jzD p_z23 (jPJ n) Tryz.f89 (jae Tryz.f89) (EK.encs jHF a) (HK.encs jFu b) = jNT n a.1 a.2.1 := by kernel_rfl
theorem g_z23 (n : Nat) (a : EK.sems jHF) (b : HK.sems jFu) {r : Res} (h : jNT n a.1 a.2.1 = some r) : runF PP jzD n p_z23 89 (EK.encs jHF a) (HK.encs jFu b) = some r :=
  jaf PP Tryz.func89 (show Tryz.f89.body = some (jae Tryz.f89) from rfl) (show (2 : Nat) ≤ 20 by decide) (show LOk PP jzD _ 0 n _ (jPJ n) _ from ⟨tT, tT, tT, tT⟩) ((m_z23 n a b).trans h) rfl (by kernel_rfl)
noncomputable def c_z23 : Spec := jaG jHF jFu jCU jDA fun a b => jMA a.1 a.2.1
theorem k_z23 (hm : Tryz.prog.follows .mixedOrders = true) : jar PP 89 c_z23 := jaj (pol := p_z23) hm (cf := jzD) (jav jah) fun a b r h => ⟨FUEL, g_z23 FUEL a b (jad h)⟩
def jdp : Sig := ⟨[0, 1, 2, 6, 8, 9, 10], [.ty .str, .ty (.int .i64), .ty (.int .i64), .ptr 0 0 0, .ty (.int .i64), .ptr 1 0 0, .ty (.int .i64)], [.cell jaL, .cell jaL]⟩
def jpi : Sig := ⟨[6, 8, 9], [.ptr 0 0 0, .ty (.int .i64), .ptr 1 0 0], [.cell jaL, .cell jaL]⟩
def s_z24_r : Sig := ⟨[6, 7], [.ptr 0 0 0, .ty (.int .i64)], [.cell jaL]⟩
def jnq : Pol := ⟨fun i => if i = 0 then some [(0, .keep), (1, .keep), (2, .keep), (6, (.own jaL)), (8, .keep), (9, (.own jaL)), (10, .keep)] else none, fun i => if i = 0 then some [(6, (.own jaL)), (8, .keep), (9, (.own jaL))] else none, some [(6, (.own jaL)), (7, .keep)], [.keep, .keep], []⟩
def jHE : List EK := [.ty .str, .ty (.int .i64), .ty (.int .i64)]
def jFt : List HK := []
noncomputable def jmC : CallF := mkCF [(88, jJk), (90, c_z22), (89, c_z23)] [(88, [.str, (.int .i64), (.int .i64)]), (90, [.str, (.int .i64)]), (89, [jaL, (.int .u64)])]
noncomputable def jtE (n : Nat) : jaF := fun i => if i = 0 then some (jaz 0 (jnq.head 0) jdp fun K v => jfW n (fun z2 => K (.ex 0) (jpi.enc (((), (v.1.2.2.2.2.1, ((), ()))), (v.2.1, (z2, ()))))) v.1.1 v.1.2.1 v.1.2.2.1 v.1.2.2.2.2.1 v.2.1 n v.1.2.2.2.2.2.2.1 v.2.2.1)
  else  none
noncomputable def jvX : Code := jaR (jae Tryz.f63) [1, 1, 1, 0, 1, 0, 0]
noncomputable def jhz (n : Nat) (K : Cont) (rec : Sig.sem jdp → Option Res) (v : Sig.sem jdp) : Option Res := jkj n (fun z2 => K (.ex 0) (jpi.enc (((), (v.1.2.2.2.2.1, ((), ()))), (v.2.1, (z2, ()))))) v.1.1 v.1.2.1 v.1.2.2.1 v.1.2.2.2.2.1 v.2.1 (fun z4 z6 => rec ((v.1.1, (v.1.2.1, (v.1.2.2.1, ((), (v.1.2.2.2.2.1, ((), (z4, ()))))))), (v.2.1, (z6, ())))) v.1.2.2.2.2.2.2.1 v.2.2.1
theorem t_z24_0 (n : Nat) (K : Cont) (rec : Sig.sem jdp → Option Res) (v : Sig.sem jdp) : runT PP jmC Tryz.f63.ntmps 0 jnq (jtE n) jvX (jdp.enc v) (jbp 0 (jnq.head 0) jdp rec K) = jhz n K rec v := by kernel_rfl
noncomputable def jqx (n : Nat) (K : Cont) (m : Nat) (v : Sig.sem jdp) : Option Res := jfW n (fun z2 => K (.ex 0) (jpi.enc (((), (v.1.2.2.2.2.1, ((), ()))), (v.2.1, (z2, ()))))) v.1.1 v.1.2.1 v.1.2.2.1 v.1.2.2.2.2.1 v.2.1 m v.1.2.2.2.2.2.2.1 v.2.2.1
theorem i_z24_0 (n : Nat) (K : Cont) : ∀ m v, iter (jhz n K) m v = jqx n K m v := by
  intro m
  induction m with
  | zero => intro v; rfl
  | succ m ih =>
    intro v
    show jhz n K (iter (jhz n K) m) v = jhz n K (jqx n K m) v
    rw [show iter (jhz n K) m = jqx n K m from funext ih]
theorem o_z24_0 (n : Nat) : ∀ L, jtE n 0 = some L → ∀ s K r, L s K = some r → ∃ x s', jbj (run PP jmC Tryz.f63.ntmps 0 n jnq none jvX) (gc 0 (jnq.head 0)) n s = some (x, s') ∧ K x s' = some r := by
  intro L hL s K r h
  have hL : some (jaz 0 (jnq.head 0) jdp fun K v => jqx n K n v) = some L := hL
  cases hL
  have hb : LOk PP jmC Tryz.f63.ntmps 0 n jnq (jtE n) jvX := ⟨⟨tT, tT, tT⟩, tT, tT⟩
  refine jaE hb (jhz n) (t_z24_0 n) n s K r ?_
  rw [← h]
  unfold jaz
  simp only [i_z24_0]
theorem m_z24 (n : Nat) (a : EK.sems jHE) (b : HK.sems jFt) : jaH PP jmC jnq (jtE n) Tryz.f63 (jae Tryz.f63) (EK.encs jHE a) (HK.encs jFt b) = jKp n a.1 a.2.1 a.2.2.1 := by kernel_rfl
theorem g_z24 (n : Nat) (a : EK.sems jHE) (b : HK.sems jFt) {r : Res} (h : jKp n a.1 a.2.1 a.2.2.1 = some r) : runF PP jmC n jnq 63 (EK.encs jHE a) (HK.encs jFt b) = some r :=
  jaf PP Tryz.func63 (show Tryz.f63.body = some (jae Tryz.f63) from rfl) (show (3 : Nat) ≤ 34 by decide) (show LOk PP jmC _ 0 n _ (jtE n) _ from ⟨tT, tT, tT, ⟨tT, (o_z24_0 n)⟩, tT, tT⟩) ((m_z24 n a b).trans h) rfl (by kernel_rfl)
noncomputable def c_z24 : Spec := jaG jHE jFt jnY jof fun a b => jMz a.1 a.2.1 a.2.2.1
theorem k_z24 (hm : Tryz.prog.follows .mixedOrders = true) : jar PP 63 c_z24 := jaj (pol := jnq) hm (cf := jmC) (jav (jab (jLv hm) (jab (k_z22 hm) (jab (k_z23 hm) jah)))) fun a b r h => ⟨FUEL, g_z24 FUEL a b (jad h)⟩
def s_z25_r : Sig := ⟨[8, 9], [.ty (.int .i64), .ty .bool], []⟩
def p_z25 : Pol := ⟨fun i => none, fun i => none, some [(8, .keep), (9, .keep)], [.keep, .keep], []⟩
def jHD : List EK := [.ty .str, .ty (.int .i64), .ty (.int .i64), .ty (.int .i64)]
def jFs : List HK := []
noncomputable def jzC : CallF := mkCF [(63, c_z24)] [(63, [.str, (.int .i64), (.int .i64)])]
noncomputable def jPI (n : Nat) : jaF := fun i =>  none
theorem m_z25 (n : Nat) (a : EK.sems jHD) (b : HK.sems jFs) : jaH PP jzC p_z25 (jPI n) Tryz.f56 (jae Tryz.f56) (EK.encs jHD a) (HK.encs jFs b) = jNS n a.1 a.2.1 a.2.2.1 a.2.2.2.1 := by kernel_rfl
theorem g_z25 (n : Nat) (a : EK.sems jHD) (b : HK.sems jFs) {r : Res} (h : jNS n a.1 a.2.1 a.2.2.1 a.2.2.2.1 = some r) : runF PP jzC n p_z25 56 (EK.encs jHD a) (HK.encs jFs b) = some r :=
  jaf PP Tryz.func56 (show Tryz.f56.body = some (jae Tryz.f56) from rfl) (show (4 : Nat) ≤ 34 by decide) (show LOk PP jzC _ 0 n _ (jPI n) _ from ⟨tT, ⟨tT, ⟨tT, tT⟩, tT⟩, tT, tT, tT⟩) ((m_z25 n a b).trans h) rfl (by kernel_rfl)
noncomputable def c_z25 : Spec := jaG jHD jFs jsz jsP fun a b => jMy a.1 a.2.1 a.2.2.1 a.2.2.2.1
theorem k_z25 (hm : Tryz.prog.follows .mixedOrders = true) : jar PP 56 c_z25 := jaj (pol := p_z25) hm (cf := jzC) (jav (jab (k_z24 hm) jah)) fun a b r h => ⟨FUEL, g_z25 FUEL a b (jad h)⟩
def s_z26_r : Sig := ⟨[6, 7], [.ty (.int .i64), .ty (.int .i64)], []⟩
def p_z26 : Pol := ⟨fun i => none, fun i => none, some [(6, .keep), (7, .keep)], [.keep, .keep], []⟩
def jHC : List EK := [.agg jay, .ty .str, .ty (.int .i64)]
def jFr : List HK := []
noncomputable def jzB : CallF := mkCF [(84, c_z20), (56, c_z25)] [(84, [jay]), (56, [.str, (.int .i64), (.int .i64), (.int .i64)])]
noncomputable def jPH (n : Nat) : jaF := fun i =>  none
theorem m_z26 (n : Nat) (a : EK.sems jHC) (b : HK.sems jFr) : jaH PP jzB p_z26 (jPH n) Tryz.f55 (jae Tryz.f55) (EK.encs jHC a) (HK.encs jFr b) = jNR n a.1 a.2.1 a.2.2.1 := by kernel_rfl
theorem g_z26 (n : Nat) (a : EK.sems jHC) (b : HK.sems jFr) {r : Res} (h : jNR n a.1 a.2.1 a.2.2.1 = some r) : runF PP jzB n p_z26 55 (EK.encs jHC a) (HK.encs jFr b) = some r :=
  jaf PP Tryz.func55 (show Tryz.f55.body = some (jae Tryz.f55) from rfl) (show (3 : Nat) ≤ 56 by decide) (show LOk PP jzB _ 0 n _ (jPH n) _ from ⟨tT, ⟨tT, ⟨tT, tT⟩, tT⟩, tT, ⟨tT, ⟨tT, ⟨tT, ⟨tT, tT⟩, tT⟩, tT⟩, tT⟩, ⟨tT, ⟨tT, tT⟩, tT⟩, ⟨tT, ⟨tT, tT⟩, tT⟩, tT, tT⟩) ((m_z26 n a b).trans h) rfl (by kernel_rfl)
noncomputable def c_z26 : Spec := jaG jHC jFr jep jer fun a b => jMx a.1 a.2.1 a.2.2.1
theorem k_z26 (hm : Tryz.prog.follows .mixedOrders = true) : jar PP 55 c_z26 := jaj (pol := p_z26) hm (cf := jzB) (jav (jab (k_z20 hm) (jab (k_z25 hm) jah))) fun a b r h => ⟨FUEL, g_z26 FUEL a b (jad h)⟩
end Go.AMach
