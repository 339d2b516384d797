/- A part of the walk. -/
import Derived.Test.YtfmjdojndbpkhaaCxa
namespace Go.AMach
set_option linter.unusedVariables false
set_option linter.unusedSimpArgs false
set_option linter.unnecessarySimpa false
open Go Go.Proofs
set_option linter.unusedVariables false
def jdR : Sig := ⟨[0, 1, 5, 6], [.ty (.slice jaM), .ty (.int .i64), .hs 0 0, .ty (.int .i64)], [.row (.int .i64)]⟩
def jdQ : Sig := ⟨[0, 1, 5, 6, 7, 8], [.ty (.slice jaM), .ty (.int .i64), .hs 0 0, .ty (.int .i64), .hs 1 0, .ty (.int .i64)], [.row (.int .i64), .row (.int .i64)]⟩
def jdP : Sig := ⟨[0, 1, 5, 6, 7, 8, 9, 10], [.ty (.slice jaM), .ty (.int .i64), .hs 0 0, .ty (.int .i64), .hs 1 0, .ty (.int .i64), .hs 2 0, .ty (.int .i64)], [.row (.int .i64), .row (.int .i64), .row (.int .i64)]⟩
def jdO : Sig := ⟨[0, 1, 5, 6, 7, 8, 9, 10, 11], [.ty (.slice jaM), .ty (.int .i64), .hs 0 0, .ty (.int .i64), .hs 1 0, .ty (.int .i64), .hs 2 0, .ty (.int .i64), .ty (.int .i64)], [.row (.int .i64), .row (.int .i64), .row (.int .i64)]⟩
def jqf : Sig := ⟨[0, 1, 5, 6, 7, 8, 9, 10], [.ty (.slice jaM), .ty (.int .i64), .hs 0 0, .ty (.int .i64), .hs 1 0, .ty (.int .i64), .hs 2 0, .ty (.int .i64)], [.row (.int .i64), .row (.int .i64), .row (.int .i64)]⟩
def jqg : Sig := ⟨[0, 1, 5, 6, 7, 8], [.ty (.slice jaM), .ty (.int .i64), .hs 0 0, .ty (.int .i64), .hs 1 0, .ty (.int .i64)], [.row (.int .i64), .row (.int .i64)]⟩
def jqh : Sig := ⟨[0, 1, 6, 7], [.ty (.slice jaM), .ty (.int .i64), .ty (.int .i64), .hs 0 0], [.row (.int .i64)]⟩
def jqi : Sig := ⟨[5], [.hs 0 0], [.row (.int .i64)]⟩
def s_z18_r : Sig := ⟨[4], [.hs 0 0], [.row (.int .i64)]⟩
def jcv : Pol := ⟨fun i => if i = 0 then some [(0, .keep), (1, .keep), (5, (.own (.int .i64))), (6, .keep)] else if i = 2 then some [(0, .keep), (1, .keep), (5, (.own (.int .i64))), (6, .keep), (7, (.own (.int .i64))), (8, .keep)] else if i = 4 then some [(0, .keep), (1, .keep), (5, (.own (.int .i64))), (6, .keep), (7, (.own (.int .i64))), (8, .keep), (9, (.own (.int .i64))), (10, .keep)] else if i = 6 then some [(0, .keep), (1, .keep), (5, (.own (.int .i64))), (6, .keep), (7, (.own (.int .i64))), (8, .keep), (9, (.own (.int .i64))), (10, .keep), (11, .keep)] else none, fun i => if i = 6 then some [(0, .keep), (1, .keep), (5, (.own (.int .i64))), (6, .keep), (7, (.own (.int .i64))), (8, .keep), (9, (.own (.int .i64))), (10, .keep)] else if i = 4 then some [(0, .keep), (1, .keep), (5, (.own (.int .i64))), (6, .keep), (7, (.own (.int .i64))), (8, .keep)] else if i = 2 then some [(0, .keep), (1, .keep), (6, .keep), (7, (.own (.int .i64)))] else if i = 0 then some [(5, (.own (.int .i64)))] else none, some [(4, (.own (.int .i64)))], [(.own (.int .i64))], []⟩
def e_z18 : List EK := [.ty (.slice jaM), .ty (.int .i64)]
def h_z18 : List HK := []
noncomputable def jdy : CallF := mkCF [(54, c_z16)] [(54, [jaM])]
noncomputable def jfk (n : Nat) : jbk := fun i => if i = 6 then some (jav 0 (jcv.head 6) jdO fun K v => jlb n (fun z9 => K (.ex 6) (jqf.enc ((v.1.1, (v.1.2.1, (v.1.2.2.1, (v.1.2.2.2.1, (v.1.2.2.2.2.1, (v.1.2.2.2.2.2.1, (v.1.2.2.2.2.2.2.1, (v.1.2.2.2.2.2.2.2.1, ())))))))), (v.2.1, (z9, (v.2.2.2.1, ())))))) v.1.1 v.1.2.1 v.1.2.2.1 v.1.2.2.2.1 v.1.2.2.2.2.1 v.1.2.2.2.2.2.1 v.1.2.2.2.2.2.2.1 v.1.2.2.2.2.2.2.2.1 v.2.1 v.2.2.2.1 n v.1.2.2.2.2.2.2.2.2.1 v.2.2.1)
  else if i = 4 then some (jav 0 (jcv.head 4) jdP fun K v => jlc n (fun z7 => K (.ex 4) (jqg.enc ((v.1.1, (v.1.2.1, (v.1.2.2.1, (v.1.2.2.2.1, (v.1.2.2.2.2.1, (v.1.2.2.2.2.2.1, ())))))), (v.2.1, (z7, ()))))) v.1.1 v.1.2.1 v.1.2.2.1 v.1.2.2.2.1 v.1.2.2.2.2.1 v.1.2.2.2.2.2.1 v.1.2.2.2.2.2.2.1 v.2.1 v.2.2.2.1 n v.1.2.2.2.2.2.2.2.1 v.2.2.1)
  else if i = 2 then some (jav 0 (jcv.head 2) jdQ fun K v => jld n (fun z4 => K (.ex 2) (jqh.enc ((v.1.1, (v.1.2.1, (v.1.2.2.2.1, (v.1.2.2.2.2.1, ())))), (z4, ())))) v.1.1 v.1.2.1 v.1.2.2.1 v.1.2.2.2.1 v.1.2.2.2.2.1 v.2.1 n v.1.2.2.2.2.2.1 v.2.2.1)
  else if i = 0 then some (jav 0 (jcv.head 0) jdR fun K v => jjr n (fun z0 z1 => K (.ex 0) (jqi.enc ((z0, ()), (z1, ())))) v.1.1 v.1.2.1 n v.1.2.2.1 v.1.2.2.2.1 v.2.1)
  else  none
noncomputable def jwV : Code := jaN (jad Try.f41) [1, 1, 0, 1, 0, 0, 1, 0, 0, 1, 0, 1, 0, 0, 1, 0, 0, 1, 0, 1, 0, 0, 1, 0, 0, 1, 0, 0]
noncomputable def jiu (n : Nat) (K : Cont) (rec : Sig.sem jdO → Option Res) (v : Sig.sem jdO) : Option Res := jsP n (fun z9 => K (.ex 6) (jqf.enc ((v.1.1, (v.1.2.1, (v.1.2.2.1, (v.1.2.2.2.1, (v.1.2.2.2.2.1, (v.1.2.2.2.2.2.1, (v.1.2.2.2.2.2.2.1, (v.1.2.2.2.2.2.2.2.1, ())))))))), (v.2.1, (z9, (v.2.2.2.1, ())))))) v.1.1 v.1.2.1 v.1.2.2.1 v.1.2.2.2.1 v.1.2.2.2.2.1 v.1.2.2.2.2.2.1 v.1.2.2.2.2.2.2.1 v.1.2.2.2.2.2.2.2.1 v.2.1 v.2.2.2.1 (fun z8 z10 => rec ((v.1.1, (v.1.2.1, (v.1.2.2.1, (v.1.2.2.2.1, (v.1.2.2.2.2.1, (v.1.2.2.2.2.2.1, (v.1.2.2.2.2.2.2.1, (v.1.2.2.2.2.2.2.2.1, (z8, ()))))))))), (v.2.1, (z10, (v.2.2.2.1, ()))))) v.1.2.2.2.2.2.2.2.2.1 v.2.2.1
theorem t_z18_6 (n : Nat) (K : Cont) (rec : Sig.sem jdO → Option Res) (v : Sig.sem jdO) : runT PP jdy Try.f41.ntmps 0 jcv (jfk n) jwV (jdO.enc v) (jbq 0 (jcv.head 6) jdO rec K) = jiu n K rec v := by kernel_rfl
noncomputable def jrH (n : Nat) (K : Cont) (m : Nat) (v : Sig.sem jdO) : Option Res := jlb n (fun z9 => K (.ex 6) (jqf.enc ((v.1.1, (v.1.2.1, (v.1.2.2.1, (v.1.2.2.2.1, (v.1.2.2.2.2.1, (v.1.2.2.2.2.2.1, (v.1.2.2.2.2.2.2.1, (v.1.2.2.2.2.2.2.2.1, ())))))))), (v.2.1, (z9, (v.2.2.2.1, ())))))) v.1.1 v.1.2.1 v.1.2.2.1 v.1.2.2.2.1 v.1.2.2.2.2.1 v.1.2.2.2.2.2.1 v.1.2.2.2.2.2.2.1 v.1.2.2.2.2.2.2.2.1 v.2.1 v.2.2.2.1 m v.1.2.2.2.2.2.2.2.2.1 v.2.2.1
theorem i_z18_6 (n : Nat) (K : Cont) : ∀ m v, iter (jiu n K) m v = jrH n K m v := by
  intro m
  induction m with
  | zero => intro v; rfl
  | succ m ih =>
    intro v
    show jiu n K (iter (jiu n K) m) v = jiu n K (jrH n K m) v
    rw [show iter (jiu n K) m = jrH n K m from funext ih]
theorem o_z18_6 (n : Nat) : ∀ L, jfk n 6 = some L → ∀ s K r, L s K = some r → ∃ x s', jbj (run PP jdy Try.f41.ntmps 0 n jcv none jwV) (gc 0 (jcv.head 6)) n s = some (x, s') ∧ K x s' = some r := by
  intro L hL s K r h
  have hL : some (jav 0 (jcv.head 6) jdO fun K v => jrH n K n v) = some L := hL
  cases hL
  have hb : LOk PP jdy Try.f41.ntmps 0 n jcv (jfk n) jwV := ⟨⟨trivial, ⟨trivial, trivial⟩⟩, ⟨⟨trivial, ⟨trivial, trivial⟩⟩, trivial⟩⟩
  refine jaB hb (jiu n) (t_z18_6 n) n s K r ?_
  rw [← h]
  unfold jav
  simp only [i_z18_6]
noncomputable def jwW : Code := jaN (jad Try.f41) [1, 1, 0, 1, 0, 0, 1, 0, 0, 1, 0, 1, 0, 0, 1, 0, 0, 1, 0, 1, 0, 0]
noncomputable def jiv (n : Nat) (K : Cont) (rec : Sig.sem jdP → Option Res) (v : Sig.sem jdP) : Option Res := jsQ n (fun z7 => K (.ex 4) (jqg.enc ((v.1.1, (v.1.2.1, (v.1.2.2.1, (v.1.2.2.2.1, (v.1.2.2.2.2.1, (v.1.2.2.2.2.2.1, ())))))), (v.2.1, (z7, ()))))) v.1.1 v.1.2.1 v.1.2.2.1 v.1.2.2.2.1 v.1.2.2.2.2.1 v.1.2.2.2.2.2.1 v.1.2.2.2.2.2.2.1 v.2.1 v.2.2.2.1 (fun z7 z9 => rec ((v.1.1, (v.1.2.1, (v.1.2.2.1, (v.1.2.2.2.1, (v.1.2.2.2.2.1, (v.1.2.2.2.2.2.1, (v.1.2.2.2.2.2.2.1, (z7, ())))))))), (v.2.1, (z9, (v.2.2.2.1, ()))))) v.1.2.2.2.2.2.2.2.1 v.2.2.1
theorem t_z18_4 (n : Nat) (K : Cont) (rec : Sig.sem jdP → Option Res) (v : Sig.sem jdP) : runT PP jdy Try.f41.ntmps 0 jcv (jfk n) jwW (jdP.enc v) (jbq 0 (jcv.head 4) jdP rec K) = jiv n K rec v := by kernel_rfl
noncomputable def jrI (n : Nat) (K : Cont) (m : Nat) (v : Sig.sem jdP) : Option Res := jlc n (fun z7 => K (.ex 4) (jqg.enc ((v.1.1, (v.1.2.1, (v.1.2.2.1, (v.1.2.2.2.1, (v.1.2.2.2.2.1, (v.1.2.2.2.2.2.1, ())))))), (v.2.1, (z7, ()))))) v.1.1 v.1.2.1 v.1.2.2.1 v.1.2.2.2.1 v.1.2.2.2.2.1 v.1.2.2.2.2.2.1 v.1.2.2.2.2.2.2.1 v.2.1 v.2.2.2.1 m v.1.2.2.2.2.2.2.2.1 v.2.2.1
theorem i_z18_4 (n : Nat) (K : Cont) : ∀ m v, iter (jiv n K) m v = jrI n K m v := by
  intro m
  induction m with
  | zero => intro v; rfl
  | succ m ih =>
    intro v
    show jiv n K (iter (jiv n K) m) v = jiv n K (jrI n K m) v
    rw [show iter (jiv n K) m = jrI n K m from funext ih]
theorem o_z18_4 (n : Nat) : ∀ L, jfk n 4 = some L → ∀ s K r, L s K = some r → ∃ x s', jbj (run PP jdy Try.f41.ntmps 0 n jcv none jwW) (gc 0 (jcv.head 4)) n s = some (x, s') ∧ K x s' = some r := by
  intro L hL s K r h
  have hL : some (jav 0 (jcv.head 4) jdP fun K v => jrI n K n v) = some L := hL
  cases hL
  have hb : LOk PP jdy Try.f41.ntmps 0 n jcv (jfk n) jwW := ⟨⟨trivial, ⟨trivial, trivial⟩⟩, ⟨⟨trivial, (o_z18_6 n)⟩, trivial⟩⟩
  refine jaB hb (jiv n) (t_z18_4 n) n s K r ?_
  rw [← h]
  unfold jav
  simp only [i_z18_4]
noncomputable def jwX : Code := jaN (jad Try.f41) [1, 1, 0, 1, 0, 0, 1, 0, 0, 1, 0, 1, 0, 0]
noncomputable def jiw (n : Nat) (K : Cont) (rec : Sig.sem jdQ → Option Res) (v : Sig.sem jdQ) : Option Res := jsR n (fun z4 => K (.ex 2) (jqh.enc ((v.1.1, (v.1.2.1, (v.1.2.2.2.1, (v.1.2.2.2.2.1, ())))), (z4, ())))) v.1.1 v.1.2.1 v.1.2.2.1 v.1.2.2.2.1 v.1.2.2.2.2.1 v.2.1 (fun z5 z7 => rec ((v.1.1, (v.1.2.1, (v.1.2.2.1, (v.1.2.2.2.1, (v.1.2.2.2.2.1, (z5, ())))))), (v.2.1, (z7, ())))) v.1.2.2.2.2.2.1 v.2.2.1
theorem t_z18_2 (n : Nat) (K : Cont) (rec : Sig.sem jdQ → Option Res) (v : Sig.sem jdQ) : runT PP jdy Try.f41.ntmps 0 jcv (jfk n) jwX (jdQ.enc v) (jbq 0 (jcv.head 2) jdQ rec K) = jiw n K rec v := by kernel_rfl
noncomputable def jrJ (n : Nat) (K : Cont) (m : Nat) (v : Sig.sem jdQ) : Option Res := jld n (fun z4 => K (.ex 2) (jqh.enc ((v.1.1, (v.1.2.1, (v.1.2.2.2.1, (v.1.2.2.2.2.1, ())))), (z4, ())))) v.1.1 v.1.2.1 v.1.2.2.1 v.1.2.2.2.1 v.1.2.2.2.2.1 v.2.1 m v.1.2.2.2.2.2.1 v.2.2.1
theorem i_z18_2 (n : Nat) (K : Cont) : ∀ m v, iter (jiw n K) m v = jrJ n K m v := by
  intro m
  induction m with
  | zero => intro v; rfl
  | succ m ih =>
    intro v
    show jiw n K (iter (jiw n K) m) v = jiw n K (jrJ n K m) v
    rw [show iter (jiw n K) m = jrJ n K m from funext ih]
theorem o_z18_2 (n : Nat) : ∀ L, jfk n 2 = some L → ∀ s K r, L s K = some r → ∃ x s', jbj (run PP jdy Try.f41.ntmps 0 n jcv none jwX) (gc 0 (jcv.head 2)) n s = some (x, s') ∧ K x s' = some r := by
  intro L hL s K r h
  have hL : some (jav 0 (jcv.head 2) jdQ fun K v => jrJ n K n v) = some L := hL
  cases hL
  have hb : LOk PP jdy Try.f41.ntmps 0 n jcv (jfk n) jwX := ⟨⟨trivial, ⟨trivial, trivial⟩⟩, ⟨⟨trivial, ⟨⟨trivial, (o_z18_4 n)⟩, trivial⟩⟩, trivial⟩⟩
  refine jaB hb (jiw n) (t_z18_2 n) n s K r ?_
  rw [← h]
  unfold jav
  simp only [i_z18_2]
noncomputable def jwY : Code := jaN (jad Try.f41) [1, 1, 0, 1, 0, 0]
noncomputable def jix (n : Nat) (K : Cont) (rec : Sig.sem jdR → Option Res) (v : Sig.sem jdR) : Option Res := jsS n (fun z0 z1 => K (.ex 0) (jqi.enc ((z0, ()), (z1, ())))) v.1.1 v.1.2.1 (fun z2 z3 z4 => rec ((v.1.1, (v.1.2.1, (z2, (z3, ())))), (z4, ()))) v.1.2.2.1 v.1.2.2.2.1 v.2.1
theorem t_z18_0 (n : Nat) (K : Cont) (rec : Sig.sem jdR → Option Res) (v : Sig.sem jdR) : runT PP jdy Try.f41.ntmps 0 jcv (jfk n) jwY (jdR.enc v) (jbq 0 (jcv.head 0) jdR rec K) = jix n K rec v := by kernel_rfl
noncomputable def jrK (n : Nat) (K : Cont) (m : Nat) (v : Sig.sem jdR) : Option Res := jjr n (fun z0 z1 => K (.ex 0) (jqi.enc ((z0, ()), (z1, ())))) v.1.1 v.1.2.1 m v.1.2.2.1 v.1.2.2.2.1 v.2.1
theorem i_z18_0 (n : Nat) (K : Cont) : ∀ m v, iter (jix n K) m v = jrK n K m v := by
  intro m
  induction m with
  | zero => intro v; rfl
  | succ m ih =>
    intro v
    show jix n K (iter (jix n K) m) v = jix n K (jrK n K m) v
    rw [show iter (jix n K) m = jrK n K m from funext ih]
theorem o_z18_0 (n : Nat) : ∀ L, jfk n 0 = some L → ∀ s K r, L s K = some r → ∃ x s', jbj (run PP jdy Try.f41.ntmps 0 n jcv none jwY) (gc 0 (jcv.head 0)) n s = some (x, s') ∧ K x s' = some r := by
  intro L hL s K r h
  have hL : some (jav 0 (jcv.head 0) jdR fun K v => jrK n K n v) = some L := hL
  cases hL
  have hb : LOk PP jdy Try.f41.ntmps 0 n jcv (jfk n) jwY := ⟨⟨trivial, ⟨trivial, trivial⟩⟩, ⟨⟨trivial, ⟨⟨trivial, (o_z18_2 n)⟩, trivial⟩⟩, trivial⟩⟩
  refine jaB hb (jix n) (t_z18_0 n) n s K r ?_
  rw [← h]
  unfold jav
  simp only [i_z18_0]
theorem m_z18 (n : Nat) (a0 : (List jah)) (a1 : Int) : jbx PP jdy jcv (jfk n) Try.f41 (jad Try.f41) (EK.encs e_z18 ((a0, (a1, ())), ()).1) (HK.encs h_z18 ((a0, (a1, ())), ()).2) = jFg n a0 a1 := by kernel_rfl
theorem g_z18 (n : Nat) (a0 : (List jah)) (a1 : Int) {r : Res} (h : jFg n a0 a1 = some r) : runF PP jdy n jcv 41 (EK.encs e_z18 ((a0, (a1, ())), ()).1) (HK.encs h_z18 ((a0, (a1, ())), ()).2) = some r := by
  have hb : LOk PP jdy Try.f41.ntmps 0 n jcv (jfk n) (jad Try.f41) := ⟨trivial, ⟨trivial, ⟨⟨trivial, (o_z18_0 n)⟩, ⟨trivial, trivial⟩⟩⟩⟩
  exact jas PP (c := jad Try.f41) Try.func41 (show Try.f41.body = some (jad Try.f41) from rfl) (show (2 : Nat) ≤ 76 by decide) hb ((m_z18 n a0 a1).trans h) rfl (by kernel_rfl)
noncomputable def c_z18 : Spec := jbe e_z18 h_z18 jtP jug fun a b => jEn a.1 a.2.1
theorem k_z18 (hm : Try.prog.follows .mixedOrders = true) : jaJ PP 41 c_z18 := jaC (pol := jcv) hm (cf := jdy) (jaX (jaf (k_z16 hm) jay)) fun a b r h => ⟨FUEL, g_z18 FUEL a.1 a.2.1 (jar h)⟩
def jdN : Sig := ⟨[0, 3], [.ty (.slice jaM), .ty (.int .i64)], []⟩
def jdm : Sig := ⟨[2], [.ty (.int .i64)], []⟩
def jqe : Sig := ⟨[0], [.ty (.slice jaM)], []⟩
def jdM : Sig := ⟨[0, 4], [.ty (.slice jaM), .ty (.int .i64)], []⟩
def jdL : Sig := ⟨[0, 4, 5, 6], [.ty (.slice jaM), .ty (.int .i64), .hs 0 0, .ty (.int .i64)], [.row (.int .i64)]⟩
def jqc : Sig := ⟨[0, 4], [.ty (.slice jaM), .ty (.int .i64)], []⟩
def jqd : Sig := ⟨[0], [.ty (.slice jaM)], []⟩
def jdK : Sig := ⟨[0, 9, 10], [.ty (.slice jaM), .hs 0 0, .ty (.int .i64)], [.row (.int .i64)]⟩
def jqb : Sig := ⟨[], [], []⟩
def jcu : Pol := ⟨fun i => if i = 0 then some [(0, .keep), (3, .keep)] else if i = 2 then some [(0, .keep), (4, .keep)] else if i = 4 then some [(0, .keep), (4, .keep), (5, (.own (.int .i64))), (6, .keep)] else if i = 6 then some [(0, .keep), (9, (.own (.int .i64))), (10, .keep)] else none, fun i => if i = 0 then some [(0, .keep)] else if i = 4 then some [(0, .keep), (4, .keep)] else if i = 2 then some [(0, .keep)] else if i = 6 then some [] else none, some [(2, .keep)], [.keep], []⟩
def e_z19 : List EK := [.ty (.slice jaM)]
def h_z19 : List HK := []
noncomputable def jdx : CallF := mkCF [(53, c_z15), (54, c_z16), (55, c_z17), (41, c_z18)] [(53, [jaM]), (54, [jaM]), (55, [(.slice jaM), (.int .i64)]), (41, [(.slice jaM), (.int .i64)])]
noncomputable def jfj (n : Nat) : jbk := fun i => if i = 0 then some (jav 0 (jcu.head 0) jdN fun K v => jla n (fun z0 => K .rt (jdm.enc ((z0, ()), ()))) (fun _ => K (.ex 0) (jqe.enc ((v.1.1, ()), ()))) v.1.1 n v.1.2.1)
  else if i = 4 then some (jav 0 (jcu.head 4) jdL fun K v => jkY n (fun z0 => K .rt (jdm.enc ((z0, ()), ()))) (fun _ => K (.ex 4) (jqc.enc ((v.1.1, (v.1.2.1, ())), ()))) v.1.1 v.1.2.1 v.1.2.2.1 v.2.1 n v.1.2.2.2.1)
  else if i = 2 then some (jav 0 (jcu.head 2) jdM fun K v => jkZ n (fun z0 => K .rt (jdm.enc ((z0, ()), ()))) (fun _ => K (.ex 2) (jqd.enc ((v.1.1, ()), ()))) v.1.1 n v.1.2.1)
  else if i = 6 then some (jav 0 (jcu.head 6) jdK fun K v => jkX n (fun z0 => K .rt (jdm.enc ((z0, ()), ()))) (fun _ => K (.ex 6) (jqb.enc ((), ()))) v.1.1 v.1.2.1 v.2.1 n v.1.2.2.1)
  else  none
noncomputable def jwU : Code := jaN (jad Try.f40) [1, 0, 1, 0, 0]
noncomputable def jit (n : Nat) (K : Cont) (rec : Sig.sem jdN → Option Res) (v : Sig.sem jdN) : Option Res := jsO n (fun z0 => K .rt (jdm.enc ((z0, ()), ()))) (fun _ => K (.ex 0) (jqe.enc ((v.1.1, ()), ()))) v.1.1 (fun z1 => rec ((v.1.1, (z1, ())), ())) v.1.2.1
theorem t_z19_0 (n : Nat) (K : Cont) (rec : Sig.sem jdN → Option Res) (v : Sig.sem jdN) : runT PP jdx Try.f40.ntmps 0 jcu (jfj n) jwU (jdN.enc v) (jbq 0 (jcu.head 0) jdN rec K) = jit n K rec v := by kernel_rfl
noncomputable def jrG (n : Nat) (K : Cont) (m : Nat) (v : Sig.sem jdN) : Option Res := jla n (fun z0 => K .rt (jdm.enc ((z0, ()), ()))) (fun _ => K (.ex 0) (jqe.enc ((v.1.1, ()), ()))) v.1.1 m v.1.2.1
theorem i_z19_0 (n : Nat) (K : Cont) : ∀ m v, iter (jit n K) m v = jrG n K m v := by
  intro m
  induction m with
  | zero => intro v; rfl
  | succ m ih =>
    intro v
    show jit n K (iter (jit n K) m) v = jit n K (jrG n K m) v
    rw [show iter (jit n K) m = jrG n K m from funext ih]
theorem o_z19_0 (n : Nat) : ∀ L, jfj n 0 = some L → ∀ s K r, L s K = some r → ∃ x s', jbj (run PP jdx Try.f40.ntmps 0 n jcu none jwU) (gc 0 (jcu.head 0)) n s = some (x, s') ∧ K x s' = some r := by
  intro L hL s K r h
  have hL : some (jav 0 (jcu.head 0) jdN fun K v => jrG n K n v) = some L := hL
  cases hL
  have hb : LOk PP jdx Try.f40.ntmps 0 n jcu (jfj n) jwU := ⟨⟨trivial, ⟨trivial, trivial⟩⟩, ⟨⟨trivial, ⟨⟨trivial, trivial⟩, trivial⟩⟩, trivial⟩⟩
  refine jaB hb (jit n) (t_z19_0 n) n s K r ?_
  rw [← h]
  unfold jav
  simp only [i_z19_0]
noncomputable def jwS : Code := jaN (jad Try.f40) [1, 1, 1, 0, 1, 0, 0, 1, 0, 0, 1, 1, 0, 0]
noncomputable def jir (n : Nat) (K : Cont) (rec : Sig.sem jdL → Option Res) (v : Sig.sem jdL) : Option Res := jsM n (fun z0 => K .rt (jdm.enc ((z0, ()), ()))) (fun _ => K (.ex 4) (jqc.enc ((v.1.1, (v.1.2.1, ())), ()))) v.1.1 v.1.2.1 v.1.2.2.1 v.2.1 (fun z3 => rec ((v.1.1, (v.1.2.1, (v.1.2.2.1, (z3, ())))), (v.2.1, ()))) v.1.2.2.2.1
theorem t_z19_4 (n : Nat) (K : Cont) (rec : Sig.sem jdL → Option Res) (v : Sig.sem jdL) : runT PP jdx Try.f40.ntmps 0 jcu (jfj n) jwS (jdL.enc v) (jbq 0 (jcu.head 4) jdL rec K) = jir n K rec v := by kernel_rfl
noncomputable def jrE (n : Nat) (K : Cont) (m : Nat) (v : Sig.sem jdL) : Option Res := jkY n (fun z0 => K .rt (jdm.enc ((z0, ()), ()))) (fun _ => K (.ex 4) (jqc.enc ((v.1.1, (v.1.2.1, ())), ()))) v.1.1 v.1.2.1 v.1.2.2.1 v.2.1 m v.1.2.2.2.1
theorem i_z19_4 (n : Nat) (K : Cont) : ∀ m v, iter (jir n K) m v = jrE n K m v := by
  intro m
  induction m with
  | zero => intro v; rfl
  | succ m ih =>
    intro v
    show jir n K (iter (jir n K) m) v = jir n K (jrE n K m) v
    rw [show iter (jir n K) m = jrE n K m from funext ih]
theorem o_z19_4 (n : Nat) : ∀ L, jfj n 4 = some L → ∀ s K r, L s K = some r → ∃ x s', jbj (run PP jdx Try.f40.ntmps 0 n jcu none jwS) (gc 0 (jcu.head 4)) n s = some (x, s') ∧ K x s' = some r := by
  intro L hL s K r h
  have hL : some (jav 0 (jcu.head 4) jdL fun K v => jrE n K n v) = some L := hL
  cases hL
  have hb : LOk PP jdx Try.f40.ntmps 0 n jcu (jfj n) jwS := ⟨⟨trivial, ⟨trivial, trivial⟩⟩, ⟨⟨trivial, ⟨trivial, ⟨⟨trivial, trivial⟩, trivial⟩⟩⟩, trivial⟩⟩
  refine jaB hb (jir n) (t_z19_4 n) n s K r ?_
  rw [← h]
  unfold jav
  simp only [i_z19_4]
noncomputable def jwT : Code := jaN (jad Try.f40) [1, 1, 1, 0, 1, 0, 0]
noncomputable def jis (n : Nat) (K : Cont) (rec : Sig.sem jdM → Option Res) (v : Sig.sem jdM) : Option Res := jsN n (fun z0 => K .rt (jdm.enc ((z0, ()), ()))) (fun _ => K (.ex 2) (jqd.enc ((v.1.1, ()), ()))) v.1.1 (fun z1 => rec ((v.1.1, (z1, ())), ())) v.1.2.1
theorem t_z19_2 (n : Nat) (K : Cont) (rec : Sig.sem jdM → Option Res) (v : Sig.sem jdM) : runT PP jdx Try.f40.ntmps 0 jcu (jfj n) jwT (jdM.enc v) (jbq 0 (jcu.head 2) jdM rec K) = jis n K rec v := by kernel_rfl
noncomputable def jrF (n : Nat) (K : Cont) (m : Nat) (v : Sig.sem jdM) : Option Res := jkZ n (fun z0 => K .rt (jdm.enc ((z0, ()), ()))) (fun _ => K (.ex 2) (jqd.enc ((v.1.1, ()), ()))) v.1.1 m v.1.2.1
theorem i_z19_2 (n : Nat) (K : Cont) : ∀ m v, iter (jis n K) m v = jrF n K m v := by
  intro m
  induction m with
  | zero => intro v; rfl
  | succ m ih =>
    intro v
    show jis n K (iter (jis n K) m) v = jis n K (jrF n K m) v
    rw [show iter (jis n K) m = jrF n K m from funext ih]
theorem o_z19_2 (n : Nat) : ∀ L, jfj n 2 = some L → ∀ s K r, L s K = some r → ∃ x s', jbj (run PP jdx Try.f40.ntmps 0 n jcu none jwT) (gc 0 (jcu.head 2)) n s = some (x, s') ∧ K x s' = some r := by
  intro L hL s K r h
  have hL : some (jav 0 (jcu.head 2) jdM fun K v => jrF n K n v) = some L := hL
  cases hL
  have hb : LOk PP jdx Try.f40.ntmps 0 n jcu (jfj n) jwT := ⟨⟨trivial, ⟨trivial, trivial⟩⟩, ⟨⟨trivial, ⟨trivial, (o_z19_4 n)⟩⟩, trivial⟩⟩
  refine jaB hb (jis n) (t_z19_2 n) n s K r ?_
  rw [← h]
  unfold jav
  simp only [i_z19_2]
noncomputable def jwR : Code := jaN (jad Try.f40) [1, 1, 1, 1, 1, 0, 1, 0, 0]
noncomputable def jiq (n : Nat) (K : Cont) (rec : Sig.sem jdK → Option Res) (v : Sig.sem jdK) : Option Res := jsL n (fun z0 => K .rt (jdm.enc ((z0, ()), ()))) (fun _ => K (.ex 6) (jqb.enc ((), ()))) v.1.1 v.1.2.1 v.2.1 (fun z2 => rec ((v.1.1, (v.1.2.1, (z2, ()))), (v.2.1, ()))) v.1.2.2.1
theorem t_z19_6 (n : Nat) (K : Cont) (rec : Sig.sem jdK → Option Res) (v : Sig.sem jdK) : runT PP jdx Try.f40.ntmps 0 jcu (jfj n) jwR (jdK.enc v) (jbq 0 (jcu.head 6) jdK rec K) = jiq n K rec v := by kernel_rfl
noncomputable def jrD (n : Nat) (K : Cont) (m : Nat) (v : Sig.sem jdK) : Option Res := jkX n (fun z0 => K .rt (jdm.enc ((z0, ()), ()))) (fun _ => K (.ex 6) (jqb.enc ((), ()))) v.1.1 v.1.2.1 v.2.1 m v.1.2.2.1
theorem i_z19_6 (n : Nat) (K : Cont) : ∀ m v, iter (jiq n K) m v = jrD n K m v := by
  intro m
  induction m with
  | zero => intro v; rfl
  | succ m ih =>
    intro v
    show jiq n K (iter (jiq n K) m) v = jiq n K (jrD n K m) v
    rw [show iter (jiq n K) m = jrD n K m from funext ih]
theorem o_z19_6 (n : Nat) : ∀ L, jfj n 6 = some L → ∀ s K r, L s K = some r → ∃ x s', jbj (run PP jdx Try.f40.ntmps 0 n jcu none jwR) (gc 0 (jcu.head 6)) n s = some (x, s') ∧ K x s' = some r := by
  intro L hL s K r h
  have hL : some (jav 0 (jcu.head 6) jdK fun K v => jrD n K n v) = some L := hL
  cases hL
  have hb : LOk PP jdx Try.f40.ntmps 0 n jcu (jfj n) jwR := ⟨⟨trivial, ⟨trivial, trivial⟩⟩, ⟨⟨trivial, ⟨⟨trivial, trivial⟩, trivial⟩⟩, trivial⟩⟩
  refine jaB hb (jiq n) (t_z19_6 n) n s K r ?_
  rw [← h]
  unfold jav
  simp only [i_z19_6]
theorem m_z19 (n : Nat) (a0 : (List jah)) : jbx PP jdx jcu (jfj n) Try.f40 (jad Try.f40) (EK.encs e_z19 ((a0, ()), ()).1) (HK.encs h_z19 ((a0, ()), ()).2) = jvD n a0 := by kernel_rfl
theorem g_z19 (n : Nat) (a0 : (List jah)) {r : Res} (h : jvD n a0 = some r) : runF PP jdx n jcu 40 (EK.encs e_z19 ((a0, ()), ()).1) (HK.encs h_z19 ((a0, ()), ()).2) = some r := by
  have hb : LOk PP jdx Try.f40.ntmps 0 n jcu (jfj n) (jad Try.f40) := ⟨trivial, ⟨⟨trivial, (o_z19_0 n)⟩, ⟨⟨trivial, ⟨⟨trivial, trivial⟩, trivial⟩⟩, ⟨⟨trivial, (o_z19_2 n)⟩, ⟨trivial, ⟨⟨trivial, (o_z19_6 n)⟩, ⟨trivial, trivial⟩⟩⟩⟩⟩⟩⟩
  exact jas PP (c := jad Try.f40) Try.func40 (show Try.f40.body = some (jad Try.f40) from rfl) (show (1 : Nat) ≤ 104 by decide) hb ((m_z19 n a0).trans h) rfl (by kernel_rfl)
noncomputable def c_z19 : Spec := jbe e_z19 h_z19 jfx jfz fun a b => jEm a.1
theorem k_z19 (hm : Try.prog.follows .mixedOrders = true) : jaJ PP 40 c_z19 := jaC (pol := jcu) hm (cf := jdx) (jaX (jaf (k_z15 hm) (jaf (k_z16 hm) (jaf (k_z17 hm) (jaf (k_z18 hm) jay))))) fun a b r h => ⟨FUEL, g_z19 FUEL a.1 (jar h)⟩
def jwe : Sig := ⟨[2], [.ty (.int .i64)], []⟩
def jdJ : Sig := ⟨[0, 3, 4], [.ty (.slice jaM), .hs 0 0, .ty (.int .i64)], [.row (.int .i64)]⟩
def jqa : Sig := ⟨[], [], []⟩
def jnm : Pol := ⟨fun i => if i = 0 then some [(0, .keep), (3, (.own (.int .i64))), (4, .keep)] else none, fun i => if i = 0 then some [] else none, some [(2, .keep)], [.keep], []⟩
def e_z1a : List EK := [.ty (.slice jaM)]
def h_z1a : List HK := []
noncomputable def jnR : CallF := mkCF [(40, c_z19), (41, c_z18)] [(40, [(.slice jaM)]), (41, [(.slice jaM), (.int .i64)])]
noncomputable def juL (n : Nat) : jbk := fun i => if i = 0 then some (jav 0 (jnm.head 0) jdJ fun K v => jkW n (fun z0 => K .rt (jwe.enc ((z0, ()), ()))) (fun _ => K (.ex 0) (jqa.enc ((), ()))) v.1.1 v.1.2.1 v.2.1 n v.1.2.2.1)
  else  none
noncomputable def jwQ : Code := jaN (jad Try.f29) [1, 1, 1, 0, 1, 0, 0]
noncomputable def jip (n : Nat) (K : Cont) (rec : Sig.sem jdJ → Option Res) (v : Sig.sem jdJ) : Option Res := jsK n (fun z0 => K .rt (jwe.enc ((z0, ()), ()))) (fun _ => K (.ex 0) (jqa.enc ((), ()))) v.1.1 v.1.2.1 v.2.1 (fun z2 => rec ((v.1.1, (v.1.2.1, (z2, ()))), (v.2.1, ()))) v.1.2.2.1
theorem t_z1a_0 (n : Nat) (K : Cont) (rec : Sig.sem jdJ → Option Res) (v : Sig.sem jdJ) : runT PP jnR Try.f29.ntmps 0 jnm (juL n) jwQ (jdJ.enc v) (jbq 0 (jnm.head 0) jdJ rec K) = jip n K rec v := by kernel_rfl
noncomputable def jrC (n : Nat) (K : Cont) (m : Nat) (v : Sig.sem jdJ) : Option Res := jkW n (fun z0 => K .rt (jwe.enc ((z0, ()), ()))) (fun _ => K (.ex 0) (jqa.enc ((), ()))) v.1.1 v.1.2.1 v.2.1 m v.1.2.2.1
theorem i_z1a_0 (n : Nat) (K : Cont) : ∀ m v, iter (jip n K) m v = jrC n K m v := by
  intro m
  induction m with
  | zero => intro v; rfl
  | succ m ih =>
    intro v
    show jip n K (iter (jip n K) m) v = jip n K (jrC n K m) v
    rw [show iter (jip n K) m = jrC n K m from funext ih]
theorem o_z1a_0 (n : Nat) : ∀ L, juL n 0 = some L → ∀ s K r, L s K = some r → ∃ x s', jbj (run PP jnR Try.f29.ntmps 0 n jnm none jwQ) (gc 0 (jnm.head 0)) n s = some (x, s') ∧ K x s' = some r := by
  intro L hL s K r h
  have hL : some (jav 0 (jnm.head 0) jdJ fun K v => jrC n K n v) = some L := hL
  cases hL
  have hb : LOk PP jnR Try.f29.ntmps 0 n jnm (juL n) jwQ := ⟨⟨trivial, ⟨trivial, trivial⟩⟩, ⟨⟨trivial, ⟨⟨trivial, trivial⟩, trivial⟩⟩, trivial⟩⟩
  refine jaB hb (jip n) (t_z1a_0 n) n s K r ?_
  rw [← h]
  unfold jav
  simp only [i_z1a_0]
theorem m_z1a (n : Nat) (a0 : (List jah)) : jbx PP jnR jnm (juL n) Try.f29 (jad Try.f29) (EK.encs e_z1a ((a0, ()), ()).1) (HK.encs h_z1a ((a0, ()), ()).2) = jFf n a0 := by kernel_rfl
theorem g_z1a (n : Nat) (a0 : (List jah)) {r : Res} (h : jFf n a0 = some r) : runF PP jnR n jnm 29 (EK.encs e_z1a ((a0, ()), ()).1) (HK.encs h_z1a ((a0, ()), ()).2) = some r := by
  have hb : LOk PP jnR Try.f29.ntmps 0 n jnm (juL n) (jad Try.f29) := ⟨trivial, ⟨⟨trivial, ⟨⟨trivial, trivial⟩, trivial⟩⟩, ⟨trivial, ⟨⟨trivial, (o_z1a_0 n)⟩, ⟨trivial, trivial⟩⟩⟩⟩⟩
  exact jas PP (c := jad Try.f29) Try.func29 (show Try.f29.body = some (jad Try.f29) from rfl) (show (1 : Nat) ≤ 28 by decide) hb ((m_z1a n a0).trans h) rfl (by kernel_rfl)
noncomputable def c_z1a : Spec := jbe e_z1a h_z1a jhw jhz fun a b => jEl a.1
theorem k_z1a (hm : Try.prog.follows .mixedOrders = true) : jaJ PP 29 c_z1a := jaC (pol := jnm) hm (cf := jnR) (jaX (jaf (k_z19 hm) (jaf (k_z18 hm) jay))) fun a b r h => ⟨FUEL, g_z1a FUEL a.1 (jar h)⟩
def s_z1b_r : Sig := ⟨[2, 3], [.ty (.int .i64), .ty (.int .i64)], []⟩
def jDi : Pol := ⟨fun i => none, fun i => none, some [(2, .keep), (3, .keep)], [.keep, .keep], []⟩
def e_z1b : List EK := [.agg jag]
def h_z1b : List HK := []
noncomputable def jyU : CallF := mkCF [(17, c_z14), (29, c_z1a), (28, jBS)] [(17, [jag, (.int .i64)]), (29, [(.slice jaM)]), (28, [(.int .i64)])]
noncomputable def jGb (n : Nat) : jbk := fun i =>  none
theorem m_z1b (n : Nat) (a0 : jaa) : jbx PP jyU jDi (jGb n) Try.f13 (jad Try.f13) (EK.encs e_z1b ((a0, ()), ()).1) (HK.encs h_z1b ((a0, ()), ()).2) = jFe n a0 := by kernel_rfl
theorem g_z1b (n : Nat) (a0 : jaa) {r : Res} (h : jFe n a0 = some r) : runF PP jyU n jDi 13 (EK.encs e_z1b ((a0, ()), ()).1) (HK.encs h_z1b ((a0, ()), ()).2) = some r := by
  have hb : LOk PP jyU Try.f13.ntmps 0 n jDi (jGb n) (jad Try.f13) := ⟨trivial, ⟨trivial, ⟨⟨trivial, ⟨⟨trivial, trivial⟩, trivial⟩⟩, ⟨trivial, trivial⟩⟩⟩⟩
  exact jas PP (c := jad Try.f13) Try.func13 (show Try.f13.body = some (jad Try.f13) from rfl) (show (1 : Nat) ≤ 20 by decide) hb ((m_z1b n a0).trans h) rfl (by kernel_rfl)
noncomputable def c_z1b : Spec := jbe e_z1b h_z1b joJ joX fun a b => jEk a.1
theorem k_z1b (hm : Try.prog.follows .mixedOrders = true) : jaJ PP 13 c_z1b := jaC (pol := jDi) hm (cf := jyU) (jaX (jaf (k_z14 hm) (jaf (k_z1a hm) (jaf (jDG hm) jay)))) fun a b r h => ⟨FUEL, g_z1b FUEL a.1 (jar h)⟩
def s_z1c_r : Sig := ⟨[4, 5], [.ty (.int .i64), .ty (.int .i64)], []⟩
def jDh : Pol := ⟨fun i => none, fun i => none, some [(4, .keep), (5, .keep)], [.keep, .keep], []⟩
def e_z1c : List EK := [.agg jag, .ty (.int .i64)]
def h_z1c : List HK := []
noncomputable def jyT : CallF := mkCF [(35, jDX)] [(35, [jag, (.int .i64), (.int .i64)])]
noncomputable def jGa (n : Nat) : jbk := fun i =>  none
theorem m_z1c (n : Nat) (a0 : jaa) (a1 : Int) : jbx PP jyT jDh (jGa n) Try.f19 (jad Try.f19) (EK.encs e_z1c ((a0, (a1, ())), ()).1) (HK.encs h_z1c ((a0, (a1, ())), ()).2) = jFd n a0 a1 := by kernel_rfl
theorem g_z1c (n : Nat) (a0 : jaa) (a1 : Int) {r : Res} (h : jFd n a0 a1 = some r) : runF PP jyT n jDh 19 (EK.encs e_z1c ((a0, (a1, ())), ()).1) (HK.encs h_z1c ((a0, (a1, ())), ()).2) = some r := by
  have hb : LOk PP jyT Try.f19.ntmps 0 n jDh (jGa n) (jad Try.f19) := ⟨trivial, ⟨trivial, trivial⟩⟩
  exact jas PP (c := jad Try.f19) Try.func19 (show Try.f19.body = some (jad Try.f19) from rfl) (show (2 : Nat) ≤ 11 by decide) hb ((m_z1c n a0 a1).trans h) rfl (by kernel_rfl)
noncomputable def c_z1c : Spec := jbe e_z1c h_z1c jtO juf fun a b => jEj a.1 a.2.1
theorem k_z1c (hm : Try.prog.follows .mixedOrders = true) : jaJ PP 19 c_z1c := jaC (pol := jDh) hm (cf := jyT) (jaX (jaf (k_z13 hm) jay)) fun a b r h => ⟨FUEL, g_z1c FUEL a.1 a.2.1 (jar h)⟩
def s_z1d_r : Sig := ⟨[4, 5], [.ty (.int .i64), .ty (.int .i64)], []⟩
def jDg : Pol := ⟨fun i => none, fun i => none, some [(4, .keep), (5, .keep)], [.keep, .keep], []⟩
def e_z1d : List EK := [.agg jag, .ty (.int .i64)]
def h_z1d : List HK := []
noncomputable def jyS : CallF := mkCF [(35, jDX)] [(35, [jag, (.int .i64), (.int .i64)])]
noncomputable def jFZ (n : Nat) : jbk := fun i =>  none
theorem m_z1d (n : Nat) (a0 : jaa) (a1 : Int) : jbx PP jyS jDg (jFZ n) Try.f21 (jad Try.f21) (EK.encs e_z1d ((a0, (a1, ())), ()).1) (HK.encs h_z1d ((a0, (a1, ())), ()).2) = jFc n a0 a1 := by kernel_rfl
theorem g_z1d (n : Nat) (a0 : jaa) (a1 : Int) {r : Res} (h : jFc n a0 a1 = some r) : runF PP jyS n jDg 21 (EK.encs e_z1d ((a0, (a1, ())), ()).1) (HK.encs h_z1d ((a0, (a1, ())), ()).2) = some r := by
  have hb : LOk PP jyS Try.f21.ntmps 0 n jDg (jFZ n) (jad Try.f21) := ⟨trivial, ⟨trivial, trivial⟩⟩
  exact jas PP (c := jad Try.f21) Try.func21 (show Try.f21.body = some (jad Try.f21) from rfl) (show (2 : Nat) ≤ 11 by decide) hb ((m_z1d n a0 a1).trans h) rfl (by kernel_rfl)
noncomputable def c_z1d : Spec := jbe e_z1d h_z1d jtN jue fun a b => jEi a.1 a.2.1
theorem k_z1d (hm : Try.prog.follows .mixedOrders = true) : jaJ PP 21 c_z1d := jaC (pol := jDg) hm (cf := jyS) (jaX (jaf (k_z13 hm) jay)) fun a b r h => ⟨FUEL, g_z1d FUEL a.1 a.2.1 (jar h)⟩
def jwd : Sig := ⟨[4], [.ty .bool], []⟩
def jdI : Sig := ⟨[2, 40, 41, 42], [.ptr 0 0 0, .hs 1 0, .ty (.int .i64), .ty (.int .i64)], [.cell jag, .row (.int .i64)]⟩
def jpZ : Sig := ⟨[], [], []⟩
def jnl : Pol := ⟨fun i => if i = 0 then some [(2, (.own jag)), (40, (.own (.int .i64))), (41, .keep), (42, .keep)] else none, fun i => if i = 0 then some [] else none, some [(4, .keep)], [.keep], []⟩
def e_z1e : List EK := [.agg jag, .ty (.int .i64)]
def h_z1e : List HK := []
noncomputable def jnQ : CallF := mkCF [(10, jEc), (11, jDZ), (12, jEa), (13, c_z1b), (14, jBU), (15, c_z0w), (16, jBW), (17, c_z14), (18, jBX), (19, c_z1c), (20, jBV), (21, c_z1d)] [(10, [jag]), (11, []), (12, [jag]), (13, [jag]), (14, [jag]), (15, [jag]), (16, [jag, (.int .i64)]), (17, [jag, (.int .i64)]), (18, [jag, (.int .i64)]), (19, [jag, (.int .i64)]), (20, [jag, (.int .i64)]), (21, [jag, (.int .i64)])]
noncomputable def juK (n : Nat) : jbk := fun i => if i = 0 then some (jav 0 (jnl.head 0) jdI fun K v => jkV n (fun z0 => K .rt (jwd.enc ((z0, ()), ()))) (fun _ => K (.ex 0) (jpZ.enc ((), ()))) v.1.2.1 v.1.2.2.1 v.2.1 v.2.2.1 n v.1.2.2.2.1)
  else  none
noncomputable def jwP : Code := jaN (jad Try.f3) [1, 1, 1, 1, 1, 0, 1, 0, 0]
noncomputable def jio (n : Nat) (K : Cont) (rec : Sig.sem jdI → Option Res) (v : Sig.sem jdI) : Option Res := jsJ n (fun z0 => K .rt (jwd.enc ((z0, ()), ()))) (fun _ => K (.ex 0) (jpZ.enc ((), ()))) v.1.2.1 v.1.2.2.1 v.2.1 v.2.2.1 (fun z2 => rec (((), (v.1.2.1, (v.1.2.2.1, (z2, ())))), (v.2.1, (v.2.2.1, ())))) v.1.2.2.2.1
theorem t_z1e_0 (n : Nat) (K : Cont) (rec : Sig.sem jdI → Option Res) (v : Sig.sem jdI) : runT PP jnQ Try.f3.ntmps 0 jnl (juK n) jwP (jdI.enc v) (jbq 0 (jnl.head 0) jdI rec K) = jio n K rec v := by kernel_rfl
noncomputable def jrB (n : Nat) (K : Cont) (m : Nat) (v : Sig.sem jdI) : Option Res := jkV n (fun z0 => K .rt (jwd.enc ((z0, ()), ()))) (fun _ => K (.ex 0) (jpZ.enc ((), ()))) v.1.2.1 v.1.2.2.1 v.2.1 v.2.2.1 m v.1.2.2.2.1
theorem i_z1e_0 (n : Nat) (K : Cont) : ∀ m v, iter (jio n K) m v = jrB n K m v := by
  intro m
  induction m with
  | zero => intro v; rfl
  | succ m ih =>
    intro v
    show jio n K (iter (jio n K) m) v = jio n K (jrB n K m) v
    rw [show iter (jio n K) m = jrB n K m from funext ih]
theorem o_z1e_0 (n : Nat) : ∀ L, juK n 0 = some L → ∀ s K r, L s K = some r → ∃ x s', jbj (run PP jnQ Try.f3.ntmps 0 n jnl none jwP) (gc 0 (jnl.head 0)) n s = some (x, s') ∧ K x s' = some r := by
  intro L hL s K r h
  have hL : some (jav 0 (jnl.head 0) jdI fun K v => jrB n K n v) = some L := hL
  cases hL
  have hb : LOk PP jnQ Try.f3.ntmps 0 n jnl (juK n) jwP := ⟨trivial, ⟨⟨trivial, trivial⟩, ⟨⟨trivial, ⟨trivial, ⟨trivial, ⟨⟨trivial, ⟨⟨trivial, trivial⟩, trivial⟩⟩, ⟨trivial, ⟨trivial, ⟨⟨trivial, ⟨⟨trivial, trivial⟩, trivial⟩⟩, ⟨trivial, ⟨trivial, ⟨trivial, ⟨⟨trivial, trivial⟩, trivial⟩⟩⟩⟩⟩⟩⟩⟩⟩⟩⟩, trivial⟩⟩⟩
  refine jaB hb (jio n) (t_z1e_0 n) n s K r ?_
  rw [← h]
  unfold jav
  simp only [i_z1e_0]
theorem m_z1e (n : Nat) (a0 : jaa) (a1 : Int) : jbx PP jnQ jnl (juK n) Try.f3 (jad Try.f3) (EK.encs e_z1e ((a0, (a1, ())), ()).1) (HK.encs h_z1e ((a0, (a1, ())), ()).2) = jFb n a0 a1 := by kernel_rfl
theorem g_z1e (n : Nat) (a0 : jaa) (a1 : Int) {r : Res} (h : jFb n a0 a1 = some r) : runF PP jnQ n jnl 3 (EK.encs e_z1e ((a0, (a1, ())), ()).1) (HK.encs h_z1e ((a0, (a1, ())), ()).2) = some r := by
  have hb : LOk PP jnQ Try.f3.ntmps 0 n jnl (juK n) (jad Try.f3) := ⟨trivial, ⟨⟨trivial, ⟨⟨trivial, trivial⟩, trivial⟩⟩, ⟨trivial, ⟨trivial, ⟨⟨trivial, ⟨⟨trivial, trivial⟩, trivial⟩⟩, ⟨⟨trivial, (o_z1e_0 n)⟩, ⟨trivial, trivial⟩⟩⟩⟩⟩⟩⟩
  exact jas PP (c := jad Try.f3) Try.func3 (show Try.f3.body = some (jad Try.f3) from rfl) (show (2 : Nat) ≤ 108 by decide) hb ((m_z1e n a0 a1).trans h) rfl (by kernel_rfl)
noncomputable def c_z1e : Spec := jbe e_z1e h_z1e jhv jhy fun a b => jEh a.1 a.2.1
theorem k_z1e (hm : Try.prog.follows .mixedOrders = true) : jaJ PP 3 c_z1e := jaC (pol := jnl) hm (cf := jnQ) (jaX (jaf (k_z00 hm) (jaf (k_z0s hm) (jaf (k_z0r hm) (jaf (k_z1b hm) (jaf (jDI hm) (jaf (k_z0w hm) (jaf (jDK hm) (jaf (k_z14 hm) (jaf (jDL hm) (jaf (k_z1c hm) (jaf (jDJ hm) (jaf (k_z1d hm) jay))))))))))))) fun a b r h => ⟨FUEL, g_z1e FUEL a.1 a.2.1 (jar h)⟩
def jkv : Sig := ⟨[4], [.ty .bool], []⟩
def jdH : Sig := ⟨[1, 2, 5], [.ty (.int .i64), .ptr 0 0 0, .ty (.int .i64)], [.cell jag]⟩
def s_z1f_t1 : Sig := ⟨[1, 2, 5], [.ty (.int .i64), .ptr 0 0 0, .ty (.int .i64)], [.cell jag]⟩
def jpY : Sig := ⟨[1, 2], [.ty (.int .i64), .ptr 0 0 0], [.cell jag]⟩
def jdG : Sig := ⟨[1, 2, 11], [.ty (.int .i64), .ptr 0 0 0, .ty (.int .i64)], [.cell jag]⟩
def s_z1f_t4 : Sig := ⟨[1, 2, 11], [.ty (.int .i64), .ptr 0 0 0, .ty (.int .i64)], [.cell jag]⟩
def jdF : Sig := ⟨[1, 2, 12, 14, 16], [.ty (.int .i64), .ptr 0 0 0, .ty (.int .i64), .ty (.int .i64), .ty (.int .i64)], [.cell jag]⟩
def jpW : Sig := ⟨[12, 14], [.ty (.int .i64), .ty (.int .i64)], []⟩
def jpX : Sig := ⟨[], [], []⟩
def jdn : Pol := ⟨fun i => if i = 0 then some [(1, .keep), (2, (.own jag)), (5, .keep)] else if i = 3 then some [(1, .keep), (2, (.own jag)), (11, .keep)] else if i = 5 then some [(1, .keep), (2, (.own jag)), (12, .keep), (14, .keep), (16, .keep)] else none, fun i => if i = 1 then some [(1, .keep), (2, (.own jag)), (5, .keep)] else if i = 0 then some [(1, .keep), (2, (.own jag))] else if i = 4 then some [(1, .keep), (2, (.own jag)), (11, .keep)] else if i = 5 then some [(12, .keep), (14, .keep)] else if i = 3 then some [] else none, some [(4, .keep)], [.keep], []⟩
def e_z1f : List EK := [.agg jag, .ty (.int .i64)]
def h_z1f : List HK := []
noncomputable def jfK : CallF := mkCF [(10, jEc), (11, jDZ), (14, jBU), (18, jBX), (16, jBW), (20, jBV)] [(10, [jag]), (11, []), (14, [jag]), (18, [jag, (.int .i64)]), (16, [jag, (.int .i64)]), (20, [jag, (.int .i64)])]
noncomputable def jgC (n : Nat) : jbk := fun i => if i = 0 then some (jav 0 (jdn.head 0) jdH fun K v => jsD n (fun _ => K (.ex 0) (jpY.enc ((v.1.1, ((), ())), (v.2.1, ())))) (fun z0 => K .rt (jkv.enc ((z0, ()), ()))) v.1.1 v.2.1 n v.1.2.2.1)
  else if i = 5 then some (jav 0 (jdn.head 5) jdF fun K v => jkU n (fun z1 => K (.ex 5) (jpW.enc ((v.1.2.2.1, (z1, ())), ()))) v.1.1 v.2.1 n v.1.2.2.2.1 v.1.2.2.2.2.1)
  else if i = 3 then some (jav 0 (jdn.head 3) jdG fun K v => jgT n (fun z0 => K .rt (jkv.enc ((z0, ()), ()))) (fun _ => K (.ex 3) (jpX.enc ((), ()))) v.1.1 v.2.1 n v.1.2.2.1)
  else  none
noncomputable def jwO : Code := jaN (jad Try.f6) [1, 1, 0, 1, 0, 0]
noncomputable def jin (n : Nat) (K : Cont) (rec : Sig.sem jdH → Option Res) (v : Sig.sem jdH) : Option Res := jCI n (fun _ => K (.ex 0) (jpY.enc ((v.1.1, ((), ())), (v.2.1, ())))) (fun z0 => K .rt (jkv.enc ((z0, ()), ()))) v.1.1 v.2.1 (fun z1 => rec ((v.1.1, ((), (z1, ()))), (v.2.1, ()))) v.1.2.2.1
theorem t_z1f_0 (n : Nat) (K : Cont) (rec : Sig.sem jdH → Option Res) (v : Sig.sem jdH) : runT PP jfK Try.f6.ntmps 0 jdn (jgC n) jwO (jdH.enc v) (jbq 0 (jdn.head 0) jdH rec K) = jin n K rec v := by kernel_rfl
noncomputable def jrA (n : Nat) (K : Cont) (m : Nat) (v : Sig.sem jdH) : Option Res := jsD n (fun _ => K (.ex 0) (jpY.enc ((v.1.1, ((), ())), (v.2.1, ())))) (fun z0 => K .rt (jkv.enc ((z0, ()), ()))) v.1.1 v.2.1 m v.1.2.2.1
theorem i_z1f_0 (n : Nat) (K : Cont) : ∀ m v, iter (jin n K) m v = jrA n K m v := by
  intro m
  induction m with
  | zero => intro v; rfl
  | succ m ih =>
    intro v
    show jin n K (iter (jin n K) m) v = jin n K (jrA n K m) v
    rw [show iter (jin n K) m = jrA n K m from funext ih]
theorem o_z1f_0 (n : Nat) : ∀ L, jgC n 0 = some L → ∀ s K r, L s K = some r → ∃ x s', jbj (run PP jfK Try.f6.ntmps 0 n jdn none jwO) (gc 0 (jdn.head 0)) n s = some (x, s') ∧ K x s' = some r := by
  intro L hL s K r h
  have hL : some (jav 0 (jdn.head 0) jdH fun K v => jrA n K n v) = some L := hL
  cases hL
  have hb : LOk PP jfK Try.f6.ntmps 0 n jdn (jgC n) jwO := ⟨⟨trivial, ⟨trivial, trivial⟩⟩, ⟨⟨trivial, ⟨⟨trivial, ⟨trivial, trivial⟩⟩, ⟨⟨trivial, ⟨trivial, trivial⟩⟩, ⟨trivial, ⟨trivial, ⟨⟨trivial, ⟨trivial, ⟨trivial, ⟨trivial, ⟨trivial, ⟨⟨trivial, ⟨trivial, trivial⟩⟩, ⟨trivial, ⟨trivial, ⟨trivial, trivial⟩⟩⟩⟩⟩⟩⟩⟩⟩, ⟨trivial, trivial⟩⟩⟩⟩⟩⟩⟩, trivial⟩⟩
  refine jaB hb (jin n) (t_z1f_0 n) n s K r ?_
  rw [← h]
  unfold jav
  simp only [i_z1f_0]
noncomputable def jwM : Code := jaN (jad Try.f6) [1, 1, 1, 0, 1, 0, 0, 1, 0, 0, 1, 1, 1, 0, 1, 0, 0]
noncomputable def jil (n : Nat) (K : Cont) (rec : Sig.sem jdF → Option Res) (v : Sig.sem jdF) : Option Res := jsI n (fun z1 => K (.ex 5) (jpW.enc ((v.1.2.2.1, (z1, ())), ()))) v.1.1 v.2.1 (fun z2 z3 => rec ((v.1.1, ((), (v.1.2.2.1, (z2, (z3, ()))))), (v.2.1, ()))) v.1.2.2.2.1 v.1.2.2.2.2.1
theorem t_z1f_5 (n : Nat) (K : Cont) (rec : Sig.sem jdF → Option Res) (v : Sig.sem jdF) : runT PP jfK Try.f6.ntmps 0 jdn (jgC n) jwM (jdF.enc v) (jbq 0 (jdn.head 5) jdF rec K) = jil n K rec v := by kernel_rfl
noncomputable def jry (n : Nat) (K : Cont) (m : Nat) (v : Sig.sem jdF) : Option Res := jkU n (fun z1 => K (.ex 5) (jpW.enc ((v.1.2.2.1, (z1, ())), ()))) v.1.1 v.2.1 m v.1.2.2.2.1 v.1.2.2.2.2.1
theorem i_z1f_5 (n : Nat) (K : Cont) : ∀ m v, iter (jil n K) m v = jry n K m v := by
  intro m
  induction m with
  | zero => intro v; rfl
  | succ m ih =>
    intro v
    show jil n K (iter (jil n K) m) v = jil n K (jry n K m) v
    rw [show iter (jil n K) m = jry n K m from funext ih]
theorem o_z1f_5 (n : Nat) : ∀ L, jgC n 5 = some L → ∀ s K r, L s K = some r → ∃ x s', jbj (run PP jfK Try.f6.ntmps 0 n jdn none jwM) (gc 0 (jdn.head 5)) n s = some (x, s') ∧ K x s' = some r := by
  intro L hL s K r h
  have hL : some (jav 0 (jdn.head 5) jdF fun K v => jry n K n v) = some L := hL
  cases hL
  have hb : LOk PP jfK Try.f6.ntmps 0 n jdn (jgC n) jwM := ⟨⟨trivial, ⟨trivial, trivial⟩⟩, ⟨⟨trivial, ⟨⟨trivial, trivial⟩, trivial⟩⟩, trivial⟩⟩
  refine jaB hb (jil n) (t_z1f_5 n) n s K r ?_
  rw [← h]
  unfold jav
  simp only [i_z1f_5]
noncomputable def jwN : Code := jaN (jad Try.f6) [1, 1, 1, 0, 1, 0, 0]
noncomputable def jim (n : Nat) (K : Cont) (rec : Sig.sem jdG → Option Res) (v : Sig.sem jdG) : Option Res := joo n (fun z0 => K .rt (jkv.enc ((z0, ()), ()))) (fun _ => K (.ex 3) (jpX.enc ((), ()))) v.1.1 v.2.1 (fun z1 => rec ((v.1.1, ((), (z1, ()))), (v.2.1, ()))) v.1.2.2.1
theorem t_z1f_3 (n : Nat) (K : Cont) (rec : Sig.sem jdG → Option Res) (v : Sig.sem jdG) : runT PP jfK Try.f6.ntmps 0 jdn (jgC n) jwN (jdG.enc v) (jbq 0 (jdn.head 3) jdG rec K) = jim n K rec v := by kernel_rfl
noncomputable def jrz (n : Nat) (K : Cont) (m : Nat) (v : Sig.sem jdG) : Option Res := jgT n (fun z0 => K .rt (jkv.enc ((z0, ()), ()))) (fun _ => K (.ex 3) (jpX.enc ((), ()))) v.1.1 v.2.1 m v.1.2.2.1
theorem i_z1f_3 (n : Nat) (K : Cont) : ∀ m v, iter (jim n K) m v = jrz n K m v := by
  intro m
  induction m with
  | zero => intro v; rfl
  | succ m ih =>
    intro v
    show jim n K (iter (jim n K) m) v = jim n K (jrz n K m) v
    rw [show iter (jim n K) m = jrz n K m from funext ih]
theorem o_z1f_3 (n : Nat) : ∀ L, jgC n 3 = some L → ∀ s K r, L s K = some r → ∃ x s', jbj (run PP jfK Try.f6.ntmps 0 n jdn none jwN) (gc 0 (jdn.head 3)) n s = some (x, s') ∧ K x s' = some r := by
  intro L hL s K r h
  have hL : some (jav 0 (jdn.head 3) jdG fun K v => jrz n K n v) = some L := hL
  cases hL
  have hb : LOk PP jfK Try.f6.ntmps 0 n jdn (jgC n) jwN := ⟨⟨trivial, ⟨trivial, trivial⟩⟩, ⟨⟨⟨trivial, ⟨trivial, trivial⟩⟩, ⟨trivial, ⟨trivial, ⟨⟨trivial, (o_z1f_5 n)⟩, ⟨trivial, trivial⟩⟩⟩⟩⟩, trivial⟩⟩
  refine jaB hb (jim n) (t_z1f_3 n) n s K r ?_
  rw [← h]
  unfold jav
  simp only [i_z1f_3]
theorem m_z1f (n : Nat) (a0 : jaa) (a1 : Int) : jbx PP jfK jdn (jgC n) Try.f6 (jad Try.f6) (EK.encs e_z1f ((a0, (a1, ())), ()).1) (HK.encs h_z1f ((a0, (a1, ())), ()).2) = M_z1f n a0 a1 := by kernel_rfl
theorem g_z1f (n : Nat) (a0 : jaa) (a1 : Int) {r : Res} (h : M_z1f n a0 a1 = some r) : runF PP jfK n jdn 6 (EK.encs e_z1f ((a0, (a1, ())), ()).1) (HK.encs h_z1f ((a0, (a1, ())), ()).2) = some r := by
  have hb : LOk PP jfK Try.f6.ntmps 0 n jdn (jgC n) (jad Try.f6) := ⟨trivial, ⟨⟨trivial, ⟨⟨trivial, trivial⟩, trivial⟩⟩, ⟨⟨trivial, (o_z1f_0 n)⟩, ⟨⟨trivial, (o_z1f_3 n)⟩, ⟨trivial, trivial⟩⟩⟩⟩⟩
  exact jas PP (c := jad Try.f6) Try.func6 (show Try.f6.body = some (jad Try.f6) from rfl) (show (2 : Nat) ≤ 183 by decide) hb ((m_z1f n a0 a1).trans h) rfl (by kernel_rfl)
noncomputable def c_z1f : Spec := jbe e_z1f h_z1f jhu jhx fun a b => Q_z1f a.1 a.2.1
theorem k_z1f (hm : Try.prog.follows .mixedOrders = true) : jaJ PP 6 c_z1f := jaC (pol := jdn) hm (cf := jfK) (jaX (jaf (k_z00 hm) (jaf (k_z0s hm) (jaf (jDI hm) (jaf (jDL hm) (jaf (jDK hm) (jaf (jDJ hm) jay))))))) fun a b r h => ⟨FUEL, g_z1f FUEL a.1 a.2.1 (jar h)⟩
def jku : Sig := ⟨[6], [.ty .bool], []⟩
def jdE : Sig := ⟨[2, 3, 8], [.ty (.int .i64), .ptr 0 0 0, .ty (.int .i64)], [.cell jag]⟩
def s_z1g_t1 : Sig := ⟨[2, 3, 8], [.ty (.int .i64), .ptr 0 0 0, .ty (.int .i64)], [.cell jag]⟩
def jdD : Sig := ⟨[3, 8, 9, 11], [.ptr 0 0 0, .ty (.int .i64), .ty (.int .i64), .ty (.int .i64)], [.cell jag]⟩
def jpU : Sig := ⟨[3], [.ptr 0 0 0], [.cell jag]⟩
def jpV : Sig := ⟨[3], [.ptr 0 0 0], [.cell jag]⟩
def jgn : Pol := ⟨fun i => if i = 0 then some [(2, .keep), (3, (.own jag)), (8, .keep)] else if i = 2 then some [(3, (.own jag)), (8, .keep), (9, .keep), (11, .keep)] else none, fun i => if i = 1 then some [(2, .keep), (3, (.own jag)), (8, .keep)] else if i = 2 then some [(3, (.own jag))] else if i = 0 then some [(3, (.own jag))] else none, some [(6, .keep)], [.keep], []⟩
def e_z1g : List EK := [.agg jag, .agg jag, .ty (.int .i64)]
def h_z1g : List HK := []
noncomputable def jhE : CallF := mkCF [(10, jEc), (11, jDZ), (14, jBU), (20, jBV), (18, jBX), (12, jEa)] [(10, [jag]), (11, []), (14, [jag]), (20, [jag, (.int .i64)]), (18, [jag, (.int .i64)]), (12, [jag])]
noncomputable def jlQ (n : Nat) : jbk := fun i => if i = 2 then some (jav 0 (jgn.head 2) jdD fun K v => jkS n (fun z0 => K .rt (jku.enc ((z0, ()), ()))) (fun _ => K (.ex 2) (jpU.enc (((), ()), (v.2.1, ())))) v.1.2.1 v.1.2.2.1 v.2.1 n v.1.2.2.2.1)
  else if i = 0 then some (jav 0 (jgn.head 0) jdE fun K v => jkT n (fun z0 => K .rt (jku.enc ((z0, ()), ()))) (fun _ => K (.ex 0) (jpV.enc (((), ()), (v.2.1, ())))) v.1.1 v.2.1 n v.1.2.2.1)
  else  none
noncomputable def jwK : Code := jaN (jad Try.f8) [1, 1, 1, 1, 0, 1, 0, 0, 1, 0, 0, 1, 1, 0, 1, 0, 0]
noncomputable def jij (n : Nat) (K : Cont) (rec : Sig.sem jdD → Option Res) (v : Sig.sem jdD) : Option Res := jsG n (fun z0 => K .rt (jku.enc ((z0, ()), ()))) (fun _ => K (.ex 2) (jpU.enc (((), ()), (v.2.1, ())))) v.1.2.1 v.1.2.2.1 v.2.1 (fun z2 => rec (((), (v.1.2.1, (v.1.2.2.1, (z2, ())))), (v.2.1, ()))) v.1.2.2.2.1
theorem t_z1g_2 (n : Nat) (K : Cont) (rec : Sig.sem jdD → Option Res) (v : Sig.sem jdD) : runT PP jhE Try.f8.ntmps 0 jgn (jlQ n) jwK (jdD.enc v) (jbq 0 (jgn.head 2) jdD rec K) = jij n K rec v := by kernel_rfl
noncomputable def jrw (n : Nat) (K : Cont) (m : Nat) (v : Sig.sem jdD) : Option Res := jkS n (fun z0 => K .rt (jku.enc ((z0, ()), ()))) (fun _ => K (.ex 2) (jpU.enc (((), ()), (v.2.1, ())))) v.1.2.1 v.1.2.2.1 v.2.1 m v.1.2.2.2.1
theorem i_z1g_2 (n : Nat) (K : Cont) : ∀ m v, iter (jij n K) m v = jrw n K m v := by
  intro m
  induction m with
  | zero => intro v; rfl
  | succ m ih =>
    intro v
    show jij n K (iter (jij n K) m) v = jij n K (jrw n K m) v
    rw [show iter (jij n K) m = jrw n K m from funext ih]
theorem o_z1g_2 (n : Nat) : ∀ L, jlQ n 2 = some L → ∀ s K r, L s K = some r → ∃ x s', jbj (run PP jhE Try.f8.ntmps 0 n jgn none jwK) (gc 0 (jgn.head 2)) n s = some (x, s') ∧ K x s' = some r := by
  intro L hL s K r h
  have hL : some (jav 0 (jgn.head 2) jdD fun K v => jrw n K n v) = some L := hL
  cases hL
  have hb : LOk PP jhE Try.f8.ntmps 0 n jgn (jlQ n) jwK := ⟨⟨trivial, ⟨trivial, trivial⟩⟩, ⟨⟨trivial, ⟨trivial, ⟨⟨trivial, trivial⟩, trivial⟩⟩⟩, trivial⟩⟩
  refine jaB hb (jij n) (t_z1g_2 n) n s K r ?_
  rw [← h]
  unfold jav
  simp only [i_z1g_2]
noncomputable def jwL : Code := jaN (jad Try.f8) [1, 1, 1, 1, 0, 1, 0, 0]
noncomputable def jik (n : Nat) (K : Cont) (rec : Sig.sem jdE → Option Res) (v : Sig.sem jdE) : Option Res := jsH n (fun z0 => K .rt (jku.enc ((z0, ()), ()))) (fun _ => K (.ex 0) (jpV.enc (((), ()), (v.2.1, ())))) v.1.1 v.2.1 (fun z1 => rec ((v.1.1, ((), (z1, ()))), (v.2.1, ()))) v.1.2.2.1
theorem t_z1g_0 (n : Nat) (K : Cont) (rec : Sig.sem jdE → Option Res) (v : Sig.sem jdE) : runT PP jhE Try.f8.ntmps 0 jgn (jlQ n) jwL (jdE.enc v) (jbq 0 (jgn.head 0) jdE rec K) = jik n K rec v := by kernel_rfl
noncomputable def jrx (n : Nat) (K : Cont) (m : Nat) (v : Sig.sem jdE) : Option Res := jkT n (fun z0 => K .rt (jku.enc ((z0, ()), ()))) (fun _ => K (.ex 0) (jpV.enc (((), ()), (v.2.1, ())))) v.1.1 v.2.1 m v.1.2.2.1
theorem i_z1g_0 (n : Nat) (K : Cont) : ∀ m v, iter (jik n K) m v = jrx n K m v := by
  intro m
  induction m with
  | zero => intro v; rfl
  | succ m ih =>
    intro v
    show jik n K (iter (jik n K) m) v = jik n K (jrx n K m) v
    rw [show iter (jik n K) m = jrx n K m from funext ih]
theorem o_z1g_0 (n : Nat) : ∀ L, jlQ n 0 = some L → ∀ s K r, L s K = some r → ∃ x s', jbj (run PP jhE Try.f8.ntmps 0 n jgn none jwL) (gc 0 (jgn.head 0)) n s = some (x, s') ∧ K x s' = some r := by
  intro L hL s K r h
  have hL : some (jav 0 (jgn.head 0) jdE fun K v => jrx n K n v) = some L := hL
  cases hL
  have hb : LOk PP jhE Try.f8.ntmps 0 n jgn (jlQ n) jwL := ⟨⟨trivial, ⟨trivial, trivial⟩⟩, ⟨⟨⟨trivial, ⟨trivial, trivial⟩⟩, ⟨trivial, ⟨⟨trivial, (o_z1g_2 n)⟩, trivial⟩⟩⟩, trivial⟩⟩
  refine jaB hb (jik n) (t_z1g_0 n) n s K r ?_
  rw [← h]
  unfold jav
  simp only [i_z1g_0]
theorem m_z1g (n : Nat) (a0 : jaa) (a1 : jaa) (a2 : Int) : jbx PP jhE jgn (jlQ n) Try.f8 (jad Try.f8) (EK.encs e_z1g ((a0, (a1, (a2, ()))), ()).1) (HK.encs h_z1g ((a0, (a1, (a2, ()))), ()).2) = jFa n a0 a1 a2 := by kernel_rfl
theorem g_z1g (n : Nat) (a0 : jaa) (a1 : jaa) (a2 : Int) {r : Res} (h : jFa n a0 a1 a2 = some r) : runF PP jhE n jgn 8 (EK.encs e_z1g ((a0, (a1, (a2, ()))), ()).1) (HK.encs h_z1g ((a0, (a1, (a2, ()))), ()).2) = some r := by
  have hb : LOk PP jhE Try.f8.ntmps 0 n jgn (jlQ n) (jad Try.f8) := ⟨trivial, ⟨⟨trivial, ⟨⟨trivial, trivial⟩, trivial⟩⟩, ⟨trivial, ⟨⟨trivial, ⟨⟨trivial, trivial⟩, trivial⟩⟩, ⟨⟨trivial, (o_z1g_0 n)⟩, ⟨trivial, ⟨trivial, trivial⟩⟩⟩⟩⟩⟩⟩
  exact jas PP (c := jad Try.f8) Try.func8 (show Try.f8.body = some (jad Try.f8) from rfl) (show (3 : Nat) ≤ 129 by decide) hb ((m_z1g n a0 a1 a2).trans h) rfl (by kernel_rfl)
noncomputable def c_z1g : Spec := jbe e_z1g h_z1g jfg jfh fun a b => jEg a.1 a.2.1 a.2.2.1
theorem k_z1g (hm : Try.prog.follows .mixedOrders = true) : jaJ PP 8 c_z1g := jaC (pol := jgn) hm (cf := jhE) (jaX (jaf (k_z00 hm) (jaf (k_z0s hm) (jaf (jDI hm) (jaf (jDJ hm) (jaf (jDL hm) (jaf (k_z0r hm) jay))))))) fun a b r h => ⟨FUEL, g_z1g FUEL a.1 a.2.1 a.2.2.1 (jar h)⟩
end Go.AMach
