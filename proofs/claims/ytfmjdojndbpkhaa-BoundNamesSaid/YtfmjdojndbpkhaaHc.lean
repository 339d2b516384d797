/- solve, walked. -/
import Derived.Test.YtfmjdojndbpkhaaHb
import Derived.Test.YtfmjdojndbpkhaaProg
import Derived.WalkKit
import Derived.Deep.DrawnRows
import Derived.Deep.RegionHeld3
import Derived.Deep.AppendLies
import Derived.Deep.RegionLaw
namespace Go.AMach
set_option linter.unusedVariables false
set_option linter.unusedSimpArgs false
set_option linter.unnecessarySimpa false
open Go Go.Proofs Go.RowKit
attribute [local go_sem ↓] Go.wp_at_zero Go.wp_at_succ
theorem run_makeMap {P : Program} (t : TypeId) (w : World) : (Instr.makeMap t none).run P w = .ok (.map (some w.heap.size)) (w.alloc (.map #[] 0)) := by simp [Instr.makeMap, newObj, Sem.run]
attribute [local go_sem] run_makeMap
def intV : Value → Int
  | .int _ n => n
  | _ => 0
/-- A row of the input: its cells. -/
def Inp (w : World) (a : Option Addr) (n sz : Nat) (cell : Nat → Nat → Value) : Prop :=
  ∃ b off, (n ≠ 0 → a = some ⟨b, off, none⟩) ∧ ∀ j k, j < n → k < sz → w.cell? ⟨b, off + j * sz + k, none⟩ = some (cell j k)
def tabCell (l : List TableS) (ka : Nat → Option Addr) (kn kc : Nat → Nat) (j : Nat) : Nat → Value
  | 0 => .int .i64 (rdd zTableS l j).1
  | 1 => .int .u8 (rdd zTableS l j).2.1
  | 2 => .slice (ka j) (kn j) (kc j)
  | 3 => .int .i64 (rdd zTableS l j).2.2.2.1
  | _ => .int .i64 (rdd zTableS l j).2.2.2.2.1

def entCell (l : List EntryS) (ka : Nat → Option Addr) (kn kc : Nat → Nat) (j : Nat) : Nat → Value
  | 0 => .int .i64 (rdd zEntryS l j).1
  | 1 => .string (rdd zEntryS l j).2.1
  | 2 => .string (rdd zEntryS l j).2.2.1
  | 3 => .int .i64 (rdd zEntryS l j).2.2.2.1
  | 4 => .int .i64 (rdd zEntryS l j).2.2.2.2.1
  | 5 => .int .i64 (rdd zEntryS l j).2.2.2.2.2.1
  | 6 => .slice (ka j) (kn j) (kc j)
  | 7 => .int .i64 (rdd zEntryS l j).2.2.2.2.2.2.2.1
  | 8 => .int .i64 (rdd zEntryS l j).2.2.2.2.2.2.2.2.1
  | 9 => .int .u64 (rdd zEntryS l j).2.2.2.2.2.2.2.2.2.1
  | _ => .bool (rdd zEntryS l j).2.2.2.2.2.2.2.2.2.2.1

def blkCell (l : List BlockS) (ka : Nat → Option Addr) (kn kc : Nat → Nat) (j : Nat) : Nat → Value
  | 0 => .int .i64 (rdd zBlockS l j).1
  | _ => .slice (ka j) (kn j) (kc j)
def grpCell (l : List GroupS) (ka : Nat → Option Addr) (kn kc : Nat → Nat) (j : Nat) : Nat → Value
  | 0 => .int .i64 (rdd zGroupS l j).1
  | 1 => .int .u8 (rdd zGroupS l j).2.1
  | 2 => .int .i64 (rdd zGroupS l j).2.2.1
  | _ => .slice (ka j) (kn j) (kc j)
theorem zero49 : ∀ W', (zeroValue 49).run Try.prog W' = .ok (.slice none 0 0) W' := fun W' => run_zeroValue (i := (Try.prog.info? 49).getD default) (by kernel_rfl) (by kernel_rfl) W'
theorem zero69 : ∀ W', (zeroValue 69).run Try.prog W' = .ok (.agg #[.int .i64 0, .int .u8 0, .int .i64 0, .slice none 0 0]) W' := fun W' => run_zeroValue (i := (Try.prog.info? 69).getD default) (by kernel_rfl) (by kernel_rfl) W'
theorem lookM {α : Type} {R : Int → Value → α → Prop} {g : Int → Option α} {ms : Array MapEntry} {k : Nat} (hr : MapP R g ms.toList) {t kt et : TypeId} (ht : Try.prog.underlying t = some (.map kt et)) (hk : Try.prog.underlying kt = some (.int .i64))
    {z : Value} (hz : ∀ W', (zeroValue et).run Try.prog W' = .ok z W') (x : Int) :
    (g x = none ∧ ∀ (W' : World) (b : Nat), W'.heap[b]? = some (.map ms k) → (Instr.lookup t (.map (some b)) (.int .i64 x) true).run Try.prog W' = .ok (.tuple #[z, .bool false]) W') ∨
    ∃ i u s, mfind KI x ms.toList 0 = some (i, u) ∧ g x = some s ∧ R x u s ∧ ∀ (W' : World) (b : Nat), W'.heap[b]? = some (.map ms k) → (Instr.lookup t (.map (some b)) (.int .i64 x) true).run Try.prog W' = .ok (.tuple #[u, .bool true]) W' := by
  have key : ∀ (W' : World) (b : Nat), W'.heap[b]? = some (.map ms k) → _ := fun W' b hW' => MapP.look (P := Try.prog) (w := W') (b := b) (t := t) hW' hr ht hk (hz W') x
  rcases hr.2 x with ⟨e1, e2⟩ | ⟨i, u, s, e1, e2, hr⟩
  · exact .inl ⟨e2, fun W' b hW' => by
      rcases key W' b hW' with ⟨_, h⟩ | ⟨i, u, s, h1, _⟩
      · exact h
      · rw [e1] at h1; cases h1⟩
  · exact .inr ⟨i, u, s, e1, e2, hr, fun W' b hW' => by
      rcases key W' b hW' with ⟨h1, _⟩ | ⟨i', u', s', h1, _, _, h⟩
      · rw [e2] at h1; cases h1
      · rw [e1] at h1; cases h1; exact h⟩
theorem group_val {ι : Iota} {u : Value} {s : GroupS} (h : ARel ι Phi.none u (GroupT.av s)) : ∃ z1 z2 z3 a n c, u = .agg #[.int .i64 z1, .int .u8 z2, .int .i64 z3, .slice a n c] := by
  have h : ARel ι Phi.none u (.agg (GroupT.enc s)) := h
  cases h with
  | agg vs _ hl h =>
    match vs, hl with
    | [x, y, z, t], _ =>
      have e1 := h 0 x _ rfl rfl
      have e2 := h 1 y _ rfl rfl
      have e3 := h 2 z _ rfl rfl
      have e4 := h 3 t _ rfl rfl
      cases e1; cases e2; cases e3; cases e4
      exact ⟨_, _, _, _, _, _, rfl⟩
theorem look1 {w W : World} {B : Nat} {sl : Value} {g : Int → Option (List Int)} {ms : Array MapEntry} {k : Nat} (hm : W.heap[B + 1]? = some (.map ms k)) (hr : MapP (R1 w B sl) g ms.toList) (x : Int) :
    (g x = none ∧ mfind KI x ms.toList 0 = none ∧ ∀ W' : World, W'.heap = W.heap → (Instr.lookup 90 (.map (some (B + 1))) (.int .i64 x) true).run Try.prog W' = .ok (.tuple #[.slice none 0 0, .bool false]) W') ∨
    ∃ i u s, mfind KI x ms.toList 0 = some (i, u) ∧ g x = some s ∧ R1 w B sl x u s ∧ ∀ W' : World, W'.heap = W.heap → (Instr.lookup 90 (.map (some (B + 1))) (.int .i64 x) true).run Try.prog W' = .ok (.tuple #[u, .bool true]) W' := by
  have hz30 : ∀ W', (zeroValue 30).run Try.prog W' = .ok (.slice none 0 0) W' := fun W' => run_zeroValue (i := (Try.prog.info? 30).getD default) (by kernel_rfl) (by kernel_rfl) W'
  have key : ∀ W' : World, W'.heap = W.heap → _ := fun W' hW' => MapP.look (P := Try.prog) (w := W') (b := B + 1) (t := 90) (by rw [hW']; exact hm) hr Try.underlying90 Try.underlying3 (hz30 W') x
  rcases hr.2 x with ⟨e1, e2⟩ | ⟨i, u, s, e1, e2, hr⟩
  · exact .inl ⟨e2, e1, fun W' hW' => by
      rcases key W' hW' with ⟨_, h⟩ | ⟨i, u, s, h1, _⟩
      · exact h
      · rw [e1] at h1; cases h1⟩
  · exact .inr ⟨i, u, s, e1, e2, hr, fun W' hW' => by
      rcases key W' hW' with ⟨h1, _⟩ | ⟨i', u', s', h1, _, _, h⟩
      · rw [e2] at h1; cases h1
      · rw [e1] at h1; cases h1; exact h⟩

theorem heap_old (w : World) (o : Obj) {k : Nat} (hk : k < w.heap.size) : (w.alloc o).heap[k]? = w.heap[k]? := by show (w.heap.push _)[k]? = _; rw [Array.getElem?_push, if_neg (by omega)]
theorem grown_alloc (w : World) (o : Obj) : w.grownBy (w.alloc o) none := World.grownBy_alloc w o none
theorem grown_drew (w : World) : w.grownBy w.drew none := ⟨rfl, rfl, rfl, Nat.le_refl _, fun _ _ _ => rfl⟩

theorem upd_world {t : TypeId} {W : World} {b : Nat} {y : Int} {ux : Value} {ms ms' : Array MapEntry} {k k' : Nat} (hb : W.heap[b]? = some (.map ms k))
    (h : (Instr.mapUpdate t (.map (some b)) (.int .i64 y) ux).run Try.prog W = .ok () { W with heap := W.heap.setIfInBounds b (.map ms' k') }) :
    ∃ W2, (Instr.mapUpdate t (.map (some b)) (.int .i64 y) ux).run Try.prog W = .ok () W2 ∧ W.grownBy W2 (some b) ∧ W2.heap[b]? = some (.map ms' k') ∧ W2.heap.size = W.heap.size := by
  have hlt : b < W.heap.size := (Array.getElem?_eq_some_iff.1 hb).1
  refine ⟨_, h, ⟨rfl, rfl, rfl, by simp, fun j hj hne => ?_⟩, ?_, by simp⟩
  · show (W.heap.setIfInBounds b (.map ms' k'))[j]? = _
    rw [Array.getElem?_setIfInBounds, if_neg (fun e => hne (by rw [e]))]
  · show (W.heap.setIfInBounds b (.map ms' k'))[b]? = _
    simp [hlt]
theorem info84 : (Try.prog.info? 84).map (fun i => (i.zero, i.size, i.bytes)) = some (some (.agg #[.int .i64 0, .int .i64 0]), 2, 16) := by kernel_rfl
theorem info3 : (Try.prog.info? 3).map (fun i => (i.zero, i.size, i.bytes)) = some (some (.int .i64 0), 1, 8) := by kernel_rfl
theorem cell_grown {W W2 : World} {row : Option Nat} (h : W.grownBy W2 row) {a : Addr} {v : Value} (hne : some a.block ≠ row) (hc : W.cell? a = some v) : W2.cell? a = some v := by
  rw [World.cell?_of_block (h.block _ (World.block_lt_of_cell? W _ hc) hne)]; exact hc

/-- What a cell holds. -/
def cur (a : Addr) (w : World) : Value := (w.cell? a).getD undef
theorem cur_at {a : Addr} {w : World} {v : Value} (h : w.cell? a = some v) : w.cell? a = some (cur a w) := by rw [cur, h]; rfl
theorem cur_eq {a : Addr} {w : World} {v : Value} (h : w.cell? a = some v) : cur a w = v := by rw [cur, h]; rfl
set_option maxHeartbeats 4000000
set_option maxRecDepth 1000000
theorem solve_walk {ι : Iota} (x0 x1 x6 x7 x8 : Value) (a2 a3 a4 a5 : Option Addr) (n2 c2 n3 c3 n4 c4 n5 c5 : Nat) (w : World) (R : Ending → World → Prop)
   (lt : List TableS) (hlt : lt.length = n2) (h2 : n2 ≤ 1000) (ka : Nat → Option Addr) (kn kc : Nat → Nat) (hin2 : Inp w a2 n2 5 (tabCell lt ka kn kc))
   (le : List EntryS) (hle : le.length = n3) (h3 : n3 ≤ 1000) (ea : Nat → Option Addr) (en ec : Nat → Nat) (hin3 : Inp w a3 n3 11 (entCell le ea en ec))
   (lb : List BlockS) (hlb : lb.length = n4) (h4 : n4 ≤ 1000) (ba : Nat → Option Addr) (bn bc : Nat → Nat) (hin4 : Inp w a4 n4 2 (blkCell lb ba bn bc)) (hcode : ∀ j, j < n4 → ARel ι Phi.none (.slice (ba j) (bn j) (bc j)) ((Ty.slice InstrT).av (rdd zBlockS lb j).2.1))
   (lg : List GroupS) (hlg : lg.length = n5) (h5 : n5 ≤ 1000) (ga : Nat → Option Addr) (gn gc : Nat → Nat) (hin5 : Inp w a5 n5 4 (grpCell lg ga gn gc)) (hbuck : ∀ j, j < n5 → ARel ι Phi.none (.slice (ga j) (gn j) (gc j)) ((Ty.slice BucketT).av (rdd zGroupS lg j).2.2.2.1))
   (hR : ∀ wr g1 g2 g3 all sl, SV ι w wr [x0, x1, .slice a2 n2 c2, .slice a3 n3 c3, .slice a4 n4 c4, .slice a5 n5 c5, x6, x7, x8] g1 g2 g3 all sl → g1 = solve2 le (solve1 lt (fun _ => none) []).1 →
      (g2 = (solve3 lb (fun _ => none) (solve1 lt (fun _ => none) []).2).1) → (g3, all) = solve4 lg (fun _ => none) (solve3 lb (fun _ => none) (solve1 lt (fun _ => none) []).2).2 → R (.returned (.pointer (some ⟨w.heap.size + 1 + 1 + 1 + 1, 0, none⟩))) wr) :
   Calls Try.prog 30 #[.agg #[x0, x1, .slice a2 n2 c2, .slice a3 n3 c3, .slice a4 n4 c4, .slice a5 n5 c5, x6, x7, x8]] w R := by
  go_enter Try.func30, Try.ntmps30
  go_wp2
  generalize hxs : [x0, x1, .slice a2 n2 c2, .slice a3 n3 c3, .slice a4 n4 c4, .slice a5 n5 c5, x6, x7, x8] = xs
  go_loopw [28] (fun v28 wr => ∃ (j : Nat) (g : Int → Option (List Int)) (all : List ObjS) (sl : Value), v28 = .int .i64 (j : Int) ∧ j ≤ n2 ∧ SV ι w wr xs g (fun _ => none) (fun _ => none) all sl ∧ all.length ≤ j ∧
     solve1 (lt.drop j) g all = solve1 lt (fun _ => none) [] ∧ ∀ k l, g k = some l → l.length = 1) (fun v28 wr => n2 - (intV v28).toNat)
  case atStart =>
    refine ⟨0, fun _ => none, [], .slice none 0 0, rfl, by omega, ?_, by simp, rfl, fun k l h => by cases h⟩
    have := SV.init (ι := ι) w [x0, x1, .slice a2 n2 c2, .slice a3 n3 c3, .slice a4 n4 c4, .slice a5 n5 c5, x6, x7, x8]
    rw [hxs] at this
    first | exact this | (subst hxs; exact this)
  case round =>
    obtain ⟨j, g, all, sl, rfl, hjn, hI, hall, hsol, hone⟩ := hrel
    by_cases hj : j < n2
    · obtain ⟨b, off, ha, hc⟩ := hin2
      have ha := ha (by omega)
      subst ha
      have hidx : (Instr.indexAt 24 (.slice (some ⟨b, off, none⟩) n2 c2) (.int .i64 j)).run Try.prog wr = .ok (.pointer (some ⟨b, off + j * 5, none⟩)) wr := by
        simp [Instr.indexAt, asIntOf, run_underlying Try.underlying24, run_sizeOf (P := Try.prog) (t := 44) (n := 5) (by kernel_rfl), hj, Addr.add_at]
      have hcell : ∀ k v, k < 5 → w.cell? ⟨b, off + j * 5 + k, none⟩ = some v → wr.cell? ⟨b, off + j * 5 + k, none⟩ = some v := fun k v hk h => by
        rw [World.cell?_of_block (hI.below.block _ (World.block_lt_of_cell? w _ h))]; exact h
      have e0 := hcell 0 _ (by omega) (hc j 0 hj (by omega))
      have e1 := hcell 1 _ (by omega) (hc j 1 hj (by omega))
      have e2 := hcell 2 _ (by omega) (hc j 2 hj (by omega))
      have e3 := hcell 3 _ (by omega) (hc j 3 hj (by omega))
      have e4 := hcell 4 _ (by omega) (hc j 4 hj (by omega))
      simp only [Nat.add_zero, tabCell] at e0 e1 e2 e3 e4
      have hdrop : lt.drop j = rdd zTableS lt j :: lt.drop (j + 1) := drop_rdd zTableS (by omega)
      rw [hdrop] at hsol
      generalize hx : rdd zTableS lt j = x at *
      obtain ⟨id, kd, ks, cp, miss, u⟩ := x
      simp only at e0 e1 e2 e3 e4
      clear hc hcell
      go_wp2_with fail
      have hsz := hI.size
      have hWn := heap_alloc_new wr (.cells #[Value.int IntKind.i64 id, Value.int IntKind.u8 kd, Value.slice (ka j) (kn j) (kc j), Value.int IntKind.i64 cp, Value.int IntKind.i64 miss] 44 (0, 0))
      have hIW := hI.ext (grown_alloc wr (.cells #[Value.int IntKind.i64 id, Value.int IntKind.u8 kd, Value.slice (ka j) (kn j) (kc j), Value.int IntKind.i64 cp, Value.int IntKind.i64 miss] 44 (0, 0)))
      have hWs : (wr.alloc (.cells #[Value.int IntKind.i64 id, Value.int IntKind.u8 kd, Value.slice (ka j) (kn j) (kc j), Value.int IntKind.i64 cp, Value.int IntKind.i64 miss] 44 (0, 0))).heap.size = wr.heap.size + 1 := by simp
      generalize wr.alloc (.cells #[Value.int IntKind.i64 id, Value.int IntKind.u8 kd, Value.slice (ka j) (kn j) (kc j), Value.int IntKind.i64 cp, Value.int IntKind.i64 miss] 44 (0, 0)) = W at *
      have hb0 : W.cell? ⟨wr.heap.size, 0, none⟩ = some (.int .i64 id) := by rw [cell_of hWn]; rfl
      have hb4 : W.cell? ⟨wr.heap.size, 4, none⟩ = some (.int .i64 miss) := by rw [cell_of hWn]; rfl
      have ho0 : W.cell? ⟨w.heap.size + 1 + 1 + 1 + 1, 0, none⟩ = some (.map (some (w.heap.size + 1))) := by rw [cell_of hIW.obj]; rfl
      have ho3 : W.cell? ⟨w.heap.size + 1 + 1 + 1 + 1, 3, none⟩ = some sl := by rw [cell_of hIW.obj]; rfl
      obtain ⟨ms, k, hm1, hr1, hd1⟩ := hIW.m1
      rcases look1 hm1 hr1 id with ⟨hg, hmf, hL⟩ | ⟨i, u, s, hmf, hg, hR, hL⟩
      · go_region_held3 (fun w' => w'.heap = W.heap ∧ w'.cell? ⟨wr.heap.size, 0, none⟩ = some (.int .i64 id) ∧ w'.cell? ⟨w.heap.size + 1 + 1 + 1 + 1, 0, none⟩ = some (.map (some (w.heap.size + 1))) ∧
            (Instr.lookup 90 (.map (some (w.heap.size + 1))) (.int .i64 id) true).run Try.prog w' = .ok (.tuple #[.slice none 0 0, .bool false]) w')
          (refine ⟨rfl, by go_keep, by go_keep, hL _ rfl⟩) (fail)
        clear hL
        go_wp2_with fail
        -- the store into the map
        obtain ⟨ms', k', hup, p1, p2, p3⟩ := MapP.upd (P := Try.prog) k (t := 90) hr1 Try.underlying90 Try.underlying3 id (.slice (some ⟨wr.heap.size + 1, 0, none⟩) 1 1)
        have hmW : (W.alloc (.cells #[.int .i64 miss] 3 (0, 0))).drew.drew.heap[w.heap.size + 1]? = some (.map ms k) := (heap_old _ _ (by omega)).trans hm1
        obtain ⟨W2, hW2, hgr2, hm2, hs2⟩ := upd_world hmW (hup _ _ hmW)
        have q0 : W2.cell? ⟨wr.heap.size, 0, none⟩ = some (.int .i64 id) := cell_grown hgr2 (by simp; try omega) (cell_grown (grown_alloc W _) (by simp) hb0)
        have q4 : W2.cell? ⟨wr.heap.size, 4, none⟩ = some (.int .i64 miss) := cell_grown hgr2 (by simp; try omega) (cell_grown (grown_alloc W _) (by simp) hb4)
        have qo : W2.cell? ⟨w.heap.size + 1 + 1 + 1 + 1, 0, none⟩ = some (.map (some (w.heap.size + 1))) := cell_grown hgr2 (by simp; try omega) (cell_grown (grown_alloc W _) (by simp) ho0)
        have hown : (W.alloc (.cells #[.int .i64 miss] 3 (0, 0))).drew.drew.ownsRow (w.heap.size + 5) 3 1 (.slice (some ⟨wr.heap.size + 1, 0, none⟩) 1 1) 1 [.int .i64 miss] := by
          refine ⟨rfl, .inr ⟨wr.heap.size + 1, 1, #[.int .i64 miss], rfl, by omega, ?_, Nat.le_refl _, by decide, rfl, rfl⟩⟩
          rw [← hWs]; exact heap_alloc_new W _
        have hIW2 : SV ι w W2 xs (putI id [miss] g) (fun _ => none) (fun _ => none) all sl := hIW.tab hm1 hr1 hd1 (v := .slice none 0 0) (u := .slice (some ⟨wr.heap.size + 1, 0, none⟩) 1 1) (l := [miss]) (.inl rfl) (grown_allocd W _) hown (by simp) (.inr ⟨wr.heap.size + 1, rfl, by omega⟩) hgr2 hm2 p1 p2 p3
        clear hup
        go_region_held3 (fun w' => w'.cell? ⟨wr.heap.size, 0, none⟩ = some (.int .i64 id) ∧ w'.cell? ⟨wr.heap.size, 4, none⟩ = some (.int .i64 miss) ∧ w'.cell? ⟨w.heap.size + 1 + 1 + 1 + 1, 0, none⟩ = some (.map (some (w.heap.size + 1))))
          (refine ⟨by go_keep, by go_keep, by go_keep⟩) (fail)
        clear hW2
        have hs2 : W2.heap.size = wr.heap.size + 1 + 1 := by rw [hs2]; show (W.alloc _).heap.size = _; simp [hWs]
        go_wp2_with fail
        obtain ⟨i0, hi0, hz0, hz1, hz2⟩ := info_parts info84
        have q3 : W2.cell? ⟨w.heap.size + 1 + 1 + 1 + 1, 3, none⟩ = some sl := by rw [cell_of hIW2.obj]; rfl
        have qrow := hIW2.row
        have qnb : sl.ownBlock ≠ some wr.heap.size := fun e => by have := own_lt hI.row e; omega
        have qne : sl.ownBlock ≠ some (w.heap.size + 1 + 1 + 1 + 1) := fun e => by have := own_lt qrow e; omega
        have q3a : (W2.alloc (.cells #[.int .i64 0, .int .i64 id] 84 (0, 0))).cell? ⟨w.heap.size + 1 + 1 + 1 + 1, 3, none⟩ = some sl := (World.cell?_of_block (heap_old W2 _ (by show w.heap.size + 1 + 1 + 1 + 1 < W2.heap.size; omega))).trans q3
        go_region_law 
          ((refine step_append_lies _ (by rfl) _ _ _ (by rfl) (w.heap.size + 5) 84 i0 _ 2 16 Try.underlying93 hi0 hz0 hz1 hz2 rfl (by omega) sl all.length (objs all) (by rfl) (qrow.alloc _)
              ⟨wr.heap.size + 1 + 1, 0, none⟩ 1 1 [.int .i64 0, .int .i64 id] (by rfl) (by rfl) (World.news_of_block (cs := #[.int .i64 0, .int .i64 id]) (t := 84) (fr := (0, 0)) (by rw [← hs2]; exact heap_alloc_new W2 _)) (by simp [Value.oneCell'])
              (by omega) (by simp [maxLen]; omega) (by omega) (by simp; try omega) (wr.heap.size + 1 + 1 + 1) (by simp; try omega) ?_; intro gg cap w1 hown1 hgrow hat hlt;
              have hob1 := (hgrow.block _ (by have := hIW2.size; simp; omega) (Ne.symm qne)).trans ((heap_old W2 (.cells #[.int .i64 0, .int .i64 id] 84 (0, 0)) (by have := hIW2.size; show w.heap.size + 1 + 1 + 1 + 1 < _; omega)).trans hIW2.obj);
              have hfz := frozen_of hob1 (noF _) 3 (by simp);
              have hc3 : w1.cell? ⟨w.heap.size + 1 + 1 + 1 + 1, 3, none⟩ = some sl := (by rw [cell_of hob1]; rfl)))
        all_goals (
          have hfin := hIW2.app' (o := (0, (id, ()))) hgrow hown1 hat (by omega)
          generalize w1.setCell _ _ = w3 at hfin ⊢
          go_wp2_with fail
          go_roundw
          case rel =>
            refine ⟨j + 1, putI id [miss] g, all ++ [(0, (id, ()))], _, by rw [Int.natCast_succ], by omega, hfin, by simp; omega, ?_, ?_⟩
            · rw [← hsol]; simp only [solve1, hg]
            · intro y l hy
              unfold putI at hy
              by_cases e : y = id
              · simp [e] at hy; rw [← hy]; rfl
              · simp [e] at hy; exact hone y l hy
          case measure =>
            simp [intV]; omega)
      · go_region_held3 (fun w' => w'.heap = W.heap ∧ w'.cell? ⟨wr.heap.size, 0, none⟩ = some (.int .i64 id) ∧ w'.cell? ⟨w.heap.size + 1 + 1 + 1 + 1, 0, none⟩ = some (.map (some (w.heap.size + 1))) ∧
            (Instr.lookup 90 (.map (some (w.heap.size + 1))) (.int .i64 id) true).run Try.prog w' = .ok (.tuple #[u, .bool true]) w')
          (refine ⟨rfl, by go_keep, by go_keep, hL _ rfl⟩) (fail)
        clear hL
        go_wp2_with fail
        go_roundw
        case rel =>
          refine ⟨j + 1, g, all, sl, by rw [Int.natCast_succ], by omega, hIW.ext (grown_drew W), by omega, ?_, hone⟩
          rw [← hsol]; simp only [solve1, hg]
        case measure =>
          simp [intV]; omega
    · have hd : lt.drop j = [] := List.drop_of_length_le (by omega)
      rw [hd] at hsol
      have hj2 : j = n2 := by omega
      subst hj2
      have hc3 : wr.cell? ⟨w.heap.size, 3, none⟩ = some (.slice a3 n3 c3) := by rw [cell_of hI.cfg, ← hxs]; rfl
      go_wp2_with fail
      generalize hg0 : g = g0 at hsol
      have hI0 := hI
      have hone0 : ∀ k l, g k = some l → l.length ≤ 0 + 1 := fun k l h => Nat.le_of_eq (hone k l h)
      rw [hg0] at hI0 hone0
      clear hI hone hg0 hc3 hjn
      go_loopw [69] (fun v69 wr => ∃ (j : Nat) (g : Int → Option (List Int)), v69 = .int .i64 (j : Int) ∧ j ≤ n3 ∧ SV ι w wr xs g (fun _ => none) (fun _ => none) all sl ∧
         solve2 (le.drop j) g = solve2 le g0 ∧ ∀ k l, g k = some l → l.length ≤ j + 1) (fun v69 wr => n3 - (intV v69).toNat)
      case atStart => exact ⟨0, g0, rfl, by omega, hI0, rfl, hone0⟩
      case round =>
        clear hI0 hone0
        obtain ⟨j, g, rfl, hjn, hI, hsol2, hone⟩ := hrel
        by_cases hj : j < n3
        · obtain ⟨b, off, ha, hc⟩ := hin3
          have ha := ha (by omega)
          subst ha
          have hidx : (Instr.indexAt 25 (.slice (some ⟨b, off, none⟩) n3 c3) (.int .i64 j)).run Try.prog wr = .ok (.pointer (some ⟨b, off + j * 11, none⟩)) wr := by
            simp [Instr.indexAt, asIntOf, run_underlying Try.underlying25, run_sizeOf (P := Try.prog) (t := 48) (n := 11) (by kernel_rfl), hj, Addr.add_at]
          have hcell : ∀ k v, k < 11 → w.cell? ⟨b, off + j * 11 + k, none⟩ = some v → wr.cell? ⟨b, off + j * 11 + k, none⟩ = some v := fun k v hk h => by
            rw [World.cell?_of_block (hI.below.block _ (World.block_lt_of_cell? w _ h))]; exact h
          have e0 := hcell 0 _ (by omega) (hc j 0 hj (by omega))
          have e1 := hcell 1 _ (by omega) (hc j 1 hj (by omega))
          have e2 := hcell 2 _ (by omega) (hc j 2 hj (by omega))
          have e3 := hcell 3 _ (by omega) (hc j 3 hj (by omega))
          have e4 := hcell 4 _ (by omega) (hc j 4 hj (by omega))
          have e5 := hcell 5 _ (by omega) (hc j 5 hj (by omega))
          have e6 := hcell 6 _ (by omega) (hc j 6 hj (by omega))
          have e7 := hcell 7 _ (by omega) (hc j 7 hj (by omega))
          have e8 := hcell 8 _ (by omega) (hc j 8 hj (by omega))
          have e9 := hcell 9 _ (by omega) (hc j 9 hj (by omega))
          have e10 := hcell 10 _ (by omega) (hc j 10 hj (by omega))
          simp only [Nat.add_zero, entCell] at e0 e1 e2 e3 e4 e5 e6 e7 e8 e9 e10
          have hdrop : le.drop j = rdd zEntryS le j :: le.drop (j + 1) := drop_rdd zEntryS (by omega)
          rw [hdrop] at hsol2
          generalize hx : rdd zEntryS le j = x at *
          obtain ⟨id, t1, t2, t3, t4, blk, t6, t7, t8, t9, t10, u⟩ := x
          simp only at e0 e1 e2 e3 e4 e5 e6 e7 e8 e9 e10
          clear hc hcell
          go_wp2_with fail
          have hsz := hI.size
          have hWn := heap_alloc_new wr (.cells #[Value.int IntKind.i64 id, Value.string t1, Value.string t2, Value.int IntKind.i64 t3, Value.int IntKind.i64 t4, Value.int IntKind.i64 blk, Value.slice (ea j) (en j) (ec j), Value.int IntKind.i64 t7, Value.int IntKind.i64 t8, Value.int IntKind.u64 t9, Value.bool t10] 48 (0, 0))
          have hgW := grown_alloc wr (.cells #[Value.int IntKind.i64 id, Value.string t1, Value.string t2, Value.int IntKind.i64 t3, Value.int IntKind.i64 t4, Value.int IntKind.i64 blk, Value.slice (ea j) (en j) (ec j), Value.int IntKind.i64 t7, Value.int IntKind.i64 t8, Value.int IntKind.u64 t9, Value.bool t10] 48 (0, 0))
          have hIW := hI.ext (grown_alloc wr (.cells #[Value.int IntKind.i64 id, Value.string t1, Value.string t2, Value.int IntKind.i64 t3, Value.int IntKind.i64 t4, Value.int IntKind.i64 blk, Value.slice (ea j) (en j) (ec j), Value.int IntKind.i64 t7, Value.int IntKind.i64 t8, Value.int IntKind.u64 t9, Value.bool t10] 48 (0, 0)))
          have hWs : (wr.alloc (.cells #[Value.int IntKind.i64 id, Value.string t1, Value.string t2, Value.int IntKind.i64 t3, Value.int IntKind.i64 t4, Value.int IntKind.i64 blk, Value.slice (ea j) (en j) (ec j), Value.int IntKind.i64 t7, Value.int IntKind.i64 t8, Value.int IntKind.u64 t9, Value.bool t10] 48 (0, 0))).heap.size = wr.heap.size + 1 := by simp
          generalize wr.alloc (.cells #[Value.int IntKind.i64 id, Value.string t1, Value.string t2, Value.int IntKind.i64 t3, Value.int IntKind.i64 t4, Value.int IntKind.i64 blk, Value.slice (ea j) (en j) (ec j), Value.int IntKind.i64 t7, Value.int IntKind.i64 t8, Value.int IntKind.u64 t9, Value.bool t10] 48 (0, 0)) = W at *
          have hb0 : W.cell? ⟨wr.heap.size, 0, none⟩ = some (.int .i64 id) := by rw [cell_of hWn]; rfl
          have hb5 : W.cell? ⟨wr.heap.size, 5, none⟩ = some (.int .i64 blk) := by rw [cell_of hWn]; rfl
          have ho0 : W.cell? ⟨w.heap.size + 1 + 1 + 1 + 1, 0, none⟩ = some (.map (some (w.heap.size + 1))) := by rw [cell_of hIW.obj]; rfl
          obtain ⟨ms, k, hm0, hr1, hd1⟩ := hI.m1
          have hm1 := (hgW.block _ (by omega) (by simp)).trans hm0
          rcases look1 hm1 hr1 id with ⟨hg, hmf, hL⟩ | ⟨i, u, s, hmf, hg, hR, hL⟩
          · go_region_held3 (fun w' => w'.heap = W.heap ∧ w'.cell? ⟨wr.heap.size, 0, none⟩ = some (.int .i64 id) ∧ w'.cell? ⟨w.heap.size + 1 + 1 + 1 + 1, 0, none⟩ = some (.map (some (w.heap.size + 1))) ∧
                (Instr.lookup 90 (.map (some (w.heap.size + 1))) (.int .i64 id) true).run Try.prog w' = .ok (.tuple #[.slice none 0 0, .bool false]) w')
              (refine ⟨rfl, by go_keep, by go_keep, hL _ rfl⟩) (fail)
            clear hL
            go_wp2_with fail
            go_roundw
            case rel =>
              refine ⟨j + 1, g, by rw [Int.natCast_succ], by omega, hIW.ext (grown_drew W), ?_, fun k l h => Nat.le_succ_of_le (hone k l h)⟩
              rw [← hsol2]; simp only [solve2, hg]
            case measure =>
              simp [intV]; omega
          · go_region_held3 (fun w' => w'.heap = W.heap ∧ w'.cell? ⟨wr.heap.size, 0, none⟩ = some (.int .i64 id) ∧ w'.cell? ⟨w.heap.size + 1 + 1 + 1 + 1, 0, none⟩ = some (.map (some (w.heap.size + 1))) ∧
                (Instr.lookup 90 (.map (some (w.heap.size + 1))) (.int .i64 id) true).run Try.prog w' = .ok (.tuple #[u, .bool true]) w')
              (refine ⟨rfl, by go_keep, by go_keep, hL _ rfl⟩) (fail)
            clear hL
            go_wp2_with fail
            obtain ⟨i0, hi0, hz0, hz1, hz2⟩ := info_parts info3
            have qrow := hR.2.1.kept hgW (by cases u.ownBlock <;> simp)
            have hsl : s.length ≤ j + 1 := hone id s hg
            have hWs' : W.drew.drew.heap.size = wr.heap.size + 1 := hWs
            have qnb : u.ownBlock ≠ some wr.heap.size := fun e => by have := own_lt hR.2.1 e; omega
            have qlo : ∀ k, k < w.heap.size + 5 → some k ≠ u.ownBlock := fun k hk e => by have := own_lt qrow e.symm; omega
            go_region_held3 (fun w' => w'.cell? ⟨wr.heap.size, 0, none⟩ = some (.int .i64 id) ∧ w'.cell? ⟨wr.heap.size, 5, none⟩ = some (.int .i64 blk) ∧ w'.cell? ⟨w.heap.size + 1 + 1 + 1 + 1, 0, none⟩ = some (.map (some (w.heap.size + 1))))
              (first | (refine ⟨by go_keep, by go_keep, by go_keep⟩) | (refine ⟨cell_grown hgrow (Ne.symm qnb) (by go_keep), cell_grown hgrow (Ne.symm qnb) (by go_keep), cell_grown hgrow (qlo _ (by simp)) (by go_keep)⟩) | (refine ⟨cell_grown hgr3 (by simp; try omega) (by go_keep), cell_grown hgr3 (by simp; try omega) (by go_keep), cell_grown hgr3 (by simp; try omega) (by go_keep)⟩))
              ((refine step_append_lies _ (by rfl) _ _ _ (by rfl) (w.heap.size + 5) 3 i0 _ 1 8 Try.underlying30 hi0 hz0 hz1 hz2 rfl (by omega) u s.length (s.map (.int .i64)) (by rfl) (qrow.alloc _)
                  ⟨wr.heap.size + 1, 0, none⟩ 1 1 [.int .i64 blk] (by rfl) (by rfl) (World.news_of_block (cs := #[.int .i64 blk]) (t := 3) (fr := (0, 0)) (by rw [← hWs]; exact heap_alloc_new W _)) (by simp [Value.oneCell'])
                  (by omega) (by simp [maxLen]; omega) (by omega) (by simp; try omega) (wr.heap.size + 1 + 1) (by simp; try omega) ?_; intro gg cap w1 hown1 hgrow hat hlt;
                  have hgw1 := grown_trans hgW (grown_trans (grown_allocd W (.cells #[.int .i64 blk] 3 (0, 0))) hgrow);
                  have hmw1 := (hgw1.block (w.heap.size + 1) (by omega) (qlo _ (by omega))).trans hm0;
                  obtain ⟨ms', k', hup, p1, p2, p3⟩ := MapP.upd (P := Try.prog) k (t := 90) hr1 Try.underlying90 Try.underlying3 id (.slice (some ⟨gg, 0, none⟩) (s.length + 1) cap);
                  obtain ⟨W3, hW3, hgr3, hm3, hs3⟩ := upd_world hmw1 (hup _ _ hmw1);
                  clear hup))
            have hfin := hI.tab hm0 hr1 hd1 (v := u) (u := .slice (some ⟨gg, 0, none⟩) (s.length + 1) cap) (l := s ++ [blk]) (.inr ⟨i, s, hmf, hR⟩) hgw1 (by simpa using hown1) (by simp; try omega)
              (hat.elim (fun e => .inl e.symm) fun e => .inr ⟨gg, rfl, by omega⟩) hgr3 hm3 p1 p2 p3
            clear hW3
            generalize W3 = w3 at hfin ⊢
            go_wp2_with fail
            go_roundw
            case rel =>
              refine ⟨j + 1, putI id (s ++ [blk]) g, by rw [Int.natCast_succ], by omega, hfin, ?_, ?_⟩
              · rw [← hsol2]; simp only [solve2, hg]
              · intro y l hy
                unfold putI at hy
                by_cases e : y = id
                · simp [e] at hy; rw [← hy]; simp; omega
                · simp [e] at hy; have := hone y l hy; omega
            case measure =>
              simp [intV]; omega
        · have hd : le.drop j = [] := List.drop_of_length_le (by omega)
          rw [hd] at hsol2
          have hj2 : j = n3 := by omega
          subst hj2
          have hc4 : wr.cell? ⟨w.heap.size, 4, none⟩ = some (.slice a4 n4 c4) := by rw [cell_of hI.cfg, ← hxs]; rfl
          go_wp2_with fail
          generalize hg0 : g = g1 at hsol2
          have hI0 := hI
          rw [hg0] at hI0
          generalize hall0 : all = all0 at hsol
          have hall1 := hall
          rw [hall0] at hI0 hall1
          generalize hsl0 : sl = sl0 at hI0
          clear hI hone hg0 hc4 hjn hall hall0 hsl0
          go_loopw [99] (fun v99 wr => ∃ (j : Nat) (g2 : Int → Option (List InstrS)) (all : List ObjS) (sl : Value), v99 = .int .i64 (j : Int) ∧ j ≤ n4 ∧ SV ι w wr xs g1 g2 (fun _ => none) all sl ∧
             all.length ≤ 1000 + j ∧ solve3 (lb.drop j) g2 all = solve3 lb (fun _ => none) all0) (fun v99 wr => n4 - (intV v99).toNat)
          case atStart => exact ⟨0, fun _ => none, all0, sl0, rfl, by omega, hI0, by omega, rfl⟩
          case round =>
            clear hI0 hall1
            obtain ⟨j, g2, all, sl, rfl, hjn, hI, hall, hsol3⟩ := hrel
            by_cases hj : j < n4
            · obtain ⟨b, off, ha, hc⟩ := hin4
              have ha := ha (by omega)
              subst ha
              have hidx : (Instr.indexAt 26 (.slice (some ⟨b, off, none⟩) n4 c4) (.int .i64 j)).run Try.prog wr = .ok (.pointer (some ⟨b, off + j * 2, none⟩)) wr := by
                simp [Instr.indexAt, asIntOf, run_underlying Try.underlying26, run_sizeOf (P := Try.prog) (t := 52) (n := 2) (by kernel_rfl), hj, Addr.add_at]
              have hcell : ∀ k v, k < 2 → w.cell? ⟨b, off + j * 2 + k, none⟩ = some v → wr.cell? ⟨b, off + j * 2 + k, none⟩ = some v := fun k v hk h => by
                rw [World.cell?_of_block (hI.below.block _ (World.block_lt_of_cell? w _ h))]; exact h
              have e0 := hcell 0 _ (by omega) (hc j 0 hj (by omega))
              have e1 := hcell 1 _ (by omega) (hc j 1 hj (by omega))
              simp only [Nat.add_zero, blkCell] at e0 e1
              have hdrop : lb.drop j = rdd zBlockS lb j :: lb.drop (j + 1) := drop_rdd zBlockS (by omega)
              rw [hdrop] at hsol3
              have hcj := hcode j hj
              generalize hx : rdd zBlockS lb j = x at *
              obtain ⟨id, cd, u⟩ := x
              simp only at e0 e1 hcj
              clear hc hcell
              go_wp2_with fail
              have hsz := hI.size
              have hWn := heap_alloc_new wr (.cells #[Value.int IntKind.i64 id, Value.slice (ba j) (bn j) (bc j)] 52 (0, 0))
              have hgW := grown_alloc wr (.cells #[Value.int IntKind.i64 id, Value.slice (ba j) (bn j) (bc j)] 52 (0, 0))
              have hIW := hI.ext hgW
              have hWs : (wr.alloc (.cells #[Value.int IntKind.i64 id, Value.slice (ba j) (bn j) (bc j)] 52 (0, 0))).heap.size = wr.heap.size + 1 := by simp
              generalize wr.alloc (.cells #[Value.int IntKind.i64 id, Value.slice (ba j) (bn j) (bc j)] 52 (0, 0)) = W at *
              have hb0 : W.cell? ⟨wr.heap.size, 0, none⟩ = some (.int .i64 id) := by rw [cell_of hWn]; rfl
              have hb1 : W.cell? ⟨wr.heap.size, 1, none⟩ = some (.slice (ba j) (bn j) (bc j)) := by rw [cell_of hWn]; rfl
              have ho1 : W.cell? ⟨w.heap.size + 1 + 1 + 1 + 1, 1, none⟩ = some (.map (some (w.heap.size + 1 + 1))) := by rw [cell_of hIW.obj]; rfl
              have ho3 : W.cell? ⟨w.heap.size + 1 + 1 + 1 + 1, 3, none⟩ = some sl := by rw [cell_of hIW.obj]; rfl
              obtain ⟨ms, k, hm1, hr1⟩ := hIW.m2
              rcases lookM (k := k) hr1 Try.underlying91 Try.underlying3 zero49 id with ⟨hg, hL⟩ | ⟨i, u, s, hmf, hg, hR, hL⟩
              · go_region_held3 (fun w' => w'.cell? ⟨wr.heap.size, 0, none⟩ = some (.int .i64 id) ∧ w'.cell? ⟨w.heap.size + 1 + 1 + 1 + 1, 1, none⟩ = some (.map (some (w.heap.size + 1 + 1))) ∧
                    (Instr.lookup 91 (.map (some (w.heap.size + 1 + 1))) (.int .i64 id) true).run Try.prog w' = .ok (.tuple #[.slice none 0 0, .bool false]) w')
                  (refine ⟨by go_keep, by go_keep, hL _ _ hm1⟩) (fail)
                clear hL
                go_wp2_with fail
                -- the store into the map
                obtain ⟨ms', k', hup, p1, p2, p3⟩ := MapP.upd (P := Try.prog) k (t := 91) hr1 Try.underlying91 Try.underlying3 id (.slice (ba j) (bn j) (bc j))
                obtain ⟨W2, hW2, hgr2, hm2, hs2⟩ := upd_world (W := W.drew.drew) hm1 (hup _ _ hm1)
                have q0 : W2.cell? ⟨wr.heap.size, 0, none⟩ = some (.int .i64 id) := cell_grown hgr2 (by simp; try omega) hb0
                have q1 : W2.cell? ⟨wr.heap.size, 1, none⟩ = some (.slice (ba j) (bn j) (bc j)) := cell_grown hgr2 (by simp; try omega) hb1
                have qo : W2.cell? ⟨w.heap.size + 1 + 1 + 1 + 1, 1, none⟩ = some (.map (some (w.heap.size + 1 + 1))) := cell_grown hgr2 (by simp; try omega) ho1
                have hIW2 : SV ι w W2 xs g1 (putI id cd g2) (fun _ => none) all sl := (hIW.ext (grown_trans (grown_drew W) (grown_drew W.drew))).blk hr1 hcj hgr2 hm2 p1 p2 p3
                clear hup
                go_region_held3 (fun w' => w'.cell? ⟨wr.heap.size, 0, none⟩ = some (.int .i64 id) ∧ w'.cell? ⟨wr.heap.size, 1, none⟩ = some (.slice (ba j) (bn j) (bc j)) ∧ w'.cell? ⟨w.heap.size + 1 + 1 + 1 + 1, 1, none⟩ = some (.map (some (w.heap.size + 1 + 1))))
                  (refine ⟨by go_keep, by go_keep, by go_keep⟩) (fail)
                clear hW2
                have hs2 : W2.heap.size = wr.heap.size + 1 := by rw [hs2]; exact hWs
                go_wp2_with fail
                obtain ⟨i0, hi0, hz0, hz1, hz2⟩ := info_parts info84
                have q3 : W2.cell? ⟨w.heap.size + 1 + 1 + 1 + 1, 3, none⟩ = some sl := by rw [cell_of hIW2.obj]; rfl
                have qrow := hIW2.row
                have qne : sl.ownBlock ≠ some (w.heap.size + 1 + 1 + 1 + 1) := fun e => by have := own_lt qrow e; omega
                have q3a : (W2.alloc (.cells #[.int .i64 1, .int .i64 id] 84 (0, 0))).cell? ⟨w.heap.size + 1 + 1 + 1 + 1, 3, none⟩ = some sl := (World.cell?_of_block (heap_old W2 _ (by show w.heap.size + 1 + 1 + 1 + 1 < W2.heap.size; omega))).trans q3
                go_region_law
                  ((refine step_append_lies _ (by rfl) _ _ _ (by rfl) (w.heap.size + 5) 84 i0 _ 2 16 Try.underlying93 hi0 hz0 hz1 hz2 rfl (by omega) sl all.length (objs all) (by rfl) (qrow.alloc _)
                      ⟨wr.heap.size + 1, 0, none⟩ 1 1 [.int .i64 1, .int .i64 id] (by rfl) (by rfl) (World.news_of_block (cs := #[.int .i64 1, .int .i64 id]) (t := 84) (fr := (0, 0)) (by rw [← hs2]; exact heap_alloc_new W2 _)) (by simp [Value.oneCell'])
                      (by omega) (by simp [maxLen]; omega) (by omega) (by simp; try omega) (wr.heap.size + 1 + 1) (by simp; try omega) ?_; intro gg cap w1 hown1 hgrow hat hlt;
                      have hob1 := (hgrow.block _ (by have := hIW2.size; simp; omega) (Ne.symm qne)).trans ((heap_old W2 (.cells #[.int .i64 1, .int .i64 id] 84 (0, 0)) (by have := hIW2.size; show w.heap.size + 1 + 1 + 1 + 1 < _; omega)).trans hIW2.obj);
                      have hfz := frozen_of hob1 (noF _) 3 (by simp);
                      have hc3 : w1.cell? ⟨w.heap.size + 1 + 1 + 1 + 1, 3, none⟩ = some sl := (by rw [cell_of hob1]; rfl)))
                all_goals (
                  have hfin := hIW2.app' (o := (1, (id, ()))) hgrow hown1 hat (by omega)
                  generalize w1.setCell _ _ = w3 at hfin ⊢
                  go_wp2_with fail
                  go_roundw
                  case rel =>
                    refine ⟨j + 1, putI id cd g2, all ++ [(1, (id, ()))], _, by rw [Int.natCast_succ], by omega, hfin, by simp; omega, ?_⟩
                    rw [← hsol3]; simp only [solve3, hg]
                  case measure =>
                    simp [intV]; omega)
              · go_region_held3 (fun w' => w'.cell? ⟨wr.heap.size, 0, none⟩ = some (.int .i64 id) ∧ w'.cell? ⟨w.heap.size + 1 + 1 + 1 + 1, 1, none⟩ = some (.map (some (w.heap.size + 1 + 1))) ∧
                    (Instr.lookup 91 (.map (some (w.heap.size + 1 + 1))) (.int .i64 id) true).run Try.prog w' = .ok (.tuple #[u, .bool true]) w')
                  (refine ⟨by go_keep, by go_keep, hL _ _ hm1⟩) (fail)
                clear hL
                go_wp2_with fail
                go_roundw
                case rel =>
                  refine ⟨j + 1, g2, all, sl, by rw [Int.natCast_succ], by omega, hIW.ext (grown_drew W), by omega, ?_⟩
                  rw [← hsol3]; simp only [solve3, hg]
                case measure =>
                  simp [intV]; omega
            · have hd : lb.drop j = [] := List.drop_of_length_le (by omega)
              rw [hd] at hsol3
              have hj2 : j = n4 := by omega
              subst hj2
              have hc5 : wr.cell? ⟨w.heap.size, 5, none⟩ = some (.slice a5 n5 c5) := by rw [cell_of hI.cfg, ← hxs]; rfl
              go_wp2_with fail
              generalize hg0 : g2 = g2' at hsol3
              have hI0 := hI
              rw [hg0] at hI0
              generalize hall0 : all = all1 at hsol3
              have hall1 := hall
              rw [hall0] at hI0 hall1
              generalize hsl0 : sl = sl1 at hI0
              clear hI hg0 hc5 hjn hall hall0 hsl0
              go_loopw [139] (fun v139 wr => ∃ (j : Nat) (g3 : Int → Option GroupS) (all : List ObjS) (sl : Value), v139 = .int .i64 (j : Int) ∧ j ≤ n5 ∧ SV ι w wr xs g1 g2' g3 all sl ∧
                 all.length ≤ 2000 + j ∧ solve4 (lg.drop j) g3 all = solve4 lg (fun _ => none) all1) (fun v139 wr => n5 - (intV v139).toNat)
              case atStart => exact ⟨0, fun _ => none, all1, sl1, rfl, by omega, hI0, by omega, rfl⟩
              case round =>
                clear hI0 hall1
                obtain ⟨j, g3, all, sl, rfl, hjn, hI, hall, hsol4⟩ := hrel
                by_cases hj : j < n5
                · obtain ⟨b, off, ha, hc⟩ := hin5
                  have ha := ha (by omega)
                  subst ha
                  have hidx : (Instr.indexAt 27 (.slice (some ⟨b, off, none⟩) n5 c5) (.int .i64 j)).run Try.prog wr = .ok (.pointer (some ⟨b, off + j * 4, none⟩)) wr := by
                    simp [Instr.indexAt, asIntOf, run_underlying Try.underlying27, run_sizeOf (P := Try.prog) (t := 69) (n := 4) (by kernel_rfl), hj, Addr.add_at]
                  have hcell : ∀ k v, k < 4 → w.cell? ⟨b, off + j * 4 + k, none⟩ = some v → wr.cell? ⟨b, off + j * 4 + k, none⟩ = some v := fun k v hk h => by
                    rw [World.cell?_of_block (hI.below.block _ (World.block_lt_of_cell? w _ h))]; exact h
                  have e0 := hcell 0 _ (by omega) (hc j 0 hj (by omega))
                  have e1 := hcell 1 _ (by omega) (hc j 1 hj (by omega))
                  have e2 := hcell 2 _ (by omega) (hc j 2 hj (by omega))
                  have e3 := hcell 3 _ (by omega) (hc j 3 hj (by omega))
                  simp only [Nat.add_zero, grpCell] at e0 e1 e2 e3
                  have hdrop : lg.drop j = rdd zGroupS lg j :: lg.drop (j + 1) := drop_rdd zGroupS (by omega)
                  rw [hdrop] at hsol4
                  have hcj := hbuck j hj
                  generalize hx : rdd zGroupS lg j = x at *
                  obtain ⟨id, kd, nd, bk, u⟩ := x
                  simp only at e0 e1 e2 e3 hcj
                  clear hc hcell
                  go_wp2_with fail
                  have hsz := hI.size
                  have hWn := heap_alloc_new wr (.cells #[Value.int IntKind.i64 id, Value.int IntKind.u8 kd, Value.int IntKind.i64 nd, Value.slice (ga j) (gn j) (gc j)] 69 (0, 0))
                  have hgW := grown_alloc wr (.cells #[Value.int IntKind.i64 id, Value.int IntKind.u8 kd, Value.int IntKind.i64 nd, Value.slice (ga j) (gn j) (gc j)] 69 (0, 0))
                  have hIW := hI.ext hgW
                  have hWs : (wr.alloc (.cells #[Value.int IntKind.i64 id, Value.int IntKind.u8 kd, Value.int IntKind.i64 nd, Value.slice (ga j) (gn j) (gc j)] 69 (0, 0))).heap.size = wr.heap.size + 1 := by simp
                  generalize wr.alloc (.cells #[Value.int IntKind.i64 id, Value.int IntKind.u8 kd, Value.int IntKind.i64 nd, Value.slice (ga j) (gn j) (gc j)] 69 (0, 0)) = W at *
                  have hb0 : W.cell? ⟨wr.heap.size, 0, none⟩ = some (.int .i64 id) := by rw [cell_of hWn]; rfl
                  have ho2 : W.cell? ⟨w.heap.size + 1 + 1 + 1 + 1, 2, none⟩ = some (.map (some (w.heap.size + 1 + 1 + 1))) := by rw [cell_of hIW.obj]; rfl
                  obtain ⟨ms, k, hm1, hr1⟩ := hIW.m3
                  rcases lookM (k := k) hr1 Try.underlying92 Try.underlying3 zero69 id with ⟨hg, hL⟩ | ⟨i, u, s, hmf, hg, hR, hL⟩
                  · go_region_held3 (fun w' => w'.cell? ⟨wr.heap.size, 0, none⟩ = some (.int .i64 id) ∧ w'.cell? ⟨w.heap.size + 1 + 1 + 1 + 1, 2, none⟩ = some (.map (some (w.heap.size + 1 + 1 + 1))) ∧
                        (Instr.lookup 92 (.map (some (w.heap.size + 1 + 1 + 1))) (.int .i64 id) true).run Try.prog w' = .ok (.tuple #[.agg #[.int .i64 0, .int .u8 0, .int .i64 0, .slice none 0 0], .bool false]) w')
                      (first | (refine ⟨by go_keep, by go_keep, hL _ _ hm1⟩) | (refine ⟨by go_keep, by go_keep, hL _ _ ((heap_old _ _ (by omega)).trans hm1)⟩)) (fail)
                    clear hL
                    all_goals (
                      have hb1 : W.cell? ⟨wr.heap.size, 1, none⟩ = some (.int .u8 kd) := by rw [cell_of hWn]; rfl
                      have hb2 : W.cell? ⟨wr.heap.size, 2, none⟩ = some (.int .i64 nd) := by rw [cell_of hWn]; rfl
                      have hb3 : W.cell? ⟨wr.heap.size, 3, none⟩ = some (.slice (ga j) (gn j) (gc j)) := by rw [cell_of hWn]; rfl
                      have hrel : ARel ι Phi.none (.agg #[.int .i64 id, .int .u8 kd, .int .i64 nd, .slice (ga j) (gn j) (gc j)]) (GroupT.av (id, kd, nd, bk, ())) :=
                        .agg [.int .i64 id, .int .u8 kd, .int .i64 nd, .slice (ga j) (gn j) (gc j)] (GroupT.enc (id, kd, nd, bk, ())) rfl (((((ARels.nil.cons hcj).cons (.v _)).cons (.v _)).cons (.v _))).2
                      obtain ⟨ms', k', hup, p1, p2, p3⟩ := MapP.upd (P := Try.prog) k (t := 92) hr1 Try.underlying92 Try.underlying3 id (.agg #[.int .i64 id, .int .u8 kd, .int .i64 nd, .slice (ga j) (gn j) (gc j)])
                      have hmW : (W.alloc (.cells #[.int .i64 0, .int .u8 0, .int .i64 0, .slice none 0 0] 69 (0, 0))).drew.drew.heap[w.heap.size + 1 + 1 + 1]? = some (.map ms k) := (heap_old _ _ (by omega)).trans hm1
                      obtain ⟨W2, hW2, hgr2, hm2, hs2⟩ := upd_world hmW (hup _ _ hmW)
                      have q0 : W2.cell? ⟨wr.heap.size, 0, none⟩ = some (.int .i64 id) := cell_grown hgr2 (by simp; try omega) (cell_grown (grown_alloc W _) (by simp) hb0)
                      have q1 : W2.cell? ⟨wr.heap.size, 1, none⟩ = some (.int .u8 kd) := cell_grown hgr2 (by simp; try omega) (cell_grown (grown_alloc W _) (by simp) hb1)
                      have q2 : W2.cell? ⟨wr.heap.size, 2, none⟩ = some (.int .i64 nd) := cell_grown hgr2 (by simp; try omega) (cell_grown (grown_alloc W _) (by simp) hb2)
                      have q3 : W2.cell? ⟨wr.heap.size, 3, none⟩ = some (.slice (ga j) (gn j) (gc j)) := cell_grown hgr2 (by simp; try omega) (cell_grown (grown_alloc W _) (by simp) hb3)
                      have qo : W2.cell? ⟨w.heap.size + 1 + 1 + 1 + 1, 2, none⟩ = some (.map (some (w.heap.size + 1 + 1 + 1))) := cell_grown hgr2 (by simp; try omega) (cell_grown (grown_alloc W _) (by simp) ho2)
                      have hIW2 : SV ι w W2 xs g1 g2' (putI id (id, kd, nd, bk, ()) g3) all sl := (hIW.ext (grown_allocd W _)).grp hr1 hrel hgr2 hm2 p1 p2 p3
                      have hs2 : W2.heap.size = wr.heap.size + 1 + 1 := by rw [hs2]; show (W.alloc _).heap.size = _; simp [hWs]
                      clear hup
                      obtain ⟨i0, hi0, hz0, hz1, hz2⟩ := info_parts info84
                      have q3' : W2.cell? ⟨w.heap.size + 1 + 1 + 1 + 1, 3, none⟩ = some sl := by rw [cell_of hIW2.obj]; rfl
                      have qrow := hIW2.row
                      have qne : sl.ownBlock ≠ some (w.heap.size + 1 + 1 + 1 + 1) := fun e => by have := own_lt qrow e; omega
                      have q3a : (W2.alloc (.cells #[.int .i64 2, .int .i64 id] 84 (0, 0))).cell? ⟨w.heap.size + 1 + 1 + 1 + 1, 3, none⟩ = some sl := (World.cell?_of_block (heap_old W2 _ (by show w.heap.size + 1 + 1 + 1 + 1 < W2.heap.size; omega))).trans q3'
                      go_wp2_with fail
                      go_region_held3 (fun w' => w'.cell? ⟨wr.heap.size, 0, none⟩ = some (.int .i64 id) ∧ w'.cell? ⟨wr.heap.size, 1, none⟩ = some (.int .u8 kd) ∧ w'.cell? ⟨wr.heap.size, 2, none⟩ = some (.int .i64 nd) ∧
                          w'.cell? ⟨wr.heap.size, 3, none⟩ = some (.slice (ga j) (gn j) (gc j)) ∧ w'.cell? ⟨w.heap.size + 1 + 1 + 1 + 1, 2, none⟩ = some (.map (some (w.heap.size + 1 + 1 + 1))))
                        (refine ⟨by go_keep, by go_keep, by go_keep, by go_keep, by go_keep⟩) (fail)
                      clear hW2
                      go_wp2_with fail
                      go_region_law
                        ((refine step_append_lies _ (by rfl) _ _ _ (by rfl) (w.heap.size + 5) 84 i0 _ 2 16 Try.underlying93 hi0 hz0 hz1 hz2 rfl (by omega) sl all.length (objs all) (by rfl) (qrow.alloc _)
                            ⟨wr.heap.size + 1 + 1, 0, none⟩ 1 1 [.int .i64 2, .int .i64 id] (by rfl) (by rfl) (World.news_of_block (cs := #[.int .i64 2, .int .i64 id]) (t := 84) (fr := (0, 0)) (by rw [← hs2]; exact heap_alloc_new W2 _)) (by simp [Value.oneCell'])
                            (by omega) (by simp [maxLen]; omega) (by omega) (by simp; try omega) (wr.heap.size + 1 + 1 + 1) (by simp; try omega) ?_; intro gg cap w1 hown1 hgrow hat hlt;
                            have hob1 := (hgrow.block _ (by have := hIW2.size; simp; omega) (Ne.symm qne)).trans ((heap_old W2 (.cells #[.int .i64 2, .int .i64 id] 84 (0, 0)) (by have := hIW2.size; show w.heap.size + 1 + 1 + 1 + 1 < _; omega)).trans hIW2.obj);
                            have hfz := frozen_of hob1 (noF _) 3 (by simp);
                            have hc3 : w1.cell? ⟨w.heap.size + 1 + 1 + 1 + 1, 3, none⟩ = some sl := (by rw [cell_of hob1]; rfl)))
                      all_goals (
                        have hfin := hIW2.app' (o := (2, (id, ()))) hgrow hown1 hat (by omega)
                        generalize w1.setCell _ _ = w3 at hfin ⊢
                        go_wp2_with fail
                        go_roundw
                        case rel =>
                          refine ⟨j + 1, putI id (id, kd, nd, bk, ()) g3, all ++ [(2, (id, ()))], _, by rw [Int.natCast_succ], by omega, hfin, by simp; omega, ?_⟩
                          rw [← hsol4]; simp only [solve4, hg]
                        case measure =>
                          simp [intV]; omega))
                  · obtain ⟨z1, z2, z3, a', n', c', rfl⟩ := group_val hR
                    go_region_held3 (fun w' => w'.cell? ⟨wr.heap.size, 0, none⟩ = some (.int .i64 id) ∧ w'.cell? ⟨w.heap.size + 1 + 1 + 1 + 1, 2, none⟩ = some (.map (some (w.heap.size + 1 + 1 + 1))) ∧
                        (Instr.lookup 92 (.map (some (w.heap.size + 1 + 1 + 1))) (.int .i64 id) true).run Try.prog w' = .ok (.tuple #[.agg #[.int .i64 z1, .int .u8 z2, .int .i64 z3, .slice a' n' c'], .bool true]) w')
                      (first | (refine ⟨by go_keep, by go_keep, hL _ _ hm1⟩) | (refine ⟨by go_keep, by go_keep, hL _ _ ((heap_old _ _ (by omega)).trans hm1)⟩)) (fail)
                    clear hL
                    all_goals (
                      have hfin := hIW.ext (grown_allocd1 W (.cells #[.int .i64 z1, .int .u8 z2, .int .i64 z3, .slice a' n' c'] 69 (0, 0)))
                      go_wp2_with fail
                      go_roundw
                      case rel =>
                        refine ⟨j + 1, g3, all, sl, by rw [Int.natCast_succ], by omega, hfin, by omega, ?_⟩
                        rw [← hsol4]; simp only [solve4, hg]
                      case measure =>
                        simp [intV]; omega)
                · have hd : lg.drop j = [] := List.drop_of_length_le (by omega)
                  rw [hd] at hsol4
                  go_wp2_with fail
                  rw [← hxs] at hI
                  have s1 : solve1 lt (fun _ => none) [] = (g0, all0) := hsol.symm
                  have s3 : solve3 lb (fun _ => none) all0 = (g2', all1) := hsol3.symm
                  refine hR _ _ _ _ _ _ hI ?_ ?_ ?_
                  · rw [s1]; exact hsol2
                  · rw [s1, s3]
                  · rw [s1, s3]; exact hsol4
end Go.AMach
