/- Parts of the proof. -/
import Derived.Test.YtbkbifpjckippaaHs
import Derived.Test.YtbkbifpjckippaaHq
import Derived.Test.YtbkbifpjckippaaWc
import Derived.Deep.AppendLies
import Derived.Deep.RegionLaw
import Derived.Deep.RegionWith
import Derived.StillTailTactics
/- law19: the reference's from: walked. -/
namespace Go.AMach
set_option linter.unusedVariables false
set_option linter.unusedSimpArgs false
set_option linter.unnecessarySimpa false
open Go Go.Proofs Go.RowKit Go.Shelf Go.Lib Go.Sort
set_option linter.unusedVariables false
set_option linter.unusedSimpArgs false
set_option linter.unusedSectionVars false
namespace H19
set_option linter.unusedVariables false
set_option linter.unusedSimpArgs false
set_option linter.unnecessarySimpa false
attribute [local go_sem ↓] Go.wp_at_zero Go.wp_at_succ
/-- A row of the input: its cells. -/
def InpC (w : World) (a : Option Addr) (n sz : Nat) (cell : Nat → Nat → Value) : Prop :=
  ∃ b off, (n ≠ 0 → a = some ⟨b, off, none⟩) ∧ ∀ j k, j < n → k < sz → w.cell? ⟨b, off + j * sz + k, none⟩ = some (cell j k)
def insCell (c : List InstrS) (j : Nat) : Nat → Value
  | 0 => .int .u8 (rdd zInstrS c j).1
  | 1 => .int .i64 (rdd zInstrS c j).2.1
  | 2 => .int .u8 (rdd zInstrS c j).2.2.1.1
  | 3 => .int .u64 (rdd zInstrS c j).2.2.1.2.1
  | 4 => .int .u8 (rdd zInstrS c j).2.2.2.1.1
  | 5 => .int .u64 (rdd zInstrS c j).2.2.2.1.2.1
  | _ => .int .i64 (rdd zInstrS c j).2.2.2.2.1
/-- A slice of ways, in blocks from lo on. -/
def WSl (W : World) (lo : Nat) (v : Value) (l : List WayS) : Prop :=
  ∃ ι : Iota, (∀ b o, ι b = some o → W.heap[b]? = some o ∧ lo ≤ b) ∧ ARel ι Phi.none v (.sl false 3 (.ty WayT l))
def intV : Value → Int
  | .int _ n => n
  | _ => 0
noncomputable abbrev WsC (c : List InstrS) (j : Nat) : List WayS := W19.waysB ((c.map fromNd).drop j)
def wcV (x : WayS) : Nat → Value
  | 0 => .int .u8 x.1
  | 1 => .int .i64 x.2.1
  | _ => .int .i64 x.2.2.1
theorem wc_enc (x : WayS) (j : Nat) (y : AV) (h : (WayT.enc x)[j]? = some y) : j < 3 ∧ y = .v (wcV x j) := by
  match j, h with
  | 0, h => cases h; exact ⟨by omega, rfl⟩
  | 1, h => cases h; exact ⟨by omega, rfl⟩
  | 2, h => cases h; exact ⟨by omega, rfl⟩
  | k + 3, h => exact absurd h (by simp [Ty.enc])
theorem wc_one (x : WayS) (j : Nat) : (wcV x j).oneCell' = true := by unfold wcV; split <;> rfl
theorem WSl.mk' {W : World} {lo b off cap : Nat} {cs : Array Value} {T : TypeId} {F : Nat × Nat} {l : List WayS} (hb : W.heap[b]? = some (.cells cs T F)) (hlo : lo ≤ b) (hcap : l.length ≤ cap)
    (hc : ∀ i j, i < l.length → j < 3 → cs[off + i * 3 + j]? = some (wcV (rdd zWayS l i) j)) : WSl W lo (.slice (some ⟨b, off, none⟩) l.length cap) l := by
  refine ⟨fun k => if k = b then some (.cells cs T F) else none, fun k o h => ?_, ?_⟩
  · simp only at h
    split at h
    · rename_i e; subst e; cases h; exact ⟨hb, hlo⟩
    · cases h
  · refine .sl _ cap false 3 (.ty WayT l) hcap (fun h => by cases h) (fun c hc => ?_) b off cs T F (fun e j => wcV (rdd zWayS l e) j) (fun _ => ⟨rfl, if_pos rfl⟩) (fun e j c x he hx => ?_) (fun e j c x he hx => ?_) (fun e j c x he hx => wc_one _ _)
    · obtain ⟨e, he⟩ := List.getElem?_of_mem hc
      obtain ⟨_, rfl⟩ := toL_some.1 he
      rfl
    · obtain ⟨hel, rfl⟩ := toL_some.1 he
      obtain ⟨hj, _⟩ := wc_enc _ _ _ hx
      exact hc e j hel hj
    · obtain ⟨hel, rfl⟩ := toL_some.1 he
      obtain ⟨hj, rfl⟩ := wc_enc _ _ _ hx
      exact .v _
theorem WSl.nil (W : World) (lo : Nat) (cap : Nat) (a : Option Addr) : WSl W lo (.slice a 0 cap) [] :=
  ⟨fun _ => none, fun b o h => (by cases h), .sl _ cap false 3 (.ty WayT []) (Nat.zero_le _) (fun h => (by cases h)) (fun c hc => by simp [Rows.toL, Rows.len] at hc) 0 0 #[] 0 (0, 0) (fun _ _ => undef) (fun h => absurd rfl h) (fun e j c x he hx => by simp [Rows.toL, Rows.len] at he) (fun e j c x he hx => by simp [Rows.toL, Rows.len] at he) (fun e j c x he hx => by simp [Rows.toL, Rows.len] at he)⟩
theorem WSl.at_ {W : World} {lo : Nat} {v : Value} {l : List WayS} (h : WSl W lo v l) : ∃ a cap, v = .slice a l.length cap ∧ l.length ≤ cap ∧ (l ≠ [] → ∃ b off, a = some ⟨b, off, none⟩ ∧ lo ≤ b ∧ b < W.heap.size ∧ ∀ i j, i < l.length → j < 3 → W.cell? ⟨b, off + i * 3 + j, none⟩ = some (wcV (rdd zWayS l i) j)) := by
  obtain ⟨ι, hi, h⟩ := h
  generalize hL : (Rows.ty WayT l : Rows AV) = es at h
  cases h with
  | sl a cp _ _ _ hcc htg hw b off cs TT F us hm g1 g2 g3 =>
  have hlen : es.len = l.length := by rw [← hL]; rfl
  refine ⟨a, cp, by rw [hlen], by omega, fun hne => ?_⟩
  have hne' : es.len ≠ 0 := by rw [hlen]; exact fun e => hne (List.length_eq_zero_iff.1 e)
  obtain ⟨e1, e2⟩ := hm hne'
  obtain ⟨e3, e4⟩ := hi _ _ e2
  refine ⟨b, off, e1, e4, (Array.getElem?_eq_some_iff.1 e3).1, fun i j hil hj => ?_⟩
  have hrow : es.toL[i]? = some (WayT.enc (rdd zWayS l i)) := by rw [← hL, toL_at (by exact hil)]; rfl
  have hx : (WayT.enc (rdd zWayS l i))[j]? = some (.v (wcV (rdd zWayS l i) j)) := by
    match j, hj with
    | 0, _ => rfl
    | 1, _ => rfl
    | 2, _ => rfl
  rw [cellof e3, g1 i j _ _ hrow hx]
  have h2 := g2 i j _ _ hrow hx
  generalize us i j = y at h2
  cases h2; rfl
theorem WSl.frame {W W' : World} {lo : Nat} {v : Value} {l : List WayS} (h : WSl W lo v l) (hf : ∀ b, lo ≤ b → b < W.heap.size → W'.heap[b]? = W.heap[b]?) : WSl W' lo v l := by
  obtain ⟨ι, hi, h⟩ := h
  exact ⟨ι, fun b o hb => ⟨(hf b (hi b o hb).2 (Array.getElem?_eq_some_iff.1 (hi b o hb).1).1).trans (hi b o hb).1, (hi b o hb).2⟩, h⟩
theorem WSl.lit {W : World} {lo b : Nat} {o n s : Int} {T : TypeId} {F : Nat × Nat} (hb : W.heap[b]? = some (.cells #[.int .u8 o, .int .i64 n, .int .i64 s] T F)) (hlo : lo ≤ b) : WSl W lo (.slice (some ⟨b, 0, none⟩) 1 1) [W19.wy o n s] := by
  refine WSl.mk' (l := [W19.wy o n s]) hb hlo (Nat.le_refl _) fun i j hi hj => ?_
  have : i = 0 := by simp at hi; exact hi
  subst this
  match j, hj with
  | 0, _ => rfl
  | 1, _ => rfl
  | 2, _ => rfl
/-- Under way: rows from i on are told. -/
structure FI (w wr : World) (c : List InstrS) (i : Nat) (cs : Array Value) : Prop where
  below : Below w.heap.size w wr
  blk : wr.heap[w.heap.size]? = some (.cells cs 42 (0, 0))
  size : cs.size = c.length + 1
  done : ∀ j, i ≤ j → j ≤ c.length → ∃ v, cs[j]? = some v ∧ WSl wr (w.heap.size + 1) v (WsC c j)
  open_ : ∀ j, j < i → cs[j]? = some (.slice none 0 0)
theorem FI.ext {w wr W1 : World} {c : List InstrS} {i : Nat} {cs : Array Value} (h : FI w wr c i cs) (hg : wr.grownBy W1 none) : FI w W1 c i cs where
  below := h.below.grown hg (Nat.le_trans (Nat.le_refl _) h.below.size) (by simp)
  blk := (hg.block _ (Array.getElem?_eq_some_iff.1 h.blk).1 (by simp)).trans h.blk
  size := h.size
  done := fun j h1 h2 => by
    obtain ⟨v, a, b⟩ := h.done j h1 h2
    exact ⟨v, a, b.frame fun k _ hk => hg.block k hk (by simp)⟩
  open_ := h.open_
/-- Under way, within. -/
structure IN (W1 wr : World) (O k : Nat) (cs : Array Value) (u : Value) (m : Nat) (ll : List WayS) : Prop where
  grown : W1.grownBy wr (some O)
  blk : wr.heap[O]? = some (.cells (cs.setIfInBounds k u) 42 (0, 0))
  own : wr.ownsRow W1.heap.size 58 3 u m (rowCells ((ll.map W19.up).take m))
theorem FI.close {w W1 wr : World} {c : List InstrS} {k : Nat} {cs : Array Value} {u : Value} {ll : List WayS} (h : FI w W1 c (k + 1) cs) (hI : IN W1 wr w.heap.size k cs u ll.length ll) (hll : ll.map W19.up = WsC c k) (hk : k ≤ c.length) : FI w wr c k (cs.setIfInBounds k u) where
  below := h.below.grown hI.grown h.below.size (fun j e => by cases e; exact Nat.le_refl _)
  blk := hI.blk
  size := by simpa using h.size
  done := fun j h1 h2 => by
    have hO : w.heap.size < W1.heap.size := (Array.getElem?_eq_some_iff.1 h.blk).1
    by_cases e : k = j
    · subst e
      refine ⟨u, by rw [Array.getElem?_setIfInBounds, if_pos rfl, if_pos (by have := h.size; omega)], ?_⟩
      rw [← hll]
      obtain ⟨_, hc⟩ := hI.own
      have hlm : (ll.map W19.up).take ll.length = ll.map W19.up := by rw [List.take_of_length_le (by simp)]
      rcases hc with ⟨rfl, h0⟩ | ⟨g, cap, cur, rfl, hge, hg, hnc, hcm, hcs, htk⟩
      · have : ll = [] := List.length_eq_zero_iff.1 h0
        subst this
        exact WSl.nil _ _ _ _
      · have e := WSl.mk' (W := wr) (lo := w.heap.size + 1) (b := g) (off := 0) (cap := cap) (l := ll.map W19.up) hg (by omega) (by simpa using hnc) fun i j hi hj => ?_
        · rw [List.length_map] at e; exact e
        · have hi' : i < ll.length := by simpa using hi
          have hq := rowCells_get (ll.map W19.up) i j (rdd zWayS (ll.map W19.up) i) (by rw [rdd_lt hi]; exact List.getElem?_eq_getElem hi) hj
          rw [hlm] at htk
          rw [← htk, List.getElem?_take_of_lt (by omega)] at hq
          rw [Nat.zero_add, ← Array.getElem?_toList, hq]
          match j, hj with
          | 0, _ => rfl
          | 1, _ => rfl
          | 2, _ => rfl
    · obtain ⟨v, a, b⟩ := h.done j (by omega) h2
      refine ⟨v, by rw [Array.getElem?_setIfInBounds, if_neg e]; exact a, b.frame fun x hx hx2 => hI.grown.block x hx2 (by simp; omega)⟩
  open_ := fun j hj => by rw [Array.getElem?_setIfInBounds, if_neg (by omega)]; exact h.open_ j (by omega)
theorem grown_trans {a b c : World} {row : Option Nat} (h : a.grownBy b none) (k : b.grownBy c row) : a.grownBy c row :=
  ⟨k.os.trans h.os, k.tape.trans h.tape, k.output.trans h.output, Nat.le_trans h.size k.size, fun j hj hne => (k.block j (Nat.lt_of_lt_of_le hj h.size) hne).trans (h.block j hj (by simp))⟩
theorem grown_allocd1 (w : World) (o : Obj) : w.grownBy (w.alloc o).drew none := let h := World.grownBy_alloc w o none; ⟨h.os, h.tape, h.output, h.size, h.block⟩
theorem setCell_grown (w : World) (b o : Nat) (v : Value) : w.grownBy (w.setCell ⟨b, o, none⟩ v) (some b) :=
  ⟨rfl, rfl, rfl, by simp [World.setCell], fun k hk hne => by simp only [World.setCell, Array.getElem?_modify]; rw [if_neg (fun e => hne (by rw [e]))]⟩
theorem setCell_heap {w : World} {b o : Nat} {v : Value} {cs : Array Value} {T : TypeId} {F : Nat × Nat} (h : w.heap[b]? = some (.cells cs T F)) : (w.setCell ⟨b, o, none⟩ v).heap[b]? = some (.cells (cs.setIfInBounds o v) T F) := by
  simp [World.setCell, Array.getElem?_modify, h]
theorem IN.low {W1 wr : World} {O k : Nat} {cs : Array Value} {u : Value} {m : Nat} {ll : List WayS} (hI : IN W1 wr O k cs u m ll) : ∀ j, j < W1.heap.size → some j ≠ u.ownBlock := fun j hj e => by have := hI.own.lt j e.symm; omega
theorem IN.app {W1 wr W2 w1 : World} {O k : Nat} {cs : Array Value} {u : Value} {m : Nat} {ll : List WayS} {ob : Obj} {gg cap : Nat} {x : WayS} (hI : IN W1 wr O k cs u m ll) (hO : O < W1.heap.size) (hg1 : wr.grownBy W2 none) (hgrow : (W2.alloc ob).drew.grownBy w1 u.ownBlock)
    (hown : w1.ownsRow W1.heap.size 58 3 (.slice (some ⟨gg, 0, none⟩) (m + 1) cap) (m + 1) (rowCells ((ll.map W19.up).take m) ++ [.int .u8 x.1, .int .i64 x.2.1, .int .i64 x.2.2.1])) (htk : (ll.map W19.up).take (m + 1) = (ll.map W19.up).take m ++ [x]) :
    IN W1 (w1.setCell ⟨O, k, none⟩ (.slice (some ⟨gg, 0, none⟩) (m + 1) cap)) O k cs (.slice (some ⟨gg, 0, none⟩) (m + 1) cap) (m + 1) ll := by
  have hg : wr.grownBy w1 u.ownBlock := grown_trans hg1 (grown_trans (grown_allocd1 W2 ob) hgrow)
  have hsz := hI.grown.size
  have hs := setCell_grown w1 O k (.slice (some ⟨gg, 0, none⟩) (m + 1) cap)
  refine ⟨⟨hs.os.trans (hg.os.trans hI.grown.os), hs.tape.trans (hg.tape.trans hI.grown.tape), hs.output.trans (hg.output.trans hI.grown.output), Nat.le_trans hsz (Nat.le_trans hg.size hs.size), fun j hj hne => ?_⟩, ?_, ?_⟩
  · rw [hs.block j (by have := hg.size; omega) hne, hg.block j (by omega) (hI.low j hj), hI.grown.block j hj hne]
  · have h1 : w1.heap[O]? = _ := (hg.block O (by omega) (hI.low O hO)).trans hI.blk
    rw [setCell_heap h1]
    rw [Array.setIfInBounds_setIfInBounds]
  · rw [htk]
    have e : rowCells ((ll.map W19.up).take m ++ [x]) = rowCells ((ll.map W19.up).take m) ++ [.int .u8 x.1, .int .i64 x.2.1, .int .i64 x.2.2.1] := by simp [rowCells]
    rw [e]
    refine hown.kept hs (.inr fun e => ?_)
    have := hown.lt gg rfl
    simp [Value.ownBlock] at e
    omega
theorem info_parts {t : TypeId} {z : Value} {s b : Nat} (h : (Try.prog.info? t).map (fun i => (i.zero, i.size, i.bytes)) = some (some z, s, b)) : ∃ i, Try.prog.info? t = some i ∧ i.zero = some z ∧ i.size = s ∧ i.bytes = b := by
  cases hi : Try.prog.info? t with
  | none => rw [hi] at h; cases h
  | some i => rw [hi] at h; simp at h; exact ⟨i, rfl, h⟩
theorem waysB_st (c : List W19.Nd) (h : c.length ≤ 32) : ∀ x ∈ W19.waysB c, 0 ≤ x.2.2.1 ∧ x.2.2.1 ≤ 32 := fun x hx => by
  have e := (W19.waysB_ok _ c (Nat.le_refl _)).mem x hx
  have h1 := W19.E_pos e
  have h2 := W19.E_le e
  omega
theorem fromOk_at : ∀ {c : List InstrS} {p : Nat}, fromOk c = true → p < c.length → (rdd zInstrS c p).1 = 12 → 0 ≤ (rdd zInstrS c p).2.2.2.2.1 ∧ (rdd zInstrS c p).2.2.2.2.1 ≤ ((c.length - p - 1 : Nat) : Int)
  | [], p, _, h, _ => by simp at h
  | x :: r, 0, h, _, e => by
    have e : x.1 = 12 := e
    unfold fromOk at h
    rw [beqT e] at h
    simp only [cond_true, Bool.and_eq_true, decide_eq_true_eq] at h
    exact ⟨h.1.1, by have := h.1.2; show x.2.2.2.2.1 ≤ (((x :: r).length - 0 - 1 : Nat) : Int); simpa using this⟩
  | x :: r, p + 1, h, hp, e => by
    unfold fromOk at h
    simp only [Bool.and_eq_true] at h
    have := fromOk_at (c := r) (p := p) h.2 (by simpa using hp) e
    rw [show (x :: r).length - (p + 1) - 1 = r.length - p - 1 by simp]
    exact this
theorem both_calls [Sites] (hB : SpecOk Try.prog 31 (specQ [.ty (.slice WayT), .ty (.slice WayT)] [] [.ty (.slice WayT)] [] fun a b => Q_z0r a.1 a.2.1)) {W : World} {lo : Nat} {v1 v2 : Value} {a b : List WayS} (h1 : WSl W lo v1 a) (h2 : WSl W lo v2 b) (hlo : lo ≤ W.heap.size) (ha : a.Pairwise W19.wlt) (hal : a.length ≤ 400) (hbl : b.length ≤ 400) :
    Calls Try.prog 31 #[v1, v2] W fun e w' => ∃ v, e = .returned v ∧ WSl w' lo v (W19.bothL a b) ∧ W.grownBy w' none := by
  obtain ⟨ι1, i1, r1⟩ := h1
  obtain ⟨ι2, i2, r2⟩ := h2
  let ι : Iota := fun k => match ι1 k with | some o => some o | none => ι2 k
  have hι : ∀ k o, ι k = some o → W.heap[k]? = some o ∧ lo ≤ k := fun k o h => by
    simp only [ι] at h
    cases h1 : ι1 k with
    | some o' => rw [h1] at h; cases h; exact i1 k _ h1
    | none => rw [h1] at h; exact i2 k _ h
  have m1 : ∀ k o, ι1 k = some o → ι k = some o := fun k o h => by simp only [ι]; rw [h]
  have m2 : ∀ k o, ι2 k = some o → ι k = some o := fun k o h => by
    simp only [ι]
    cases h1 : ι1 k with
    | some o' => 
      have e1 := (i1 k _ h1).1
      have e2 := (i2 k _ h).1
      rw [e1] at e2; exact e2
    | none => exact h
  have hS : SRel ι Phi.none [] W := ⟨fun k o h => (hι k o h).1, fun id blk h => by simp [AH.at] at h, fun id blk b off sz lim len h => by simp [AH.at] at h, fun id id' blk blk' b off sz lim len off' sz' lim' len' h => by simp [AH.at] at h⟩
  have hv : ARels ι Phi.none [v1, v2] (EK.encs [.ty (.slice WayT), .ty (.slice WayT)] (a, (b, ()))) := ARels.cons (r1.imm m1) (ARels.cons (r2.imm m2) ARels.nil)
  have hq := N19.Q_Both a b ha hal hbl
  have hrun : (specQ [.ty (.slice WayT), .ty (.slice WayT)] [] [.ty (.slice WayT)] [] (fun a b => Q_z0r a.1 a.2.1) (EK.encs [.ty (.slice WayT), .ty (.slice WayT)] (a, (b, ()))) []).val = some (.ok (.sl false 3 (.ty WayT (W19.bothL a b))), []) := by
    unfold specQ
    rw [EK.decs_of_encs [.ty (.slice WayT), .ty (.slice WayT)] (a, (b, ())) rfl]
    simp only [HK.decs]
    have hq' : Q_z0r a b = some ((W19.bothL a b, ()), ()) := hq
    rw [hq']
    rfl
  refine (hB _ Phi.none [] W _ [v1, v2] _ _ hS (fun _ _ => rfl) hv hrun).mono fun e w' ⟨ι', φ', hext, hS', hF, he⟩ => ?_
  obtain ⟨u, rfl, hu⟩ := he
  have hno : ∀ k, ¬ Owned [] Phi.none k := fun k => by rintro ⟨id, blk, off, sz, lim, len, h, _⟩; simp [AH.at] at h
  refine ⟨u, rfl, ⟨ι', fun k o h => ⟨hS'.imm k o h, ?_⟩, ?_⟩, ⟨hF.os, hF.tape, hF.output, hF.size, fun k hk _ => hF.keep k hk (hno k)⟩⟩
  · cases hk : ι k with
    | some o' => exact (hι k o' hk).2
    | none =>
      rcases hF.grow k hk (by rw [h]; simp) with h1 | h1
      · omega
      · exact absurd h1 (hno k)
  · cases hu with
    | sl a' cap tg sz es hc ht hw b' off cs T F us hm g1 g2 g3 => exact .sl a' cap _ _ _ hc ht hw b' off cs T F us hm g1 g2 g3
theorem up_wc (x : WayS) : W19.up x = W19.wy x.1 x.2.1 (x.2.2.1 + 1) := rfl
theorem info58 : (Try.prog.info? 58).map (fun i => (i.zero, i.size, i.bytes)) = some (some (.agg #[.int .u8 0, .int .i64 0, .int .i64 0]), 3, 24) := by kernel_rfl
set_option maxHeartbeats 4000000
set_option maxRecDepth 1000000
theorem from_walk [Sites] (a0 : Option Addr) (cap0 : Nat) (w : World) (c : List InstrS) (hn : c.length ≤ 32) (hin : InpC w a0 c.length 7 (insCell c)) (hok : fromOk c = true)
   (hB : SpecOk Try.prog 31 (specQ [.ty (.slice WayT), .ty (.slice WayT)] [] [.ty (.slice WayT)] [] fun a b => Q_z0r a.1 a.2.1))
   (R : Ending → World → Prop) (hR : ∀ wr cs, FI w wr c 0 cs → R (.returned (.slice (some ⟨w.heap.size, 0, none⟩) (c.length + 1) (c.length + 1))) wr) :
   Calls Try.prog 40 #[.slice a0 c.length cap0] w R := by
  obtain ⟨i42, hi42, hz42, hs42, hb42⟩ : ∃ i, Try.prog.info? 42 = some i ∧ i.zero = some (.slice none 0 0) ∧ i.size = 1 ∧ i.bytes = 24 := ⟨(Try.prog.info? 42).getD default, by kernel_rfl, by kernel_rfl, by kernel_rfl, by kernel_rfl⟩
  have hmk : (Instr.makeSlice 77 (.int .i64 ((c.length : Int) + 1)) (.int .i64 ((c.length : Int) + 1))).run Try.prog w = .ok (.slice (some ⟨w.heap.size, 0, none⟩) (c.length + 1) (c.length + 1)) (w.alloc (.cells (Array.replicate (c.length + 1) (.slice none 0 0)) 42)) := by
    have := run_make (P := Try.prog) w 77 42 i42 _ Try.underlying77 hi42 hz42 .i64 .i64 ((c.length : Int) + 1) ((c.length : Int) + 1) (by omega) (by omega) (by rw [hb42]; omega) (by omega)
    rw [this]
    have e : ((c.length : Int) + 1).toNat = c.length + 1 := by omega
    rw [e, hs42, Nat.mul_one]
    congr 2
    unfold madeCells
    congr 1
    apply Array.ext
    · simp
    · intro i h1 h2
      have : i % 1 = 0 := Nat.mod_one i
      simp [Value.cells, this]
  go_enter Try.func40, Try.ntmps40
  go_wp2_with fail
  clear hmk
  go_loopw [4] (fun v4 wr => ∃ (i : Nat) (cs : Array Value), v4 = .int .i64 ((i : Int) - 1) ∧ i ≤ c.length ∧ FI w wr c i cs) (fun v4 wr => (intV v4 + 1).toNat)
  case atStart =>
    refine ⟨c.length, (Array.replicate (c.length + 1) (.slice none 0 0)).setIfInBounds c.length (.slice (some ⟨w.heap.size + 1, 0, none⟩) 1 1), rfl, Nat.le_refl _, ⟨⟨rfl, rfl, rfl, by simp; omega, fun k hk => ?_⟩, ?_, by simp, fun j h1 h2 => ?_, fun j hj => ?_⟩⟩
    · exact (heap_alloc_old _ _ (by simp; omega)).trans (heap_alloc_old w _ hk)
    · exact (heap_alloc_old _ _ (by simp)).trans (heap_alloc_new w _)
    · have : j = c.length := by omega
      subst this
      refine ⟨.slice (some ⟨w.heap.size + 1, 0, none⟩) 1 1, by simp, ?_⟩
      have e : WsC c c.length = [W19.wy 23 0 0] := by
        unfold WsC
        rw [List.drop_of_length_le (by simp), W19.waysB]
      rw [e]
      refine WSl.lit (T := 58) (F := (0, 0)) ?_ (Nat.le_refl _)
      have := heap_alloc_new (w.alloc (.cells ((Array.replicate (c.length + 1) (.slice none 0 0)).setIfInBounds c.length (.slice (some ⟨w.heap.size + 1, 0, none⟩) 1 1)) 42)) (.cells #[.int .u8 23, .int .i64 0, .int .i64 0] 58)
      have hs : (w.alloc (.cells ((Array.replicate (c.length + 1) (.slice none 0 0)).setIfInBounds c.length (.slice (some ⟨w.heap.size + 1, 0, none⟩) 1 1)) 42)).heap.size = w.heap.size + 1 := by simp
      rw [hs] at this
      exact this
    · rw [Array.getElem?_setIfInBounds, if_neg (by omega), Array.getElem?_replicate, if_pos (by omega)]
  case round =>
    obtain ⟨i, cs, rfl, hic, hF⟩ := hrel
    cases i with
    | zero =>
      go_wp2_with fail
      exact hR wr cs hF
    | succ k =>
    have e4 : (((k + 1 : Nat) : Int) - 1) = (k : Int) := by omega
    rw [e4]
    obtain ⟨b, off, ha, hcell⟩ := hin
    have ha := ha (by omega)
    subst ha
    have hidx : (Instr.indexAt 36 (.slice (some ⟨b, off, none⟩) c.length cap0) (.int .i64 k)).run Try.prog wr = .ok (.pointer (some ⟨b, off + k * 7, none⟩)) wr := by
      have : k < c.length := by omega
      simp [Instr.indexAt, asIntOf, run_underlying Try.underlying36, run_sizeOf (P := Try.prog) (t := 28) (n := 7) (by kernel_rfl), this, Addr.add_at]
    have hcl : ∀ j v, j < 7 → w.cell? ⟨b, off + k * 7 + j, none⟩ = some v → wr.cell? ⟨b, off + k * 7 + j, none⟩ = some v := fun j v hj h => by
      rw [World.cell?_of_block (hF.below.block _ (World.block_lt_of_cell? w _ h))]; exact h
    have f0 := hcl 0 _ (by omega) (hcell k 0 (by omega) (by omega))
    have f1 := hcl 1 _ (by omega) (hcell k 1 (by omega) (by omega))
    have f2 := hcl 2 _ (by omega) (hcell k 2 (by omega) (by omega))
    have f3 := hcl 3 _ (by omega) (hcell k 3 (by omega) (by omega))
    have f4 := hcl 4 _ (by omega) (hcell k 4 (by omega) (by omega))
    have f5 := hcl 5 _ (by omega) (hcell k 5 (by omega) (by omega))
    have f6 := hcl 6 _ (by omega) (hcell k 6 (by omega) (by omega))
    simp only [Nat.add_zero, insCell] at f0 f1 f2 f3 f4 f5 f6
    have hx : c.drop k = rdd zInstrS c k :: c.drop (k + 1) := drop_rdd zInstrS (by omega)
    generalize hy : rdd zInstrS c k = y at *
    obtain ⟨op, to, ⟨ak, an, au⟩, ⟨bk, bn, bu⟩, N, yu⟩ := y
    simp only at f0 f1 f2 f3 f4 f5 f6
    by_cases h13 : op = 13
    case pos =>
      subst h13
      go_wp2_with fail
      have hF1 := hF.ext (World.grownBy_alloc wr (.cells #[.int .u8 13, .int .i64 to, .int .u8 ak, .int .u64 an, .int .u8 bk, .int .u64 bn, .int .i64 N] 28) none)
      have hF2 := hF1.ext (World.grownBy_alloc _ (.cells #[.int .u8 13, .int .i64 N, .int .i64 0] 58) none)
      have hl : WSl ((wr.alloc (.cells #[.int .u8 13, .int .i64 to, .int .u8 ak, .int .u64 an, .int .u8 bk, .int .u64 bn, .int .i64 N] 28)).alloc (.cells #[.int .u8 13, .int .i64 N, .int .i64 0] 58)) (w.heap.size + 1) (.slice (some ⟨wr.heap.size + 1, 0, none⟩) 1 1) [W19.wy 13 N 0] := by
        refine WSl.lit (T := 58) (F := (0, 0)) ?_ ?_
        · have := heap_alloc_new (wr.alloc (.cells #[.int .u8 13, .int .i64 to, .int .u8 ak, .int .u64 an, .int .u8 bk, .int .u64 bn, .int .i64 N] 28)) (.cells #[.int .u8 13, .int .i64 N, .int .i64 0] 58)
          have hs : (wr.alloc (.cells #[.int .u8 13, .int .i64 to, .int .u8 ak, .int .u64 an, .int .u8 bk, .int .u64 bn, .int .i64 N] 28)).heap.size = wr.heap.size + 1 := by simp
          rw [hs] at this; exact this
        · have := hF.below.size; omega
      have hll : [W19.wy 13 N 0].map W19.up = WsC c k := by
        unfold WsC
        rw [← List.map_drop, hx, List.map_cons]
        show _ = W19.waysB (.fin 13 N :: _)
        rw [W19.waysB]
        rfl
      have hst : ∀ x ∈ [W19.wy 13 N 0], 0 ≤ x.2.2.1 ∧ x.2.2.1 ≤ 32 := fun x hx => by
        have e : x = W19.wy 13 N 0 := by simpa using hx
        subst e; exact ⟨show (0 : Int) ≤ 0 by decide, show (0 : Int) ≤ 32 by decide⟩
      generalize ((wr.alloc (.cells #[.int .u8 13, .int .i64 to, .int .u8 ak, .int .u64 an, .int .u8 bk, .int .u64 bn, .int .i64 N] 28)).alloc (.cells #[.int .u8 13, .int .i64 N, .int .i64 0] 58)) = W1 at *
      generalize [W19.wy 13 N 0] = ll at *
      -- the inner loop: what is in l, one step more
      obtain ⟨a6, cap6, hv6, hcap6, hc6⟩ := hl.at_
      obtain ⟨n6, hn6⟩ : ∃ n6, ll.length = n6 := ⟨_, rfl⟩
      rw [hn6] at hv6 hcap6
      have hO1 : w.heap.size < W1.heap.size := (Array.getElem?_eq_some_iff.1 hF2.blk).1
      have hk1 : cs[k]? = some (.slice none 0 0) := hF2.open_ k (by omega)
      have hn6b : n6 ≤ 40 := by
        have h1 := congrArg List.length hll
        have h2 := (W19.waysB_len ((c.map fromNd).drop k)).2
        simp at h1 h2
        show _
        unfold WsC at h1
        omega
      rw [hv6]
      clear hcl f0 f1 f2 f3 f4 f5 f6 hidx hF
      try clear hF1
      go_loopw [7] (fun v7 wr2 => ∃ (m : Nat) (u : Value), v7 = .int .i64 (m : Int) ∧ m ≤ n6 ∧ IN W1 wr2 w.heap.size k cs u m ll) (fun v7 wr2 => n6 - (intV v7).toNat)
      case atStart =>
        refine ⟨0, .slice none 0 0, rfl, by omega, ⟨⟨rfl, rfl, rfl, Nat.le_refl _, fun _ _ _ => rfl⟩, ?_, ⟨rfl, .inl ⟨rfl, rfl⟩⟩⟩⟩
        rw [hF2.blk]
        congr 2
        apply Array.ext
        · simp
        · intro j h1 h2
          rw [Array.getElem_setIfInBounds]
          split
          · rename_i e; subst e
            have := Array.getElem?_eq_getElem h1
            rw [this] at hk1
            exact Option.some.inj hk1
          · rfl
      case round =>
        obtain ⟨m, u, rfl, hm, hI⟩ := hrel
        by_cases hmn : m < n6
        case neg =>
          have hmn : m = n6 := by omega
          subst hmn
          go_wp2_with fail
          have hI' : IN W1 wr w.heap.size k cs u ll.length ll := by rw [hn6]; exact hI
          refine ⟨⟨k, cs.setIfInBounds k u, rfl, by omega, hF2.close hI' hll (by omega)⟩, by simp [intV] <;> omega⟩
        obtain ⟨b6, off6, ha6, hlo6, hhi6, hcc⟩ := hc6 (by intro e; rw [e] at hn6; simp at hn6; omega)
        subst ha6
        have hcl6 : ∀ j, j < 3 → wr.cell? ⟨b6, off6 + m * 3 + j, none⟩ = some (wcV (rdd zWayS ll m) j) := fun j hj => by
          rw [World.cell?_of_block (hI.grown.block b6 hhi6 (by simp; omega))]
          exact hcc m j (by omega) hj
        have q0 := hcl6 0 (by omega)
        have q1 := hcl6 1 (by omega)
        have q2 := hcl6 2 (by omega)
        simp only [Nat.add_zero, wcV] at q0 q1 q2
        have hy := hst _ (rdd_mem (d := zWayS) (l := ll) (i := m) (by omega))
        have htk : (ll.map W19.up).take (m + 1) = (ll.map W19.up).take m ++ [W19.up (rdd zWayS ll m)] := by
          rw [List.take_add_one, List.getElem?_map, List.getElem?_eq_getElem (by omega), rdd_lt (by omega)]; rfl
        generalize rdd zWayS ll m = y at *
        obtain ⟨yo, yn, ys, yu⟩ := y
        simp only at q0 q1 q2 hy
        have hidx6 : (Instr.indexAt 42 (.slice (some ⟨b6, off6, none⟩) n6 cap6) (.int .i64 m)).run Try.prog wr = .ok (.pointer (some ⟨b6, off6 + m * 3, none⟩)) wr := by
          simp [Instr.indexAt, asIntOf, run_underlying Try.underlying42, run_sizeOf (P := Try.prog) (t := 58) (n := 3) (by kernel_rfl), hmn, Addr.add_at]
        clear hcc hc6 hcl6 hv6
        go_wp2_with fail
        have hcsz := hF2.size
        have hks : k < cs.size := by omega
        have hW2 := heap_alloc_new wr (.cells #[.int .u8 yo, .int .i64 yn, .int .i64 (ys + 1)] 58)
        have hs2 : (wr.alloc (.cells #[.int .u8 yo, .int .i64 yn, .int .i64 (ys + 1)] 58)).heap.size = wr.heap.size + 1 := by simp
        have hg2 := World.grownBy_alloc wr (.cells #[.int .u8 yo, .int .i64 yn, .int .i64 (ys + 1)] 58) none
        have qrow := hI.own.alloc (.cells #[.int .u8 yo, .int .i64 yn, .int .i64 (ys + 1)] 58)
        have hwsz := hI.grown.size
        generalize wr.alloc (.cells #[.int .u8 yo, .int .i64 yn, .int .i64 (ys + 1)] 58) = W2 at *
        have hb0 : W2.cell? ⟨wr.heap.size, 0, none⟩ = some (.int .u8 yo) := by rw [cellof hW2]; rfl
        have hb1 : W2.cell? ⟨wr.heap.size, 1, none⟩ = some (.int .i64 yn) := by rw [cellof hW2]; rfl
        have hb2 : W2.cell? ⟨wr.heap.size, 2, none⟩ = some (.int .i64 (ys + 1)) := by rw [cellof hW2]; rfl
        have hO2 : W2.heap[w.heap.size]? = some (.cells (cs.setIfInBounds k u) 42 (0, 0)) := (hg2.block _ (by omega) (by simp)).trans hI.blk
        have hOk : W2.cell? ⟨w.heap.size, k, none⟩ = some u := by
          rw [cellof hO2, Array.getElem?_setIfInBounds, if_pos rfl, if_pos hks]
        have hkn : (k : Int) < (c.length : Int) + 1 := by omega
        obtain ⟨i0, hi0, hz0, hz1, hz2⟩ := info_parts info58
        have hwsz2 : W1.heap.size ≤ W2.heap.size := by omega
        have hOk2 : (W2.alloc (.cells #[.int .u8 yo, .int .i64 yn, .int .i64 (ys + 1)] 58)).cell? ⟨w.heap.size, k, none⟩ = some u := (World.cell?_of_block (show (W2.alloc (.cells #[.int .u8 yo, .int .i64 yn, .int .i64 (ys + 1)] 58)).heap[w.heap.size]? = W2.heap[w.heap.size]? from heap_alloc_old W2 _ (by omega))).trans hOk
        go_region_law
          ((refine step_append_lies _ (by rfl) _ _ _ (by rfl) W1.heap.size 58 i0 _ 3 24 Try.underlying42 hi0 hz0 hz1 hz2 rfl (by omega) u m (rowCells ((ll.map W19.up).take m)) (by rfl) (qrow.alloc _)
              ⟨wr.heap.size + 1, 0, none⟩ 1 1 [.int .u8 yo, .int .i64 yn, .int .i64 (ys + 1)] (by rfl) (by rfl) (World.news_of_block (cs := #[.int .u8 yo, .int .i64 yn, .int .i64 (ys + 1)]) (t := 58) (fr := (0, 0)) (by rw [← hs2]; exact heap_alloc_new W2 _)) (by simp [Value.oneCell'])
              (by omega) (by simp [maxLen]; omega) (by omega) (by simp; try omega) (wr.heap.size + 1 + 1) (by simp; try omega) ?_; intro gg cap w1 hown1 hgrow hat hlt;
              have hob1 := (hgrow.block w.heap.size (by simp; omega) (hI.low _ hO1)).trans ((heap_alloc_old W2 (.cells #[.int .u8 yo, .int .i64 yn, .int .i64 (ys + 1)] 58) (by omega)).trans hO2);
              have hfz := frozen_of hob1 (noF _) k (by simpa using hks);
              have hc3 : w1.cell? ⟨w.heap.size, k, none⟩ = some u := (by rw [cellof hob1, Array.getElem?_setIfInBounds, if_pos rfl, if_pos hks])))
        all_goals (
          have hfin := hI.app hO1 hg2 hgrow hown1 htk
          generalize w1.setCell _ _ = w3 at hfin ⊢
          go_wp2_with fail
          exact ⟨⟨m + 1, _, by rw [Int.natCast_succ], by omega, hfin⟩, by simp [intV] <;> omega⟩)
    by_cases h14 : op = 14
    case pos =>
      subst h14
      go_wp2_with fail
      have hF1 := hF.ext (World.grownBy_alloc wr (.cells #[.int .u8 14, .int .i64 to, .int .u8 ak, .int .u64 an, .int .u8 bk, .int .u64 bn, .int .i64 N] 28) none)
      have hF2 := hF1.ext (World.grownBy_alloc _ (.cells #[.int .u8 14, .int .i64 N, .int .i64 0] 58) none)
      have hl : WSl ((wr.alloc (.cells #[.int .u8 14, .int .i64 to, .int .u8 ak, .int .u64 an, .int .u8 bk, .int .u64 bn, .int .i64 N] 28)).alloc (.cells #[.int .u8 14, .int .i64 N, .int .i64 0] 58)) (w.heap.size + 1) (.slice (some ⟨wr.heap.size + 1, 0, none⟩) 1 1) [W19.wy 14 N 0] := by
        refine WSl.lit (T := 58) (F := (0, 0)) ?_ ?_
        · have := heap_alloc_new (wr.alloc (.cells #[.int .u8 14, .int .i64 to, .int .u8 ak, .int .u64 an, .int .u8 bk, .int .u64 bn, .int .i64 N] 28)) (.cells #[.int .u8 14, .int .i64 N, .int .i64 0] 58)
          have hs : (wr.alloc (.cells #[.int .u8 14, .int .i64 to, .int .u8 ak, .int .u64 an, .int .u8 bk, .int .u64 bn, .int .i64 N] 28)).heap.size = wr.heap.size + 1 := by simp
          rw [hs] at this; exact this
        · have := hF.below.size; omega
      have hll : [W19.wy 14 N 0].map W19.up = WsC c k := by
        unfold WsC
        rw [← List.map_drop, hx, List.map_cons]
        show _ = W19.waysB (.fin 14 N :: _)
        rw [W19.waysB]
        rfl
      have hst : ∀ x ∈ [W19.wy 14 N 0], 0 ≤ x.2.2.1 ∧ x.2.2.1 ≤ 32 := fun x hx => by
        have e : x = W19.wy 14 N 0 := by simpa using hx
        subst e; exact ⟨show (0 : Int) ≤ 0 by decide, show (0 : Int) ≤ 32 by decide⟩
      generalize ((wr.alloc (.cells #[.int .u8 14, .int .i64 to, .int .u8 ak, .int .u64 an, .int .u8 bk, .int .u64 bn, .int .i64 N] 28)).alloc (.cells #[.int .u8 14, .int .i64 N, .int .i64 0] 58)) = W1 at *
      generalize [W19.wy 14 N 0] = ll at *
      -- the inner loop: what is in l, one step more
      obtain ⟨a6, cap6, hv6, hcap6, hc6⟩ := hl.at_
      obtain ⟨n6, hn6⟩ : ∃ n6, ll.length = n6 := ⟨_, rfl⟩
      rw [hn6] at hv6 hcap6
      have hO1 : w.heap.size < W1.heap.size := (Array.getElem?_eq_some_iff.1 hF2.blk).1
      have hk1 : cs[k]? = some (.slice none 0 0) := hF2.open_ k (by omega)
      have hn6b : n6 ≤ 40 := by
        have h1 := congrArg List.length hll
        have h2 := (W19.waysB_len ((c.map fromNd).drop k)).2
        simp at h1 h2
        show _
        unfold WsC at h1
        omega
      rw [hv6]
      clear hcl f0 f1 f2 f3 f4 f5 f6 hidx hF
      try clear hF1
      go_loopw [7] (fun v7 wr2 => ∃ (m : Nat) (u : Value), v7 = .int .i64 (m : Int) ∧ m ≤ n6 ∧ IN W1 wr2 w.heap.size k cs u m ll) (fun v7 wr2 => n6 - (intV v7).toNat)
      case atStart =>
        refine ⟨0, .slice none 0 0, rfl, by omega, ⟨⟨rfl, rfl, rfl, Nat.le_refl _, fun _ _ _ => rfl⟩, ?_, ⟨rfl, .inl ⟨rfl, rfl⟩⟩⟩⟩
        rw [hF2.blk]
        congr 2
        apply Array.ext
        · simp
        · intro j h1 h2
          rw [Array.getElem_setIfInBounds]
          split
          · rename_i e; subst e
            have := Array.getElem?_eq_getElem h1
            rw [this] at hk1
            exact Option.some.inj hk1
          · rfl
      case round =>
        obtain ⟨m, u, rfl, hm, hI⟩ := hrel
        by_cases hmn : m < n6
        case neg =>
          have hmn : m = n6 := by omega
          subst hmn
          go_wp2_with fail
          have hI' : IN W1 wr w.heap.size k cs u ll.length ll := by rw [hn6]; exact hI
          refine ⟨⟨k, cs.setIfInBounds k u, rfl, by omega, hF2.close hI' hll (by omega)⟩, by simp [intV] <;> omega⟩
        obtain ⟨b6, off6, ha6, hlo6, hhi6, hcc⟩ := hc6 (by intro e; rw [e] at hn6; simp at hn6; omega)
        subst ha6
        have hcl6 : ∀ j, j < 3 → wr.cell? ⟨b6, off6 + m * 3 + j, none⟩ = some (wcV (rdd zWayS ll m) j) := fun j hj => by
          rw [World.cell?_of_block (hI.grown.block b6 hhi6 (by simp; omega))]
          exact hcc m j (by omega) hj
        have q0 := hcl6 0 (by omega)
        have q1 := hcl6 1 (by omega)
        have q2 := hcl6 2 (by omega)
        simp only [Nat.add_zero, wcV] at q0 q1 q2
        have hy := hst _ (rdd_mem (d := zWayS) (l := ll) (i := m) (by omega))
        have htk : (ll.map W19.up).take (m + 1) = (ll.map W19.up).take m ++ [W19.up (rdd zWayS ll m)] := by
          rw [List.take_add_one, List.getElem?_map, List.getElem?_eq_getElem (by omega), rdd_lt (by omega)]; rfl
        generalize rdd zWayS ll m = y at *
        obtain ⟨yo, yn, ys, yu⟩ := y
        simp only at q0 q1 q2 hy
        have hidx6 : (Instr.indexAt 42 (.slice (some ⟨b6, off6, none⟩) n6 cap6) (.int .i64 m)).run Try.prog wr = .ok (.pointer (some ⟨b6, off6 + m * 3, none⟩)) wr := by
          simp [Instr.indexAt, asIntOf, run_underlying Try.underlying42, run_sizeOf (P := Try.prog) (t := 58) (n := 3) (by kernel_rfl), hmn, Addr.add_at]
        clear hcc hc6 hcl6 hv6
        go_wp2_with fail
        have hcsz := hF2.size
        have hks : k < cs.size := by omega
        have hW2 := heap_alloc_new wr (.cells #[.int .u8 yo, .int .i64 yn, .int .i64 (ys + 1)] 58)
        have hs2 : (wr.alloc (.cells #[.int .u8 yo, .int .i64 yn, .int .i64 (ys + 1)] 58)).heap.size = wr.heap.size + 1 := by simp
        have hg2 := World.grownBy_alloc wr (.cells #[.int .u8 yo, .int .i64 yn, .int .i64 (ys + 1)] 58) none
        have qrow := hI.own.alloc (.cells #[.int .u8 yo, .int .i64 yn, .int .i64 (ys + 1)] 58)
        have hwsz := hI.grown.size
        generalize wr.alloc (.cells #[.int .u8 yo, .int .i64 yn, .int .i64 (ys + 1)] 58) = W2 at *
        have hb0 : W2.cell? ⟨wr.heap.size, 0, none⟩ = some (.int .u8 yo) := by rw [cellof hW2]; rfl
        have hb1 : W2.cell? ⟨wr.heap.size, 1, none⟩ = some (.int .i64 yn) := by rw [cellof hW2]; rfl
        have hb2 : W2.cell? ⟨wr.heap.size, 2, none⟩ = some (.int .i64 (ys + 1)) := by rw [cellof hW2]; rfl
        have hO2 : W2.heap[w.heap.size]? = some (.cells (cs.setIfInBounds k u) 42 (0, 0)) := (hg2.block _ (by omega) (by simp)).trans hI.blk
        have hOk : W2.cell? ⟨w.heap.size, k, none⟩ = some u := by
          rw [cellof hO2, Array.getElem?_setIfInBounds, if_pos rfl, if_pos hks]
        have hkn : (k : Int) < (c.length : Int) + 1 := by omega
        obtain ⟨i0, hi0, hz0, hz1, hz2⟩ := info_parts info58
        have hwsz2 : W1.heap.size ≤ W2.heap.size := by omega
        have hOk2 : (W2.alloc (.cells #[.int .u8 yo, .int .i64 yn, .int .i64 (ys + 1)] 58)).cell? ⟨w.heap.size, k, none⟩ = some u := (World.cell?_of_block (show (W2.alloc (.cells #[.int .u8 yo, .int .i64 yn, .int .i64 (ys + 1)] 58)).heap[w.heap.size]? = W2.heap[w.heap.size]? from heap_alloc_old W2 _ (by omega))).trans hOk
        go_region_law
          ((refine step_append_lies _ (by rfl) _ _ _ (by rfl) W1.heap.size 58 i0 _ 3 24 Try.underlying42 hi0 hz0 hz1 hz2 rfl (by omega) u m (rowCells ((ll.map W19.up).take m)) (by rfl) (qrow.alloc _)
              ⟨wr.heap.size + 1, 0, none⟩ 1 1 [.int .u8 yo, .int .i64 yn, .int .i64 (ys + 1)] (by rfl) (by rfl) (World.news_of_block (cs := #[.int .u8 yo, .int .i64 yn, .int .i64 (ys + 1)]) (t := 58) (fr := (0, 0)) (by rw [← hs2]; exact heap_alloc_new W2 _)) (by simp [Value.oneCell'])
              (by omega) (by simp [maxLen]; omega) (by omega) (by simp; try omega) (wr.heap.size + 1 + 1) (by simp; try omega) ?_; intro gg cap w1 hown1 hgrow hat hlt;
              have hob1 := (hgrow.block w.heap.size (by simp; omega) (hI.low _ hO1)).trans ((heap_alloc_old W2 (.cells #[.int .u8 yo, .int .i64 yn, .int .i64 (ys + 1)] 58) (by omega)).trans hO2);
              have hfz := frozen_of hob1 (noF _) k (by simpa using hks);
              have hc3 : w1.cell? ⟨w.heap.size, k, none⟩ = some u := (by rw [cellof hob1, Array.getElem?_setIfInBounds, if_pos rfl, if_pos hks])))
        all_goals (
          have hfin := hI.app hO1 hg2 hgrow hown1 htk
          generalize w1.setCell _ _ = w3 at hfin ⊢
          go_wp2_with fail
          exact ⟨⟨m + 1, _, by rw [Int.natCast_succ], by omega, hfin⟩, by simp [intV] <;> omega⟩)
    by_cases h22 : op = 22
    case pos =>
      subst h22
      go_wp2_with fail
      have hF1 := hF.ext (World.grownBy_alloc wr (.cells #[.int .u8 22, .int .i64 to, .int .u8 ak, .int .u64 an, .int .u8 bk, .int .u64 bn, .int .i64 N] 28) none)
      have hF2 := hF1.ext (World.grownBy_alloc _ (.cells #[.int .u8 23, .int .i64 0, .int .i64 0] 58) none)
      have hl : WSl ((wr.alloc (.cells #[.int .u8 22, .int .i64 to, .int .u8 ak, .int .u64 an, .int .u8 bk, .int .u64 bn, .int .i64 N] 28)).alloc (.cells #[.int .u8 23, .int .i64 0, .int .i64 0] 58)) (w.heap.size + 1) (.slice (some ⟨wr.heap.size + 1, 0, none⟩) 1 1) [W19.wy 23 0 0] := by
        refine WSl.lit (T := 58) (F := (0, 0)) ?_ ?_
        · have := heap_alloc_new (wr.alloc (.cells #[.int .u8 22, .int .i64 to, .int .u8 ak, .int .u64 an, .int .u8 bk, .int .u64 bn, .int .i64 N] 28)) (.cells #[.int .u8 23, .int .i64 0, .int .i64 0] 58)
          have hs : (wr.alloc (.cells #[.int .u8 22, .int .i64 to, .int .u8 ak, .int .u64 an, .int .u8 bk, .int .u64 bn, .int .i64 N] 28)).heap.size = wr.heap.size + 1 := by simp
          rw [hs] at this; exact this
        · have := hF.below.size; omega
      have hll : [W19.wy 23 0 0].map W19.up = WsC c k := by
        unfold WsC
        rw [← List.map_drop, hx, List.map_cons]
        show _ = W19.waysB (.fin 23 0 :: _)
        rw [W19.waysB]
        rfl
      have hst : ∀ x ∈ [W19.wy 23 0 0], 0 ≤ x.2.2.1 ∧ x.2.2.1 ≤ 32 := fun x hx => by
        have e : x = W19.wy 23 0 0 := by simpa using hx
        subst e; exact ⟨show (0 : Int) ≤ 0 by decide, show (0 : Int) ≤ 32 by decide⟩
      generalize ((wr.alloc (.cells #[.int .u8 22, .int .i64 to, .int .u8 ak, .int .u64 an, .int .u8 bk, .int .u64 bn, .int .i64 N] 28)).alloc (.cells #[.int .u8 23, .int .i64 0, .int .i64 0] 58)) = W1 at *
      generalize [W19.wy 23 0 0] = ll at *
      -- the inner loop: what is in l, one step more
      obtain ⟨a6, cap6, hv6, hcap6, hc6⟩ := hl.at_
      obtain ⟨n6, hn6⟩ : ∃ n6, ll.length = n6 := ⟨_, rfl⟩
      rw [hn6] at hv6 hcap6
      have hO1 : w.heap.size < W1.heap.size := (Array.getElem?_eq_some_iff.1 hF2.blk).1
      have hk1 : cs[k]? = some (.slice none 0 0) := hF2.open_ k (by omega)
      have hn6b : n6 ≤ 40 := by
        have h1 := congrArg List.length hll
        have h2 := (W19.waysB_len ((c.map fromNd).drop k)).2
        simp at h1 h2
        show _
        unfold WsC at h1
        omega
      rw [hv6]
      clear hcl f0 f1 f2 f3 f4 f5 f6 hidx hF
      try clear hF1
      go_loopw [7] (fun v7 wr2 => ∃ (m : Nat) (u : Value), v7 = .int .i64 (m : Int) ∧ m ≤ n6 ∧ IN W1 wr2 w.heap.size k cs u m ll) (fun v7 wr2 => n6 - (intV v7).toNat)
      case atStart =>
        refine ⟨0, .slice none 0 0, rfl, by omega, ⟨⟨rfl, rfl, rfl, Nat.le_refl _, fun _ _ _ => rfl⟩, ?_, ⟨rfl, .inl ⟨rfl, rfl⟩⟩⟩⟩
        rw [hF2.blk]
        congr 2
        apply Array.ext
        · simp
        · intro j h1 h2
          rw [Array.getElem_setIfInBounds]
          split
          · rename_i e; subst e
            have := Array.getElem?_eq_getElem h1
            rw [this] at hk1
            exact Option.some.inj hk1
          · rfl
      case round =>
        obtain ⟨m, u, rfl, hm, hI⟩ := hrel
        by_cases hmn : m < n6
        case neg =>
          have hmn : m = n6 := by omega
          subst hmn
          go_wp2_with fail
          have hI' : IN W1 wr w.heap.size k cs u ll.length ll := by rw [hn6]; exact hI
          refine ⟨⟨k, cs.setIfInBounds k u, rfl, by omega, hF2.close hI' hll (by omega)⟩, by simp [intV] <;> omega⟩
        obtain ⟨b6, off6, ha6, hlo6, hhi6, hcc⟩ := hc6 (by intro e; rw [e] at hn6; simp at hn6; omega)
        subst ha6
        have hcl6 : ∀ j, j < 3 → wr.cell? ⟨b6, off6 + m * 3 + j, none⟩ = some (wcV (rdd zWayS ll m) j) := fun j hj => by
          rw [World.cell?_of_block (hI.grown.block b6 hhi6 (by simp; omega))]
          exact hcc m j (by omega) hj
        have q0 := hcl6 0 (by omega)
        have q1 := hcl6 1 (by omega)
        have q2 := hcl6 2 (by omega)
        simp only [Nat.add_zero, wcV] at q0 q1 q2
        have hy := hst _ (rdd_mem (d := zWayS) (l := ll) (i := m) (by omega))
        have htk : (ll.map W19.up).take (m + 1) = (ll.map W19.up).take m ++ [W19.up (rdd zWayS ll m)] := by
          rw [List.take_add_one, List.getElem?_map, List.getElem?_eq_getElem (by omega), rdd_lt (by omega)]; rfl
        generalize rdd zWayS ll m = y at *
        obtain ⟨yo, yn, ys, yu⟩ := y
        simp only at q0 q1 q2 hy
        have hidx6 : (Instr.indexAt 42 (.slice (some ⟨b6, off6, none⟩) n6 cap6) (.int .i64 m)).run Try.prog wr = .ok (.pointer (some ⟨b6, off6 + m * 3, none⟩)) wr := by
          simp [Instr.indexAt, asIntOf, run_underlying Try.underlying42, run_sizeOf (P := Try.prog) (t := 58) (n := 3) (by kernel_rfl), hmn, Addr.add_at]
        clear hcc hc6 hcl6 hv6
        go_wp2_with fail
        have hcsz := hF2.size
        have hks : k < cs.size := by omega
        have hW2 := heap_alloc_new wr (.cells #[.int .u8 yo, .int .i64 yn, .int .i64 (ys + 1)] 58)
        have hs2 : (wr.alloc (.cells #[.int .u8 yo, .int .i64 yn, .int .i64 (ys + 1)] 58)).heap.size = wr.heap.size + 1 := by simp
        have hg2 := World.grownBy_alloc wr (.cells #[.int .u8 yo, .int .i64 yn, .int .i64 (ys + 1)] 58) none
        have qrow := hI.own.alloc (.cells #[.int .u8 yo, .int .i64 yn, .int .i64 (ys + 1)] 58)
        have hwsz := hI.grown.size
        generalize wr.alloc (.cells #[.int .u8 yo, .int .i64 yn, .int .i64 (ys + 1)] 58) = W2 at *
        have hb0 : W2.cell? ⟨wr.heap.size, 0, none⟩ = some (.int .u8 yo) := by rw [cellof hW2]; rfl
        have hb1 : W2.cell? ⟨wr.heap.size, 1, none⟩ = some (.int .i64 yn) := by rw [cellof hW2]; rfl
        have hb2 : W2.cell? ⟨wr.heap.size, 2, none⟩ = some (.int .i64 (ys + 1)) := by rw [cellof hW2]; rfl
        have hO2 : W2.heap[w.heap.size]? = some (.cells (cs.setIfInBounds k u) 42 (0, 0)) := (hg2.block _ (by omega) (by simp)).trans hI.blk
        have hOk : W2.cell? ⟨w.heap.size, k, none⟩ = some u := by
          rw [cellof hO2, Array.getElem?_setIfInBounds, if_pos rfl, if_pos hks]
        have hkn : (k : Int) < (c.length : Int) + 1 := by omega
        obtain ⟨i0, hi0, hz0, hz1, hz2⟩ := info_parts info58
        have hwsz2 : W1.heap.size ≤ W2.heap.size := by omega
        have hOk2 : (W2.alloc (.cells #[.int .u8 yo, .int .i64 yn, .int .i64 (ys + 1)] 58)).cell? ⟨w.heap.size, k, none⟩ = some u := (World.cell?_of_block (show (W2.alloc (.cells #[.int .u8 yo, .int .i64 yn, .int .i64 (ys + 1)] 58)).heap[w.heap.size]? = W2.heap[w.heap.size]? from heap_alloc_old W2 _ (by omega))).trans hOk
        go_region_law
          ((refine step_append_lies _ (by rfl) _ _ _ (by rfl) W1.heap.size 58 i0 _ 3 24 Try.underlying42 hi0 hz0 hz1 hz2 rfl (by omega) u m (rowCells ((ll.map W19.up).take m)) (by rfl) (qrow.alloc _)
              ⟨wr.heap.size + 1, 0, none⟩ 1 1 [.int .u8 yo, .int .i64 yn, .int .i64 (ys + 1)] (by rfl) (by rfl) (World.news_of_block (cs := #[.int .u8 yo, .int .i64 yn, .int .i64 (ys + 1)]) (t := 58) (fr := (0, 0)) (by rw [← hs2]; exact heap_alloc_new W2 _)) (by simp [Value.oneCell'])
              (by omega) (by simp [maxLen]; omega) (by omega) (by simp; try omega) (wr.heap.size + 1 + 1) (by simp; try omega) ?_; intro gg cap w1 hown1 hgrow hat hlt;
              have hob1 := (hgrow.block w.heap.size (by simp; omega) (hI.low _ hO1)).trans ((heap_alloc_old W2 (.cells #[.int .u8 yo, .int .i64 yn, .int .i64 (ys + 1)] 58) (by omega)).trans hO2);
              have hfz := frozen_of hob1 (noF _) k (by simpa using hks);
              have hc3 : w1.cell? ⟨w.heap.size, k, none⟩ = some u := (by rw [cellof hob1, Array.getElem?_setIfInBounds, if_pos rfl, if_pos hks])))
        all_goals (
          have hfin := hI.app hO1 hg2 hgrow hown1 htk
          generalize w1.setCell _ _ = w3 at hfin ⊢
          go_wp2_with fail
          exact ⟨⟨m + 1, _, by rw [Int.natCast_succ], by omega, hfin⟩, by simp [intV] <;> omega⟩)
    by_cases h23 : op = 23
    case pos =>
      subst h23
      go_wp2_with fail
      have hF1 := hF.ext (World.grownBy_alloc wr (.cells #[.int .u8 23, .int .i64 to, .int .u8 ak, .int .u64 an, .int .u8 bk, .int .u64 bn, .int .i64 N] 28) none)
      have hF2 := hF1.ext (World.grownBy_alloc _ (.cells #[.int .u8 23, .int .i64 0, .int .i64 0] 58) none)
      have hl : WSl ((wr.alloc (.cells #[.int .u8 23, .int .i64 to, .int .u8 ak, .int .u64 an, .int .u8 bk, .int .u64 bn, .int .i64 N] 28)).alloc (.cells #[.int .u8 23, .int .i64 0, .int .i64 0] 58)) (w.heap.size + 1) (.slice (some ⟨wr.heap.size + 1, 0, none⟩) 1 1) [W19.wy 23 0 0] := by
        refine WSl.lit (T := 58) (F := (0, 0)) ?_ ?_
        · have := heap_alloc_new (wr.alloc (.cells #[.int .u8 23, .int .i64 to, .int .u8 ak, .int .u64 an, .int .u8 bk, .int .u64 bn, .int .i64 N] 28)) (.cells #[.int .u8 23, .int .i64 0, .int .i64 0] 58)
          have hs : (wr.alloc (.cells #[.int .u8 23, .int .i64 to, .int .u8 ak, .int .u64 an, .int .u8 bk, .int .u64 bn, .int .i64 N] 28)).heap.size = wr.heap.size + 1 := by simp
          rw [hs] at this; exact this
        · have := hF.below.size; omega
      have hll : [W19.wy 23 0 0].map W19.up = WsC c k := by
        unfold WsC
        rw [← List.map_drop, hx, List.map_cons]
        show _ = W19.waysB (.fin 23 0 :: _)
        rw [W19.waysB]
        rfl
      have hst : ∀ x ∈ [W19.wy 23 0 0], 0 ≤ x.2.2.1 ∧ x.2.2.1 ≤ 32 := fun x hx => by
        have e : x = W19.wy 23 0 0 := by simpa using hx
        subst e; exact ⟨show (0 : Int) ≤ 0 by decide, show (0 : Int) ≤ 32 by decide⟩
      generalize ((wr.alloc (.cells #[.int .u8 23, .int .i64 to, .int .u8 ak, .int .u64 an, .int .u8 bk, .int .u64 bn, .int .i64 N] 28)).alloc (.cells #[.int .u8 23, .int .i64 0, .int .i64 0] 58)) = W1 at *
      generalize [W19.wy 23 0 0] = ll at *
      -- the inner loop: what is in l, one step more
      obtain ⟨a6, cap6, hv6, hcap6, hc6⟩ := hl.at_
      obtain ⟨n6, hn6⟩ : ∃ n6, ll.length = n6 := ⟨_, rfl⟩
      rw [hn6] at hv6 hcap6
      have hO1 : w.heap.size < W1.heap.size := (Array.getElem?_eq_some_iff.1 hF2.blk).1
      have hk1 : cs[k]? = some (.slice none 0 0) := hF2.open_ k (by omega)
      have hn6b : n6 ≤ 40 := by
        have h1 := congrArg List.length hll
        have h2 := (W19.waysB_len ((c.map fromNd).drop k)).2
        simp at h1 h2
        show _
        unfold WsC at h1
        omega
      rw [hv6]
      clear hcl f0 f1 f2 f3 f4 f5 f6 hidx hF
      try clear hF1
      go_loopw [7] (fun v7 wr2 => ∃ (m : Nat) (u : Value), v7 = .int .i64 (m : Int) ∧ m ≤ n6 ∧ IN W1 wr2 w.heap.size k cs u m ll) (fun v7 wr2 => n6 - (intV v7).toNat)
      case atStart =>
        refine ⟨0, .slice none 0 0, rfl, by omega, ⟨⟨rfl, rfl, rfl, Nat.le_refl _, fun _ _ _ => rfl⟩, ?_, ⟨rfl, .inl ⟨rfl, rfl⟩⟩⟩⟩
        rw [hF2.blk]
        congr 2
        apply Array.ext
        · simp
        · intro j h1 h2
          rw [Array.getElem_setIfInBounds]
          split
          · rename_i e; subst e
            have := Array.getElem?_eq_getElem h1
            rw [this] at hk1
            exact Option.some.inj hk1
          · rfl
      case round =>
        obtain ⟨m, u, rfl, hm, hI⟩ := hrel
        by_cases hmn : m < n6
        case neg =>
          have hmn : m = n6 := by omega
          subst hmn
          go_wp2_with fail
          have hI' : IN W1 wr w.heap.size k cs u ll.length ll := by rw [hn6]; exact hI
          refine ⟨⟨k, cs.setIfInBounds k u, rfl, by omega, hF2.close hI' hll (by omega)⟩, by simp [intV] <;> omega⟩
        obtain ⟨b6, off6, ha6, hlo6, hhi6, hcc⟩ := hc6 (by intro e; rw [e] at hn6; simp at hn6; omega)
        subst ha6
        have hcl6 : ∀ j, j < 3 → wr.cell? ⟨b6, off6 + m * 3 + j, none⟩ = some (wcV (rdd zWayS ll m) j) := fun j hj => by
          rw [World.cell?_of_block (hI.grown.block b6 hhi6 (by simp; omega))]
          exact hcc m j (by omega) hj
        have q0 := hcl6 0 (by omega)
        have q1 := hcl6 1 (by omega)
        have q2 := hcl6 2 (by omega)
        simp only [Nat.add_zero, wcV] at q0 q1 q2
        have hy := hst _ (rdd_mem (d := zWayS) (l := ll) (i := m) (by omega))
        have htk : (ll.map W19.up).take (m + 1) = (ll.map W19.up).take m ++ [W19.up (rdd zWayS ll m)] := by
          rw [List.take_add_one, List.getElem?_map, List.getElem?_eq_getElem (by omega), rdd_lt (by omega)]; rfl
        generalize rdd zWayS ll m = y at *
        obtain ⟨yo, yn, ys, yu⟩ := y
        simp only at q0 q1 q2 hy
        have hidx6 : (Instr.indexAt 42 (.slice (some ⟨b6, off6, none⟩) n6 cap6) (.int .i64 m)).run Try.prog wr = .ok (.pointer (some ⟨b6, off6 + m * 3, none⟩)) wr := by
          simp [Instr.indexAt, asIntOf, run_underlying Try.underlying42, run_sizeOf (P := Try.prog) (t := 58) (n := 3) (by kernel_rfl), hmn, Addr.add_at]
        clear hcc hc6 hcl6 hv6
        go_wp2_with fail
        have hcsz := hF2.size
        have hks : k < cs.size := by omega
        have hW2 := heap_alloc_new wr (.cells #[.int .u8 yo, .int .i64 yn, .int .i64 (ys + 1)] 58)
        have hs2 : (wr.alloc (.cells #[.int .u8 yo, .int .i64 yn, .int .i64 (ys + 1)] 58)).heap.size = wr.heap.size + 1 := by simp
        have hg2 := World.grownBy_alloc wr (.cells #[.int .u8 yo, .int .i64 yn, .int .i64 (ys + 1)] 58) none
        have qrow := hI.own.alloc (.cells #[.int .u8 yo, .int .i64 yn, .int .i64 (ys + 1)] 58)
        have hwsz := hI.grown.size
        generalize wr.alloc (.cells #[.int .u8 yo, .int .i64 yn, .int .i64 (ys + 1)] 58) = W2 at *
        have hb0 : W2.cell? ⟨wr.heap.size, 0, none⟩ = some (.int .u8 yo) := by rw [cellof hW2]; rfl
        have hb1 : W2.cell? ⟨wr.heap.size, 1, none⟩ = some (.int .i64 yn) := by rw [cellof hW2]; rfl
        have hb2 : W2.cell? ⟨wr.heap.size, 2, none⟩ = some (.int .i64 (ys + 1)) := by rw [cellof hW2]; rfl
        have hO2 : W2.heap[w.heap.size]? = some (.cells (cs.setIfInBounds k u) 42 (0, 0)) := (hg2.block _ (by omega) (by simp)).trans hI.blk
        have hOk : W2.cell? ⟨w.heap.size, k, none⟩ = some u := by
          rw [cellof hO2, Array.getElem?_setIfInBounds, if_pos rfl, if_pos hks]
        have hkn : (k : Int) < (c.length : Int) + 1 := by omega
        obtain ⟨i0, hi0, hz0, hz1, hz2⟩ := info_parts info58
        have hwsz2 : W1.heap.size ≤ W2.heap.size := by omega
        have hOk2 : (W2.alloc (.cells #[.int .u8 yo, .int .i64 yn, .int .i64 (ys + 1)] 58)).cell? ⟨w.heap.size, k, none⟩ = some u := (World.cell?_of_block (show (W2.alloc (.cells #[.int .u8 yo, .int .i64 yn, .int .i64 (ys + 1)] 58)).heap[w.heap.size]? = W2.heap[w.heap.size]? from heap_alloc_old W2 _ (by omega))).trans hOk
        go_region_law
          ((refine step_append_lies _ (by rfl) _ _ _ (by rfl) W1.heap.size 58 i0 _ 3 24 Try.underlying42 hi0 hz0 hz1 hz2 rfl (by omega) u m (rowCells ((ll.map W19.up).take m)) (by rfl) (qrow.alloc _)
              ⟨wr.heap.size + 1, 0, none⟩ 1 1 [.int .u8 yo, .int .i64 yn, .int .i64 (ys + 1)] (by rfl) (by rfl) (World.news_of_block (cs := #[.int .u8 yo, .int .i64 yn, .int .i64 (ys + 1)]) (t := 58) (fr := (0, 0)) (by rw [← hs2]; exact heap_alloc_new W2 _)) (by simp [Value.oneCell'])
              (by omega) (by simp [maxLen]; omega) (by omega) (by simp; try omega) (wr.heap.size + 1 + 1) (by simp; try omega) ?_; intro gg cap w1 hown1 hgrow hat hlt;
              have hob1 := (hgrow.block w.heap.size (by simp; omega) (hI.low _ hO1)).trans ((heap_alloc_old W2 (.cells #[.int .u8 yo, .int .i64 yn, .int .i64 (ys + 1)] 58) (by omega)).trans hO2);
              have hfz := frozen_of hob1 (noF _) k (by simpa using hks);
              have hc3 : w1.cell? ⟨w.heap.size, k, none⟩ = some u := (by rw [cellof hob1, Array.getElem?_setIfInBounds, if_pos rfl, if_pos hks])))
        all_goals (
          have hfin := hI.app hO1 hg2 hgrow hown1 htk
          generalize w1.setCell _ _ = w3 at hfin ⊢
          go_wp2_with fail
          exact ⟨⟨m + 1, _, by rw [Int.natCast_succ], by omega, hfin⟩, by simp [intV] <;> omega⟩)
    by_cases h12 : op = 12
    case pos =>
      subst h12
      have hF2 := hF.ext (World.grownBy_alloc wr (.cells #[.int .u8 12, .int .i64 to, .int .u8 ak, .int .u64 an, .int .u8 bk, .int .u64 bn, .int .i64 N] 28) none)
      have hNN := fromOk_at (p := k) hok (by omega) (by rw [hy])
      rw [hy] at hNN
      obtain ⟨q, rfl⟩ : ∃ q : Nat, N = (q : Int) := ⟨N.toNat, by have := hNN.1; simp only at this; omega⟩
      have hq : k + 1 + q ≤ c.length := by have := hNN.2; simp only at this; omega
      obtain ⟨v1, hv1, hl1⟩ := hF2.done (k + 1) (by omega) (by omega)
      obtain ⟨v2, hv2, hl2⟩ := hF2.done (k + 1 + q) (by omega) (by omega)
      have hc1 : (wr.alloc (.cells #[.int .u8 12, .int .i64 to, .int .u8 ak, .int .u64 an, .int .u8 bk, .int .u64 bn, .int .i64 q] 28)).cell? ⟨w.heap.size, k + 1, none⟩ = some v1 := by rw [cellof hF2.blk]; exact hv1
      have hc2 : (wr.alloc (.cells #[.int .u8 12, .int .i64 to, .int .u8 ak, .int .u64 an, .int .u8 bk, .int .u64 bn, .int .i64 q] 28)).cell? ⟨w.heap.size, k + 1 + q, none⟩ = some v2 := by rw [cellof hF2.blk]; exact hv2
      go_wp2_with fail
      have hbx := heap_alloc_new wr (.cells #[.int .u8 12, .int .i64 to, .int .u8 ak, .int .u64 an, .int .u8 bk, .int .u64 bn, .int .i64 q] 28)
      have hsz0 := (Array.getElem?_eq_some_iff.1 hF2.blk).1
      have hbelow := hF2.below.size
      generalize wr.alloc (.cells #[.int .u8 12, .int .i64 to, .int .u8 ak, .int .u64 an, .int .u8 bk, .int .u64 bn, .int .i64 q] 28) = W0 at *
      have hb6 : W0.cell? ⟨wr.heap.size, 6, none⟩ = some (.int .i64 q) := by rw [cellof hbx]; rfl
      have hi1 : ∀ W : World, (Instr.indexAt 77 (.slice (some ⟨w.heap.size, 0, none⟩) (c.length + 1) (c.length + 1)) (.int .i64 ((k : Int) + 1))).run Try.prog W = .ok (.pointer (some ⟨w.heap.size, k + 1, none⟩)) W := fun W => by
        have h1 : (k : Int) + 1 < (c.length : Int) + 1 := by omega
        have h2 : ¬ ((k : Int) + 1 < 0) := by omega
        have h3 : ((k : Int) + 1).toNat = k + 1 := by omega
        simp [Instr.indexAt, asIntOf, run_underlying Try.underlying77, run_sizeOf (P := Try.prog) (t := 42) (n := 1) (by kernel_rfl), h1, h2, h3, Addr.add_at]
      have hi2 : ∀ W : World, (Instr.indexAt 77 (.slice (some ⟨w.heap.size, 0, none⟩) (c.length + 1) (c.length + 1)) (.int .i64 ((k : Int) + 1 + (q : Int)))).run Try.prog W = .ok (.pointer (some ⟨w.heap.size, k + 1 + q, none⟩)) W := fun W => by
        have h1 : (k : Int) + 1 + (q : Int) < (c.length : Int) + 1 := by omega
        have h2 : ¬ ((k : Int) + 1 + (q : Int) < 0) := by omega
        have h3 : ((k : Int) + 1 + (q : Int)).toNat = k + 1 + q := by omega
        simp [Instr.indexAt, asIntOf, run_underlying Try.underlying77, run_sizeOf (P := Try.prog) (t := 42) (n := 1) (by kernel_rfl), h1, h2, h3, Addr.add_at]
      have hkn1 : (k : Int) + 1 < (c.length : Int) + 1 := by omega
      have hkn2 : (k : Int) + 1 + (q : Int) < (c.length : Int) + 1 := by omega
      have hw1 := (W19.waysB_ok _ ((c.map fromNd).drop (k + 1)) (Nat.le_refl _)).srt
      have hwl1 := (W19.waysB_len ((c.map fromNd).drop (k + 1))).2
      have hwl2 := (W19.waysB_len ((c.map fromNd).drop (k + 1 + q))).2
      simp only [List.length_drop, List.length_map] at hwl1 hwl2
      have hb1 : (WsC c (k + 1)).length ≤ 400 := Nat.le_trans hwl1 (by omega)
      have hb2 : (WsC c (k + 1 + q)).length ≤ 400 := Nat.le_trans hwl2 (by omega)
      have hk0 : (0 : Int) ≤ (k : Int) + 1 := by omega
      have hk1' : ¬ ((k : Int) + 1 < 0) := by omega
      have hq0 : (0 : Int) ≤ (k : Int) + 1 + (q : Int) := by omega
      have hq1' : ¬ ((k : Int) + 1 + (q : Int) < 0) := by omega
      have tn1 : ((k : Int) + 1).toNat = k + 1 := by omega
      have tn2 : ((k : Int) + 1 + (q : Int)).toNat = k + 1 + q := by omega
      have ew1 : IntKind.wrap .i64 ((k : Int) + 1) = (k : Int) + 1 := by simp [IntKind.wrap, IntKind.bits, IntKind.signed]; omega
      have ew2 : IntKind.wrap .i64 ((k : Int) + 1 + (q : Int)) = (k : Int) + 1 + (q : Int) := by simp [IntKind.wrap, IntKind.bits, IntKind.signed]; omega
      go_still_tail 13, (by kernel_rfl)
      change wpList _ _ _ _ _ W0.drew
      go_wp2_with (go_at_call 31; refine (both_calls (W := W0.drew) hB (hl1.frame (W' := W0.drew) fun _ _ _ => rfl) (hl2.frame (W' := W0.drew) fun _ _ _ => rfl) (show w.heap.size + 1 ≤ W0.heap.size by omega) hw1 hb1 hb2).mono ?_; rintro e W1 ⟨v6, rfl, hl, hgr⟩)
      replace hF2 := (hF2.ext (show W0.grownBy W0.drew none from ⟨rfl, rfl, rfl, Nat.le_refl _, fun _ _ _ => rfl⟩)).ext hgr
      have hll : (W19.bothL (WsC c (k + 1)) (WsC c (k + 1 + q))).map W19.up = WsC c k := by
        unfold WsC
        rw [← List.map_drop, ← List.map_drop, ← List.map_drop, hx, List.map_cons]
        show _ = W19.waysB (.skip q :: _)
        rw [W19.waysB, ← List.map_drop, List.drop_drop]
      have hst : ∀ x ∈ W19.bothL (WsC c (k + 1)) (WsC c (k + 1 + q)), 0 ≤ x.2.2.1 ∧ x.2.2.1 ≤ 32 := fun x hx' => by
        have e := (W19.bothL_two (W19.waysB_ok _ ((c.map fromNd).drop (k + 1)) (Nat.le_refl _)) (W19.waysB_ok _ ((c.map fromNd).drop (k + 1 + q)) (Nat.le_refl _))).mem x hx'
        have hl1 : ((c.map fromNd).drop (k + 1)).length ≤ 32 := by simp; omega
        have hl2 : ((c.map fromNd).drop (k + 1 + q)).length ≤ 32 := by simp; omega
        rcases e with e | e
        · have h1 := W19.E_pos e
          have h2 := W19.E_le e
          omega
        · have h1 := W19.E_pos e
          have h2 := W19.E_le e
          omega
      generalize W19.bothL (WsC c (k + 1)) (WsC c (k + 1 + q)) = ll at *
      -- the inner loop: what is in l, one step more
      obtain ⟨a6, cap6, hv6, hcap6, hc6⟩ := hl.at_
      obtain ⟨n6, hn6⟩ : ∃ n6, ll.length = n6 := ⟨_, rfl⟩
      rw [hn6] at hv6 hcap6
      have hO1 : w.heap.size < W1.heap.size := (Array.getElem?_eq_some_iff.1 hF2.blk).1
      have hk1 : cs[k]? = some (.slice none 0 0) := hF2.open_ k (by omega)
      have hn6b : n6 ≤ 40 := by
        have h1 := congrArg List.length hll
        have h2 := (W19.waysB_len ((c.map fromNd).drop k)).2
        simp at h1 h2
        show _
        unfold WsC at h1
        omega
      rw [hv6]
      clear hcl f0 f1 f2 f3 f4 f5 f6 hidx hF
      try clear hF1
      go_loopw [7] (fun v7 wr2 => ∃ (m : Nat) (u : Value), v7 = .int .i64 (m : Int) ∧ m ≤ n6 ∧ IN W1 wr2 w.heap.size k cs u m ll) (fun v7 wr2 => n6 - (intV v7).toNat)
      case atStart =>
        refine ⟨0, .slice none 0 0, rfl, by omega, ⟨⟨rfl, rfl, rfl, Nat.le_refl _, fun _ _ _ => rfl⟩, ?_, ⟨rfl, .inl ⟨rfl, rfl⟩⟩⟩⟩
        rw [hF2.blk]
        congr 2
        apply Array.ext
        · simp
        · intro j h1 h2
          rw [Array.getElem_setIfInBounds]
          split
          · rename_i e; subst e
            have := Array.getElem?_eq_getElem h1
            rw [this] at hk1
            exact Option.some.inj hk1
          · rfl
      case round =>
        obtain ⟨m, u, rfl, hm, hI⟩ := hrel
        by_cases hmn : m < n6
        case neg =>
          have hmn : m = n6 := by omega
          subst hmn
          go_wp2_with fail
          have hI' : IN W1 wr w.heap.size k cs u ll.length ll := by rw [hn6]; exact hI
          refine ⟨⟨k, cs.setIfInBounds k u, rfl, by omega, hF2.close hI' hll (by omega)⟩, by simp [intV] <;> omega⟩
        obtain ⟨b6, off6, ha6, hlo6, hhi6, hcc⟩ := hc6 (by intro e; rw [e] at hn6; simp at hn6; omega)
        subst ha6
        have hcl6 : ∀ j, j < 3 → wr.cell? ⟨b6, off6 + m * 3 + j, none⟩ = some (wcV (rdd zWayS ll m) j) := fun j hj => by
          rw [World.cell?_of_block (hI.grown.block b6 hhi6 (by simp; omega))]
          exact hcc m j (by omega) hj
        have q0 := hcl6 0 (by omega)
        have q1 := hcl6 1 (by omega)
        have q2 := hcl6 2 (by omega)
        simp only [Nat.add_zero, wcV] at q0 q1 q2
        have hy := hst _ (rdd_mem (d := zWayS) (l := ll) (i := m) (by omega))
        have htk : (ll.map W19.up).take (m + 1) = (ll.map W19.up).take m ++ [W19.up (rdd zWayS ll m)] := by
          rw [List.take_add_one, List.getElem?_map, List.getElem?_eq_getElem (by omega), rdd_lt (by omega)]; rfl
        generalize rdd zWayS ll m = y at *
        obtain ⟨yo, yn, ys, yu⟩ := y
        simp only at q0 q1 q2 hy
        have hidx6 : (Instr.indexAt 42 (.slice (some ⟨b6, off6, none⟩) n6 cap6) (.int .i64 m)).run Try.prog wr = .ok (.pointer (some ⟨b6, off6 + m * 3, none⟩)) wr := by
          simp [Instr.indexAt, asIntOf, run_underlying Try.underlying42, run_sizeOf (P := Try.prog) (t := 58) (n := 3) (by kernel_rfl), hmn, Addr.add_at]
        clear hcc hc6 hcl6 hv6
        go_wp2_with fail
        have hcsz := hF2.size
        have hks : k < cs.size := by omega
        have hW2 := heap_alloc_new wr (.cells #[.int .u8 yo, .int .i64 yn, .int .i64 (ys + 1)] 58)
        have hs2 : (wr.alloc (.cells #[.int .u8 yo, .int .i64 yn, .int .i64 (ys + 1)] 58)).heap.size = wr.heap.size + 1 := by simp
        have hg2 := World.grownBy_alloc wr (.cells #[.int .u8 yo, .int .i64 yn, .int .i64 (ys + 1)] 58) none
        have qrow := hI.own.alloc (.cells #[.int .u8 yo, .int .i64 yn, .int .i64 (ys + 1)] 58)
        have hwsz := hI.grown.size
        generalize wr.alloc (.cells #[.int .u8 yo, .int .i64 yn, .int .i64 (ys + 1)] 58) = W2 at *
        have hb0 : W2.cell? ⟨wr.heap.size, 0, none⟩ = some (.int .u8 yo) := by rw [cellof hW2]; rfl
        have hb1 : W2.cell? ⟨wr.heap.size, 1, none⟩ = some (.int .i64 yn) := by rw [cellof hW2]; rfl
        have hb2 : W2.cell? ⟨wr.heap.size, 2, none⟩ = some (.int .i64 (ys + 1)) := by rw [cellof hW2]; rfl
        have hO2 : W2.heap[w.heap.size]? = some (.cells (cs.setIfInBounds k u) 42 (0, 0)) := (hg2.block _ (by omega) (by simp)).trans hI.blk
        have hOk : W2.cell? ⟨w.heap.size, k, none⟩ = some u := by
          rw [cellof hO2, Array.getElem?_setIfInBounds, if_pos rfl, if_pos hks]
        have hkn : (k : Int) < (c.length : Int) + 1 := by omega
        obtain ⟨i0, hi0, hz0, hz1, hz2⟩ := info_parts info58
        have hwsz2 : W1.heap.size ≤ W2.heap.size := by omega
        have hOk2 : (W2.alloc (.cells #[.int .u8 yo, .int .i64 yn, .int .i64 (ys + 1)] 58)).cell? ⟨w.heap.size, k, none⟩ = some u := (World.cell?_of_block (show (W2.alloc (.cells #[.int .u8 yo, .int .i64 yn, .int .i64 (ys + 1)] 58)).heap[w.heap.size]? = W2.heap[w.heap.size]? from heap_alloc_old W2 _ (by omega))).trans hOk
        go_region_law
          ((refine step_append_lies _ (by rfl) _ _ _ (by rfl) W1.heap.size 58 i0 _ 3 24 Try.underlying42 hi0 hz0 hz1 hz2 rfl (by omega) u m (rowCells ((ll.map W19.up).take m)) (by rfl) (qrow.alloc _)
              ⟨wr.heap.size + 1, 0, none⟩ 1 1 [.int .u8 yo, .int .i64 yn, .int .i64 (ys + 1)] (by rfl) (by rfl) (World.news_of_block (cs := #[.int .u8 yo, .int .i64 yn, .int .i64 (ys + 1)]) (t := 58) (fr := (0, 0)) (by rw [← hs2]; exact heap_alloc_new W2 _)) (by simp [Value.oneCell'])
              (by omega) (by simp [maxLen]; omega) (by omega) (by simp; try omega) (wr.heap.size + 1 + 1) (by simp; try omega) ?_; intro gg cap w1 hown1 hgrow hat hlt;
              have hob1 := (hgrow.block w.heap.size (by simp; omega) (hI.low _ hO1)).trans ((heap_alloc_old W2 (.cells #[.int .u8 yo, .int .i64 yn, .int .i64 (ys + 1)] 58) (by omega)).trans hO2);
              have hfz := frozen_of hob1 (noF _) k (by simpa using hks);
              have hc3 : w1.cell? ⟨w.heap.size, k, none⟩ = some u := (by rw [cellof hob1, Array.getElem?_setIfInBounds, if_pos rfl, if_pos hks])))
        all_goals (
          have hfin := hI.app hO1 hg2 hgrow hown1 htk
          generalize w1.setCell _ _ = w3 at hfin ⊢
          go_wp2_with fail
          exact ⟨⟨m + 1, _, by rw [Int.natCast_succ], by omega, hfin⟩, by simp [intV] <;> omega⟩)
    case neg =>
      have hF2 := hF.ext (World.grownBy_alloc wr (.cells #[.int .u8 op, .int .i64 to, .int .u8 ak, .int .u64 an, .int .u8 bk, .int .u64 bn, .int .i64 N] 28) none)
      obtain ⟨v1, hv1, hl⟩ := hF2.done (k + 1) (by omega) (by omega)
      have hc1 : (wr.alloc (.cells #[.int .u8 op, .int .i64 to, .int .u8 ak, .int .u64 an, .int .u8 bk, .int .u64 bn, .int .i64 N] 28)).cell? ⟨w.heap.size, k + 1, none⟩ = some v1 := by rw [cellof hF2.blk]; exact hv1
      go_wp2_with fail
      generalize wr.alloc (.cells #[.int .u8 op, .int .i64 to, .int .u8 ak, .int .u64 an, .int .u8 bk, .int .u64 bn, .int .i64 N] 28) = W1 at *
      have hll : (WsC c (k + 1)).map W19.up = WsC c k := by
        unfold WsC
        rw [← List.map_drop, ← List.map_drop, hx, List.map_cons]
        have e : fromNd (op, to, (ak, an, au), (bk, bn, bu), N, yu) = .step := by
          show (if op = 13 then _ else if op = 14 then _ else if op = 23 then _ else if op = 22 then _ else if op = 12 then _ else _) = _
          rw [if_neg h13, if_neg h14, if_neg h23, if_neg h22, if_neg h12]
        rw [e, W19.waysB]
      have hst := waysB_st ((c.map fromNd).drop (k + 1)) (by simp; omega)
      change ∀ x ∈ WsC c (k + 1), _ at hst
      generalize WsC c (k + 1) = ll at *
      generalize v1 = v6 at *
      -- the inner loop: what is in l, one step more
      obtain ⟨a6, cap6, hv6, hcap6, hc6⟩ := hl.at_
      obtain ⟨n6, hn6⟩ : ∃ n6, ll.length = n6 := ⟨_, rfl⟩
      rw [hn6] at hv6 hcap6
      have hO1 : w.heap.size < W1.heap.size := (Array.getElem?_eq_some_iff.1 hF2.blk).1
      have hk1 : cs[k]? = some (.slice none 0 0) := hF2.open_ k (by omega)
      have hn6b : n6 ≤ 40 := by
        have h1 := congrArg List.length hll
        have h2 := (W19.waysB_len ((c.map fromNd).drop k)).2
        simp at h1 h2
        show _
        unfold WsC at h1
        omega
      rw [hv6]
      clear hcl f0 f1 f2 f3 f4 f5 f6 hidx hF
      try clear hF1
      go_loopw [7] (fun v7 wr2 => ∃ (m : Nat) (u : Value), v7 = .int .i64 (m : Int) ∧ m ≤ n6 ∧ IN W1 wr2 w.heap.size k cs u m ll) (fun v7 wr2 => n6 - (intV v7).toNat)
      case atStart =>
        refine ⟨0, .slice none 0 0, rfl, by omega, ⟨⟨rfl, rfl, rfl, Nat.le_refl _, fun _ _ _ => rfl⟩, ?_, ⟨rfl, .inl ⟨rfl, rfl⟩⟩⟩⟩
        rw [hF2.blk]
        congr 2
        apply Array.ext
        · simp
        · intro j h1 h2
          rw [Array.getElem_setIfInBounds]
          split
          · rename_i e; subst e
            have := Array.getElem?_eq_getElem h1
            rw [this] at hk1
            exact Option.some.inj hk1
          · rfl
      case round =>
        obtain ⟨m, u, rfl, hm, hI⟩ := hrel
        by_cases hmn : m < n6
        case neg =>
          have hmn : m = n6 := by omega
          subst hmn
          go_wp2_with fail
          have hI' : IN W1 wr w.heap.size k cs u ll.length ll := by rw [hn6]; exact hI
          refine ⟨⟨k, cs.setIfInBounds k u, rfl, by omega, hF2.close hI' hll (by omega)⟩, by simp [intV] <;> omega⟩
        obtain ⟨b6, off6, ha6, hlo6, hhi6, hcc⟩ := hc6 (by intro e; rw [e] at hn6; simp at hn6; omega)
        subst ha6
        have hcl6 : ∀ j, j < 3 → wr.cell? ⟨b6, off6 + m * 3 + j, none⟩ = some (wcV (rdd zWayS ll m) j) := fun j hj => by
          rw [World.cell?_of_block (hI.grown.block b6 hhi6 (by simp; omega))]
          exact hcc m j (by omega) hj
        have q0 := hcl6 0 (by omega)
        have q1 := hcl6 1 (by omega)
        have q2 := hcl6 2 (by omega)
        simp only [Nat.add_zero, wcV] at q0 q1 q2
        have hy := hst _ (rdd_mem (d := zWayS) (l := ll) (i := m) (by omega))
        have htk : (ll.map W19.up).take (m + 1) = (ll.map W19.up).take m ++ [W19.up (rdd zWayS ll m)] := by
          rw [List.take_add_one, List.getElem?_map, List.getElem?_eq_getElem (by omega), rdd_lt (by omega)]; rfl
        generalize rdd zWayS ll m = y at *
        obtain ⟨yo, yn, ys, yu⟩ := y
        simp only at q0 q1 q2 hy
        have hidx6 : (Instr.indexAt 42 (.slice (some ⟨b6, off6, none⟩) n6 cap6) (.int .i64 m)).run Try.prog wr = .ok (.pointer (some ⟨b6, off6 + m * 3, none⟩)) wr := by
          simp [Instr.indexAt, asIntOf, run_underlying Try.underlying42, run_sizeOf (P := Try.prog) (t := 58) (n := 3) (by kernel_rfl), hmn, Addr.add_at]
        clear hcc hc6 hcl6 hv6
        go_wp2_with fail
        have hcsz := hF2.size
        have hks : k < cs.size := by omega
        have hW2 := heap_alloc_new wr (.cells #[.int .u8 yo, .int .i64 yn, .int .i64 (ys + 1)] 58)
        have hs2 : (wr.alloc (.cells #[.int .u8 yo, .int .i64 yn, .int .i64 (ys + 1)] 58)).heap.size = wr.heap.size + 1 := by simp
        have hg2 := World.grownBy_alloc wr (.cells #[.int .u8 yo, .int .i64 yn, .int .i64 (ys + 1)] 58) none
        have qrow := hI.own.alloc (.cells #[.int .u8 yo, .int .i64 yn, .int .i64 (ys + 1)] 58)
        have hwsz := hI.grown.size
        generalize wr.alloc (.cells #[.int .u8 yo, .int .i64 yn, .int .i64 (ys + 1)] 58) = W2 at *
        have hb0 : W2.cell? ⟨wr.heap.size, 0, none⟩ = some (.int .u8 yo) := by rw [cellof hW2]; rfl
        have hb1 : W2.cell? ⟨wr.heap.size, 1, none⟩ = some (.int .i64 yn) := by rw [cellof hW2]; rfl
        have hb2 : W2.cell? ⟨wr.heap.size, 2, none⟩ = some (.int .i64 (ys + 1)) := by rw [cellof hW2]; rfl
        have hO2 : W2.heap[w.heap.size]? = some (.cells (cs.setIfInBounds k u) 42 (0, 0)) := (hg2.block _ (by omega) (by simp)).trans hI.blk
        have hOk : W2.cell? ⟨w.heap.size, k, none⟩ = some u := by
          rw [cellof hO2, Array.getElem?_setIfInBounds, if_pos rfl, if_pos hks]
        have hkn : (k : Int) < (c.length : Int) + 1 := by omega
        obtain ⟨i0, hi0, hz0, hz1, hz2⟩ := info_parts info58
        have hwsz2 : W1.heap.size ≤ W2.heap.size := by omega
        have hOk2 : (W2.alloc (.cells #[.int .u8 yo, .int .i64 yn, .int .i64 (ys + 1)] 58)).cell? ⟨w.heap.size, k, none⟩ = some u := (World.cell?_of_block (show (W2.alloc (.cells #[.int .u8 yo, .int .i64 yn, .int .i64 (ys + 1)] 58)).heap[w.heap.size]? = W2.heap[w.heap.size]? from heap_alloc_old W2 _ (by omega))).trans hOk
        go_region_law
          ((refine step_append_lies _ (by rfl) _ _ _ (by rfl) W1.heap.size 58 i0 _ 3 24 Try.underlying42 hi0 hz0 hz1 hz2 rfl (by omega) u m (rowCells ((ll.map W19.up).take m)) (by rfl) (qrow.alloc _)
              ⟨wr.heap.size + 1, 0, none⟩ 1 1 [.int .u8 yo, .int .i64 yn, .int .i64 (ys + 1)] (by rfl) (by rfl) (World.news_of_block (cs := #[.int .u8 yo, .int .i64 yn, .int .i64 (ys + 1)]) (t := 58) (fr := (0, 0)) (by rw [← hs2]; exact heap_alloc_new W2 _)) (by simp [Value.oneCell'])
              (by omega) (by simp [maxLen]; omega) (by omega) (by simp; try omega) (wr.heap.size + 1 + 1) (by simp; try omega) ?_; intro gg cap w1 hown1 hgrow hat hlt;
              have hob1 := (hgrow.block w.heap.size (by simp; omega) (hI.low _ hO1)).trans ((heap_alloc_old W2 (.cells #[.int .u8 yo, .int .i64 yn, .int .i64 (ys + 1)] 58) (by omega)).trans hO2);
              have hfz := frozen_of hob1 (noF _) k (by simpa using hks);
              have hc3 : w1.cell? ⟨w.heap.size, k, none⟩ = some u := (by rw [cellof hob1, Array.getElem?_setIfInBounds, if_pos rfl, if_pos hks])))
        all_goals (
          have hfin := hI.app hO1 hg2 hgrow hown1 htk
          generalize w1.setCell _ _ = w3 at hfin ⊢
          go_wp2_with fail
          exact ⟨⟨m + 1, _, by rw [Int.natCast_succ], by omega, hfin⟩, by simp [intV] <;> omega⟩)
end H19
end Go.AMach

/- law19: the reference's from, met by its contract. -/
namespace Go.AMach
set_option linter.unusedVariables false
set_option linter.unusedSimpArgs false
set_option linter.unnecessarySimpa false
open Go Go.Proofs Go.RowKit
set_option linter.unusedVariables false
set_option linter.unusedSimpArgs false
set_option linter.unusedSectionVars false
namespace H19
set_option linter.unusedVariables false
set_option linter.unusedSimpArgs false
set_option linter.unnecessarySimpa false
theorem ins_inp [Sites] {ι : Iota} {φ : Phi} {H : AH} {w : World} {u : Value} {l : List InstrS} (hS : SRel ι φ H w) (h : ARel ι φ u (.sl false 7 (.ty InstrT l))) :
    ∃ a cap, u = .slice a l.length cap ∧ InpC w a l.length 7 (insCell l) := by
  generalize hL : (Rows.ty InstrT l : Rows AV) = es at h
  cases h with
  | sl a cp _ _ _ hcc htg hw b off cs TT F us hm g1 g2 g3 =>
  have hlen : es.len = l.length := by rw [← hL]; rfl
  rw [hlen] at hm ⊢
  have hrow : ∀ j, j < l.length → es.toL[j]? = some (InstrT.enc (rdd zInstrS l j)) := fun j hj => by
    rw [← hL, toL_at (by exact hj)]; rfl
  refine ⟨a, cp, rfl, b, off, fun hne => (hm hne).1, fun j k hj hk => ?_⟩
  have key : ∀ x, (InstrT.enc (rdd zInstrS l j))[k]? = some (.v x) → w.cell? ⟨b, off + j * 7 + k, none⟩ = some x := fun x hx => by
    rw [cellof (hS.imm _ _ (hm (by omega)).2), g1 j k _ _ (hrow j hj) hx]
    have h2 := g2 j k _ _ (hrow j hj) hx
    generalize us j k = y at h2
    cases h2; rfl
  match k, hk with
  | 0, _ => exact key _ rfl
  | 1, _ => exact key _ rfl
  | 2, _ => exact key _ rfl
  | 3, _ => exact key _ rfl
  | 4, _ => exact key _ rfl
  | 5, _ => exact key _ rfl
  | 6, _ => exact key _ rfl
theorem from_ok [Sites] (hB : SpecOk Try.prog 31 (specQ [.ty (.slice WayT), .ty (.slice WayT)] [] [.ty (.slice WayT)] [] fun a b => Q_z0r a.1 a.2.1)) :
    SpecOk Try.prog 40 (specQ [.ty (.slice InstrT)] [] ro_z0s rh_z0s fun a b => Q_z0s a.1) := by
  intro ι φ H w args vs r H' hS hfr hv hc
  unfold specQ at hc
  split at hc
  case h_2 => simp [Tr.val] at hc
  rename_i aa bb h1 h2
  have e1 := EK.decs_encs _ _ _ h1
  have e2 := HK.decs_encs _ _ _ h2
  obtain ⟨c, u0⟩ := aa
  have hH : H = [] := by rw [e2]; rfl
  subst hH
  cases hq : Q_z0s c with
  | none =>
    have hc : (Tr.br (Q_z0s c).isSome _ _).val = _ := hc
    rw [hq] at hc; simp [Tr.val] at hc
  | some qq =>
  have hc : (Tr.br (Q_z0s c).isSome (.leaf (encRes ro_z0s rh_z0s (RS.get (Q_z0s c))).1 (encRes ro_z0s rh_z0s (RS.get (Q_z0s c))).2) .no).val = some (r, H') := hc
  rw [hq] at hc
  simp only [RS.get, Option.getD_some, Option.isSome_some, Tr.val, if_true, Option.some.injEq] at hc
  unfold Q_z0s at hq
  cases hg : (decide (c.length ≤ 32) && fromOk c) with
  | false => rw [hg] at hq; cases hq
  | true =>
  rw [hg] at hq
  cases hq
  simp only [Bool.and_eq_true, decide_eq_true_eq] at hg
  obtain ⟨hlen, hok⟩ := hg
  have hc2 : r = .ok (.hs false 0 0 (c.length + 1)) ∧ H' = [some (.row true 1 (.ty (.slice WayT) (fromL c)))] := by cases hc; exact ⟨rfl, rfl⟩
  obtain ⟨rfl, rfl⟩ := hc2
  rw [e1] at hv
  obtain ⟨v0, us, rfl, hv0, hvn⟩ := hv.uncons
  have hus : us = [] := hvn.nil_inv
  subst hus
  have hv0 : ARel ι φ v0 (.sl false 7 (.ty InstrT c)) := hv0
  obtain ⟨a0, cap0, rfl, hin⟩ := ins_inp hS hv0
  have hlt : ∀ b o, ι b = some o → b < w.heap.size := fun b o hb => (Array.getElem?_eq_some_iff.1 (hS.imm b o hb)).1
  refine from_walk a0 cap0 w c hlen hin hok hB _ fun wr cs hF => ?_
  have hO := (Array.getElem?_eq_some_iff.1 hF.blk).1
  have hat : ∀ id blk, AH.at [some (.row true 1 (.ty (.slice WayT) (fromL c)))] id = some blk → id = 0 ∧ blk = .row true 1 (.ty (.slice WayT) (fromL c)) := fun id blk h => by
    match id, h with
    | 0, h => cases h; exact ⟨rfl, rfl⟩
    | k + 1, h => exact absurd h (by simp [AH.at])
  have hfl : (fromL c).length = c.length + 1 := by simp [fromL]
  refine ⟨fun b => if w.heap.size < b then wr.heap[b]? else ι b, fun i => if i = 0 then some (.at w.heap.size 0 1 (c.length + 1) (c.length + 1)) else φ i, ⟨by simp, fun i hi => if_neg (fun e => hi (by simp; omega)), fun i h1 h2 => hfr i h1⟩,
    ⟨fun b o hb => ?_, fun id blk hid => ?_, fun id blk b off sz lim len hid hl => ?_, fun id id' blk blk' b off sz lim len off' sz' lim' len' hid hid' hl hl' => ?_⟩,
    ⟨hF.below.os, hF.below.tape, hF.below.output, hF.below.size, fun b hb _ => hF.below.block b hb, fun b hb => ?_, fun b o hb => ?_, fun b h1 h2 => ?_⟩, ?_⟩
  · replace hb : (if w.heap.size < b then wr.heap[b]? else ι b) = some o := hb
    split at hb
    · exact hb
    · rw [hF.below.block b (hlt b o hb)]; exact hS.imm b o hb
  · obtain ⟨rfl, rfl⟩ := hat _ _ hid
    refine ⟨.at w.heap.size 0 1 (c.length + 1) (c.length + 1), if_pos rfl, ⟨rfl, ?_⟩, by decide, ?_, cs, 42, (0, 0), hF.blk, noF _, ?_, ?_, ?_⟩
    · exact hfl.symm
    · show (fromL c).length ≤ _; rw [hfl]; exact Nat.le_refl _
    · have := hF.size; omega
    · intro d hd
      obtain ⟨e, he⟩ := List.getElem?_of_mem hd
      obtain ⟨_, rfl⟩ := toL_some.1 he
      rfl
    · intro e j d x he hx
      obtain ⟨hel, rfl⟩ := toL_some.1 he
      have hel : e < (fromL c).length := hel
      rw [hfl] at hel
      have hj : j < 1 := (List.getElem?_eq_some_iff.1 hx).1
      have hj0 : j = 0 := by omega
      subst hj0
      obtain ⟨v, hv, ι2, hi2, hr2⟩ := hF.done e (Nat.zero_le _) (by omega)
      have hrd : (Ty.slice WayT).rd (fromL c) e = WsC c e := by
        refine rd_some ?_
        unfold fromL
        rw [List.getElem?_map, List.getElem?_range hel]; rfl
      have hx : x = .sl false 3 (.ty WayT (WsC c e)) := by
        have : ((Ty.slice WayT).enc ((Ty.slice WayT).rd (fromL c) e))[0]? = some x := hx
        rw [hrd] at this
        cases this; rfl
      subst hx
      refine ⟨v, by rw [Nat.zero_add, Nat.mul_one, Nat.add_zero]; exact hv, hr2.imm fun b o hb => ?_, ?_⟩
      · obtain ⟨h3, h4⟩ := hi2 b o hb
        show (if w.heap.size < b then wr.heap[b]? else ι b) = _
        rw [if_pos (by omega)]; exact h3
      · cases hr2; rfl
  · obtain ⟨rfl, rfl⟩ := hat _ _ hid
    simp only [if_true, Option.some.injEq, Loc.at.injEq] at hl
    obtain ⟨rfl, _⟩ := hl
    show (if w.heap.size < w.heap.size then _ else ι w.heap.size) = none
    rw [if_neg (by omega)]
    cases hι : ι w.heap.size with
    | none => rfl
    | some o => have := hlt _ _ hι; omega
  · rw [(hat _ _ hid).1, (hat _ _ hid').1]
  · obtain ⟨id, blk, o, sz, l1, n1, q1, q2⟩ := hb
    obtain ⟨rfl, rfl⟩ := hat _ _ q1
    simp only [if_true, Option.some.injEq, Loc.at.injEq] at q2
    obtain ⟨rfl, _⟩ := q2
    left; omega
  · show (if w.heap.size < b then _ else ι b) = _
    rw [if_neg (by have := hlt b o hb; omega)]; exact hb
  · left
    by_cases hb : w.heap.size < b
    · omega
    · exfalso; apply h2
      show (if w.heap.size < b then _ else ι b) = none
      rw [if_neg hb]; exact h1
  · refine ⟨_, rfl, ?_⟩
    exact .hs false 0 0 (c.length + 1) _ (c.length + 1) (.at w.heap.size 0 1 (c.length + 1) (c.length + 1)) (if_pos rfl) (Nat.le_refl _) (fun h => by cases h) (.inr ⟨w.heap.size, 0, 1, c.length + 1, c.length + 1, rfl, rfl, by omega, by omega⟩)
end H19
end Go.AMach
