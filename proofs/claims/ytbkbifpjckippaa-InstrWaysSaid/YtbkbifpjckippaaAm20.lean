/- The abstract machine: what an argument reads, as data. -/
import Derived.Test.YtbkbifpjckippaaAm19
import GoSem.ClaimChange
import Derived.ChangeArms
import Derived.SizedLaws
namespace Go.AMach
set_option linter.unusedVariables false
set_option linter.unusedSimpArgs false
set_option linter.unnecessarySimpa false
set_option linter.unusedSectionVars false
variable [Sites]
set_option linter.unusedVariables false
set_option linter.unusedSimpArgs false

/-- Does a kind tell a type? (of a type; of fields from an offset on) -/
def Ty.fit (P : Program) : Ty → (TypeId → Bool) × (List Field → Nat → Bool)
  | .int k => (fun t => match P.underlying t with
    | some (.int k') => decide (k' = k)
    | _ => false, fun _ _ => false)
  | .bool => (fun t => match P.underlying t with
    | some .bool => true
    | _ => false, fun _ _ => false)
  | .str => (fun t => match P.underlying t with
    | some .string => true
    | _ => false, fun _ _ => false)
  | .slice T => (fun t => match P.underlying t with
    | some (.slice e) => (T.fit P).1 e && decide (P.cellsOf e = T.size) && decide (0 < T.size) && decide (T.minb ≤ P.bytesOf e)
    | _ => false, fun _ _ => false)
  | .unit => (fun t => match P.underlying t with
    | some (.struct fs) => fs.toList.isEmpty && decide (P.cellsOf t = 0)
    | _ => false, fun fs _ => fs.isEmpty)
  | .pair a b =>
    let F := fun (fs : List Field) (off : Nat) => match fs with
      | f :: r => decide (f.offset = off) && (a.fit P).1 f.type && decide (P.cellsOf f.type = a.size) && (b.fit P).2 r (off + a.size)
      | [] => false
    (fun t => match P.underlying t with
      | some (.struct fs) => F fs.toList 0 && decide (P.cellsOf t = a.size + b.size)
      | _ => false, F)

section
variable {H : Type} {enc : TypeId × Value → H} {P : Program} {w : World} {spare : Nat → Bool} {held : Bool}

theorem mapM_range {α : Type} {n : Nat} {f : Nat → Option α} {r : List α} (h : (List.range n).mapM f = some r) : r.length = n ∧ ∀ i, i < n → f i = r[i]? := by
  have key : ∀ (l : List Nat) (r : List α), l.mapM f = some r → r.length = l.length ∧ ∀ (i : Nat) a, l[i]? = some a → f a = r[i]? := by
    intro l
    induction l with
    | nil => intro r h; simp at h; subst h; exact ⟨rfl, fun i a h => by simp at h⟩
    | cons x l ih =>
      intro r h
      simp only [List.mapM_cons, Option.bind_eq_bind, Option.bind_eq_some_iff, Option.pure_def, Option.some.injEq] at h
      obtain ⟨b, hb, r', hr, rfl⟩ := h
      obtain ⟨h1, h2⟩ := ih r' hr
      refine ⟨by simp [h1], fun i a ha => ?_⟩
      cases i with
      | zero => simp at ha; subst ha; simp [hb]
      | succ i => simp at ha; simpa using h2 i a ha
  obtain ⟨h1, h2⟩ := key _ _ h
  refine ⟨by simpa using h1, fun i hi => h2 i i (by simp [hi])⟩

theorem all_append {p : Nat → Bool} {a b : List Nat} (h : (a ++ b).all p = true) : a.all p = true ∧ b.all p = true := by
  simpa using h

def Reads (w : World) (T : Ty) (cs : List Value) : Prop := ∃ s : T.sem, ARels (fun b => w.heap[b]?) Phi.none cs (T.enc s) ∧ (∀ v ∈ cs, v.oneCell' = true) ∧ T.good s

theorem choose_list {α β : Type} {R : α → β → Prop} : ∀ (l : List α), (∀ (i : Nat) a, l[i]? = some a → ∃ b, R a b) → ∃ r : List β, r.length = l.length ∧ ∀ (i : Nat) a b, l[i]? = some a → r[i]? = some b → R a b
  | [], _ => ⟨[], rfl, fun i a b h => by simp at h⟩
  | x :: l, h => by
    obtain ⟨b, hb⟩ := h 0 x rfl
    obtain ⟨r, h1, h2⟩ := choose_list l fun i a ha => h (i + 1) a (by simpa using ha)
    refine ⟨b :: r, by simp [h1], fun i a c ha hc => ?_⟩
    cases i with
    | zero => simp at ha hc; subst ha; subst hc; exact hb
    | succ i => simp at ha hc; exact h2 i a c ha hc

theorem trod_reads : ∀ (T : Ty),
    (∀ (t : TypeId) (cs : List Value) (fuel : Nat) (x : DataW H × List MemPlace), (T.fit P).1 t = true → DataW.trod enc P w 0 spare held fuel t cs = some x → (x.1.weights P t).all (· ≤ reachBytes) = true → Reads w T cs) ∧
    (∀ (fs : List Field) (off n : Nat) (cs : List Value) (xs : List (DataW H × List MemPlace)), (T.fit P).2 fs off = true → xs.length = fs.length →
      (∀ (i : Nat) f, fs[i]? = some f → DataW.trod enc P w 0 spare held n f.type ((cs.drop f.offset).take (P.cellsOf f.type)) = xs[i]?) →
      (DataW.weightsEach P (fs.map (·.type)) (xs.map (·.1))).all (· ≤ reachBytes) = true → off + T.size ≤ cs.length → Reads w T ((cs.drop off).take T.size))
  | .int k => by
    refine ⟨fun t cs fuel x hf h hw => ?_, fun fs off n cs xs hf => by simp [Ty.fit] at hf⟩
    simp only [Ty.fit] at hf
    split at hf
    case h_2 => cases hf
    rename_i k' hu
    simp at hf; subst hf
    obtain ⟨n, rfl, rfl, hwf⟩ := DataW.trod_int hu h
    exact ⟨n, ARels.nil.cons (.v _), fun v hv => by simp at hv; subst hv; rfl, hwf⟩
  | .bool => by
    refine ⟨fun t cs fuel x hf h hw => ?_, fun fs off n cs xs hf => by simp [Ty.fit] at hf⟩
    simp only [Ty.fit] at hf
    split at hf
    case h_2 => cases hf
    rename_i hu
    obtain ⟨b, rfl, rfl⟩ := DataW.trod_bool hu h
    exact ⟨b, ARels.nil.cons (.v _), fun v hv => by simp at hv; subst hv; rfl, trivial⟩
  | .str => by
    refine ⟨fun t cs fuel x hf h hw => ?_, fun fs off n cs xs hf => by simp [Ty.fit] at hf⟩
    simp only [Ty.fit] at hf
    split at hf
    case h_2 => cases hf
    rename_i hu
    obtain ⟨b, rfl, rfl, hb⟩ := DataW.trod_string hu h
    refine ⟨b, ARels.nil.cons (.v _), fun v hv => by simp at hv; subst hv; rfl, ?_⟩
    simp [DataW.weights, reachBytes] at hw
    exact of_decide_eq_true (p := b.size ≤ 140737488351232) hw
  | .slice t' => by
    refine ⟨fun t cs fuel x hf h hw => ?_, fun fs off n cs xs hf => by simp [Ty.fit] at hf⟩
    simp only [Ty.fit] at hf
    split at hf
    case h_2 => cases hf
    rename_i e hu
    simp only [Bool.and_eq_true, decide_eq_true_eq] at hf
    obtain ⟨⟨⟨hfit, hsz⟩, hpos⟩, hmb⟩ := hf
    rcases DataW.trod_slice hu h with ⟨rfl, rfl⟩ | ⟨a, len, cap, elems, rest, n, _, rfl, rfl, hb, hl, hm, hlen, hel, hsp, hns⟩
    · refine ⟨([] : List t'.sem), ?_, fun v hv => by simp at hv; subst hv; rfl, ?_⟩
      · refine ARels.nil.cons ?_
        exact .sl none 0 false t'.size (.ty t' []) (Nat.le_refl _) (fun h => by cases h) toL_ty_len 0 0 #[] 0 (0, 0) (fun _ _ => undef) (fun hne => absurd rfl hne)
          (fun e j c x hc hx => absurd (toL_ty hc).1 (Nat.not_lt_zero _)) (fun e j c x hc hx => absurd (toL_ty hc).1 (Nat.not_lt_zero _)) (fun e j c x hc hx => absurd (toL_ty hc).1 (Nat.not_lt_zero _))
      · exact ⟨by simp, fun x hx => by simp at hx⟩
    · -- the elements
      have hwe : ((elems.length + rest.length) * P.bytesOf e ≤ reachBytes) ∧ ∀ y ∈ elems, (y.1.weights P e).all (· ≤ reachBytes) = true := by
        simp only [DataW.weights, hu, List.all_cons, Bool.and_eq_true, decide_eq_true_eq, List.length_map] at hw
        refine ⟨hw.1, fun y hy => ?_⟩
        have h2 := (all_append hw.2).1
        have gen : ∀ l : List (DataW H × List MemPlace), (DataW.weightsAll P e (l.map (·.1))).all (· ≤ reachBytes) = true → ∀ y ∈ l, (y.1.weights P e).all (· ≤ reachBytes) = true := by
          intro l
          induction l with
          | nil => intro _ y hy; cases hy
          | cons z l ih =>
            intro hl y hy
            simp only [List.map_cons, DataW.weightsAll] at hl
            rcases List.mem_cons.1 hy with rfl | hy
            · exact (all_append hl).1
            · exact ih (all_append hl).2 y hy
        exact gen _ h2 y hy
      have each : ∀ i, i < len → ∃ us : List Value, w.cells? 0 (a.add (i * t'.size)) t'.size = some us ∧ Reads w t' us := by
        intro i hi
        have he := hel i hi
        have hi' : i < elems.length := by omega
        rw [List.getElem?_eq_getElem hi', Option.bind_eq_some_iff] at he
        obtain ⟨us, hus, hy⟩ := he
        rw [hsz] at hus
        exact ⟨us, hus, (trod_reads t').1 e us n _ hfit hy (hwe.2 _ (List.getElem_mem hi'))⟩
      -- a list of them
      have hall : ∃ r : List t'.sem, r.length = len ∧ ∀ i, i < len → ∀ s, r[i]? = some s → ∃ us : List Value, w.cells? 0 (a.add (i * t'.size)) t'.size = some us ∧ ARels (fun b => w.heap[b]?) Phi.none us (t'.enc s) ∧ (∀ v ∈ us, v.oneCell' = true) ∧ t'.good s := by
        obtain ⟨r, h1, h2⟩ := choose_list (R := fun (i : Nat) (s : t'.sem) => ∃ us : List Value, w.cells? 0 (a.add (i * t'.size)) t'.size = some us ∧ ARels (fun b => w.heap[b]?) Phi.none us (t'.enc s) ∧ (∀ v ∈ us, v.oneCell' = true) ∧ t'.good s) (List.range len) (fun i k hk => by
          have hk' : k < len := by
            have := List.mem_of_getElem? hk
            simpa using this
          obtain ⟨us, hus, s, hs⟩ := each k hk'
          exact ⟨s, us, hus, hs⟩)
        refine ⟨r, by simpa using h1, fun i hi s hs => h2 i i s (by simp [hi]) hs⟩
      obtain ⟨r, hr1, hr2⟩ := hall
      refine ⟨r, ?_, fun v hv => by simp at hv; subst hv; rfl, ?_, ?_⟩
      · refine ARels.nil.cons ?_
        -- the cells in memory
        have hblk : len ≠ 0 → a.spot = none ∧ ∃ c T F, w.heap[a.block]? = some (.cells c T F) := by
          intro hne
          obtain ⟨us, hus, _⟩ := each 0 (by omega)
          simp only [Nat.zero_mul, World.cells?, Nat.zero_le, if_true] at hus
          obtain ⟨_, h2⟩ := mapM_range hus
          have h0 := h2 0 hpos
          have hl0 : us[0]? ≠ none := by
            have := (mapM_range hus).1
            rw [List.getElem?_eq_getElem (by omega)]; simp
          have e0 : (a.add 0).add 0 = a := by simp [Addr.add]
          rw [e0] at h0
          simp only [World.cell?] at h0
          split at h0
          · rename_i c T F hh
            split at h0
            · exact absurd h0.symm hl0
            · rename_i hsp
              refine ⟨by cases hs : a.spot with
                | none => rfl
                | some k => rw [hs] at hsp; simp at hsp, c, T, F, hh⟩
          · exact absurd h0.symm hl0
        have hcell : ∀ (e j : Nat) c x, (Rows.ty t' r : Rows AV).toL[e]? = some c → c[j]? = some x → ∃ cs T F u, w.heap[a.block]? = some (.cells cs T F) ∧ cs[a.off + e * t'.size + j]? = some u ∧ ARel (fun b => w.heap[b]?) Phi.none u x ∧ u.oneCell' = true := by
          intro e j c x hc hx
          obtain ⟨he, rfl⟩ := toL_ty hc
          have hs : r[e]? = some (t'.rd r e) := by
            rw [List.getElem?_eq_getElem he, rd_some (List.getElem?_eq_getElem he)]
          obtain ⟨us, hus, hrel, hone, _⟩ := hr2 e (by omega) _ hs
          obtain ⟨hsp0, cs, T, F, hh⟩ := hblk (by omega)
          have hj : j < t'.size := by rw [← enc_length t' (t'.rd r e)]; exact (List.getElem?_eq_some_iff.1 hx).1
          simp only [World.cells?, Nat.zero_le, if_true] at hus
          obtain ⟨hul, h2⟩ := mapM_range hus
          have hu : us[j]? = some us[j] := List.getElem?_eq_getElem (by omega)
          have h3 := h2 j hj
          rw [hu] at h3
          refine ⟨cs, T, F, us[j], hh, ?_, hrel.2 j _ x hu hx, hone _ (List.getElem_mem _)⟩
          have hadd : ((a.add (e * t'.size)).add j) = ⟨a.block, a.off + e * t'.size + j, none⟩ := by
            obtain ⟨ab, ao, asp⟩ := a
            simp only at hsp0
            subst hsp0
            by_cases h0 : e * t'.size = 0 <;> by_cases h1 : j = 0 <;> simp [Addr.add, h0, h1]
          rw [hadd] at h3
          simp only [World.cell?, hh] at h3
          simpa using h3
        have hA : ARel (fun b => w.heap[b]?) Phi.none (.slice (some a) (Rows.ty t' r : Rows AV).len cap) (.sl false t'.size (.ty t' r)) := by
          by_cases hne : len = 0
          · refine .sl (some a) cap false t'.size (.ty t' r) (by show r.length ≤ cap; omega) (fun h => by cases h) toL_ty_len 0 0 #[] 0 (0, 0) (fun _ _ => undef) (fun h => absurd (show r.length = 0 by omega) h) ?_ ?_ ?_ <;>
              exact fun e j c x hc hx => absurd (toL_ty hc).1 (by omega)
          · obtain ⟨hsp0, cs, T, F, hh⟩ := hblk hne
            refine .sl (some a) cap false t'.size (.ty t' r) (by show r.length ≤ cap; omega) (fun h => by cases h) toL_ty_len a.block a.off cs T F (fun e j => (cs[a.off + e * t'.size + j]?).getD undef) (fun _ => ⟨by
              obtain ⟨ab, ao, asp⟩ := a
              simp only at hsp0
              subst hsp0; rfl, hh⟩) ?_ ?_ ?_
            · intro e j c x hc hx
              obtain ⟨cs', T', F', u, h1, h2, h3, h4⟩ := hcell e j c x hc hx
              rw [hh] at h1; cases h1; rw [h2]; rfl
            · intro e j c x hc hx
              obtain ⟨cs', T', F', u, h1, h2, h3, h4⟩ := hcell e j c x hc hx
              rw [hh] at h1; cases h1; rw [h2]; exact h3
            · intro e j c x hc hx
              obtain ⟨cs', T', F', u, h1, h2, h3, h4⟩ := hcell e j c x hc hx
              rw [hh] at h1; cases h1; rw [h2]; exact h4
        have hlr : (Rows.ty t' r : Rows AV).len = len := hr1
        rw [hlr] at hA
        exact hA
      · refine Nat.le_trans ?_ hwe.1
        exact Nat.mul_le_mul (by omega) hmb
      · intro s hs
        obtain ⟨i, hi⟩ := List.getElem?_of_mem hs
        obtain ⟨_, _, _, _, hg⟩ := hr2 i (by have := (List.getElem?_eq_some_iff.1 hi).1; omega) s hi
        exact hg
  | .unit => by
    refine ⟨fun t cs fuel x hf h hw => ?_, fun fs off n cs xs hf _ _ _ hl => ⟨(), by simp only [Ty.size, List.take_zero, Ty.enc]; exact ARels.nil, fun v hv => by simp [Ty.size] at hv, trivial⟩⟩
    simp only [Ty.fit] at hf
    split at hf
    case h_2 => cases hf
    rename_i fs hu
    simp only [Bool.and_eq_true, decide_eq_true_eq] at hf
    obtain ⟨xs, n, rfl, rfl, hcl, hxl, hx⟩ := DataW.trod_struct hu h
    have : cs = [] := by rw [hf.2] at hcl; simpa using hcl
    subst this
    exact ⟨(), ARels.nil, fun v hv => by simp at hv, trivial⟩
  | .pair a b => by
    have P2 : ∀ (fs : List Field) (off n : Nat) (cs : List Value) (xs : List (DataW H × List MemPlace)), ((Ty.pair a b).fit P).2 fs off = true → xs.length = fs.length →
      (∀ (i : Nat) f, fs[i]? = some f → DataW.trod enc P w 0 spare held n f.type ((cs.drop f.offset).take (P.cellsOf f.type)) = xs[i]?) →
      (DataW.weightsEach P (fs.map (·.type)) (xs.map (·.1))).all (· ≤ reachBytes) = true → off + (Ty.pair a b).size ≤ cs.length → Reads w (.pair a b) ((cs.drop off).take (Ty.pair a b).size) := by
      intro fs off n cs xs hf hl hx hw hcl
      simp only [Ty.fit] at hf
      cases fs with
      | nil => cases hf
      | cons f r =>
        simp only [Bool.and_eq_true, decide_eq_true_eq] at hf
        obtain ⟨⟨⟨ho, hfa⟩, hsa⟩, hfb⟩ := hf
        cases xs with
        | nil => simp at hl
        | cons x xs =>
          have hx0 := hx 0 f rfl
          simp only [List.getElem?_cons_zero] at hx0
          rw [hsa, ho] at hx0
          simp only [List.map_cons, DataW.weightsEach] at hw
          obtain ⟨hw1, hw2⟩ := all_append hw
          simp only [Ty.size] at hcl ⊢
          obtain ⟨s1, r1, o1, g1⟩ := (trod_reads a).1 f.type _ n x hfa hx0 hw1
          obtain ⟨s2, r2, o2, g2⟩ := (trod_reads b).2 r (off + a.size) n cs xs hfb (by simpa using hl) (fun i f' hi => by simpa using hx (i + 1) f' (by simpa using hi)) hw2 (by omega)
          refine ⟨(s1, s2), ?_, ?_, g1, g2⟩
          · have := r1.append r2
            simp only [Ty.enc]
            rw [List.take_add, List.drop_drop]
            exact this
          · intro v hv
            rw [List.take_add, List.drop_drop] at hv
            rcases List.mem_append.1 hv with hv | hv
            · exact o1 v hv
            · exact o2 v hv
    refine ⟨fun t cs fuel x hf h hw => ?_, P2⟩
    have hf' := hf
    simp only [Ty.fit] at hf
    split at hf
    case h_2 => cases hf
    rename_i fs hu
    simp only [Bool.and_eq_true, decide_eq_true_eq] at hf
    obtain ⟨xs, n, rfl, rfl, hcl, hxl, hx⟩ := DataW.trod_struct hu h
    have hsz : cs.length = (Ty.pair a b).size := by rw [hcl, hf.2]; rfl
    have := P2 fs.toList 0 n cs xs (by simp only [Ty.fit]; exact hf.1) (by simpa using hxl) (fun i f hi => hx i f (by simpa using hi)) (by
      simp only [DataW.weights, hu] at hw
      exact hw) (by omega)
    rw [List.drop_zero, List.take_of_length_le (by omega)] at this
    exact this

/-- What an argument reads, as one value. -/
theorem reads_av {T : Ty} {t : TypeId} {v : Value} {d : DataW H} {ps : List MemPlace} (hf : (T.fit P).1 t = true) (hv : (match P.underlying t with
      | some (.struct _) => ∃ cs, v = .agg cs
      | _ => v.oneCell' = true)) (h : DataW.Trod enc P w 0 spare held t v d ps) (hw : (d.weights P t).all (· ≤ reachBytes) = true) :
    ∃ s : T.sem, ARel (fun b => w.heap[b]?) Phi.none v (cond T.isAgg (.agg (T.enc s)) (AV.the (T.enc s))) ∧ T.good s := by
  obtain ⟨fuel, h⟩ := h
  obtain ⟨s, hr, ho, hg⟩ := (trod_reads T).1 t _ fuel _ hf h hw
  refine ⟨s, ?_, hg⟩
  have single : v.oneCell' = true → (∃ c, T.enc s = [c]) → T.isAgg = false → ARel (fun b => w.heap[b]?) Phi.none v (cond T.isAgg (.agg (T.enc s)) (AV.the (T.enc s))) := fun h1 ⟨c, hc⟩ h3 => by
    rw [h3]
    have : v.cells.toList = [v] := by cases v <;> first | rfl | (simp [Value.oneCell'] at h1)
    rw [this, hc] at hr
    rw [hc]
    exact hr.2 0 v c rfl rfl
  cases T with
  | int k => exact single (by
      simp only [Ty.fit] at hf
      split at hf
      · rename_i hu; rw [hu] at hv; exact hv
      · cases hf) ⟨_, rfl⟩ rfl
  | bool => exact single (by
      simp only [Ty.fit] at hf
      split at hf
      · rename_i hu; rw [hu] at hv; exact hv
      · cases hf) ⟨_, rfl⟩ rfl
  | str => exact single (by
      simp only [Ty.fit] at hf
      split at hf
      · rename_i hu; rw [hu] at hv; exact hv
      · cases hf) ⟨_, rfl⟩ rfl
  | slice t' => exact single (by
      simp only [Ty.fit] at hf
      split at hf
      · rename_i hu; rw [hu] at hv; exact hv
      · cases hf) ⟨_, rfl⟩ rfl
  | unit =>
    simp only [Ty.fit] at hf
    split at hf
    case h_2 => cases hf
    rename_i hu
    rw [hu] at hv
    obtain ⟨cs, rfl⟩ := hv
    have := ARel.agg cs.toList (Ty.enc .unit s) hr.1 hr.2
    rw [Array.toArray_toList] at this
    exact this
  | pair a b =>
    simp only [Ty.fit] at hf
    split at hf
    case h_2 => cases hf
    rename_i hu
    rw [hu] at hv
    obtain ⟨cs, rfl⟩ := hv
    have := ARel.agg cs.toList (Ty.enc (.pair a b) s) hr.1 hr.2
    rw [Array.toArray_toList] at this
    exact this
end
end Go.AMach
