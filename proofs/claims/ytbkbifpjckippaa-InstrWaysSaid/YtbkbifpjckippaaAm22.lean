/- The abstract machine: from a law's contract to what its statement asks. -/
import Derived.Test.YtbkbifpjckippaaAm20
import Derived.Test.YtbkbifpjckippaaAm21
import Derived.Below
import Derived.Carry
import Derived.WideShapes
namespace Go.AMach
set_option linter.unusedVariables false
set_option linter.unusedSimpArgs false
set_option linter.unnecessarySimpa false
set_option linter.unusedSectionVars false
variable [Sites]
open Go.RowKit
set_option linter.unusedVariables false

theorem law_calls {P : Program} {f : FuncId} {es : List EK} {Q : EK.sems es → HK.sems [] → Option (RS [.ty .bool] [])} (hc : SpecOk P f (specQ es [] [.ty .bool] [] Q)) {args : List Value} {w : World} (a : EK.sems es)
    (ha : ARels (fun b => w.heap[b]?) Phi.none args (EK.encs es a)) (hk : EK.okks es = true) (hq : Q a () = some ((true, ()), ())) : Calls P f args.toArray w fun e w' => e = .returned (.bool true) ∧ Below w.heap.size w w' := by
  have hS : SRel (fun b => w.heap[b]?) Phi.none [] w := ⟨fun _ _ h => h, fun id blk h => by simp [AH.at] at h, fun id blk b off sz lim len h => by simp [AH.at] at h, fun id id' blk blk' b off sz lim len off' sz' lim' len' h => by simp [AH.at] at h⟩
  have hrun : (specQ es [] [.ty .bool] [] Q (EK.encs es a) []).val = some (.ok (.v (.bool true)), []) := by
    unfold specQ
    rw [EK.decs_of_encs es a hk]
    simp only [HK.decs]
    have hq' : Q a () = some ((true, ()), ()) := hq
    rw [hq']
    rfl
  refine (hc _ Phi.none [] w _ args _ _ hS (fun _ _ => rfl) ha hrun).mono fun e w' ⟨ι', φ', hext, hS', hF, he⟩ => ?_
  obtain ⟨u, rfl, hu⟩ := he
  cases hu
  refine ⟨rfl, hF.os, hF.tape, hF.output, hF.size, fun k hk => hF.keep k hk ?_⟩
  rintro ⟨id, blk, off, sz, lim, len, h, _⟩
  simp [AH.at] at h

/-- The kind of an argument's slot. -/
def Ty.ek (T : Ty) : EK := if T.isAgg then .agg T else .ty T

section
variable {H : Type} {enc : TypeId × Value → H} {P : Program} {w : World} {spare : Nat → Bool} {held : Bool}

theorem reads_shape {T : Ty} {t : TypeId} {v : Value} {base : Nat} (hf : (T.fit P).1 t = true) (hv : Value.okWide P w .any base t v) : (match P.underlying t with
      | some (.struct _) => ∃ cs, v = .agg cs
      | _ => v.oneCell' = true) := by
  cases T with
  | int k =>
    simp only [Ty.fit] at hf
    split at hf
    · rename_i hu; obtain ⟨n, rfl⟩ := WideShapes.okWide_int hu hv; rw [hu]; rfl
    · cases hf
  | bool =>
    simp only [Ty.fit] at hf
    split at hf
    · rename_i hu; obtain ⟨n, rfl⟩ := WideShapes.okWide_bool hu hv; rw [hu]; rfl
    · cases hf
  | str =>
    simp only [Ty.fit] at hf
    split at hf
    · rename_i hu; obtain ⟨n, rfl⟩ := WideShapes.okWide_string hu hv; rw [hu]; rfl
    · cases hf
  | slice t' =>
    simp only [Ty.fit] at hf
    split at hf
    · rename_i hu; obtain ⟨a, l, c, rfl⟩ := WideShapes.okWide_slice hu hv; rw [hu]; rfl
    · cases hf
  | unit =>
    simp only [Ty.fit] at hf
    split at hf
    · rename_i hu; obtain ⟨cs, rfl, _⟩ := WideShapes.okWide_struct hu hv; rw [hu]; exact ⟨cs, rfl⟩
    · cases hf
  | pair a b =>
    simp only [Ty.fit] at hf
    split at hf
    · rename_i hu; obtain ⟨cs, rfl, _⟩ := WideShapes.okWide_struct hu hv; rw [hu]; exact ⟨cs, rfl⟩
    · cases hf

/-- An argument read, as a slot's datum. -/
theorem reads_arg (T : Ty) {t : TypeId} {v : Value} {d : DataW H} {ps : List MemPlace} {base : Nat} (hf : (T.fit P).1 t = true) (hv : Value.okWide P w .any base t v) (h : DataW.Trod enc P w 0 spare held t v d ps)
    (hw : (d.weights P t).all (· ≤ reachBytes) = true) : ∃ s : T.sem, ARel (fun b => w.heap[b]?) Phi.none v (cond T.isAgg (.agg (T.enc s)) (AV.the (T.enc s))) ∧ T.good s :=
  reads_av hf (reads_shape hf hv) h hw

theorem weights_at {ts : List TypeId} {ds : List (DataW H)} (h : (DataW.weightsEach P ts ds).all (· ≤ reachBytes) = true) {j : Nat} {t : TypeId} {d : DataW H} (ht : ts[j]? = some t) (hd : ds[j]? = some d) : (d.weights P t).all (· ≤ reachBytes) = true := by
  rw [List.all_eq_true] at h ⊢
  exact fun n hn => h n (DataW.weights_mem_each ht hd n hn)
end
end Go.AMach
