/- The abstract machine: numbers, comparisons, maps, append. -/
import Derived.Test.YtbkbifpjckippaaAmD
import Derived.Laws.StructEq
import Derived.Laws.Pointers
import Derived.Laws.BytesString
import Derived.Laws.IdiomStrings
import Derived.Laws.AppendOwn
import Derived.Laws.Cells
namespace Go.AMach
set_option linter.unusedVariables false
set_option linter.unusedSimpArgs false
set_option linter.unnecessarySimpa false
set_option linter.unusedSectionVars false
variable [Sites]
open Go.RowKit
set_option linter.unusedVariables false
set_option linter.unusedSimpArgs false
variable {P : Program}

theorem sound_binI {ι φ H w n} {op : BinOp} {t : TypeId} {k k' : IntKind} {a b : Int} :
    SoundM P ι φ H w n (binOp op t (.int k a) (.int k' b)) (binI op k k' a b) := by
  intro hS
  cases op <;> simp only [binI]
  case shl =>
    refine SoundM.cond (fun hb => ?_) hS
    refine SoundM.ret ?_ (.v _)
    simp only [binOp, Op.shift]
    rw [if_neg (by omega)]
    rfl
  case shr =>
    refine SoundM.cond (fun hb => ?_) hS
    refine SoundM.ret ?_ (.v _)
    simp only [binOp, Op.shift]
    rw [if_neg (by omega)]
    rfl
  case quo =>
    split
    case isFalse => exact SoundM.fail hS
    rename_i hk
    refine SoundM.br (fun hb => ?_) (fun _ => SoundM.fail) hS
    refine SoundM.ret ?_ (.v _)
    simp at hb
    subst hk
    simp [binOp, Op.intDiv, hb]
  case rem =>
    split
    case isFalse => exact SoundM.fail hS
    rename_i hk
    refine SoundM.br (fun hb => ?_) (fun _ => SoundM.fail) hS
    refine SoundM.ret ?_ (.v _)
    simp at hb
    subst hk
    simp [binOp, Op.intDiv, hb]
  all_goals
    split
    case isFalse => exact SoundM.fail hS
    rename_i hk
    refine SoundM.ret ?_ (.v _) hS
    subst hk
    simp [binOp, Op.intArith, Op.intBits, Op.intCmp]

theorem sound_binS {ι φ H w n} {op : BinOp} {t : TypeId} {a b : ByteArray} :
    SoundM P ι φ H w n (binOp op t (.string a) (.string b)) (binS op a b) := by
  intro hS
  cases op <;> simp only [binS]
  case add =>
    refine SoundM.cond (fun hb => ?_) hS
    have : ¬ (((a.size + b.size : Nat) : Int) > IntKind.i64.max) := by simp [IntKind.max, IntKind.signed, IntKind.bits]; omega
    refine SoundM.ret ?_ (.v _)
    simp only [binOp, Op.stringOp]
    rw [if_neg this]; rfl
  all_goals first | exact SoundM.fail hS | (refine SoundM.ret ?_ (.v _) hS; simp [binOp, Op.stringOp])

theorem eqGuard_lit (w : World) (op : BinOp) (t : TypeId) (x y : Operand) (a b : Value) (h : (a.oneCell' = true ∧ a ≠ .nilIface)) : (eqGuard op t x y a b).run P w = .ok () w := by
  unfold eqGuard
  cases a <;> simp [Value.oneCell'] at h <;> cases op <;> simp

theorem SoundM.of_run {ι φ H w n} {s1 s2 : Sem Value} {m : AM AV} (he : s1.run P w = s2.run P w) (h : SoundM P ι φ H w n s2 m) : SoundM P ι φ H w n s1 m := by
  intro hS r H' n' hrun hf
  have := h hS r H' n' hrun hf
  cases r <;> simpa [Post, he] using this

theorem run_part (w : World) {ι φ} {t : TypeId} {vs : List Value} {cs : List AV} {off m : Nat} {g : Bool} {x : AV} (h : ARels ι φ vs cs) (hg : aggO P t = some g) (hs : szO P t = some m) (hx : rdCells g m cs off = some x) :
    ∃ u, (part t vs.toArray off).run P w = .ok u w ∧ ARel ι φ u x := by
  obtain ⟨d, hd, hrow⟩ := aggO_some hg
  have hagg : (isAgg t).run P w = .ok g w := by
    unfold isAgg
    rw [Sem.run_bind, run_underlying hd w]
    cases d <;> simp_all
  unfold rdCells at hx
  cases g with
  | false =>
    obtain ⟨u, hu, hr⟩ := h.get (by simpa using hx)
    exact ⟨u, by simp [part, hagg, hu], hr⟩
  | true =>
    simp at hx
    obtain ⟨hle, rfl⟩ := hx
    refine ⟨.agg ((vs.drop off).take m).toArray, ?_, .agg _ _ ((h.drop off).take m).1 ((h.drop off).take m).2⟩
    have hex : vs.toArray.extract off (off + m) = ((vs.drop off).take m).toArray := by simp
    simp [part, hagg, run_sizeOf hs, hex]

theorem eqFs_run (w : World) {ι φ} {d : Nat} {e : TypeId → AV → AV → Option Bool} (he : ∀ t x y u v r, ARel ι φ u x → ARel ι φ v y → e t x y = some r → (Op.equalIn d t u v).run P w = .ok r w) :
    ∀ (fs : List Field) (vs us : List Value) (xs ys : List AV) (r : Bool), ARels ι φ vs xs → ARels ι φ us ys → eqFs P e fs xs ys = some r → (Op.eqFields d vs.toArray us.toArray fs).run P w = .ok r w
  | [], vs, us, xs, ys, r, h, k, hr => by simp [eqFs] at hr; subst hr; simp [Op.eqFields]
  | f :: fs, vs, us, xs, ys, r, h, k, hr => by
    simp only [eqFs] at hr
    split at hr
    · cases hr
    rename_i hn
    split at hr
    case h_2 => cases hr
    rename_i g m hg hs
    split at hr
    case h_2 => cases hr
    rename_i a b ha hb
    split at hr
    case h_2 => cases hr
    rename_i r1 r2 h1 h2
    cases hr
    obtain ⟨u, hu, hur⟩ := run_part (P := P) w h hg hs ha
    obtain ⟨v, hv, hvr⟩ := run_part (P := P) w k hg hs hb
    have hq := he _ _ _ _ _ _ hur hvr h1
    have ih := eqFs_run w he fs vs us xs ys r2 h k h2
    simp only [Op.eqFields, if_pos hn, Sem.run_bind, hu, Result.andThen_ok, hv, hq]
    cases r1
    · simp
    · simpa using ih

theorem eqV_run (w : World) {ι φ} : ∀ (d : Nat) (t : TypeId) (x y : AV) (u v : Value) (r : Bool), ARel ι φ u x → ARel ι φ v y → eqV P d t x y = some r → (Op.equalIn d t u v).run P w = .ok r w
  | 0, t, x, y, u, v, r, h, k, hr => by cases hr
  | d + 1, t, x, y, u, v, r, h, k, hr => by
    simp only [eqV] at hr
    split at hr
    · rename_i hu; cases h; cases k; cases hr; exact run_equalIn_bool w d t _ _ hu
    · rename_i hu
      cases h; cases k
      split at hr
      · rename_i hk; subst hk; cases hr; exact run_equalIn_int w d t _ _ _ _ hu
      · cases hr
    · rename_i hu; cases h; cases k; cases hr; exact run_equalIn_string w d t _ _ hu
    · rename_i fs xs ys hu
      split at hr
      case isFalse => cases hr
      rename_i hp
      cases h with
      | agg vs _ hl h =>
      cases k with
      | agg us _ hl' k =>
      have hfs : P.fieldsOf t = fs := by simp [Program.fieldsOf, hu]
      rw [run_equalIn_struct w d t _ _ (by rw [hfs]; exact hu) hp, hfs]
      exact eqFs_run w (fun t x y u v r h k hr => eqV_run w d t x y u v r h k hr) fs.toList vs us xs ys r ⟨hl, h⟩ ⟨hl', k⟩ hr
    · cases hr

theorem ptrO_true {t : TypeId} (h : ptrO P t = true) : P.underlying t = some (.pointer (P.pointee t)) := by
  unfold ptrO at h
  split at h
  · rename_i e hu; rw [hu]; simp [Program.pointee, hu]
  · cases h

theorem sound_bin {ι φ H w n} {op : BinOp} {t : TypeId} {ox oy : Operand} {u v : Value} {x y : AV} (h : ARel ι φ u x) (k : ARel ι φ v y) :
    SoundM P ι φ H w n (do eqGuard op t ox oy u v; binOp op t u v) (binM P op t x y) := by
  intro hS
  unfold binM
  split
  · rename_i a b
    cases h; cases k
    split
    case isFalse => exact SoundM.fail hS
    rename_i hb
    have hu := boolO_true hb
    cases op <;> first
      | exact SoundM.fail hS
      | (refine SoundM.ret ?_ (.v _) hS
         rw [Sem.run_bind, eqGuard_lit w _ t ox oy (.bool a) (.bool b) ⟨rfl, by simp⟩]
         have he : (Op.equal t (.bool a) (.bool b)).run P w = .ok (a == b) w := run_equalIn_bool w 9999 t a b hu
         simp only [binOp, Sem.run_bind, Sem.run_pure, Result.andThen_ok, he])
  · rename_i k1 a k2 b
    cases h; cases k
    have he : (do eqGuard op t ox oy (.int k1 a) (.int k2 b); binOp op t (.int k1 a) (.int k2 b) : Sem Value).run P w = (binOp op t (.int k1 a) (.int k2 b)).run P w := by
      rw [Sem.run_bind, eqGuard_lit w _ t ox oy _ _ ⟨rfl, by simp⟩]; rfl
    exact SoundM.of_run he sound_binI hS
  · rename_i a b
    cases h; cases k
    have he : (do eqGuard op t ox oy (.string a) (.string b); binOp op t (.string a) (.string b) : Sem Value).run P w = (binOp op t (.string a) (.string b)).run P w := by
      rw [Sem.run_bind, eqGuard_lit w _ t ox oy _ _ ⟨rfl, by simp⟩]; rfl
    exact SoundM.of_run he sound_binS hS
  · rename_i xs ys
    split
    case isFalse => exact SoundM.fail hS
    rename_i hg
    have hx := h
    have hy := k
    cases h with
    | agg vs _ hl h =>
    cases k with
    | agg us _ hl' k =>
    split
    · rename_i r _ hr
      refine SoundM.ret ?_ (.v _) hS
      rw [Sem.run_bind, run_eqGuard_agg w _ _ _ _ _ _ hg]
      simp only [Result.andThen_ok]
      rw [run_eql_struct w, eqV_run w _ _ _ _ _ _ _ hx hy hr]
      rfl
    · rename_i r _ hr
      refine SoundM.ret ?_ (.v _) hS
      rw [Sem.run_bind, run_eqGuard_agg w _ _ _ _ _ _ hg]
      simp only [Result.andThen_ok]
      rw [run_neq_struct w, eqV_run w _ _ _ _ _ _ _ hx hy hr]
      rfl
    · exact SoundM.fail hS
  all_goals try (exact SoundM.fail hS)
  all_goals
    split
    case isFalse => exact SoundM.fail hS
    rename_i hp
    have hu := ptrO_true hp
    cases h; cases k
    cases op <;> first
      | exact SoundM.fail hS
      | (refine SoundM.ret ?_ (.v _) hS
         rw [Sem.run_bind]
         rw [eqGuard_lit w _ t ox oy (.pointer _) (.pointer none) ⟨rfl, by simp⟩]
         simp only [Result.andThen_ok, binOp, Sem.run_bind, Op.equal, Op.maxDepth]
         rw [run_equalIn_pointer_nil w 9999 t _ hu]
         rfl)

theorem sound_un {ι φ H w n} {op : UnOp} {u : Value} {x : AV} (h : ARel ι φ u x) : SoundM P ι φ H w n (Op.unary op u) (unM op x) := by
  intro hS
  unfold unM
  split
  · cases h; exact SoundM.ret (by simp [Op.unary]) (.v _) hS
  · cases h; exact SoundM.ret (by simp [Op.unary, Op.intArith]) (.v _) hS
  · cases h; exact SoundM.ret (by simp [Op.unary, Op.intBits]) (.v _) hS
  · exact SoundM.fail hS

theorem u8O_true {t : TypeId} (h : u8O P t = true) : ∃ e, P.underlying t = some (.slice e) ∧ P.underlying e = some (.int .u8) := by
  unfold u8O at h
  split at h
  · rename_i e hu
    split at h
    · rename_i he; exact ⟨e, hu, he⟩
    · cases h
  · cases h

theorem sound_bstr {ι φ H w n} {src dst : TypeId} {hp : Nat → Option AB} {u : Value} {x : AV} (hx : ARel ι φ u x) (hS : SRel ι φ H w) (hhp : ∀ i b, hp i = some b → H.at i = some b)
    (hd : strO P dst = true) (hsr : u8O P src = true) (hag : ∀ cs, x ≠ .agg cs) : SoundM P ι φ H w n (convert src dst u) (bstrM hp x) := by
  intro _
  unfold bstrM
  split
  case isFalse => exact SoundM.fail hS
  rename_i hok
  have has : asData hp (.slice (.int .u8)) x = some (.sl false 1 (.ty (.int .u8) (Ty.dec hp (.slice (.int .u8)) [x]))) := by
    unfold asData
    split
    · rename_i cs; exact absurd rfl (hag cs)
    · rw [if_pos ⟨rfl, hok⟩]; rfl
  have hr := asData_rel (ι' := fun b => w.heap[b]?) (fun i b hb => hS.blk i b (hhp i b hb)) hS.imm (fun _ _ _ _ _ _ _ _ _ => rfl) hx has
  generalize Ty.dec hp (.slice (.int .u8)) [x] = l at hr
  obtain ⟨e, hu, he⟩ := u8O_true hsr
  have hds := strO_true hd
  refine SoundM.ret ?_ (.v _) hS
  cases hr with
  | sl a cap tg sz es hc ht hw b off cs T F us hm h1 h2 h3 =>
  have hlen : (Rows.ty (.int .u8) l : Rows AV).len = l.length := rfl
  rw [run_convert_bytes_string w src dst e _ _ _ hu he hds]
  cases a with
  | none =>
    have : l = [] := by
      rw [← List.length_eq_zero_iff]
      by_cases h0 : (Rows.ty (.int .u8) l : Rows AV).len = 0
      · exact h0
      · have := (hm h0).1; cases this
    subst this
    simp [Conv.bytesToString, bytesOf]
  | some a =>
    refine run_bytesToString w a _ cap l ?_
    rw [hlen]
    have := run_loadCells_list (P := P) w a (l.map (Value.int .u8)) fun j v hv => by
      simp only [List.getElem?_map, Option.map_eq_some_iff] at hv
      obtain ⟨y, hy, rfl⟩ := hv
      have hj : j < l.length := (List.getElem?_eq_some_iff.1 hy).1
      obtain ⟨ha, hb⟩ := hm (by rw [hlen]; omega)
      cases ha
      have hcell : (Rows.ty (.int .u8) l : Rows AV).toL[j]? = some [.v (.int .u8 y)] := by
        rw [toL_at (by rw [hlen]; exact hj)]
        have : Ty.rd (.int .u8) l j = y := rd_some hy
        show some (Ty.enc (.int .u8) (Ty.rd (.int .u8) l j)) = _
        rw [this]; rfl
      have g1 := h1 j 0 _ _ hcell rfl
      have g2 := h2 j 0 _ _ hcell rfl
      generalize us j 0 = uu at g1 g2
      cases g2
      have hb' : w.heap[b]? = some (.cells cs T F) := hb
      have := cell_of hb' (off + j)
      simp only [Addr.add_at]
      rw [this]
      simpa using g1
    simpa using this

theorem sound_convert {ι φ H w n} {src dst : TypeId} {u : Value} {x : AV} (h : ARel ι φ u x) : SoundM P ι φ H w n (convert src dst u) (convertM P src dst x) := by
  intro hS
  unfold convertM
  split
  · cases h
    split
    case h_2 => exact SoundM.fail hS
    rename_i k1 k2 h1 h2
    have u1 := intO_some h1
    have u2 := intO_some h2
    exact SoundM.ret (by simp [convert, run_underlying u1, run_underlying u2, Conv.intToInt]) (.v _) hS
  · rename_i s
    cases h
    split
    · rename_i hc
      have u1 := strO_true hc.1
      have u2 := strO_true hc.2
      exact SoundM.ret (by simp [convert, run_underlying u1, run_underlying u2]) (.v _) hS
    · split
      case isFalse => exact SoundM.fail hS
      rename_i hc
      have u1 := strO_true hc.1
      obtain ⟨e, u2, u3⟩ := u8O_true hc.2
      have hrun := run_bytes_of_string w src dst e s u1 u2 u3
      have hcap := grownCap_ge w s.size 0 e
      have hlen : (Rows.ty (.int .u8) (bytesL s) : Rows AV).len = s.size := by
        show (bytesL s).length = s.size
        simp [bytesL]
      generalize grownCap w s.size 0 e = cap at hrun hcap
      have hsz : (bytesRow s cap).size = cap := by
        unfold bytesRow
        simp
        have : s.data.size = s.size := rfl
        omega
      refine SoundM.newRow (lim := cap) (X := fun id => .hs false id 0 s.size) (fun o ho => by simp only []; omega) hrun rfl rfl rfl rfl (by omega) (by rw [hlen]; exact hcap) (by rw [hsz]; omega) ?_ (fun φ' h => ?_) hS
      · refine ⟨fun c hc => ?_, fun e' j c x hc hx => ?_⟩
        · obtain ⟨i, hi⟩ := List.getElem?_of_mem hc
          obtain ⟨_, rfl⟩ := toL_some.1 hi
          rfl
        · obtain ⟨he, rfl⟩ := toL_some.1 hc
          rw [hlen] at he
          have hb : s.data.toList[e']? = some (s.data.toList[e']'(by simpa using he)) := List.getElem?_eq_getElem _
          generalize s.data.toList[e']'(by simpa using he) = b at hb
          have hrd : Ty.rd (.int .u8) (bytesL s) e' = ((b.toNat : Nat) : Int) := rd_some (by simp [bytesL, hb])
          have hx' : ([AV.v (.int .u8 ((b.toNat : Nat) : Int))] : List AV)[j]? = some x := by
            have : (Rows.ty (.int .u8) (bytesL s) : Rows AV).get e' = [AV.v (.int .u8 ((b.toNat : Nat) : Int))] := by
              show Ty.enc (.int .u8) (Ty.rd (.int .u8) (bytesL s) e') = _
              rw [hrd]; rfl
            rw [this] at hx; exact hx
          cases j with
          | succ j => simp at hx'
          | zero =>
            simp at hx'
            subst hx'
            refine ⟨.int .u8 b.toNat, ?_, .v _, rfl⟩
            unfold bytesRow
            rw [Array.getElem?_append_left (by simp; exact he)]
            have hb' : s.data[e']? = some b := by rw [← Array.getElem?_toList]; exact hb
            simp [hb']
      · have := ARel.hs (ι := ι) (φ := φ') false n 0 s.size (some ⟨w.heap.size, 0, none⟩) cap _ h hcap (fun h => by cases h) (.inr ⟨_, _, _, _, _, rfl, by simp, by simp, by rw [hlen]; simp⟩)
        exact this
  · rename_i tg id e n
    split
    case isFalse => exact SoundM.fail hS
    rename_i hc
    refine SoundM.get (sound_bstr h hS (fun i b hb => ?_) hc.1 hc.2 (fun cs e => by cases e)) hS
    cases hi : Nat.beq i id with
    | false => rw [hi] at hb; cases hb
    | true =>
      rw [hi] at hb
      rw [Nat.eq_of_beq_eq_true hi]
      exact hb
  · split
    case isFalse => exact SoundM.fail hS
    rename_i hc
    exact sound_bstr h hS (fun i b hb => by cases hb) hc.1 hc.2 (fun cs e => by cases e) hS
  · exact SoundM.fail hS

/-! ### Maps -/
theorem keyEq_rel {ι φ} {kt : TypeId} {u v : Value} {x y : AV} {b : Bool} {d : TypeDesc} (hd : P.underlying kt = some d) (hk : keyOk P kt x = true) (h : ARel ι φ u x) (k : ARel ι φ v y) (he : keyEq x y = some b) :
    Instr.sameNow d u v = some b := by
  unfold keyEq at he
  split at he
  · cases h; cases k
    simp [keyOk] at hk
    have := intO_some hk
    rw [hd] at this; cases this
    split at he
    · rename_i hkk; subst hkk; cases he; simp [Instr.sameNow]
    · cases he
  · cases h; cases k
    simp [keyOk] at hk
    have := strO_true hk
    rw [hd] at this; cases this
    cases he
    simp [Instr.sameNow]
  · cases he

theorem checkKey_ok (w : World) {kt : TypeId} {d : TypeDesc} (hd : P.underlying kt = some d) {ι φ} {u : Value} {x : AV} (h : ARel ι φ u x) (hk : keyOk P kt x = true) (em : Bool) :
    (Instr.checkKey em (9999 + 1) kt u).run P w = .ok () w := by
  generalize 9999 = D
  unfold keyOk at hk
  split at hk
  · cases h
    simp at hk
    have := intO_some hk
    simp [Instr.checkKey, run_underlying this]
  · cases h
    have := strO_true hk
    simp [Instr.checkKey, run_underlying this]
  · cases hk
theorem keyOk_desc {kt : TypeId} {x : AV} (hk : keyOk P kt x = true) : ∃ d, P.underlying kt = some d := by
  unfold keyOk at hk
  split at hk
  · simp at hk; exact ⟨_, intO_some hk⟩
  · exact ⟨_, strO_true hk⟩
  · cases hk

theorem find_rel {ι φ ψ} {kt : TypeId} {d : TypeDesc} (hd : P.underlying kt = some d) {u : Value} {x : AV} (hk : keyOk P kt x = true) (h : ARel ι φ u x) (h' : ARel ι ψ u x) :
    ∀ {ms : List MapEntry} {es : List (AV × AV)} {i : Nat} {r : Option AV}, ARels ι ψ (ms.map (·.key)) (es.map (·.1)) → ARels ι ψ (ms.map (·.val)) (es.map (·.2)) → findKV x es = some r →
    (r = none ∧ Instr.findNow d u ms i = some none) ∨ ∃ j v y, r = some y ∧ Instr.findNow d u ms i = some (some (i + j, v)) ∧ ARel ι ψ v y ∧ j < ms.length
  | [], [], i, r, _, _, hf => by simp [findKV] at hf; subst hf; exact .inl ⟨rfl, rfl⟩
  | m :: ms, [], _, _, hk', _, _ => by have := hk'.1; simp at this
  | [], e :: es, _, _, hk', _, _ => by have := hk'.1; simp at this
  | m :: ms, (k', y) :: es, i, r, h1, h2, hf => by
    simp only [List.map_cons] at h1 h2
    obtain ⟨u1, us1, e1, hu1, ht1⟩ := h1.uncons
    obtain ⟨u2, us2, e2, hu2, ht2⟩ := h2.uncons
    simp at e1 e2
    obtain ⟨rfl, rfl⟩ := e1
    obtain ⟨rfl, rfl⟩ := e2
    simp only [findKV] at hf
    cases he : keyEq x k' with
    | none => rw [he] at hf; cases hf
    | some b =>
      have hn := keyEq_rel hd hk h' hu1 he
      rw [he] at hf
      cases b with
      | true =>
        cases hf
        exact .inr ⟨0, _, _, rfl, by simp [Instr.findNow, hn], hu2, by simp⟩
      | false =>
        rcases find_rel hd hk h h' (i := i + 1) ht1 ht2 hf with ⟨rfl, e⟩ | ⟨j, v, y', rfl, e, hv, hj⟩
        · exact .inl ⟨rfl, by simp [Instr.findNow, hn, e]⟩
        · exact .inr ⟨j + 1, v, y', rfl, by simp [Instr.findNow, hn, e]; omega, hv, by simp; omega⟩

theorem keyOk_pure {kt : TypeId} {x : AV} (h : keyOk P kt x = true) : x.pure = true := by
  unfold keyOk at h
  split at h <;> first | rfl | cases h

theorem zeroAV_some {t : TypeId} {z : AV} (h : zeroAV P t = some z) (w : World) : ∃ u, (zeroValue t).run P w = .ok u w ∧ ∀ ι φ, ARel ι φ u z := by
  simp only [zeroAV, zeroV, Option.map_eq_some_iff, Option.bind_eq_some_iff] at h
  obtain ⟨u, ⟨i, hi, hz⟩, rfl⟩ := h
  refine ⟨u, run_zeroValue hi hz w, fun ι φ => ?_⟩
  unfold ofVal
  split
  · rename_i cs
    have := ARels.lits (ι := ι) (φ := φ) cs.toList
    have := ARel.agg (ι := ι) (φ := φ) cs.toList _ this.1 this.2
    simpa using this
  · exact .v _

theorem unav_av {T : Ty} {x : AV} {s : T.sem} (h : T.unav x = some s) : x = T.av s := by
  unfold Ty.unav at h
  unfold Ty.av
  split at h
  · cases hb : T.isAgg with
    | true => rw [hb] at h; simp at h; rw [undo_enc T _ _ h]; rfl
    | false => rw [hb] at h; cases h
  · cases hb : T.isAgg with
    | true => rw [hb] at h; cases h
    | false => rw [hb] at h; simp at h; rw [← undo_enc T _ _ h]; rfl

theorem unav_scalar {kt : TypeId} {K : Ty} {k : AV} {x : K.sem} (hk : keyOk P kt k = true) (h : K.unav k = some x) : K.isAgg = false ∧ K.undo [k] = some x := by
  unfold keyOk at hk
  split at hk
  · cases hb : K.isAgg with
    | true => simp [Ty.unav, hb] at h
    | false => simp [Ty.unav, hb] at h; exact ⟨rfl, h⟩
  · cases hb : K.isAgg with
    | true => simp [Ty.unav, hb] at h
    | false => simp [Ty.unav, hb] at h; exact ⟨rfl, h⟩
  · cases hk

theorem undo_key {ι φ} {K : Ty} (hK : K.isKey = true) (hA : K.isAgg = false) {u : Value} {k : AV} {x : K.sem} (hr : ARel ι φ u k) (h : K.undo [k] = some x) : u = K.keyVal x := by
  have he := undo_enc K _ _ h
  cases K <;> simp [Ty.isKey] at hK <;> simp [Ty.isAgg] at hA
  · simp [Ty.enc] at he
    subst he
    cases hr; rfl
  · simp [Ty.enc] at he
    subst he
    cases hr; rfl

/-! #### Keys that are structs of numbers -/
theorem kcIs_eq : ∀ (K : Ty) (x y : K.sem), K.fkey = true → kcIs (K.kcells x) (K.kcells y) = K.keqF y x
  | .unit, x, y, _ => rfl
  | .pair (.int k) r, x, y, h => by
    simp only [Ty.fkey] at h
    simp only [Ty.kcells, List.cons_append, List.nil_append, kcIs, Ty.keqF, decide_true, Bool.true_and, kcIs_eq r x.2 y.2 h]
  | .int _, _, _, h => by simp [Ty.fkey] at h
  | .bool, _, _, h => by simp [Ty.fkey] at h
  | .str, _, _, h => by simp [Ty.fkey] at h
  | .slice _, _, _, h => by simp [Ty.fkey] at h
  | .pair .bool _, _, _, h => by simp [Ty.fkey] at h
  | .pair .str _, _, _, h => by simp [Ty.fkey] at h
  | .pair (.slice _) _, _, _, h => by simp [Ty.fkey] at h
  | .pair .unit _, _, _, h => by simp [Ty.fkey] at h
  | .pair (.pair _ _) _, _, _, h => by simp [Ty.fkey] at h
theorem keqF_iff : ∀ (K : Ty) (x y : K.sem), K.fkey = true → (K.keqF x y = true ↔ x = y)
  | .unit, x, y, _ => ⟨fun _ => rfl, fun _ => rfl⟩
  | .pair (.int k) r, x, y, h => by
    simp only [Ty.fkey] at h
    obtain ⟨x1, x2⟩ := x
    obtain ⟨y1, y2⟩ := y
    simp only [Ty.keqF, Bool.and_eq_true, decide_eq_true_eq, keqF_iff r x2 y2 h]
    exact ⟨fun e => by rw [e.1, e.2], fun e => by cases e; exact ⟨rfl, rfl⟩⟩
  | .int _, _, _, h => by simp [Ty.fkey] at h
  | .bool, _, _, h => by simp [Ty.fkey] at h
  | .str, _, _, h => by simp [Ty.fkey] at h
  | .slice _, _, _, h => by simp [Ty.fkey] at h
  | .pair .bool _, _, _, h => by simp [Ty.fkey] at h
  | .pair .str _, _, _, h => by simp [Ty.fkey] at h
  | .pair (.slice _) _, _, _, h => by simp [Ty.fkey] at h
  | .pair .unit _, _, _, h => by simp [Ty.fkey] at h
  | .pair (.pair _ _) _, _, _, h => by simp [Ty.fkey] at h
theorem enc_kcells : ∀ (K : Ty) (x : K.sem), K.fkey = true → K.enc x = (K.kcells x).map AV.v
  | .unit, x, _ => rfl
  | .pair (.int k) r, x, h => by
    simp only [Ty.fkey] at h
    simp only [Ty.enc, Ty.kcells, List.cons_append, List.nil_append, List.map_cons, enc_kcells r x.2 h]
  | .int _, _, h => by simp [Ty.fkey] at h
  | .bool, _, h => by simp [Ty.fkey] at h
  | .str, _, h => by simp [Ty.fkey] at h
  | .slice _, _, h => by simp [Ty.fkey] at h
  | .pair .bool _, _, h => by simp [Ty.fkey] at h
  | .pair .str _, _, h => by simp [Ty.fkey] at h
  | .pair (.slice _) _, _, h => by simp [Ty.fkey] at h
  | .pair .unit _, _, h => by simp [Ty.fkey] at h
  | .pair (.pair _ _) _, _, h => by simp [Ty.fkey] at h
theorem keyIs_eq {K : Ty} {x y : K.sem} (hK : K.isKey = true) : K.keyIs x (K.keyVal y) = K.keq y x := by
  cases K <;> simp [Ty.isKey] at hK
  · simp [Ty.keyIs, Ty.keyVal, Ty.keq]
  · simp [Ty.keyIs, Ty.keyVal, Ty.keq]
  · exact kcIs_eq _ x y hK
theorem keq_iff {K : Ty} {x y : K.sem} (hK : K.isKey = true) : K.keq x y = true ↔ x = y := by
  cases K <;> simp [Ty.isKey] at hK
  · simp [Ty.keq]
  · simp [Ty.keq]
  · exact keqF_iff _ x y hK

theorem beqBytes (a b : ByteArray) : (a == b) = decide (b = a) := by
  by_cases h : b = a
  · subst h
    simp only [decide_true]
    show (b.data == b.data) = true
    simp
  · simp only [h, decide_false]
    show (a.data == b.data) = false
    simp
    exact fun e => h (by cases a; cases b; simp at e; rw [e])

theorem sameNow_key {kt : TypeId} {d : TypeDesc} (hd : P.underlying kt = some d) {K : Ty} (hK : K.isKey = true) (hA : K.isAgg = false) {x y : K.sem} {k : AV} (hk : keyOk P kt k = true) (hx : K.undo [k] = some x) :
    Instr.sameNow d (K.keyVal x) (K.keyVal y) = some (K.keq y x) := by
  have he := undo_enc K _ _ hx
  cases K <;> simp [Ty.isKey] at hK <;> simp [Ty.isAgg] at hA
  · simp [Ty.enc] at he
    subst he
    simp [keyOk] at hk
    have := intO_some hk
    rw [hd] at this; cases this
    simp only [Ty.keyVal, Instr.sameNow, if_true, Ty.keq]
    rename_i kk
    have e : ((x : Int) == y) = decide ((y : Int) = x) := by
      by_cases h : (y : Int) = x
      · simp [h]
      · simp [h]; exact fun e => h e.symm
    rw [e]
  · simp [Ty.enc] at he
    subst he
    simp [keyOk] at hk
    have := strO_true hk
    rw [hd] at this; cases this
    simp only [Ty.keyVal, Instr.sameNow, Ty.keq]
    rw [beqBytes x y]

theorem find_mf {kt : TypeId} {d : TypeDesc} (hd : P.underlying kt = some d) {K : Ty} (hK : K.isKey = true) (hA : K.isAgg = false) {x : K.sem} {k : AV} (hk : keyOk P kt k = true) (hx : K.undo [k] = some x) :
    ∀ (ms : List MapEntry) (i : Nat), (∀ e ∈ ms, ∃ y, e.key = K.keyVal y) → Instr.findNow d (K.keyVal x) ms i = some (mfind K x ms i)
  | [], i, _ => rfl
  | e :: r, i, h => by
    obtain ⟨y, hy⟩ := h e List.mem_cons_self
    have hs := sameNow_key (P := P) hd hK hA (x := x) (y := y) hk hx
    simp only [Instr.findNow, mfind, hy, hs, keyIs_eq hK]
    cases hq : K.keq y x with
    | true => simp
    | false => simpa using find_mf hd hK hA hk hx r (i + 1) fun e he => h e (List.mem_cons_of_mem _ he)

theorem run_part1 (w : World) {t : TypeId} {vs : List Value} {off : Nat} {u : Value} (hg : aggO P t = some false) (hu : vs[off]? = some u) : (part t vs.toArray off).run P w = .ok u w := by
  obtain ⟨d, hd, hrow⟩ := aggO_some hg
  have hagg : (isAgg t).run P w = .ok false w := by
    unfold isAgg
    rw [Sem.run_bind, run_underlying hd w]
    cases d <;> simp_all
  simp [part, hagg, hu]

theorem keyS_some {t : TypeId} {K : Ty} (h : keyS P t K = true) : ∃ fs, P.underlying t = some (.struct fs) ∧ P.stoodInHeld t = false ∧ K.isAgg = true ∧ K.fkey = true ∧ flatK P fs.toList 0 K = true := by
  unfold keyS at h
  split at h
  · rename_i fs hu
    simp only [Bool.and_eq_true, decide_eq_true_eq] at h
    exact ⟨fs, hu, h.1.1.1, h.1.1.2, h.1.2, h.2⟩
  · cases h

theorem keyVal_agg {K : Ty} (hA : K.isAgg = true) (hK : K.fkey = true) (x : K.sem) (hk : K.isKey = true) : K.keyVal x = .agg (K.kcells x).toArray := by
  cases K <;> simp [Ty.isAgg] at hA
  · simp [Ty.isKey] at hk
  · rfl

theorem unav_key {ι φ} {K : Ty} (hA : K.isAgg = true) (hK : K.fkey = true) (hk : K.isKey = true) {u : Value} {k : AV} {x : K.sem} (hr : ARel ι φ u k) (h : K.unav k = some x) : u = K.keyVal x := by
  have e := unav_av h
  subst e
  rw [keyVal_agg hA hK x hk]
  simp only [Ty.av, hA, cond_true, enc_kcells K x hK] at hr
  cases hr with
  | agg vs _ hl hv =>
    have : ∀ (ls vs : List Value), ARels ι φ vs (ls.map AV.v) → vs = ls := by
      intro ls
      induction ls with
      | nil => intro vs h; have := h.1; simp at this; exact this
      | cons a ls ih =>
        intro vs h
        obtain ⟨u1, us1, e1, hu1, ht1⟩ := h.uncons
        subst e1
        cases hu1
        rw [ih us1 ht1]
    rw [this _ vs ⟨hl, hv⟩]

theorem checkFs_ok (w : World) (em : Bool) (d : Nat) : ∀ (fs : List Field) (K : Ty) (x : K.sem) (pre : List Value), flatK P fs pre.length K = true →
    (do for f in fs do if f.name ≠ "_" then Instr.checkKey em (d + 1) f.type (← part f.type (pre ++ K.kcells x).toArray f.offset) : Sem Unit).run P w = .ok () w
  | [], .unit, x, pre, _ => by simp
  | f :: fs, .pair (.int k) r, x, pre, h => by
    simp only [flatK, Bool.and_eq_true, decide_eq_true_eq] at h
    obtain ⟨⟨⟨⟨⟨hn, ho⟩, hi⟩, hs⟩, hg⟩, hf⟩ := h
    have hp := run_part1 (P := P) w (t := f.type) (vs := pre ++ (Ty.pair (.int k) r).kcells x) (off := f.offset) (u := .int k x.1) hg (by rw [ho]; simp [Ty.kcells])
    have hc : (Instr.checkKey em (d + 1) f.type (.int k x.1)).run P w = .ok () w := by simp [Instr.checkKey, run_underlying (intO_some hi)]
    have ih := checkFs_ok w em d fs r x.2 (pre ++ [.int k x.1]) (by simpa using hf)
    have e : pre ++ (Ty.pair (.int k) r).kcells x = pre ++ [.int k x.1] ++ r.kcells x.2 := by simp [Ty.kcells]
    simp only [List.forIn_cons, Sem.run_bind, hn, ne_eq, not_false_eq_true, if_true, hp, Result.andThen_ok, hc, Sem.run_pure]
    rw [e]
    simp only [Sem.run_bind] at ih
    exact ih

theorem checkKey_S (w : World) {kt : TypeId} {K : Ty} (h : keyS P kt K = true) (hk : K.isKey = true) (x : K.sem) (em : Bool) : (Instr.checkKey em (9999 + 1) kt (K.keyVal x)).run P w = .ok () w := by
  obtain ⟨fs, hu, _, hA, hK, hf⟩ := keyS_some h
  rw [keyVal_agg hA hK x hk]
  have := checkFs_ok (P := P) w em 9998 fs.toList K x [] (by simpa using hf)
  rw [show (9999 : Nat) = 9998 + 1 from rfl, Instr.checkKey]
  simp only [Sem.run_bind, run_underlying hu, Result.andThen_ok]
  rw [← Array.forIn_toList]
  simp only [List.nil_append, Sem.run_bind] at this
  exact this

theorem eqFs_S (w : World) (d : Nat) : ∀ (fs : List Field) (K : Ty) (x y : K.sem) (pre pre' : List Value), pre'.length = pre.length → flatK P fs pre.length K = true →
    (Op.eqFields (d + 1) (pre ++ K.kcells x).toArray (pre' ++ K.kcells y).toArray fs).run P w = .ok (K.keqF y x) w
  | [], .unit, x, y, pre, pre', _, _ => by simp [Op.eqFields, Ty.keqF]
  | f :: fs, .pair (.int k) r, x, y, pre, pre', hl, h => by
    simp only [flatK, Bool.and_eq_true, decide_eq_true_eq] at h
    obtain ⟨⟨⟨⟨⟨hn, ho⟩, hi⟩, hs⟩, hg⟩, hf⟩ := h
    have hp := run_part1 (P := P) w (t := f.type) (vs := pre ++ (Ty.pair (.int k) r).kcells x) (off := f.offset) (u := .int k x.1) hg (by rw [ho]; simp [Ty.kcells])
    have hq := run_part1 (P := P) w (t := f.type) (vs := pre' ++ (Ty.pair (.int k) r).kcells y) (off := f.offset) (u := .int k y.1) hg (by rw [ho, ← hl]; simp [Ty.kcells])
    have he := run_equalIn_int (P := P) w d f.type k k x.1 y.1 (intO_some hi)
    have ih := eqFs_S w d fs r x.2 y.2 (pre ++ [.int k x.1]) (pre' ++ [.int k y.1]) (by simp [hl]) (by simpa using hf)
    have e1 : pre ++ (Ty.pair (.int k) r).kcells x = pre ++ [.int k x.1] ++ r.kcells x.2 := by simp [Ty.kcells]
    have e2 : pre' ++ (Ty.pair (.int k) r).kcells y = pre' ++ [.int k y.1] ++ r.kcells y.2 := by simp [Ty.kcells]
    simp only [Op.eqFields, if_pos hn, Sem.run_bind, hp, hq, Result.andThen_ok, he, if_true]
    have hb : ((x.1 : Int) == y.1) = decide ((y.1 : Int) = x.1) := by
      by_cases h : (y.1 : Int) = x.1
      · simp [h]
      · simp [h]; exact fun e => h e.symm
    simp only [Ty.keqF]
    by_cases hxy : (y.1 : Int) = x.1
    · rw [e1, e2]
      simpa [hxy] using ih
    · have : ((x.1 : Int) == y.1) = false := by rw [hb]; simp [hxy]
      simp [this, hxy]

theorem equal_S (w : World) {kt : TypeId} {K : Ty} (h : keyS P kt K = true) (hk : K.isKey = true) (x y : K.sem) : (Op.equal kt (K.keyVal x) (K.keyVal y)).run P w = .ok (K.keq y x) w := by
  obtain ⟨fs, hu, hp, hA, hK, hf⟩ := keyS_some h
  rw [keyVal_agg hA hK x hk, keyVal_agg hA hK y hk]
  have hfs : P.fieldsOf kt = fs := by simp [Program.fieldsOf, hu]
  have := eqFs_S (P := P) w 9998 fs.toList K x y [] [] rfl (by simpa using hf)
  show (Op.equalIn (9999 + 1) kt _ _).run P w = _
  rw [run_equalIn_struct w 9999 kt _ _ (by rw [hfs]; exact hu) hp, hfs]
  have e : K.keq y x = K.keqF y x := by
    cases K <;> simp [Ty.isAgg] at hA
    · simp [Ty.isKey] at hk
    · rfl
  rw [e]
  simpa using this

theorem findAsking_S (w : World) {kt : TypeId} {K : Ty} (h : keyS P kt K = true) (hk : K.isKey = true) (x : K.sem) : ∀ (ms : List MapEntry) (i : Nat), (∀ e ∈ ms, ∃ y, e.key = K.keyVal y) →
    (Instr.findAsking kt (K.keyVal x) ms i).run P w = .ok (mfind K x ms i) w
  | [], i, _ => by simp [Instr.findAsking, mfind]
  | e :: r, i, hm => by
    obtain ⟨y, hy⟩ := hm e List.mem_cons_self
    have ih := findAsking_S w h hk x r (i + 1) fun e he => hm e (List.mem_cons_of_mem _ he)
    simp only [Instr.findAsking, mfind, hy, Sem.run_bind, equal_S w h hk x y, Result.andThen_ok, keyIs_eq hk]
    cases hq : K.keq y x with
    | true => simp
    | false => simpa using ih

theorem findKey_S (w : World) {kt : TypeId} {K : Ty} (h : keyS P kt K = true) (hk : K.isKey = true) (x : K.sem) (ms : List MapEntry) (hm : ∀ e ∈ ms, ∃ y, e.key = K.keyVal y) :
    (Instr.findKey kt (K.keyVal x) ms).run P w = .ok (mfind K x ms 0) w := by
  obtain ⟨fs, hu, hp, hA, hK, hf⟩ := keyS_some h
  have ha := findAsking_S w h hk x ms 0 hm
  cases ms with
  | nil => simp [Instr.findKey, run_underlying hu, Instr.findNow, mfind]
  | cons e r =>
    obtain ⟨y, hy⟩ := hm e List.mem_cons_self
    have hn : Instr.findNow (.struct fs) (K.keyVal x) (e :: r) 0 = none := by
      simp [Instr.findNow, Instr.sameNow]
    simp only [Instr.findKey, Sem.run_bind, run_underlying hu, Result.andThen_ok, hn]
    exact ha

theorem sameBits_cells (n : Nat) : ∀ (K : Ty) (x : K.sem), K.fkey = true → ((K.kcells x).zip (K.kcells x)).all (fun (a, b) => Instr.sameBits n a b) = true
  | .unit, _, _ => rfl
  | .pair (.int k) r, x, h => by
    simp only [Ty.fkey] at h
    have := sameBits_cells n r x.2 h
    simp only [Ty.kcells, List.cons_append, List.nil_append, List.zip_cons_cons, List.all_cons, Bool.and_eq_true]
    refine ⟨?_, this⟩
    cases n <;> simp [Instr.sameBits]

theorem keyStays_S (w : World) {kt : TypeId} {K : Ty} (h : keyS P kt K = true) (hk : K.isKey = true) (x : K.sem) : (Instr.keyThatStays (K.keyVal x) (K.keyVal x)).run P w = .ok (K.keyVal x) w := by
  obtain ⟨fs, hu, hp, hA, hK, hf⟩ := keyS_some h
  have : Instr.sameBits (9999 + 1) (K.keyVal x) (K.keyVal x) = true := by
    rw [keyVal_agg hA hK x hk]
    have hs := sameBits_cells 9999 K x hK
    simp only [Instr.sameBits, beq_self_eq_true, Bool.true_and]
    simpa using hs
  simp [Instr.keyThatStays, this]

theorem sound_lookupS {ι φ H w n} {t kt et : TypeId} {um uk : Value} {m k : AV} {ok : Bool} (hu : P.underlying t = some (.map kt et)) (hm : ARel ι φ um m) (hk : ARel ι φ uk k) :
    SoundM P ι φ H w n (Instr.lookup t um uk ok) (lookupS P kt et m k ok) := by
  intro hS
  unfold lookupS
  have hpair : ∀ {u x : _} {b : Bool}, ARel ι φ u x → ARel ι φ (.tuple #[u, .bool b]) (.tup [x, .v (.bool b)]) := fun {u x b} h => by
    have := (ARels.nil (ι := ι) (φ := φ)).cons (.v (.bool b)) |>.cons h
    exact .tup [u, .bool b] _ this.1 this.2
  split
  case h_2 => exact SoundM.fail hS
  rename_i id
  refine SoundM.get ?_ hS
  split
  case h_2 => exact SoundM.fail
  rename_i K V g hid
  split
  case isFalse => exact SoundM.fail
  rename_i hkS
  cases hm with
  | mp _ b off sz lim len hφ =>
  intro hS
  obtain ⟨loc, hl, hb⟩ := hS.blk _ _ hid
  rw [hφ] at hl; cases hl
  obtain ⟨ms, clk, hheap, hK, ⟨hm1, hm2⟩, hst⟩ := hb
  split
  case h_2 => exact SoundM.fail hS
  rename_i x z hx hz
  simp only [Option.bind_eq_some_iff] at hz
  obtain ⟨zx, hzx, y, hy, hzy⟩ := hz
  obtain ⟨uz, hzr, hzrel⟩ := zeroAV_some hzx w
  have hzz := asData_rel (ι' := ι) (φ := φ) (w := w) (hp := fun _ => none) (fun i b hb => by cases hb) (fun _ _ h => h) (fun id blk hb => by cases hb) (hzrel ι φ) hy
  rw [unav_av hzy] at hzz
  obtain ⟨fs, _, _, hA, hF, _⟩ := keyS_some hkS
  have huk := unav_key hA hF hK hk hx
  subst huk
  have hobj : (getObj b).run P w = .ok (.map ms clk) w := by simp [getObj, Sem.run, hheap]
  have hfind := findKey_S (P := P) w hkS hK x ms.toList hm1
  have hck := fun em => checkKey_S (P := P) w hkS hK x em
  unfold tellM
  rcases hm2 x with ⟨e1, e2⟩ | ⟨i, u, s, e1, e2, hr⟩
  · rw [e1] at hfind
    rw [e2]
    cases ok with
    | true => exact SoundM.ret (u := .tuple #[uz, .bool false]) (by simp [Instr.lookup, run_underlying hu, hobj, hck, hfind, hzr]) (hpair hzz.of_none) hS
    | false => exact SoundM.ret (u := uz) (by simp [Instr.lookup, run_underlying hu, hobj, hck, hfind, hzr]) hzz.of_none hS
  · rw [e1] at hfind
    rw [e2]
    cases ok with
    | true => exact SoundM.ret (u := .tuple #[u, .bool true]) (by simp [Instr.lookup, run_underlying hu, hobj, hck, hfind]) (hpair hr.of_none) hS
    | false => exact SoundM.ret (u := u) (by simp [Instr.lookup, run_underlying hu, hobj, hck, hfind]) hr.of_none hS

theorem sound_lookup {ι φ H w n} {t : TypeId} {um uk : Value} {m k : AV} {ok : Bool} (hm : ARel ι φ um m) (hk : ARel ι φ uk k) : SoundM P ι φ H w n (Instr.lookup t um uk ok) (lookupM P t m k ok) := by
  intro hS
  unfold lookupM
  split
  case h_2 => exact SoundM.fail hS
  rename_i kt et hmo
  have hu := mapO_some hmo
  split
  case isFalse => exact sound_lookupS hu hm hk hS
  rename_i hkok
  obtain ⟨d, hd⟩ := keyOk_desc hkok
  have hpair : ∀ {u x : _} {b : Bool}, ARel ι φ u x → ARel ι φ (.tuple #[u, .bool b]) (.tup [x, .v (.bool b)]) := fun {u x b} h => by
    have := (ARels.nil (ι := ι) (φ := φ)).cons (.v (.bool b)) |>.cons h
    exact .tup [u, .bool b] _ this.1 this.2
  simp only []
  split
  · rename_i id
    refine SoundM.get ?_ hS
    split
    case h_3 => exact SoundM.fail
    case h_2 =>
      rename_i K V g hid
      cases hm with
      | mp _ b off sz lim len hφ =>
      intro hS
      obtain ⟨loc, hl, hb⟩ := hS.blk _ _ hid
      rw [hφ] at hl; cases hl
      obtain ⟨ms, clk, hheap, hK, ⟨hm1, hm2⟩, hst⟩ := hb
      split
      case h_2 => exact SoundM.fail hS
      rename_i x z hx hz
      simp only [Option.bind_eq_some_iff] at hz
      obtain ⟨zx, hzx, y, hy, hzy⟩ := hz
      obtain ⟨uz, hzr, hzrel⟩ := zeroAV_some hzx w
      have hzz := asData_rel (ι' := ι) (φ := φ) (w := w) (hp := fun _ => none) (fun i b hb => by cases hb) (fun _ _ h => h) (fun id blk hb => by cases hb) (hzrel ι φ) hy
      rw [unav_av hzy] at hzz
      obtain ⟨hA, hx⟩ := unav_scalar hkok hx
      have huk := undo_key hK hA hk hx
      have hobj : (getObj b).run P w = .ok (.map ms clk) w := by simp [getObj, Sem.run, hheap]
      have hfind := find_mf (P := P) hd hK hA hkok hx ms.toList 0 hm1
      rw [← huk] at hfind
      unfold tellM
      rcases hm2 x with ⟨e1, e2⟩ | ⟨i, u, s, e1, e2, hr⟩
      · rw [e1] at hfind
        rw [e2]
        cases ok with
        | true => exact SoundM.ret (u := .tuple #[uz, .bool false]) (by simp [Instr.lookup, run_underlying hu, hobj, checkKey_ok w hd hk hkok, Instr.findKey, run_underlying hd, hfind, hzr]) (hpair hzz.of_none) hS
        | false => exact SoundM.ret (u := uz) (by simp [Instr.lookup, run_underlying hu, hobj, checkKey_ok w hd hk hkok, Instr.findKey, run_underlying hd, hfind, hzr]) hzz.of_none hS
      · rw [e1] at hfind
        rw [e2]
        cases ok with
        | true => exact SoundM.ret (u := .tuple #[u, .bool true]) (by simp [Instr.lookup, run_underlying hu, hobj, checkKey_ok w hd hk hkok, Instr.findKey, run_underlying hd, hfind]) (hpair hr.of_none) hS
        | false => exact SoundM.ret (u := u) (by simp [Instr.lookup, run_underlying hu, hobj, checkKey_ok w hd hk hkok, Instr.findKey, run_underlying hd, hfind]) hr.of_none hS
    rename_i p es hid
    cases hm with
    | mp _ b off sz lim len hφ =>
    intro hS
    obtain ⟨loc, hl, hb⟩ := hS.blk _ _ hid
    rw [hφ] at hl; cases hl
    obtain ⟨ms, clk, hheap, h1, h2⟩ := hb
    split
    case h_2 => exact SoundM.fail hS
    rename_i r hfind
    have hobj : (getObj b).run P w = .ok (.map ms clk) w := by simp [getObj, Sem.run, hheap]
    have hkp : ARel ι (pφ p φ) uk k := pφ_pure hk fun _ => keyOk_pure hkok
    rcases find_rel (P := P) hd hkok hk hkp (i := 0) h1 h2 hfind with ⟨rfl, e⟩ | ⟨j, v, y, rfl, e, hv, _⟩
    · simp only []
      split
      case h_2 => exact SoundM.fail hS
      rename_i z hz
      obtain ⟨u, hzr, hzrel⟩ := zeroAV_some hz w
      cases ok with
      | true => exact SoundM.ret (u := .tuple #[u, .bool false]) (by simp [Instr.lookup, run_underlying hu, hobj, checkKey_ok w hd hk hkok, Instr.findKey, run_underlying hd, e, hzr]) (hpair (hzrel _ _)) hS
      | false => exact SoundM.ret (u := u) (by simp [Instr.lookup, run_underlying hu, hobj, checkKey_ok w hd hk hkok, Instr.findKey, run_underlying hd, e, hzr]) (hzrel _ _) hS
    · have hv' : ARel ι φ v y := by
        cases p
        · exact hv
        · exact hv.of_none
      cases ok with
      | true => exact SoundM.ret (u := .tuple #[v, .bool true]) (by simp [Instr.lookup, run_underlying hu, hobj, checkKey_ok w hd hk hkok, Instr.findKey, run_underlying hd, e]) (hpair hv') hS
      | false => exact SoundM.ret (u := v) (by simp [Instr.lookup, run_underlying hu, hobj, checkKey_ok w hd hk hkok, Instr.findKey, run_underlying hd, e]) hv' hS
  · cases hm
    split
    case h_2 => exact SoundM.fail hS
    rename_i z hz
    obtain ⟨u, hzr, hzrel⟩ := zeroAV_some hz w
    cases ok with
    | true => exact SoundM.ret (u := .tuple #[u, .bool false]) (by simp [Instr.lookup, run_underlying hu, checkKey_ok w hd hk hkok, Instr.findKey, run_underlying hd, Instr.findNow, hzr]) (hpair (hzrel _ _)) hS
    | false => exact SoundM.ret (u := u) (by simp [Instr.lookup, run_underlying hu, checkKey_ok w hd hk hkok, Instr.findKey, run_underlying hd, Instr.findNow, hzr]) (hzrel _ _) hS
  · exact SoundM.fail hS

theorem put_rel {ι ψ χ} {kt : TypeId} {d : TypeDesc} (hd : P.underlying kt = some d) {uk ux : Value} {k x : AV} (hk : keyOk P kt k = true) (h : ARel ι ψ uk k) (h' : ARel ι χ uk k) (hx : ARel ι χ ux x)
    (hψχ : ∀ {u y}, ARel ι ψ u y → ARel ι χ u y) (clk : Nat) :
    ∀ {ms : List MapEntry} {es es' : List (AV × AV)} {i : Nat}, ARels ι ψ (ms.map (·.key)) (es.map (·.1)) → ARels ι ψ (ms.map (·.val)) (es.map (·.2)) → putKV k x es = some es' →
    ∃ ms' : List MapEntry, ARels ι χ (ms'.map (·.key)) (es'.map (·.1)) ∧ ARels ι χ (ms'.map (·.val)) (es'.map (·.2)) ∧
      ((Instr.findNow d uk ms i = some none ∧ ms' = ms ++ [{ key := uk, val := ux, born := clk }]) ∨
        ∃ j v, Instr.findNow d uk ms i = some (some (i + j, v)) ∧ ∃ e, ms[j]? = some e ∧ Instr.sameNow d uk e.key = some true ∧ ms' = ms.modify j (fun e => { e with key := uk, val := ux })) := by
  intro ms
  induction ms with
  | nil =>
    intro es es' i h1 h2 hp
    cases es with
    | cons e es => have := h1.1; simp at this
    | nil =>
      simp [putKV] at hp
      subst hp
      exact ⟨[{ key := uk, val := ux, born := clk }], ARels.nil.cons h', ARels.nil.cons hx, .inl ⟨rfl, rfl⟩⟩
  | cons m ms ih =>
    intro es es' i h1 h2 hp
    cases es with
    | nil => have := h1.1; simp at this
    | cons e es =>
      obtain ⟨k', y⟩ := e
      simp only [List.map_cons] at h1 h2
      obtain ⟨u1, us1, e1, hu1, ht1⟩ := h1.uncons
      obtain ⟨u2, us2, e2, hu2, ht2⟩ := h2.uncons
      simp at e1 e2
      obtain ⟨rfl, rfl⟩ := e1
      obtain ⟨rfl, rfl⟩ := e2
      have up : ∀ {vs cs}, ARels ι ψ vs cs → ARels ι χ vs cs := fun h => ⟨h.1, fun i u c hu hc => hψχ (h.2 i u c hu hc)⟩
      simp only [putKV] at hp
      cases he : keyEq k k' with
      | none => rw [he] at hp; cases hp
      | some b =>
        have hn := keyEq_rel hd hk h hu1 he
        rw [he] at hp
        cases b with
        | true =>
          cases hp
          refine ⟨{ m with key := uk, val := ux } :: ms, (up ht1).cons h', (up ht2).cons hx, .inr ⟨0, m.val, by simp [Instr.findNow, hn], m, rfl, hn, ?_⟩⟩
          simp
        | false =>
          simp at hp
          obtain ⟨es'', hp', rfl⟩ := hp
          obtain ⟨ms', g1, g2, g3⟩ := ih (i := i + 1) ht1 ht2 hp'
          refine ⟨m :: ms', g1.cons (hψχ hu1), g2.cons (hψχ hu2), ?_⟩
          rcases g3 with ⟨g3, rfl⟩ | ⟨j, v, g3, e, ge, gs, rfl⟩
          · exact .inl ⟨by simp [Instr.findNow, hn, g3], rfl⟩
          · exact .inr ⟨j + 1, v, by simp [Instr.findNow, hn, g3]; omega, e, by simpa using ge, gs, by simp⟩

theorem keyStays (w : World) {d : TypeDesc} {u v : Value} (h : Instr.sameNow d u v = some true) : ∃ r, (Instr.keyThatStays v u).run P w = .ok r w ∧ r = u := by
  unfold Instr.sameNow at h
  split at h
  · split at h
    · rename_i hk; subst hk; simp at h; subst h
      exact ⟨_, by simp [Instr.keyThatStays, Instr.sameBits], rfl⟩
    · cases h
  · rename_i a b
    have e : (b == a) = true := by rw [beq_toListBytes]; simp [beq_toListBytes] at h; simp [h]
    exact ⟨_, by simp [Instr.keyThatStays, Instr.sameBits, e], rfl⟩
  · simp at h; subst h
    exact ⟨_, by simp [Instr.keyThatStays, Instr.sameBits], rfl⟩
  · cases h

theorem av_pure (T : Ty) (s : T.sem) : (T.av s).pure = true := by
  have hp := enc_pure T s
  unfold Ty.av
  cases T.isAgg with
  | true => simpa [AV.pure] using hp
  | false =>
    show (AV.the (T.enc s)).pure = true
    unfold AV.the
    split
    · rename_i c he; rw [he] at hp; simp [AV.pures] at hp; exact hp
    · rfl

theorem mfind_append {K : Ty} {x : K.sem} (e : MapEntry) : ∀ (ms : List MapEntry) (i : Nat), mfind K x (ms ++ [e]) i = match mfind K x ms i with
    | some r => some r
    | none => if K.keyIs x e.key = true then some (i + ms.length, e.val) else none
  | [], i => by simp [mfind]
  | m :: ms, i => by
    simp only [List.cons_append, mfind]
    split
    · rfl
    · rw [mfind_append e ms (i + 1)]
      simp only [List.length_cons]
      rw [show i + 1 + ms.length = i + (ms.length + 1) by omega]

theorem MRel.push {ι : Iota} {K V : Ty} {g : K.sem → Option V.sem} {ms : List MapEntry} {y : K.sem} {s : V.sem} {uk ux : Value} {clk : Nat} (hK : K.isKey = true) (hm1 : ∀ e ∈ ms, ∃ x, e.key = K.keyVal x)
    (hm2 : ∀ x, (mfind K x ms 0 = none ∧ g x = none) ∨ ∃ i u s, mfind K x ms 0 = some (i, u) ∧ g x = some s ∧ ARel ι Phi.none u (V.av s)) (hf : mfind K y ms 0 = none) (huk : uk = K.keyVal y) (hux : ARel ι Phi.none ux (V.av s)) :
    MRel ι K V (fun x => cond (K.keq x y) (some s) (g x)) (ms ++ [{ key := uk, val := ux, born := clk }]) := by
  refine ⟨fun e he => ?_, fun x => ?_⟩
  · rcases List.mem_append.1 he with he | he
    · exact hm1 e he
    · simp at he; subst he; exact ⟨y, huk⟩
  · rw [mfind_append]
    simp only [huk, keyIs_eq hK]
    by_cases hxy : x = y
    · subst hxy
      rw [hf]
      have hq : K.keq x x = true := (keq_iff hK).2 rfl
      right
      exact ⟨0 + ms.length, ux, s, by simp [hq], by simp [hq], hux⟩
    · have hq : K.keq x y = false := by
        cases h : K.keq x y with
        | false => rfl
        | true => exact absurd ((keq_iff hK).1 h) hxy
      have hq' : K.keq y x = false := by
        cases h : K.keq y x with
        | false => rfl
        | true => exact absurd ((keq_iff hK).1 h).symm hxy
      rcases hm2 x with ⟨e1, e2⟩ | ⟨i, u, s', e1, e2, hr⟩
      · left; simp [e1, e2, hq, hq']
      · right; exact ⟨i, u, s', by simp [e1], by simp [hq, e2], hr⟩

theorem mfind_modify {K : Ty} {y : K.sem} {ux : Value} (hK : K.isKey = true) : ∀ (ms : List MapEntry) (i m : Nat) (v : Value), (∀ e ∈ ms, ∃ x, e.key = K.keyVal x) → mfind K y ms i = some (m, v) →
    ∃ j en, m = i + j ∧ ms[j]? = some en ∧ en.key = K.keyVal y ∧ mfind K y (ms.modify j fun e => { e with key := K.keyVal y, val := ux }) i = some (m, ux) ∧
      ∀ x, x ≠ y → mfind K x (ms.modify j fun e => { e with key := K.keyVal y, val := ux }) i = mfind K x ms i
  | [], i, m, v, _, h => by cases h
  | e :: ms, i, m, v, hm, h => by
    obtain ⟨z, hz⟩ := hm e List.mem_cons_self
    simp only [mfind, hz, keyIs_eq hK] at h
    by_cases hzy : z = y
    · subst hzy
      have hq : K.keq z z = true := (keq_iff hK).2 rfl
      rw [if_pos hq] at h
      simp only [Option.some.injEq, Prod.mk.injEq] at h
      refine ⟨0, e, by omega, rfl, hz, ?_, fun x hx => ?_⟩
      · simp [mfind, keyIs_eq hK, hq, h.1]
      · have hq' : K.keq z x = false := by
          cases h : K.keq z x with
          | false => rfl
          | true => exact absurd ((keq_iff hK).1 h).symm hx
        simp [mfind, keyIs_eq hK, hq', hz]
    · have hq : K.keq z y = false := by
        cases h : K.keq z y with
        | false => rfl
        | true => exact absurd ((keq_iff hK).1 h) hzy
      rw [if_neg (by simp [hq])] at h
      obtain ⟨j, en, h1, h2, h3, h4, h5⟩ := mfind_modify hK ms (i + 1) m v (fun e he => hm e (List.mem_cons_of_mem _ he)) h
      refine ⟨j + 1, en, by omega, by simpa using h2, h3, ?_, fun x hx => ?_⟩
      · simp only [List.modify_succ_cons, mfind, hz, keyIs_eq hK]
        rw [if_neg (by simp [hq])]; exact h4
      · simp only [List.modify_succ_cons, mfind]
        rw [h5 x hx]

theorem mfind_none {K : Ty} {y : K.sem} (hK : K.isKey = true) : ∀ (ms : List MapEntry) (i : Nat), mfind K y ms i = none → ∀ e ∈ ms, e.key ≠ K.keyVal y
  | [], _, _, e, he => by simp at he
  | e0 :: ms, i, h, e, he => by
    simp only [mfind] at h
    split at h
    · cases h
    rename_i hq
    rcases List.mem_cons.1 he with rfl | he
    · intro hk
      rw [hk, keyIs_eq hK] at hq
      exact hq ((keq_iff hK).2 rfl)
    · exact mfind_none hK ms (i + 1) h e he
theorem Stmp.push {ms : List MapEntry} {clk : Nat} {uk ux : Value} (h : Stmp ms clk) (hk : ∀ e ∈ ms, e.key ≠ uk) : Stmp (ms ++ [{ key := uk, val := ux, born := clk }]) (clk + 1) := by
  obtain ⟨h1, h2, h3⟩ := h
  refine ⟨fun x hx => ?_, ?_, ?_⟩
  · rcases List.mem_append.1 hx with hx | hx
    · have := h1 x hx; omega
    · simp at hx; subst hx; simp
  · rw [List.map_append, List.nodup_append]
    refine ⟨h2, by simp, fun a ha b hb => ?_⟩
    obtain ⟨e, he, rfl⟩ := List.mem_map.1 ha
    simp at hb; subst hb
    have := h1 e he; omega
  · rw [List.map_append, List.nodup_append]
    refine ⟨h3, by simp, fun a ha b hb => ?_⟩
    obtain ⟨e, he, rfl⟩ := List.mem_map.1 ha
    simp at hb; subst hb
    exact hk e he
theorem Stmp.modify {ms : List MapEntry} {clk i : Nat} {en : MapEntry} {uk ux : Value} (h : Stmp ms clk) (hen : ms[i]? = some en) (hk : en.key = uk) : Stmp (ms.modify i fun e => { e with key := uk, val := ux }) clk := by
  have hm : (ms.modify i fun e => { e with key := uk, val := ux }).map (fun e => (e.key, e.born)) = ms.map fun e => (e.key, e.born) := by
    apply List.ext_getElem?
    intro q
    rw [List.getElem?_map, List.getElem?_map, List.getElem?_modify]
    by_cases hq : i = q
    · subst hq
      rw [hen]
      simp [hk]
    · cases ms[q]? <;> simp [hq]
  have hb := congrArg (List.map Prod.snd) hm
  have hkk := congrArg (List.map Prod.fst) hm
  simp only [List.map_map] at hb hkk
  have hb : (ms.modify i fun e => { e with key := uk, val := ux }).map (·.born) = ms.map (·.born) := hb
  have hkk : (ms.modify i fun e => { e with key := uk, val := ux }).map (·.key) = ms.map (·.key) := hkk
  obtain ⟨h1, h2, h3⟩ := h
  refine ⟨fun x hx => ?_, by rw [hb]; exact h2, by rw [hkk]; exact h3⟩
  have : x.born ∈ ms.map (·.born) := by rw [← hb]; exact List.mem_map.2 ⟨x, hx, rfl⟩
  obtain ⟨e, he, hee⟩ := List.mem_map.1 this
  rw [← hee]; exact h1 e he

theorem MRel.modify {ι : Iota} {K V : Ty} {g : K.sem → Option V.sem} {ms : List MapEntry} {y : K.sem} {s : V.sem} {ux v : Value} {i : Nat} (hK : K.isKey = true) (hm1 : ∀ e ∈ ms, ∃ x, e.key = K.keyVal x)
    (hm2 : ∀ x, (mfind K x ms 0 = none ∧ g x = none) ∨ ∃ i u s, mfind K x ms 0 = some (i, u) ∧ g x = some s ∧ ARel ι Phi.none u (V.av s)) (hf : mfind K y ms 0 = some (i, v)) (hux : ARel ι Phi.none ux (V.av s)) :
    ∃ j en, i = 0 + j ∧ ms[j]? = some en ∧ en.key = K.keyVal y ∧ MRel ι K V (fun x => cond (K.keq x y) (some s) (g x)) (ms.modify j fun e => { e with key := K.keyVal y, val := ux }) := by
  obtain ⟨j, en, h1, h2, h3, h4, h5⟩ := mfind_modify (ux := ux) hK ms 0 i v hm1 hf
  refine ⟨j, en, h1, h2, h3, fun e he => ?_, fun x => ?_⟩
  · obtain ⟨q, hq⟩ := List.getElem?_of_mem he
    rw [List.getElem?_modify] at hq
    cases hmq : ms[q]? with
    | none => rw [hmq] at hq; simp at hq
    | some e0 =>
      rw [hmq] at hq
      simp at hq
      split at hq
      · subst hq; exact ⟨y, rfl⟩
      · subst hq; exact hm1 _ (List.mem_of_getElem? hmq)
  · by_cases hxy : x = y
    · subst hxy
      right
      exact ⟨i, ux, s, h4, by simp [(keq_iff hK).2 rfl], hux⟩
    · have hq : K.keq x y = false := by
        cases h : K.keq x y with
        | false => rfl
        | true => exact absurd ((keq_iff hK).1 h) hxy
      rw [h5 x hxy]
      simp only [hq, cond_false]
      exact hm2 x

theorem sound_mapUpdateS {ι φ H w n} {t kt et : TypeId} {um uk ux : Value} {m k x : AV} (hu : P.underlying t = some (.map kt et)) (hm : ARel ι φ um m) (hk : ARel ι φ uk k) (hx : ARel ι φ ux x) :
    SoundM P ι φ H w n (do Instr.mapUpdate t um uk ux; pure undef) (mapUpdateS P kt m k x) := by
  intro hS
  unfold mapUpdateS
  split
  case h_2 => exact SoundM.fail hS
  rename_i id
  refine SoundM.get ?_ hS
  split
  case h_2 => exact SoundM.fail
  rename_i K V g hid
  split
  case isFalse => exact SoundM.fail
  rename_i hkS
  split
  case h_2 => exact SoundM.fail
  rename_i y s hy hs
  cases hm with
  | mp _ b off sz lim len hφ =>
  intro hS r H' n' hrun hfr
  simp only [AM.run, hid, Option.some.injEq, Prod.mk.injEq] at hrun
  obtain ⟨rfl, rfl, rfl⟩ := hrun
  obtain ⟨loc, hl, hb⟩ := hS.blk _ _ hid
  rw [hφ] at hl; cases hl
  obtain ⟨ms, clk, hheap, hK, ⟨hm1, hm2⟩, hst⟩ := hb
  obtain ⟨fs, _, _, hA, hF, _⟩ := keyS_some hkS
  have huk := unav_key hA hF hK hk hy
  have hobj : (getObj b).run P w = .ok (.map ms clk) w := by simp [getObj, Sem.run, hheap]
  have hlt : b < w.heap.size := (Array.getElem?_eq_some_iff.1 hheap).1
  have hfind := findKey_S (P := P) w hkS hK y ms.toList hm1
  have hck := fun em => checkKey_S (P := P) w hkS hK y em
  rw [← huk] at hfind hck
  have hux : ARel ι Phi.none ux (V.av s) := by
    rw [unav_av hs] at hx
    exact ARel.of_pure (av_pure V s) hx
  have hset : ∀ clk' : Nat, ∀ ms2 : Array MapEntry, (setObj b (.map ms2 clk')).run P w = .ok () { w with heap := w.heap.setIfInBounds b (.map ms2 clk') } := fun clk' ms2 => by
    simp [setObj, Sem.run, hheap]
  have fin : ∀ (clk' : Nat) (ms' : List MapEntry), (do Instr.mapUpdate t (.map (some b)) uk ux; pure undef : Sem Value).run P w = .ok undef { w with heap := w.heap.setIfInBounds b (.map ms'.toArray clk') } →
      MRel ι K V (fun x => cond (K.keq x y) (some s) (g x)) ms' → Stmp ms' clk' →
      Post P ι φ H w n (do Instr.mapUpdate t (.map (some b)) uk ux; pure undef) (.ok (.v undef)) (H.setAt id (some (.mf K V fun x => cond (K.keq x y) (some s) (g x)))) n := fun clk' ms' hrun hM hM2 => by
    have hne : ∀ k, k ≠ b → (w.heap.setIfInBounds b (.map ms'.toArray clk'))[k]? = w.heap[k]? := fun k hk => by rw [Array.getElem?_setIfInBounds, if_neg (by omega)]
    refine ⟨undef, _, φ, hrun, Ext.refl _ _, hS.write hid hφ hne ⟨ms'.toArray, clk', ?_, hK, by simpa using hM, by simpa using hM2⟩, .v _, Frm.write hS hid hφ hne rfl rfl rfl (by simp)⟩
    show (w.heap.setIfInBounds b (.map ms'.toArray clk'))[b]? = _
    simp [hlt]
  cases hf : mfind K y ms.toList 0 with
  | none =>
    rw [hf] at hfind
    refine fin (clk + 1) (ms.toList ++ [{ key := uk, val := ux, born := clk }]) ?_ (MRel.push hK hm1 hm2 hf huk hux) (hst.push (by rw [huk]; exact mfind_none hK _ _ hf))
    have hp : (ms.toList ++ [({ key := uk, val := ux, born := clk } : MapEntry)]).toArray = ms.push { key := uk, val := ux, born := clk } := by apply Array.ext'; simp
    rw [hp]
    simp [Instr.mapUpdate, run_underlying hu, hobj, hck, hfind, hset]
  | some iv =>
    obtain ⟨i, v⟩ := iv
    rw [hf] at hfind
    obtain ⟨j, en, hj, hen, hek, hM⟩ := MRel.modify (ux := ux) hK hm1 hm2 hf hux
    rw [Nat.zero_add] at hj
    subst hj
    refine fin clk (ms.toList.modify i fun e => { e with key := uk, val := ux }) ?_ (by rw [huk]; exact hM) (hst.modify hen (by rw [hek, huk]))
    have hstay := keyStays_S (P := P) w hkS hK y
    rw [← hek] at hstay
    have hek' : en.key = uk := by rw [hek, huk]
    have hp : (ms.toList.modify i fun e => { e with key := uk, val := ux }).toArray = ms.modify i fun e => { e with key := uk, val := ux } := by
      apply Array.ext'; simp
    rw [hp]
    have hen' : ms[i]? = some en := by simpa using hen
    rw [hek'] at hstay
    simp [Instr.mapUpdate, run_underlying hu, hobj, hck, hfind, hset, hen', hek', hstay]

theorem sound_mapUpdate {ι φ H w n} {t : TypeId} {um uk ux : Value} {m k x : AV} (hm : ARel ι φ um m) (hk : ARel ι φ uk k) (hx : ARel ι φ ux x) :
    SoundM P ι φ H w n (do Instr.mapUpdate t um uk ux; pure undef) (mapUpdateM P t m k x) := by
  intro hS
  unfold mapUpdateM
  split
  case h_2 => exact SoundM.fail hS
  rename_i kt et hmo
  have hu := mapO_some hmo
  split
  case isFalse => exact sound_mapUpdateS hu hm hk hx hS
  rename_i hkok
  obtain ⟨d, hd⟩ := keyOk_desc hkok
  split
  · rename_i id
    refine SoundM.get ?_ hS
    split
    case h_3 => exact SoundM.fail
    case h_2 =>
      rename_i K V g hid
      split
      case h_2 => exact SoundM.fail
      rename_i y s hy hs
      cases hm with
      | mp _ b off sz lim len hφ =>
      intro hS r H' n' hrun hfr
      simp only [AM.run, hid, Option.some.injEq, Prod.mk.injEq] at hrun
      obtain ⟨rfl, rfl, rfl⟩ := hrun
      obtain ⟨loc, hl, hb⟩ := hS.blk _ _ hid
      rw [hφ] at hl; cases hl
      obtain ⟨ms, clk, hheap, hK, ⟨hm1, hm2⟩, hst⟩ := hb
      obtain ⟨hA, hy'⟩ := unav_scalar hkok hy
      have huk := undo_key hK hA hk hy'
      have hobj : (getObj b).run P w = .ok (.map ms clk) w := by simp [getObj, Sem.run, hheap]
      have hlt : b < w.heap.size := (Array.getElem?_eq_some_iff.1 hheap).1
      have hfind := find_mf (P := P) hd hK hA hkok hy' ms.toList 0 hm1
      rw [← huk] at hfind
      have hux : ARel ι Phi.none ux (V.av s) := by
        rw [unav_av hs] at hx
        exact ARel.of_pure (av_pure V s) hx
      have hset : ∀ clk' : Nat, ∀ ms2 : Array MapEntry, (setObj b (.map ms2 clk')).run P w = .ok () { w with heap := w.heap.setIfInBounds b (.map ms2 clk') } := fun clk' ms2 => by
        simp [setObj, Sem.run, hheap]
      have fin : ∀ (clk' : Nat) (ms' : List MapEntry), (do Instr.mapUpdate t (.map (some b)) uk ux; pure undef : Sem Value).run P w = .ok undef { w with heap := w.heap.setIfInBounds b (.map ms'.toArray clk') } →
          MRel ι K V (fun x => cond (K.keq x y) (some s) (g x)) ms' → Stmp ms' clk' →
          Post P ι φ H w n (do Instr.mapUpdate t (.map (some b)) uk ux; pure undef) (.ok (.v undef)) (H.setAt id (some (.mf K V fun x => cond (K.keq x y) (some s) (g x)))) n := fun clk' ms' hrun hM hM2 => by
        have hne : ∀ k, k ≠ b → (w.heap.setIfInBounds b (.map ms'.toArray clk'))[k]? = w.heap[k]? := fun k hk => by rw [Array.getElem?_setIfInBounds, if_neg (by omega)]
        refine ⟨undef, _, φ, hrun, Ext.refl _ _, hS.write hid hφ hne ⟨ms'.toArray, clk', ?_, hK, by simpa using hM, by simpa using hM2⟩, .v _, Frm.write hS hid hφ hne rfl rfl rfl (by simp)⟩
        show (w.heap.setIfInBounds b (.map ms'.toArray clk'))[b]? = _
        simp [hlt]
      cases hf : mfind K y ms.toList 0 with
      | none =>
        rw [hf] at hfind
        refine fin (clk + 1) (ms.toList ++ [{ key := uk, val := ux, born := clk }]) ?_ (MRel.push hK hm1 hm2 hf huk hux) (hst.push (by rw [huk]; exact mfind_none hK _ _ hf))
        have hp : (ms.toList ++ [({ key := uk, val := ux, born := clk } : MapEntry)]).toArray = ms.push { key := uk, val := ux, born := clk } := by apply Array.ext'; simp
        rw [hp]
        simp [Instr.mapUpdate, run_underlying hu, hobj, checkKey_ok w hd hk hkok, Instr.findKey, run_underlying hd, hfind, hset]
      | some iv =>
        obtain ⟨i, v⟩ := iv
        rw [hf] at hfind
        obtain ⟨j, en, hj, hen, hek, hM⟩ := MRel.modify (ux := ux) hK hm1 hm2 hf hux
        rw [Nat.zero_add] at hj
        subst hj
        refine fin clk (ms.toList.modify i fun e => { e with key := uk, val := ux }) ?_ (by rw [huk]; exact hM) (hst.modify hen (by rw [hek, huk]))
        have hsame : Instr.sameNow d uk en.key = some true := by
          rw [hek, huk, sameNow_key (P := P) hd hK hA hkok hy']
          simp [keq_iff hK]
        obtain ⟨r, hr, hr'⟩ := keyStays (P := P) w hsame
        have hp : (ms.toList.modify i fun e => { e with key := uk, val := ux }).toArray = ms.modify i fun e => { e with key := uk, val := ux } := by
          apply Array.ext'; simp
        rw [hp]
        have hen' : ms[i]? = some en := by simpa using hen
        subst hr'
        simp [Instr.mapUpdate, run_underlying hu, hobj, checkKey_ok w hd hk hkok, Instr.findKey, run_underlying hd, hfind, hset, hen', hr]
    rename_i p es hid
    cases hm with
    | mp _ b off sz lim len hφ =>
    intro hS
    obtain ⟨loc, hl, hb⟩ := hS.blk _ _ hid
    rw [hφ] at hl; cases hl
    obtain ⟨ms, clk, hheap, h1, h2⟩ := hb
    split
    case h_2 => exact SoundM.fail hS
    rename_i es' hput
    intro r H' n' hrun hfr
    simp only [AM.run, hid, Option.some.injEq, Prod.mk.injEq] at hrun
    obtain ⟨rfl, rfl, rfl⟩ := hrun
    have hobj : (getObj b).run P w = .ok (.map ms clk) w := by simp [getObj, Sem.run, hheap]
    have hlt : b < w.heap.size := (Array.getElem?_eq_some_iff.1 hheap).1
    have hkp : ∀ q, ARel ι (pφ q φ) uk k := fun q => pφ_pure hk fun _ => keyOk_pure hkok
    have hxp : ARel ι (pφ (p && x.pure) φ) ux x := pφ_pure hx fun h => by simp at h; exact h.2
    obtain ⟨ms', g1, g2, g3⟩ := put_rel (P := P) hd hkok (hkp p) (hkp _) hxp (fun h => pφ_and h) clk (i := 0) h1 h2 hput
    have hset : ∀ clk' : Nat, ∀ ms2 : Array MapEntry, (setObj b (.map ms2 clk')).run P w = .ok () { w with heap := w.heap.setIfInBounds b (.map ms2 clk') } := fun clk' ms2 => by
      simp [setObj, Sem.run, hheap]
    have fin : ∀ clk', (do Instr.mapUpdate t (.map (some b)) uk ux; pure undef : Sem Value).run P w = .ok undef { w with heap := w.heap.setIfInBounds b (.map ms'.toArray clk') } →
        Post P ι φ H w n (do Instr.mapUpdate t (.map (some b)) uk ux; pure undef) (.ok (.v undef)) (H.setAt id (some (.mp (p && x.pure) es'))) n := fun clk' hrun => by
      have hne : ∀ k, k ≠ b → (w.heap.setIfInBounds b (.map ms'.toArray clk'))[k]? = w.heap[k]? := fun k hk => by rw [Array.getElem?_setIfInBounds, if_neg (by omega)]
      refine ⟨undef, _, φ, hrun, Ext.refl _ _, hS.write hid hφ hne ⟨ms'.toArray, clk', ?_, by simpa using g1, by simpa using g2⟩, .v _, Frm.write hS hid hφ hne rfl rfl rfl (by simp)⟩
      show (w.heap.setIfInBounds b (.map ms'.toArray clk'))[b]? = _
      simp [hlt]
    rcases g3 with ⟨e, rfl⟩ | ⟨j, v, e, en, hen, hsame, rfl⟩
    · refine fin (clk + 1) ?_
      have hp : (ms.toList ++ [({ key := uk, val := ux, born := clk } : MapEntry)]).toArray = ms.push { key := uk, val := ux, born := clk } := by apply Array.ext'; simp
      rw [hp]
      simp [Instr.mapUpdate, run_underlying hu, hobj, checkKey_ok w hd hk hkok, Instr.findKey, run_underlying hd, e, hset]
    · refine fin clk ?_
      obtain ⟨r, hr, hr'⟩ := keyStays (P := P) w hsame
      have hp : (ms.toList.modify j fun e => { e with key := uk, val := ux }).toArray = ms.modify j fun e => { e with key := uk, val := ux } := by
        apply Array.ext'; simp
      rw [hp]
      have hen' : ms[j]? = some en := by simpa using hen
      simp only [Nat.zero_add] at e
      subst hr'
      simp [Instr.mapUpdate, run_underlying hu, hobj, checkKey_ok w hd hk hkok, Instr.findKey, run_underlying hd, e, hset, hen', hr]
  · exact SoundM.fail hS

theorem sound_newMap {ι φ H w n} {t : TypeId} {blk : AB} (hblk : ∀ (φ' : Phi) (w' : World) b o s l k, w'.heap[b]? = some (.map #[] 0) → BRel ι φ' w' (.at b o s l k) blk) : SoundM P ι φ H w n (Instr.makeMap t none) (.new blk fun id => .ret (.mp id)) := by
  intro hS r H' n' h hf
  simp only [AM.run, Option.some.injEq, Prod.mk.injEq] at h
  obtain ⟨rfl, rfl, rfl⟩ := h
  have hn : φ n = .none := hf n (Nat.le_refl _) (Nat.lt_succ_self _)
  have hrun : (Instr.makeMap t none).run P w = .ok (.map (some w.heap.size)) (w.alloc (.map #[] 0)) := by simp [Instr.makeMap, newObj, Sem.run]
  have hold : ∀ k, k < w.heap.size → (w.alloc (.map #[] 0)).heap[k]? = w.heap[k]? := fun k hk => by show (w.heap.push _)[k]? = _; rw [Array.getElem?_push, if_neg (by omega)]
  refine ⟨_, _, updφ φ n (.at w.heap.size 0 0 0 0), hrun, Ext.upd _ hn, ?_, .mp n _ _ _ _ _ (updφ_same _ _ _), ?_⟩
  · refine hS.add hn (fun k hk _ => hold k hk) (fun b o s l n e => ?_) ?_
    · cases e
      refine ⟨fun ⟨id, blk, o', s', l', n', h1, h2⟩ => Nat.lt_irrefl _ (hS.lt h1 h2), ?_⟩
      cases h : ι w.heap.size with
      | none => rfl
      | some o => exact absurd (Array.getElem?_eq_some_iff.1 (hS.imm _ o h)).1 (Nat.lt_irrefl _)
    · exact hblk _ _ _ _ _ _ _ (by show (w.heap.push _)[w.heap.size]? = _; simp)
  · exact Frm.add hS hn hold (fun b o s l n e => by cases e; exact Nat.le_refl _) rfl rfl rfl (by simp)

theorem sound_makeMap {ι φ H w n} {t : TypeId} : SoundM P ι φ H w n (Instr.makeMap t none) (makeMapM P t) := by
  unfold makeMapM
  split
  · rename_i K V hKV
    refine sound_newMap fun φ' w' b o s l k hb => ⟨#[], 0, hb, ?_, ⟨fun e he => by simp at he, fun x => .inl ⟨rfl, rfl⟩⟩, by simp [Stmp]⟩
    simp only [Option.bind_eq_some_iff] at hKV
    obtain ⟨x, _, h⟩ := hKV
    split at h
    · split at h
      · rename_i hk; cases h; exact hk
      · cases h
    · cases h
  · exact sound_newMap fun φ' w' b o s l k hb => ⟨#[], 0, hb, ARels.nil, ARels.nil⟩
end Go.AMach
