/- The abstract machine: slices cut, addresses of parts, parts, indexes. -/
import Derived.Test.YtbkbifpjckippaaAm7
namespace Go.AMach
set_option linter.unusedVariables false
set_option linter.unusedSimpArgs false
set_option linter.unnecessarySimpa false
set_option linter.unusedSectionVars false
variable [Sites]
open Go.RowKit
set_option linter.unusedVariables false
set_option linter.unusedSimpArgs false
variable {P : Program}

def OR (ι : Iota) (φ : Phi) : Option Value → Option AV → Prop
  | none, none => True
  | some u, some x => ARel ι φ u x
  | _, _ => False

theorem bound_rel {ι φ} {o : Option Value} {ox : Option AV} {d n : Int} (h : OR ι φ o ox) (hb : bound ox d = some n) : (o = none ∧ ox = none ∧ n = d) ∨ ∃ k, o = some (.int k n) ∧ ox.isSome := by
  cases o with
  | none => cases ox with
    | none => simp [bound] at hb; exact .inl ⟨rfl, rfl, hb.symm⟩
    | some x => exact h.elim
  | some u => cases ox with
    | none => exact h.elim
    | some x =>
      have h : ARel ι φ u x := h
      cases h with
      | v => cases u <;> simp [bound] at hb; subst hb; exact .inr ⟨_, rfl, rfl⟩
      | _ => simp [bound] at hb

theorem run_sliceB (w : World) (k : IntKind) (i : Int) (y : Nat) (code : BoundsCode) (h0 : 0 ≤ i) (h1 : i ≤ y) : (Instr.sliceBound (.int k i) y code).run P w = .ok i.toNat w := by
  simp [Instr.sliceBound, asIntOf, h0, h1]

theorem run_bounds (w : World) (isS : Bool) (len cap : Nat) {lo hi mx : Option Value} {L H M : Int} (hl : (lo = none ∧ L = 0) ∨ ∃ k, lo = some (.int k L))
    (hh : (hi = none ∧ mx = none ∧ H = len) ∨ ∃ k, hi = some (.int k H)) (hm : (mx = none ∧ M = cap) ∨ ∃ k, mx = some (.int k M)) (h0 : 0 ≤ L) (h1 : L ≤ H) (h2 : H ≤ M) (h3 : M ≤ cap) :
    (Instr.sliceBounds isS len cap lo hi mx).run P w = .ok (L.toNat, H.toNat, M.toNat) w := by
  have eL : (L.toNat : Int) = L := Int.toNat_of_nonneg h0
  have eH : (H.toNat : Int) = H := Int.toNat_of_nonneg (by omega)
  have eM : (M.toNat : Int) = M := Int.toNat_of_nonneg (by omega)
  rcases hl with ⟨rfl, rfl⟩ | ⟨k1, rfl⟩ <;> rcases hh with ⟨rfl, rfl, rfl⟩ | ⟨k2, rfl⟩ <;> rcases hm with ⟨hm, rfl⟩ | ⟨k3, hm⟩ <;> (try cases hm) <;>
    simp only [Instr.sliceBounds, Sem.run_bind, Sem.run_pure, Result.andThen_ok] <;>
    (repeat' (first | rfl | (rw [run_sliceB]; simp only [Result.andThen_ok]) | omega | assumption)) <;> (try simp) <;> omega

theorem Addr.add_at (b o n : Nat) : (⟨b, o, none⟩ : Addr).add n = ⟨b, o + n, none⟩ := Addr.add_mid b o n

theorem sound_slice {ι φ H w n} {t : TypeId} {u : Value} {x : AV} {lo hi mx : Option Value} {lx hx mxx : Option AV} (h : ARel ι φ u x) (h1 : OR ι φ lo lx) (h2 : OR ι φ hi hx) (h3 : OR ι φ mx mxx) :
    SoundM P ι φ H w n (Instr.sliceAt t u lo hi mx) (sliceM P t x lx hx mxx) := by
  intro hS
  cases h with
  | v =>
    cases u with
    | string s =>
      simp only [sliceM]
      split
      case h_2 => exact SoundM.fail hS
      rename_i l h hst hbl hbh
      refine SoundM.cond (fun hc => ?_) hS
      obtain ⟨c0, c1, c2⟩ := hc
      intro hS
      have hu := strO_true hst
      cases mx with
      | some _ => exact h3.elim
      | none =>
        have hb := run_bounds (P := P) w false s.size s.size (lo := lo) (hi := hi) (mx := none) (L := l) (H := h) (M := s.size)
          (by rcases bound_rel h1 hbl with ⟨e, _, e'⟩ | ⟨k, e, _⟩; exact .inl ⟨e, e'⟩; exact .inr ⟨k, e⟩)
          (by rcases bound_rel h2 hbh with ⟨e, _, e'⟩ | ⟨k, e, _⟩; exact .inl ⟨e, rfl, e'⟩; exact .inr ⟨k, e⟩) (.inl ⟨rfl, rfl⟩) c0 c1 c2 (by omega)
        refine SoundM.ret (u := .string (s.extract l.toNat h.toNat)) ?_ (.v _) hS
        simp [Instr.sliceAt, Instr.slice, run_underlying hu, hb]
    | slice a len cap =>
      cases a with
      | some a => exact SoundM.fail hS
      | none =>
        cases len with
        | succ _ => exact SoundM.fail hS
        | zero =>
          cases cap with
          | succ _ => exact SoundM.fail hS
          | zero =>
            simp only [sliceM]
            split
            case h_2 => exact SoundM.fail hS
            rename_i sz l h m hsz hbl hbh hbm
            split
            case isFalse => exact SoundM.fail hS
            rename_i c4
            refine SoundM.cond (fun hc => ?_) hS
            obtain ⟨rfl, rfl, rfl⟩ := hc
            intro hS
            simp only [Option.bind_eq_some_iff] at hsz
            obtain ⟨e, he, hse⟩ := hsz
            have hu := elemO_some he
            have hb := run_bounds (P := P) w true 0 0 (lo := lo) (hi := hi) (mx := mx) (L := 0) (H := 0) (M := 0)
              (by rcases bound_rel h1 hbl with ⟨e, _, e'⟩ | ⟨k, e, _⟩; exact .inl ⟨e, rfl⟩; exact .inr ⟨k, e⟩)
              (by
                rcases bound_rel h2 hbh with ⟨e, e2, e'⟩ | ⟨k, e, _⟩
                · rcases bound_rel h3 hbm with ⟨f, f2, f'⟩ | ⟨k, f, f2⟩
                  · exact .inl ⟨e, f, rfl⟩
                  · subst e2; simp [f2] at c4; simp [c4] at f2
                · exact .inr ⟨k, e⟩)
              (by rcases bound_rel h3 hbm with ⟨e, _, e'⟩ | ⟨k, e, _⟩; exact .inl ⟨e, rfl⟩; exact .inr ⟨k, e⟩) (by omega) (by omega) (by omega) (by omega)
            refine SoundM.ret (u := .slice none 0 0) ?_ (.v _) hS
            simp [Instr.sliceAt, Instr.slice, run_underlying hu, hb, run_sizeOf hse]
    | _ => exact SoundM.fail hS
  | sl a cap tg sz es hc ht hw b off cs T F us hm g1 g2 g3 =>
    simp only [sliceM]
    split
    case h_2 => exact SoundM.fail hS
    rename_i s l h hsz hbl hbh
    simp only [Option.bind_eq_some_iff] at hsz
    obtain ⟨e, he, hse⟩ := hsz
    have hu := elemO_some he
    cases hbm : bound mxx es.len with
    | none => exact SoundM.fail hS
    | some m =>
    simp only []
    split
    case isFalse => exact SoundM.fail hS
    rename_i hcd
    obtain ⟨rfl, c4⟩ := hcd
    refine SoundM.cond (fun hcd => ?_) hS
    obtain ⟨c0, c1, c2, c3⟩ := hcd
    intro hS
    let M : Int := if mxx.isSome then m else cap
    have hb := run_bounds (P := P) w true es.len cap (lo := lo) (hi := hi) (mx := mx) (L := l) (H := h) (M := M)
      (by rcases bound_rel h1 hbl with ⟨e, _, e'⟩ | ⟨k, e, _⟩; exact .inl ⟨e, e'⟩; exact .inr ⟨k, e⟩)
      (by
        rcases bound_rel h2 hbh with ⟨e, e2, e'⟩ | ⟨k, e, _⟩
        · rcases bound_rel h3 hbm with ⟨f, f2, f'⟩ | ⟨k, f, f2⟩
          · exact .inl ⟨e, f, e'⟩
          · subst e2; simp at c4; simp [c4] at f2
        · exact .inr ⟨k, e⟩)
      (by rcases bound_rel h3 hbm with ⟨e, e2, e'⟩ | ⟨k, e, e2⟩
          · exact .inl ⟨e, by simp [M, e2]⟩
          · exact .inr ⟨k, by simp [M, e2, e]⟩) c0 c1 (by show h ≤ M; simp only [M]; split <;> omega) (by show M ≤ cap; simp only [M]; split <;> omega)
    have hMh : h ≤ M := by show h ≤ M; simp only [M]; split <;> omega
    have hMc : M ≤ cap := by show M ≤ cap; simp only [M]; split <;> omega
    have hlen : (Rows.cut es l.toNat (h.toNat - l.toNat)).len = h.toNat - l.toNat := len_cut _ _ _
    have htoL := toL_cut (r := es) (l := l.toNat) (n := h.toNat - l.toNat) (by omega)
    have fin : ∀ tg' : Bool, (tg' = true → M = h) → SoundM P ι φ H w n (Instr.sliceAt t (.slice a es.len cap) lo hi mx) (.ret (.sl tg' sz (es.cut l.toNat (h.toNat - l.toNat)))) := fun tg' htt => by
      refine SoundM.ret (u := .slice (if M.toNat = l.toNat then a else a.map (·.add (l.toNat * sz))) (h.toNat - l.toNat) (M.toNat - l.toNat)) ?_ ?_
      · simp [Instr.sliceAt, Instr.slice, run_underlying hu, hb, run_sizeOf hse]
      · have hsub : ∀ (e : Nat) c, (Rows.cut es l.toNat (h.toNat - l.toNat)).toL[e]? = some c → es.toL[l.toNat + e]? = some c := fun e c hc => by
          rw [htoL, List.getElem?_take] at hc
          split at hc
          · rw [List.getElem?_drop] at hc; exact hc
          · cases hc
        have := ARel.sl (ι := ι) (φ := φ) (if M.toNat = l.toNat then a else a.map (·.add (l.toNat * sz))) (M.toNat - l.toNat)
          tg' sz (Rows.cut es l.toNat (h.toNat - l.toNat)) (by rw [hlen]; omega) (fun htt' => ?_)
          (fun c hc => by rw [htoL] at hc; exact hw c (List.mem_of_mem_drop (List.mem_of_mem_take hc))) b (off + l.toNat * sz) cs T F (fun e j => us (l.toNat + e) j) (fun hne => ?_)
          (fun e j c x hc hx => by
            have := g1 (l.toNat + e) j c x (hsub e c hc) hx
            rw [Nat.add_mul] at this
            rw [← this]; congr 1; omega)
          (fun e j c x hc hx => g2 _ j c x (hsub e c hc) hx) (fun e j c x hc hx => g3 _ j c x (hsub e c hc) hx)
        · rw [hlen] at this; exact this
        · rw [hlen, htt htt']
        · have hlt : l < h := by
            rcases Int.lt_or_le l h with hh | hh
            · exact hh
            · exfalso; apply hne; rw [hlen]; omega
          have hne' : es.len ≠ 0 := by omega
          obtain ⟨e1, e2⟩ := hm hne'
          refine ⟨?_, e2⟩
          rw [if_neg (by omega), e1]
          simp [Addr.add_at]
    revert hS
    show SoundM P ι φ H w n _ _
    cases hmx : mxx.isSome with
    | true =>
      simp only [cond_true]
      refine SoundM.br (fun hb => fin true fun _ => ?_) (fun _ => fin false fun h' => by cases h')
      have : m = h := by simpa using hb
      show M = h
      simp only [M, hmx, if_true]; exact this
    | false =>
      simp only [cond_false]
      refine fin _ fun htt => ?_
      have hno : mxx = none := by simpa using hmx
      simp at htt
      have := ht htt.1
      show M = h
      simp only [M, hno]; simp; omega
  | hs tg id e k a cap loc hφ hc ht hm =>
    simp only [sliceM]
    split
    case h_2 => exact SoundM.fail hS
    rename_i s l h hsz hbl hbh
    simp only [Option.bind_eq_some_iff] at hsz
    obtain ⟨el, he, hse⟩ := hsz
    have hu := elemO_some he
    cases hbm : bound mxx k with
    | none => exact SoundM.fail hS
    | some m =>
    simp only []
    split
    case isFalse => exact SoundM.fail hS
    rename_i c4
    refine SoundM.cond (fun hcd => ?_) hS
    obtain ⟨c0, c1, c2, c3⟩ := hcd
    intro hS
    refine SoundM.get ?_ hS
    cases hid : H.at id with
    | none => exact SoundM.fail
    | some blk =>
    cases blk with
    | mp p es => exact SoundM.fail
    | mf K V g => exact SoundM.fail
    | lp bz k caps => exact SoundM.fail
    | row p sz es =>
    simp only []
    split
    case isFalse => exact SoundM.fail
    rename_i hszs
    subst hszs
    let M : Int := if mxx.isSome then m else cap
    have hb := run_bounds (P := P) w true k cap (lo := lo) (hi := hi) (mx := mx) (L := l) (H := h) (M := M)
      (by rcases bound_rel h1 hbl with ⟨e, _, e'⟩ | ⟨k, e, _⟩; exact .inl ⟨e, e'⟩; exact .inr ⟨k, e⟩)
      (by
        rcases bound_rel h2 hbh with ⟨e, e2, e'⟩ | ⟨k, e, _⟩
        · rcases bound_rel h3 hbm with ⟨f, f2, f'⟩ | ⟨k, f, f2⟩
          · exact .inl ⟨e, f, e'⟩
          · subst e2; simp at c4; simp [c4] at f2
        · exact .inr ⟨k, e⟩)
      (by rcases bound_rel h3 hbm with ⟨e, e2, e'⟩ | ⟨k, e, e2⟩
          · exact .inl ⟨e, by simp [M, e2]⟩
          · exact .inr ⟨k, by simp [M, e2, e]⟩) c0 c1 (by show h ≤ M; simp only [M]; split <;> omega) (by show M ≤ cap; simp only [M]; split <;> omega)
    have hMh : h ≤ M := by show h ≤ M; simp only [M]; split <;> omega
    have hMc : M ≤ cap := by show M ≤ cap; simp only [M]; split <;> omega
    have fin : ∀ tg' : Bool, (tg' = true → M = h) → SoundM P ι φ H w n (Instr.sliceAt t (.slice a k cap) lo hi mx) (.ret (.hs tg' id (e + l.toNat) (h.toNat - l.toNat))) := fun tg' htt => by
      refine SoundM.ret (u := .slice (if M.toNat = l.toNat then a else a.map (·.add (l.toNat * sz))) (h.toNat - l.toNat) (M.toNat - l.toNat)) ?_ ?_
      · simp [Instr.sliceAt, Instr.slice, run_underlying hu, hb, run_sizeOf hse]
      · refine .hs _ id _ _ _ _ loc hφ (by omega) (fun h' => by rw [htt h']) ?_
        by_cases hz : M.toNat = l.toNat
        · left; omega
        · right
          rcases hm with hm | ⟨b, off, sz', lim, len, rfl, e1, e2, e3⟩
          · omega
          · obtain ⟨loc', hl', hbl'⟩ := hS.blk id _ hid
            rw [hφ] at hl'; cases hl'
            obtain ⟨⟨rfl, rfl⟩, _⟩ := hbl'
            refine ⟨b, off, sz', lim, _, rfl, ?_, by omega, by omega⟩
            rw [if_neg hz, e1]
            simp [Addr.add_at, Nat.add_mul, Nat.add_assoc]
    cases hmx : mxx.isSome with
    | true =>
      simp only [cond_true]
      refine SoundM.br (fun hb => fin true fun _ => ?_) (fun _ => fin false fun h' => by cases h')
      have : m = h := by simpa using hb
      show M = h
      simp only [M, hmx, if_true]; exact this
    | false =>
      simp only [cond_false]
      refine fin _ fun htt => ?_
      have hno : mxx = none := by simpa using hmx
      simp at htt
      have := ht htt.1
      show M = h
      simp only [M, hno]; simp; omega
  | ptr id e j b o sz0 lim ln hφ he =>
    simp only [sliceM]
    split
    case h_2 => exact SoundM.fail hS
    rename_i len s har
    simp only [Option.bind_eq_some_iff, Option.map_eq_some_iff] at har
    obtain ⟨⟨n0, el⟩, har, s', hse, hh⟩ := har
    have hh1 : n0 = len := congrArg Prod.fst hh
    have hh2 : s' = s := congrArg Prod.snd hh
    have hse : szO P el = some s' := hse
    rw [hh2] at hse
    rw [hh1] at har
    have hu := arrO_some har
    split
    case h_2 => exact SoundM.fail hS
    rename_i l h hbl hbh
    cases hbm : bound mxx len with
    | none => exact SoundM.fail hS
    | some m =>
    simp only []
    split
    case isFalse => exact SoundM.fail hS
    rename_i c4
    refine SoundM.get ?_ hS
    cases hid : H.at id with
    | none => exact SoundM.fail
    | some blk =>
    cases blk with
    | mp p es => exact SoundM.fail
    | mf K V g => exact SoundM.fail
    | lp bz k caps => exact SoundM.fail
    | row p sz es =>
    simp only []
    split
    case isFalse => exact SoundM.fail
    rename_i hszs
    obtain ⟨rfl, rfl⟩ := hszs
    refine SoundM.cond (fun hcd => ?_)
    obtain ⟨c0, c1, c2, c3, c5⟩ := hcd
    let M : Int := if mxx.isSome then m else len
    have hb := run_bounds (P := P) w false len len (lo := lo) (hi := hi) (mx := mx) (L := l) (H := h) (M := M)
      (by rcases bound_rel h1 hbl with ⟨e, _, e'⟩ | ⟨k, e, _⟩; exact .inl ⟨e, e'⟩; exact .inr ⟨k, e⟩)
      (by
        rcases bound_rel h2 hbh with ⟨e, e2, e'⟩ | ⟨k, e, _⟩
        · rcases bound_rel h3 hbm with ⟨f, f2, f'⟩ | ⟨k, f, f2⟩
          · exact .inl ⟨e, f, e'⟩
          · subst e2; simp at c4; simp [c4] at f2
        · exact .inr ⟨k, e⟩)
      (by rcases bound_rel h3 hbm with ⟨e, e2, e'⟩ | ⟨k, e, e2⟩
          · exact .inl ⟨e, by simp [M, e2]⟩
          · exact .inr ⟨k, by simp [M, e2, e]⟩) c0 c1 (by show h ≤ M; simp only [M]; split <;> omega) (by show M ≤ len; simp only [M]; split <;> omega)
    have hMh : h ≤ M := by show h ≤ M; simp only [M]; split <;> omega
    have hMc : M ≤ len := by show M ≤ len; simp only [M]; split <;> omega
    obtain ⟨loc', hl', hbl'⟩ := hS.blk id _ hid
    rw [hφ] at hl'; cases hl'
    obtain ⟨⟨rfl, rfl⟩, _, hlim, _⟩ := hbl'
    refine SoundM.ret (u := .slice (some (if M.toNat = l.toNat then (⟨b, o + e * sz0 + 0, none⟩ : Addr) else (⟨b, o + e * sz0 + 0, none⟩ : Addr).add (l.toNat * sz0))) (h.toNat - l.toNat) (M.toNat - l.toNat)) ?_ ?_
    · simp [Instr.sliceAt, run_underlying hu, hb, run_sizeOf hse, Instr.sureAddr]
    · refine .hs _ id _ _ _ _ _ hφ (by omega) (fun htt => ?_) ?_
      · have : M = h := by
          cases hmx : mxx with
          | none =>
            simp [hmx] at htt
            simp only [M, hmx]; simp; omega
          | some _ => simp [hmx] at htt; simp only [M, hmx]; simp; omega
        rw [this]
      · by_cases hz : M.toNat = l.toNat
        · left; omega
        · right
          refine ⟨b, o, sz0, lim, _, rfl, ?_, by omega, by omega⟩
          rw [if_neg hz]
          simp [Addr.add_at, Nat.add_mul, Nat.add_assoc]
  | _ => exact SoundM.fail hS

/-! ### Addresses of parts -/
theorem sound_fieldAddr {ι φ H w n} {t : TypeId} {f : Nat} {u : Value} {x : AV} (h : ARel ι φ u x) : SoundM P ι φ H w n (Instr.fieldAt t u f) (fieldAddrM P t x f) := by
  intro hS
  unfold fieldAddrM
  split
  case h_2 => exact SoundM.fail hS
  rename_i ft off hfo
  obtain ⟨fs, fx, hu, hfx, rfl, rfl⟩ := fieldO_some hfo
  split
  case h_2 => exact SoundM.fail hS
  rename_i m hsz
  have hrun : ∀ a : Addr, (Instr.fieldAt t (.pointer (some a)) f).run P w = .ok (.pointer (some (a.add fx.offset))) w := fun a => by
    simp [Instr.fieldAt, run_underlying hu, hfx, Instr.sureAddr, fieldPlace, run_sizeOf hsz]
  cases h with
  | ptr id e j b o sz lim len hφ he =>
    refine SoundM.ret (hrun _) ?_ hS
    rw [Addr.add_at, Nat.add_assoc]
    exact .ptr id e _ b o sz lim len hφ he
  | rp sz es e j he hw b o cs T F us hm h1 h2 h3 =>
    refine SoundM.ret (hrun _) ?_ hS
    rw [Addr.add_at, Nat.add_assoc]
    exact .rp sz es e _ he hw b o cs T F us hm h1 h2 h3
  | _ => exact SoundM.fail hS

theorem sound_indexAddr {ι φ H w n} {t : TypeId} {u v : Value} {x y : AV} (h : ARel ι φ u x) (k : ARel ι φ v y) : SoundM P ι φ H w n (Instr.indexAt t u v) (indexAddrM P t x y) := by
  intro hS
  unfold indexAddrM
  split
  case h_2 => exact SoundM.fail hS
  rename_i kd i
  cases k
  cases h with
  | hs tg id e m a cap loc hφ hc ht hm =>
    simp only []
    cases hsz : (elemO P t).bind (szO P) with
    | none => exact SoundM.fail hS
    | some s =>
    simp only [Option.bind_eq_some_iff] at hsz
    obtain ⟨el, he, hse⟩ := hsz
    have hu := elemO_some he
    simp only []
    refine SoundM.cond (fun hi => ?_) hS
    intro hS
    refine SoundM.get ?_ hS
    cases hid : H.at id with
    | none => exact SoundM.fail
    | some blk =>
    cases blk with
    | mp p es => exact SoundM.fail
    | mf K V g => exact SoundM.fail
    | lp bz k caps => exact SoundM.fail
    | row p sz es =>
    simp only []
    split
    case isFalse => exact SoundM.fail
    rename_i hszs
    subst hszs
    rcases hm with hm | ⟨b, off, sz', lim, len, rfl, rfl, e2, e3⟩
    · omega
    obtain ⟨loc', hl', hbl'⟩ := hS.blk id _ hid
    rw [hφ] at hl'; cases hl'
    obtain ⟨⟨rfl, rfl⟩, _⟩ := hbl'
    refine SoundM.ret (u := .pointer (some ((⟨b, off + e * sz', none⟩ : Addr).add (i.toNat * sz')))) ?_ ?_
    · simp [Instr.indexAt, asIntOf, run_underlying hu, hi.1, hi.2, run_sizeOf hse]
    · rw [Nat.add_comm i.toNat e]
      have := ARel.ptr (ι := ι) (φ := φ) id (e + i.toNat) 0 b off sz' lim _ hφ (by omega)
      rw [Addr.add_at]
      rw [Nat.add_mul, Nat.add_zero, ← Nat.add_assoc] at this
      exact this
  | sl a cap tg sz es hc ht hw b off cs T F us hm g1 g2 g3 =>
    simp only []
    cases hsz : (elemO P t).bind (szO P) with
    | none => exact SoundM.fail hS
    | some s =>
    simp only [Option.bind_eq_some_iff] at hsz
    obtain ⟨el, he, hse⟩ := hsz
    have hu := elemO_some he
    simp only []
    split
    case isFalse => exact SoundM.fail hS
    rename_i hzz
    subst hzz
    refine SoundM.cond (fun hi => ?_) hS
    obtain ⟨i0, i1⟩ := hi
    intro hS
    have hne : es.len ≠ 0 := by omega
    obtain ⟨rfl, hb⟩ := hm hne
    refine SoundM.ret (u := .pointer (some ((⟨b, off, none⟩ : Addr).add (i.toNat * sz)))) ?_ ?_ hS
    · simp [Instr.indexAt, asIntOf, run_underlying hu, i0, i1, run_sizeOf hse]
    · have := ARel.rp (ι := ι) (φ := φ) sz es i.toNat 0 (by omega) hw b off cs T F us hb g1 g2 g3
      rw [Addr.add_at]
      exact this
  | ptr id e j b off sz lim ln hφ he =>
    simp only []
    split
    case h_2 => exact SoundM.fail hS
    rename_i len el har
    have hu := arrO_some har
    split
    case h_2 => exact SoundM.fail hS
    rename_i s hse
    refine SoundM.cond (fun hi => ?_) hS
    have hrun : (Instr.indexAt t (.pointer (some ⟨b, off + e * sz + j, none⟩)) (.int kd i)).run P w = .ok (.pointer (some ((⟨b, off + e * sz + j, none⟩ : Addr).add (i.toNat * s)))) w := by
      simp [Instr.indexAt, asIntOf, Instr.sureAddr, run_underlying hu, hi.1, hi.2, run_sizeOf hse]
    intro hS
    refine SoundM.get ?_ hS
    cases hid : H.at id with
    | none => exact SoundM.fail
    | some blk =>
    cases blk with
    | mp p es => exact SoundM.fail
    | mf K V g => exact SoundM.fail
    | lp bz k caps => exact SoundM.fail
    | row p sz2 es =>
    obtain ⟨loc', hl', hbl'⟩ := hS.blk id _ hid
    rw [hφ] at hl'; cases hl'
    obtain ⟨⟨rfl, rfl⟩, _, hlim, _⟩ := hbl'
    simp only []
    split
    · rename_i hszs
      obtain ⟨rfl, rfl⟩ := hszs
      refine SoundM.cond (fun hle => ?_)
      refine SoundM.ret hrun ?_
      have := ARel.ptr (ι := ι) (φ := φ) id (i.toNat + e) 0 b off sz lim _ hφ (by omega)
      rw [Addr.add_at]
      rw [Nat.add_mul, Nat.add_zero] at this
      rw [show off + e * sz + 0 + i.toNat * sz = off + (i.toNat * sz + e * sz) by omega]
      exact this
    · refine SoundM.ret hrun ?_
      rw [Addr.add_at, Nat.add_assoc]
      exact .ptr id e _ b off sz lim _ hφ he
  | rp sz es e j he hw b off cs T F us hm g1 g2 g3 =>
    simp only []
    split
    case h_2 => exact SoundM.fail hS
    rename_i len el har
    have hu := arrO_some har
    split
    case h_2 => exact SoundM.fail hS
    rename_i s hse
    refine SoundM.cond (fun hi => ?_) hS
    intro hS
    refine SoundM.ret (u := .pointer (some ((⟨b, off + e * sz + j, none⟩ : Addr).add (i.toNat * s)))) ?_ ?_ hS
    · simp [Instr.indexAt, asIntOf, Instr.sureAddr, run_underlying hu, hi.1, hi.2, run_sizeOf hse]
    · rw [Addr.add_at, Nat.add_assoc]
      exact .rp sz es e _ he hw b off cs T F us hm g1 g2 g3
  | _ => exact SoundM.fail hS

/-! ### Parts of values -/
theorem sound_part {ι φ H w n} {t : TypeId} {vs : List Value} {cs : List AV} {off : Nat} (h : ARels ι φ vs cs) : SoundM P ι φ H w n (part t vs.toArray off) (partM P t cs off) := by
  intro hS
  unfold partM
  split
  case h_2 => exact SoundM.fail hS
  rename_i g m hg hs
  obtain ⟨d, hd, hrow⟩ := aggO_some hg
  refine SoundM.ofO (fun x hx => ?_) hS
  have hagg : (isAgg t).run P w = .ok g w := by
    unfold isAgg
    rw [Sem.run_bind, run_underlying hd w]
    cases d <;> simp_all
  unfold rdCells at hx
  cases g with
  | false =>
    obtain ⟨u, hu, hr⟩ := h.get (by simpa using hx)
    exact ⟨u, by simp [part, hagg, hu], hr⟩
  | true =>
    simp at hx
    obtain ⟨hle, rfl⟩ := hx
    refine ⟨.agg ((vs.drop off).take m).toArray, ?_, .agg _ _ ((h.drop off).take m).1 ((h.drop off).take m).2⟩
    have hex : vs.toArray.extract off (off + m) = ((vs.drop off).take m).toArray := by simp
    simp [part, hagg, run_sizeOf hs, hex]

theorem sound_field {ι φ H w n} {t : TypeId} {f : Nat} {u : Value} {x : AV} (h : ARel ι φ u x) : SoundM P ι φ H w n (Instr.field t u f) (fieldM P t x f) := by
  intro hS
  unfold fieldM
  split
  case h_2 => exact SoundM.fail hS
  rename_i ft off cs hfo
  obtain ⟨fs, fx, hu, hfx, rfl, rfl⟩ := fieldO_some hfo
  cases h with
  | agg vs _ hl h =>
    intro r H' n' hrun hfr
    have := sound_part (P := P) (H := H) (w := w) (n := n) (t := fx.type) (off := fx.offset) (⟨hl, h⟩ : ARels ι φ vs cs) hS r H' n' hrun hfr
    have e : (Instr.field t (.agg vs.toArray) f).run P w = (part fx.type vs.toArray fx.offset).run P w := by
      simp [Instr.field, run_underlying hu, hfx, asAgg]
    cases r <;> simpa [Post, e] using this

theorem sound_index {ι φ H w n} {t : TypeId} {u v : Value} {x y : AV} (h : ARel ι φ u x) (k : ARel ι φ v y) : SoundM P ι φ H w n (Instr.index t u v) (indexM P t x y) := by
  intro hS
  unfold indexM
  split
  · rename_i kd i s
    cases h; cases k
    split
    case isFalse => exact SoundM.fail hS
    rename_i h1
    have hu := strO_true h1
    refine SoundM.cond (fun h2 => ?_) hS
    intro hS
    have hlt : i.toNat < s.size := by omega
    refine SoundM.ret ?_ (.v _) hS
    have hg : s[i.toNat]? = some s[i.toNat] := by simp [hlt]
    have hb : byteAt s i.toNat = (s[i.toNat].toNat : Int) := by
      simp only [byteAt]
      have : s.data.toList[i.toNat]? = some s[i.toNat] := by
        have hl : i.toNat < s.data.size := hlt
        simp [Array.getElem?_eq_getElem hl]; rfl
      rw [List.getD_eq_getElem?_getD, this]; rfl
    rw [hb]
    simp [Instr.index, asIntOf, run_underlying hu, h2, hg]
  · rename_i kd i cs
    cases k
    split
    case h_2 => exact SoundM.fail hS
    rename_i len el har
    have hu := arrO_some har
    split
    case h_2 => exact SoundM.fail hS
    rename_i s hse
    refine SoundM.cond (fun hi => ?_) hS
    cases h with
    | agg vs _ hl h =>
      intro hS r H' n' hrun hfr
      have := sound_part (P := P) (H := H) (w := w) (n := n) (t := el) (off := i.toNat * s) (⟨hl, h⟩ : ARels ι φ vs cs) hS r H' n' hrun hfr
      have e : (Instr.index t (.agg vs.toArray) (.int kd i)).run P w = (part el vs.toArray (i.toNat * s)).run P w := by
        simp [Instr.index, asIntOf, run_underlying hu, hi.1, hi.2, run_sizeOf hse]
      cases r <;> simpa [Post, e] using this
  · exact SoundM.fail hS
end Go.AMach
