/- The abstract machine: an append of so many zeros. -/
import Derived.Test.YtbkbifpjckippaaAm10b
import Derived.Lib.AppendZerosOnto
namespace Go.AMach
set_option linter.unusedVariables false
set_option linter.unusedSimpArgs false
set_option linter.unnecessarySimpa false
set_option linter.unusedSectionVars false
variable [Sites]
open Go.RowKit
set_option linter.unusedVariables false
set_option linter.unusedSimpArgs false
variable {P : Program}

theorem i64O_true {t : TypeId} (h : i64O P t = true) : P.underlying t = some (.int .i64) := by
  unfold i64O at h
  split at h
  · assumption
  · cases h

theorem run_append_same_zeros (w : World) (t tn ty e : TypeId) (i : TypeInfo) (ht : P.underlying t = some (.slice e)) (htn : P.underlying tn = some (.int .i64)) (hi : P.info? e = some i) (base : Option Addr) (n : Nat) :
    (Builtin.append_ #[t, tn] ty #[.slice base n n, .int .i64 0]).run P w = .ok (.slice base n n) w := by
  have hw : IntKind.i64.wrap 0 = 0 := rfl
  cases base <;> simp [Builtin.append_, run_underlying ht, run_underlying htn, sizeOf, typeInfo, hi, asInt, asIntOf, hw, storeCells]

theorem sound_appZ {ι φ H w n} {t tx ty e : TypeId} {z : Value} {i : TypeInfo} {s bt : Nat} {m : Nat} {v : Value} {a : AV} (hform : (∃ id e0 k, a = .hs true id e0 k) ∨ a = .v (.slice none 0 0))
    (ht : P.underlying t = some (.slice e)) (htx : P.underlying tx = some (.int .i64)) (hi : P.info? e = some i) (hz : i.zero = some z) (hsz : i.size = s) (hbt : i.bytes = bt) (hzl : z.cells.size = s) (h0 : 0 < s)
    (hone : ∀ v ∈ z.cells.toList, v.oneCell' = true) (ha : ARel ι φ v a) :
    SoundM P ι φ H w n (Builtin.append_ #[t, tx] ty #[v, .int .i64 (m : Int)]) (appOnto s bt true (zerosR P e m (z.cells.toList.map .v)) a) := by
  intro hS
  have hxl : ∀ c ∈ (zerosR P e m (z.cells.toList.map AV.v)).toL, c.length = s := fun c hc => by
    rw [(zerosR_toL _ _ _).1] at hc
    rw [List.eq_of_mem_replicate hc]; simp [hzl]
  have hlen : (zerosR P e m (z.cells.toList.map AV.v)).len = m := (zerosR_toL _ _ _).2
  let news : List Value := (Builtin.zeroCells z.cells m).toList
  have hzm : Builtin.zeroCells z.cells m = madeCells z.cells (m * s) := by rw [← hzl]; rfl
  have hln : news.length = (zerosR P e m (z.cells.toList.map AV.v)).len * s := by
    rw [hlen]
    show (Builtin.zeroCells z.cells m).toList.length = m * s
    rw [Array.length_toList, size_zeroCells, hzl]
  have hnr : ARels ι (pφ true φ) news (zerosR P e m (z.cells.toList.map AV.v)).toL.flatten := by
    rw [(zerosR_toL _ _ _).1]
    show ARels ι (pφ true φ) (Builtin.zeroCells z.cells m).toList _
    rw [hzm]
    exact madeCells_rel (ι := ι) (φ := pφ true φ) z.cells m s hzl h0
  have hno : ∀ v ∈ news, v.oneCell' = true := fun v hv => by
    have hv : v ∈ (Builtin.zeroCells z.cells m).toList := hv
    rw [hzm] at hv
    exact madeCells_one hzl h0 hone v hv
  have grow : ∀ (base : Option Addr) (sLen : Nat) (olds : List Value), (Builtin.firstCells i.size sLen (.slice base sLen sLen)).run P w.drew = .ok olds.toArray w.drew → 0 < m → m * bt ≤ 2 ^ 46 →
      sLen < sLen + m → ((sLen + m : Nat) : Int) ≤ 9223372036854775807 → Builtin.nextslicecap (sLen + m) sLen * i.bytes ≤ 281474976710656 →
      (Builtin.append_ #[t, tx] ty #[.slice base sLen sLen, .int .i64 (m : Int)]).run P w = .ok (.slice (some ⟨w.heap.size, 0, none⟩) (sLen + m) (grownCap w (sLen + m) sLen e))
        (w.drew.alloc (.cells ((olds ++ news).toArray ++ Builtin.zeroCells z.cells (grownCap w (sLen + m) sLen e - (sLen + m))) e)) := fun base sLen olds hold hm hfit46 hg h63 hfit => by
    have := Lib.run_append_grow_zeros (P := P) w t tx ty e i z .i64 .i64 ht htx hi hz base sLen sLen olds hold m hm (by omega) hg h63 (by rw [hbt]; omega) hfit
    rw [this]
    congr 4
    apply Array.ext'; simp [news]
  have hlit : (Rows.lit ([] : List (List AV))).toL = [] := toL_lit _
  -- the arm that grows out of nothing
  have nothing : ∀ (base : Option Addr), SoundM P ι φ H w n (Builtin.append_ #[t, tx] ty #[.slice base 0 0, .int .i64 (m : Int)]) (appNew s bt (.lit []) (zerosR P e m (z.cells.toList.map .v)) true) := fun base => by
    by_cases hb46 : m * bt ≤ 2 ^ 46
    · refine sound_appNew (base := base) (sLen := 0) (sCap := 0) (olds := []) (news := news) (z := z) (e := e) hi hsz hbt hzl rfl (fun c hc => by rw [hlit] at hc; simp at hc) hxl (by simp) hln (fun v hv => by simp at hv) hno (by rw [hlit]; simpa using hnr) ?_ ?_
      · intro hg h63 hfit
        rw [hlen] at hg h63 hfit ⊢
        exact grow base 0 [] (firstCells_zero _ _ _ _) (by omega) hb46 hg h63 hfit
      · intro hle
        rw [hlen] at hle
        have : m = 0 := by omega
        subst this
        exact ⟨by rw [hlen], base, run_append_same_zeros w t tx ty e i ht htx hi base 0⟩
    · intro hS r H' n' hrun hfr
      unfold appNew at hrun
      rw [if_pos h0] at hrun
      have : (decide (((Rows.lit ([] : List (List AV))).len + (zerosR P e m (z.cells.toList.map AV.v)).len) * bt ≤ 2 ^ 46 ∧ (Rows.lit ([] : List (List AV))).len + (zerosR P e m (z.cells.toList.map AV.v)).len ≤ 2 ^ 46)) = false := by
        rw [decide_eq_false_iff_not, hlen]
        show ¬ ((0 + m) * bt ≤ _ ∧ _)
        rw [Nat.zero_add]; omega
      rw [this] at hrun
      simp [AM.run] at hrun
  rcases hform with ⟨id, e0, k, rfl⟩ | rfl
  · cases ha with
    | hs _ _ _ _ a cap loc hφ hc htg hm =>
    have hcap := htg rfl
    subst hcap
    simp only [appOnto]
    refine SoundM.br (fun hk => ?_) (fun hk => ?_) hS
    · have hk' : cap = 0 := by simpa using hk
      subst hk'; exact nothing a
    · have hk' : cap ≠ 0 := by simpa using hk
      intro hS
      refine SoundM.get ?_ hS
      cases hid : H.at id with
      | none => exact SoundM.fail
      | some blk =>
      cases blk with
      | mp p es => exact SoundM.fail
      | mf K V g => exact SoundM.fail
      | lp bz k caps => exact SoundM.fail
      | row p sz es =>
      simp only []
      split
      case isFalse => exact SoundM.fail
      rename_i hszs
      subst hszs
      rcases hm with hm | ⟨b, off, sz', lim, len, rfl, rfl, e2, e3⟩
      · exact absurd hm hk'
      obtain ⟨loc', hl', hbl'⟩ := hS.blk id _ hid
      rw [hφ] at hl'; cases hl'
      obtain ⟨⟨rfl, rfl⟩, hpos, hlim, cs, T, F, hb, hF, hcs, hr⟩ := hbl'
      refine SoundM.br (fun hx0 => ?_) (fun hx0 => ?_)
      · have hm0 : m = 0 := by simpa [hlen] using hx0
        subst hm0
        exact SoundM.ret (run_append_same_zeros w t tx ty e i ht htx hi _ cap) (.hs true id e0 cap _ cap _ hφ hc htg (.inr ⟨b, off, sz', lim, _, rfl, rfl, e2, e3⟩))
      · have hx0' : m ≠ 0 := by simpa [hlen] using hx0
        have hsub := RowRel.sub hr e0 cap
        obtain ⟨olds, o1, o2, o3, o4⟩ := rows_flat hsub.1 hsub.2
        have htoL := toL_cut (r := es) (l := e0) (n := cap) (by omega)
        rw [← htoL] at o1 o3 hsub
        rw [toL_length, len_cut] at o1
        by_cases hb46 : m * bt ≤ 2 ^ 46
        · refine sound_appNew (sLen := cap) (sCap := cap) (olds := olds) (news := news) (z := z) (e := e) (base := some ⟨b, off + e0 * sz', none⟩) hi hsz hbt hzl (len_cut _ _ _) hsub.1 hxl o1 hln o4 hno ?_ ?_ ?_
          · exact flat_append o3.pand hnr.pand'
          · intro hg h63 hfit
            rw [hlen] at hg h63 hfit ⊢
            exact grow _ _ olds (by rw [hsz]; exact firstCells_some w.drew (by exact hb) olds o1 o2) (by omega) hb46 hg h63 hfit
          · intro hle; rw [hlen] at hle; exfalso; omega
        · intro hS r H' n' hrun hfr
          unfold appNew at hrun
          rw [if_pos h0] at hrun
          have : (decide (((Rows.cut es e0 cap).len + (zerosR P e m (z.cells.toList.map AV.v)).len) * bt ≤ 2 ^ 46 ∧ (Rows.cut es e0 cap).len + (zerosR P e m (z.cells.toList.map AV.v)).len ≤ 2 ^ 46)) = false := by
            rw [decide_eq_false_iff_not, hlen, Nat.add_mul]
            omega
          rw [this] at hrun
          simp [AM.run] at hrun
  · cases ha with
    | v => simp only [appOnto]; exact nothing none hS

theorem sound_append2 {ι φ H w n} {ts : Array TypeId} {ty : TypeId} {vs : List Value} {xs : List AV} (h : ARels ι φ vs xs) :
    SoundM P ι φ H w n (Builtin.append_ ts ty vs.toArray) (cond (((ts[1]?).map (i64O P)).getD false) (appendZ P ts xs) (appendM P ts xs)) := by
  cases hb : ((ts[1]?).map (i64O P)).getD false with
  | false => exact sound_append h
  | true =>
  simp only [cond_true]
  intro hS
  unfold appendZ
  split
  case h_2 => exact SoundM.fail hS
  rename_i e he
  split
  case h_2 => exact SoundM.fail hS
  rename_i s bt z hs hbt hz
  split
  case isFalse => exact SoundM.fail hS
  rename_i hc
  obtain ⟨hzl, h0⟩ := hc
  obtain ⟨i, zv, hinf, hz0, rfl, hone⟩ := zeroO_one hz
  obtain ⟨i', hinf', hs'⟩ := szO_some hs
  rw [hinf] at hinf'; cases hinf'
  have hb' : i.bytes = bt := by simpa [byO, hinf] using hbt
  have hzl' : zv.cells.size = s := by simpa using hzl
  simp only [Option.bind_eq_some_iff] at he
  obtain ⟨t, ht0, ht1⟩ := he
  have hu := elemO_some ht1
  obtain ⟨tx, htx0, htx1⟩ : ∃ tx, ts[1]? = some tx ∧ i64O P tx = true := by
    cases h' : ts[1]? with
    | none => rw [h'] at hb; cases hb
    | some tx => rw [h'] at hb; exact ⟨tx, rfl, by simpa using hb⟩
  have hux := i64O_true htx1
  have two : ∀ {a b : AV}, xs = [a, b] → ∃ va vb, vs = [va, vb] ∧ ARel ι φ va a ∧ ARel ι φ vb b := fun {a b} e => by
    subst e
    obtain ⟨u1, us1, rfl, h1, h2⟩ := h.uncons
    obtain ⟨u2, us2, rfl, h3, h4⟩ := h2.uncons
    rw [h4.nil_inv]
    exact ⟨u1, u2, rfl, h1, h3⟩
  have hargs : ∀ {va vb : Value}, (Builtin.append_ ts ty #[va, vb]).run P w = (Builtin.append_ #[t, tx] ty #[va, vb]).run P w := fun {va vb} => by
    simp [Builtin.append_, ht0, htx0]
  have conv : ∀ {va vb : Value} {m : AM AV}, SoundM P ι φ H w n (Builtin.append_ #[t, tx] ty #[va, vb]) m → SoundM P ι φ H w n (Builtin.append_ ts ty #[va, vb]) m := fun {va vb m} h hS r H' n' hrun hfr => by
    have := h hS r H' n' hrun hfr
    cases r <;> simpa [Post, hargs] using this
  split
  · rename_i id e0 k m
    obtain ⟨va, vb, rfl, h1, h2⟩ := two rfl
    cases h2
    refine SoundM.cond (fun hm => ?_) hS
    have := conv (sound_appZ (ι := ι) (φ := φ) (H := H) (w := w) (n := n) (ty := ty) (m := m.toNat) (.inl ⟨id, e0, k, rfl⟩) hu hux hinf hz0 hs' hb' hzl' h0 hone h1)
    rw [show ((m.toNat : Nat) : Int) = m by omega] at this
    exact this
  · rename_i m
    obtain ⟨va, vb, rfl, h1, h2⟩ := two rfl
    cases h2
    refine SoundM.cond (fun hm => ?_) hS
    have := conv (sound_appZ (ι := ι) (φ := φ) (H := H) (w := w) (n := n) (ty := ty) (m := m.toNat) (.inr rfl) hu hux hinf hz0 hs' hb' hzl' h0 hone h1)
    rw [show ((m.toNat : Nat) : Int) = m by omega] at this
    exact this
  · exact SoundM.fail hS
end Go.AMach
