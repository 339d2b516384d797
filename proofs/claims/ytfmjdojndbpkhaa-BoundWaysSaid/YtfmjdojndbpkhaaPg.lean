/- Parts of the proof. -/
import Derived.Test.YtfmjdojndbpkhaaPf
import Derived.KernelRfl
/- The walker: blocks. -/
namespace Go.AMach
set_option linter.unusedVariables false
set_option linter.unusedSimpArgs false
set_option linter.unnecessarySimpa false
set_option linter.unusedVariables false
set_option linter.unusedSimpArgs false

theorem codeL_at (f : ObjS → Int) : ∀ (l : List InstrS) (k : Nat), rdd 0 (codeL f l) k = rdd 0 (codeL f (l.drop k)) 0
  | [], 0 => rfl
  | [], k + 1 => rfl
  | i :: r, 0 => rfl
  | i :: r, k + 1 => codeL_at f r k
theorem codeL_end (f : ObjS → Int) {l : List InstrS} {k : Nat} (h : l.length ≤ k) : rdd 0 (codeL f l) k = 0 := by
  rw [codeL_at, List.drop_of_length_le h]; rfl
theorem codeL_step (f : ObjS → Int) {l : List InstrS} {k : Nat} (h : k < l.length) :
    rdd 0 (codeL f l) k = cut7 (1 + nextI f (rdd zInstrS l k) (l.length - (k + 1)) (codeL f (l.drop (k + 1)))) := by
  rw [codeL_at, drop_rdd zInstrS h]
  show cut7 (1 + nextI f (rdd zInstrS l k) (l.drop (k + 1)).length (codeL f (l.drop (k + 1)))) = _
  rw [List.length_drop]
theorem cut7_low {x : Int} (h : cut7 x ≤ 20000) : cut7 x = x := by
  unfold cut7 at h ⊢
  split at h
  · rename_i e; rw [if_pos e]
  · omega

abbrev KR := Int → (List NodeS) → (List FieldS) → (List TableS) → (List EntryS) → (List BlockS) → (List GroupS) → (List SpanS) → (List ObjS) → (List Int) → (List Int) → Int → Option Res
abbrev apK (k : KR) (n : Int) (c : ConfigS) (p : List Int) (a : Int) : Option Res := k n c.1 c.2.1 c.2.2.1 c.2.2.2.1 c.2.2.2.2.1 c.2.2.2.2.2.1 c.2.2.2.2.2.2.1 c.2.2.2.2.2.2.2.1 c.2.2.2.2.2.2.2.2.1 p a

theorem L_wb2 {qt qb : WF} {c : ConfigS} {p : List Int} (hp : Pk p) (kr : KR) (l : List InstrS) (hl : l.length ≤ 100000)
    (ht : ∀ i ∈ l, i.1 = 13 → HC c (0, i.2.2.2.2) ≤ 20000 → WkOk qt c p (HC c (0, i.2.2.2.2)) i.2.2.2.2.1)
    (hg : ∀ i ∈ l, i.1 = 14 → HC c (2, i.2.2.2.2) ≤ 20000 → WkOk (Q_z0w qb) c p (HC c (2, i.2.2.2.2)) i.2.2.2.2.1) {hx : Int} (hH : hx ≤ 20000) :
    ∀ (m : Nat) (s at_ a : Int), 0 ≤ at_ → at_ ≤ 300000 → l.length - at_.toNat < m → AtOk p a → 0 ≤ s → s + rdd 0 (codeL (HC c) l) at_.toNat ≤ hx →
    ∃ n a', L_z0x_2 FUEL qt qb kr kr l m s at_ c.1 c.2.1 c.2.2.1 c.2.2.2.1 c.2.2.2.2.1 c.2.2.2.2.2.1 c.2.2.2.2.2.2.1 c.2.2.2.2.2.2.2.1 c.2.2.2.2.2.2.2.2.1 p a = apK kr n c p a' ∧ 0 ≤ n ∧ n ≤ hx ∧ AtOk p a'
  | 0, s, at_, a, _, _, h, _, _, _ => by omega
  | m + 1, s, at_, a, h0, hat, hm, ha, hs, hv => by
    have hall := codeL_in (H_in (tabsV c) (blksV c) (grpsV c)) l
    have hVin : ∀ k, InR (rdd 0 (codeL (HC c) l) k) := fun k => rdd_in hall k
    have gen : ∀ {A : Option Res} {X}, F_z0x_2 FUEL qt qb kr kr l (L_z0x_2 FUEL qt qb kr kr l m) s at_ c.1 c.2.1 c.2.2.1 c.2.2.2.1 c.2.2.2.2.1 c.2.2.2.2.2.1 c.2.2.2.2.2.2.1 c.2.2.2.2.2.2.2.1 c.2.2.2.2.2.2.2.2.1 p a = X →
        L_z0x_2 FUEL qt qb kr kr l (m + 1) s at_ c.1 c.2.1 c.2.2.1 c.2.2.2.1 c.2.2.2.2.1 c.2.2.2.2.2.1 c.2.2.2.2.2.2.1 c.2.2.2.2.2.2.2.1 c.2.2.2.2.2.2.2.2.1 p a = X := fun {A X} e => e
    by_cases hlt : at_ < (l.length : Int)
    · have hk : at_.toNat < l.length := by omega
      have hmem := rdd_mem (d := zInstrS) hk
      have hstep := codeL_step (HC c) hk
      have hin := hVin at_.toNat
      have hid : rdd 0 (codeL (HC c) l) at_.toNat = 1 + nextI (HC c) (rdd zInstrS l at_.toNat) (l.length - (at_.toNat + 1)) (codeL (HC c) (l.drop (at_.toNat + 1))) := by
        rw [hstep]
        exact cut7_low (by rw [← hstep]; omega)
      have c1 : decide (at_ ≥ (0 : Int)) = true := decide_eq_true h0
      have c2 : decide (at_ < ((l.length : Nat) : Int)) = true := decide_eq_true hlt
      have c3 : decide ((0 : Int) ≤ at_ ∧ at_ < ((l.length : Nat) : Int)) = true := decide_eq_true ⟨h0, hlt⟩
      have w1 : IntKind.wrap .i64 (s + 1) = s + 1 := i64_id (by unfold InR at hin; omega)
      have nxt : rdd 0 (codeL (HC c) (l.drop (at_.toNat + 1))) 0 = rdd 0 (codeL (HC c) l) (at_.toNat + 1) := (codeL_at _ _ _).symm
      have nxtk : ∀ k, rdd 0 (codeL (HC c) (l.drop (at_.toNat + 1))) k = rdd 0 (codeL (HC c) l) (at_.toNat + 1 + k) := fun k => by
        rw [codeL_at, codeL_at (HC c) l, List.drop_drop]
      generalize hx' : rdd zInstrS l at_.toNat = x at *
      unfold InR at hin
      have hend : ∀ k : Int, k = s + 1 → (0 : Int) ≤ nextI (HC c) x (l.length - (at_.toNat + 1)) (codeL (HC c) (l.drop (at_.toNat + 1))) → 0 ≤ k ∧ k ≤ hx := fun k e hn => by omega
      have hnn : (0 : Int) ≤ nextI (HC c) x (l.length - (at_.toNat + 1)) (codeL (HC c) (l.drop (at_.toNat + 1))) := (nextI_in (H_in _ _ _) _ _ (codeL_in (H_in _ _ _) _)).1
      have go : ∀ s2 at2 a2, s2 = s + 1 → at_ + 1 ≤ at2 → at2 ≤ 300000 → AtOk p a2 → rdd 0 (codeL (HC c) l) at2.toNat ≤ nextI (HC c) x (l.length - (at_.toNat + 1)) (codeL (HC c) (l.drop (at_.toNat + 1))) →
          ∃ n a', L_z0x_2 FUEL qt qb kr kr l m s2 at2 c.1 c.2.1 c.2.2.1 c.2.2.2.1 c.2.2.2.2.1 c.2.2.2.2.2.1 c.2.2.2.2.2.2.1 c.2.2.2.2.2.2.2.1 c.2.2.2.2.2.2.2.2.1 p a2 = apK kr n c p a' ∧ 0 ≤ n ∧ n ≤ hx ∧ AtOk p a' := fun s2 at2 a2 e1 e2 e3 e4 e5 =>
        L_wb2 hp kr l hl ht hg hH m s2 at2 a2 (by omega) e3 (by omega) e4 (by omega) (by omega)
      by_cases o1 : x.1 = 23
      · refine ⟨s + 1, a, gen (A := none) ?_, (hend _ rfl hnn).1, (hend _ rfl hnn).2, ha⟩
        unfold F_z0x_2
        rw [hx', w1]
        exact stepT' c1 (stepT' c2 (stepT' c3 (stepT' (beqT' o1) rfl)))
      by_cases o2 : x.1 = 22
      · refine ⟨s + 1, a, gen (A := none) ?_, (hend _ rfl hnn).1, (hend _ rfl hnn).2, ha⟩
        unfold F_z0x_2
        rw [hx', w1]
        exact stepT' c1 (stepT' c2 (stepT' c3 (stepF' (beqF' o1) (stepT' (beqT' o2) rfl))))
      by_cases o3 : x.1 = 13
      · have hnx : nextI (HC c) x (l.length - (at_.toNat + 1)) (codeL (HC c) (l.drop (at_.toNat + 1))) = HC c (0, x.2.2.2.2) := by
          unfold nextI; rw [if_neg o1, if_neg o2, if_pos o3]
        obtain ⟨n1, a1, e1, l1, u1, ha1⟩ := ht x hmem o3 (by omega) a ha
        refine ⟨s + 1 + n1, a1, gen (A := none) ?_, by omega, by omega, ha1⟩
        unfold F_z0x_2
        rw [hx', w1]
        refine stepT' c1 (stepT' c2 (stepT' c3 (stepF' (beqF' o1) (stepF' (beqF' o2) (stepT' (beqT' o3) (stepT' c3 ?_))))))
        extract_lets -merge +onlyGivenNames y1
        have e_y : y1 = _ := (congrArg RS.get e1).trans (get_some _)
        clear_value y1; subst e_y
        refine stepC' e1 ?_
        have w2 : IntKind.wrap .i64 (s + 1 + n1) = s + 1 + n1 := i64_id (by omega)
        show apK kr (IntKind.wrap .i64 (s + 1 + n1)) c p a1 = _
        rw [w2]
      by_cases o4 : x.1 = 14
      · have hnx : nextI (HC c) x (l.length - (at_.toNat + 1)) (codeL (HC c) (l.drop (at_.toNat + 1))) = HC c (2, x.2.2.2.2) := by
          unfold nextI; rw [if_neg o1, if_neg o2, if_neg o3, if_pos o4]
        obtain ⟨n1, a1, e1, l1, u1, ha1⟩ := hg x hmem o4 (by omega) a ha
        refine ⟨s + 1 + n1, a1, gen (A := none) ?_, by omega, by omega, ha1⟩
        unfold F_z0x_2
        rw [hx', w1]
        refine stepT' c1 (stepT' c2 (stepT' c3 (stepF' (beqF' o1) (stepF' (beqF' o2) (stepF' (beqF' o3) (stepT' (beqT' o4) (stepT' c3 ?_)))))))
        extract_lets -merge +onlyGivenNames y2
        have e_y : y2 = _ := (congrArg RS.get e1).trans (get_some _)
        clear_value y2; subst e_y
        refine stepC' e1 ?_
        have w2 : IntKind.wrap .i64 (s + 1 + n1) = s + 1 + n1 := i64_id (by omega)
        show apK kr (IntKind.wrap .i64 (s + 1 + n1)) c p a1 = _
        rw [w2]
      have w3 : IntKind.wrap .i64 (at_ + 1) = at_ + 1 := i64_id (by omega)
      have tn1 : (at_ + 1).toNat = at_.toNat + 1 := by omega
      by_cases o5 : x.1 = 12
      · have hnx : nextI (HC c) x (l.length - (at_.toNat + 1)) (codeL (HC c) (l.drop (at_.toNat + 1))) =
            (if 0 ≤ x.2.2.2.2.1 ∧ x.2.2.2.2.1 < ((l.length - (at_.toNat + 1) : Nat) : Int) then mx (rdd 0 (codeL (HC c) l) (at_.toNat + 1)) (rdd 0 (codeL (HC c) l) (at_.toNat + 1 + x.2.2.2.2.1.toNat)) else rdd 0 (codeL (HC c) l) (at_.toNat + 1)) := by
          unfold nextI; rw [if_neg o1, if_neg o2, if_neg o3, if_neg o4, if_pos o5, nxt, nxtk]
        have hge1 : rdd 0 (codeL (HC c) l) (at_.toNat + 1) ≤ nextI (HC c) x (l.length - (at_.toNat + 1)) (codeL (HC c) (l.drop (at_.toNat + 1))) := by
          rw [hnx]; split
          · unfold mx; split <;> omega
          · exact Int.le_refl _
        obtain ⟨r, a1, e1, l1, u1, ha1⟩ := Q_pick hp c 2 (by omega) a ha
        have hd : ∀ {A B X : Option Res}, A = X → cond (decide (at_ ≥ (0 : Int))) (cond (decide (at_ < ((l.length : Nat) : Int))) (cond (decide ((0 : Int) ≤ at_ ∧ at_ < ((l.length : Nat) : Int))) A none) B) B = X := fun {A B X} e => stepT' c1 (stepT' c2 (stepT' c3 e))
        by_cases hr : r = 1
        · by_cases hneg : x.2.2.2.2.1 < 0
          · refine ⟨s + 1, a1, gen (A := none) ?_, (hend _ rfl hnn).1, (hend _ rfl hnn).2, ha1⟩
            unfold F_z0x_2
            rw [hx', w1]
            refine hd (stepF' (beqF' o1) (stepF' (beqF' o2) (stepF' (beqF' o3) (stepF' (beqF' o4) (stepT' (beqT' o5) ?_)))))
            extract_lets -merge +onlyGivenNames y3
            have e_y : y3 = _ := (congrArg RS.get e1).trans (get_some _)
            clear_value y3; subst e_y
            exact stepC' e1 (stepT' (beqT' hr) (stepT' c3 (stepT' (decide_eq_true hneg) rfl)))
          · by_cases hbig : x.2.2.2.2.1 > (l.length : Int)
            · refine ⟨s + 1, a1, gen (A := none) ?_, (hend _ rfl hnn).1, (hend _ rfl hnn).2, ha1⟩
              unfold F_z0x_2
              rw [hx', w1]
              refine hd (stepF' (beqF' o1) (stepF' (beqF' o2) (stepF' (beqF' o3) (stepF' (beqF' o4) (stepT' (beqT' o5) ?_)))))
              extract_lets -merge +onlyGivenNames y3
              have e_y : y3 = _ := (congrArg RS.get e1).trans (get_some _)
              clear_value y3; subst e_y
              exact stepC' e1 (stepT' (beqT' hr) (stepT' c3 (stepF' (decide_eq_false hneg) (stepT' c3 (stepT' (decide_eq_true hbig) rfl)))))
            · have w4 : IntKind.wrap .i64 (at_ + x.2.2.2.2.1) = at_ + x.2.2.2.2.1 := i64_id (by omega)
              have w5 : IntKind.wrap .i64 (at_ + x.2.2.2.2.1 + 1) = at_ + x.2.2.2.2.1 + 1 := i64_id (by omega)
              have tn2 : (at_ + x.2.2.2.2.1 + 1).toNat = at_.toNat + 1 + x.2.2.2.2.1.toNat := by omega
              obtain ⟨n, a', e, ll, uu, ha'⟩ := go (s + 1) (at_ + x.2.2.2.2.1 + 1) a1 rfl (by omega) (by omega) ha1 (by
                rw [tn2]
                by_cases hin2 : x.2.2.2.2.1 < ((l.length - (at_.toNat + 1) : Nat) : Int)
                · rw [hnx, if_pos ⟨by omega, hin2⟩]
                  unfold mx; split <;> omega
                · rw [codeL_end _ (by omega)]; exact hnn)
              refine ⟨n, a', gen (A := none) ?_, ll, uu, ha'⟩
              unfold F_z0x_2
              rw [hx', w1]
              refine hd (stepF' (beqF' o1) (stepF' (beqF' o2) (stepF' (beqF' o3) (stepF' (beqF' o4) (stepT' (beqT' o5) ?_)))))
              extract_lets -merge +onlyGivenNames y3
              have e_y : y3 = _ := (congrArg RS.get e1).trans (get_some _)
              clear_value y3; subst e_y
              refine stepC' e1 (stepT' (beqT' hr) (stepT' c3 (stepF' (decide_eq_false hneg) (stepT' c3 (stepF' (decide_eq_false hbig) (stepT' c3 ?_))))))
              rw [w4, w5]
              exact e
        · obtain ⟨n, a', e, ll, uu, ha'⟩ := go (s + 1) (at_ + 1) a1 rfl (by omega) (by omega) ha1 (by rw [tn1]; exact hge1)
          refine ⟨n, a', gen (A := none) ?_, ll, uu, ha'⟩
          unfold F_z0x_2
          rw [hx', w1]
          refine hd (stepF' (beqF' o1) (stepF' (beqF' o2) (stepF' (beqF' o3) (stepF' (beqF' o4) (stepT' (beqT' o5) ?_)))))
          extract_lets -merge +onlyGivenNames y3
          have e_y : y3 = _ := (congrArg RS.get e1).trans (get_some _)
          clear_value y3; subst e_y
          refine stepC' e1 (stepF' (beqF' hr) ?_)
          rw [w3]
          exact e
      · have hnx : nextI (HC c) x (l.length - (at_.toNat + 1)) (codeL (HC c) (l.drop (at_.toNat + 1))) = rdd 0 (codeL (HC c) l) (at_.toNat + 1) := by
          unfold nextI; rw [if_neg o1, if_neg o2, if_neg o3, if_neg o4, if_neg o5, nxt]
        obtain ⟨n, a', e, ll, uu, ha'⟩ := go (s + 1) (at_ + 1) a rfl (by omega) (by omega) ha (by rw [tn1, hnx]; exact Int.le_refl _)
        refine ⟨n, a', gen (A := none) ?_, ll, uu, ha'⟩
        unfold F_z0x_2
        rw [hx', w1, w3]
        exact stepT' c1 (stepT' c2 (stepT' c3 (stepF' (beqF' o1) (stepF' (beqF' o2) (stepF' (beqF' o3) (stepF' (beqF' o4) (stepF' (beqF' o5) e)))))))
    · refine ⟨s, a, gen (A := none) ?_, hs, ?_, ha⟩
      · unfold F_z0x_2
        exact stepT' (decide_eq_true h0) (stepF' (decide_eq_false hlt) rfl)
      · have := hVin at_.toNat
        unfold InR at this
        omega
end Go.AMach

/- The walker: tables; all three together. -/
namespace Go.AMach
set_option linter.unusedVariables false
set_option linter.unusedSimpArgs false
set_option linter.unnecessarySimpa false
set_option linter.unusedVariables false
set_option linter.unusedSimpArgs false

theorem L_wb0 {qt qb : WF} {c : ConfigS} {p : List Int} (hp : Pk p) (h : Cfg c) (hn : ¬ RingC c) (id : Int) (kr : KR) (kt : Unit → Option Res)
    (ht : ∀ y ∈ leadsC c (1, (id, ())), y.1 = 0 → HC c y ≤ 20000 → WkOk qt c p (HC c y) y.2.1)
    (hg : ∀ y ∈ leadsC c (1, (id, ())), y.1 = 2 → HC c y ≤ 20000 → WkOk (Q_z0w qb) c p (HC c y) y.2.1) (hH : HC c (1, (id, ())) ≤ 20000) (a : Int) (ha : AtOk p a) :
    ∀ (m i : Nat), i ≤ (cB c).length → (cB c).length - i < m → (∀ j, j < i → (rdd zBlockS (cB c) j).1 ≠ id) →
    (L_z0x_0 FUEL qt qb kr kt id c.1 c.2.1 c.2.2.1 c.2.2.2.1 c.2.2.2.2.1 c.2.2.2.2.2.1 c.2.2.2.2.2.2.1 c.2.2.2.2.2.2.2.1 c.2.2.2.2.2.2.2.2.1 p a m (i : Int) = kt ()) ∨
    ∃ n a', L_z0x_0 FUEL qt qb kr kt id c.1 c.2.1 c.2.2.1 c.2.2.2.1 c.2.2.2.2.1 c.2.2.2.2.2.1 c.2.2.2.2.2.2.1 c.2.2.2.2.2.2.2.1 c.2.2.2.2.2.2.2.2.1 p a m (i : Int) = apK kr n c p a' ∧ 0 ≤ n ∧ n ≤ HC c (1, (id, ())) ∧ AtOk p a'
  | 0, i, _, h, _ => by omega
  | m + 1, i, hi, hm, hj => by
    have hlb := h.b
    show (F_z0x_0 FUEL qt qb kr kt id _ _ _ _ _ _ _ _ _ p a (L_z0x_0 FUEL qt qb kr kt id _ _ _ _ _ _ _ _ _ p a m) (i : Int) = kt ()) ∨ ∃ n a', F_z0x_0 FUEL qt qb kr kt id _ _ _ _ _ _ _ _ _ p a (L_z0x_0 FUEL qt qb kr kt id _ _ _ _ _ _ _ _ _ p a m) (i : Int) = _ ∧ _
    unfold F_z0x_0
    by_cases hlt : i < (cB c).length
    · have c1 : decide ((i : Int) < ((List.length c.2.2.2.2.1 : Nat) : Int)) = true := decide_eq_true (by show (i : Int) < ((cB c).length : Int); omega)
      have c2 : decide ((0 : Int) ≤ (i : Int) ∧ (i : Int) < ((List.length c.2.2.2.2.1 : Nat) : Int)) = true := decide_eq_true (by show (0 : Int) ≤ (i : Int) ∧ (i : Int) < ((cB c).length : Int); omega)
      rw [toNat_cast]
      by_cases he : (rdd zBlockS (cB c) i).1 = id
      · have n1 : ((rdd zBlockS c.2.2.2.2.1 i).1 != id) = false := by rw [int_bne, decide_eq_true he]; rfl
        have hf := firstB_at hj hlt he
        have hb : blksV c id = some (rdd zBlockS (cB c) i).2.1 := by unfold blksV; rw [hf]; rfl
        have hv : HC c (1, (id, ())) = cut7 (rdd 0 (codeL (HC c) (rdd zBlockS (cB c) i).2.1) 0) := by
          refine Eq.trans (H_eq (h.sol.ends hn (1, (id, ())))) ?_
          unfold stepV
          rw [if_neg (by show ¬ ((1 : Int) = 0); omega), if_pos (by show (1 : Int) = 1; rfl)]
          show cut7 (rdd 0 (codeL _ ((blksV c id).getD [])) 0) = _
          rw [hb]; rfl
        have hle : rdd 0 (codeL (HC c) (rdd zBlockS (cB c) i).2.1) 0 ≤ HC c (1, (id, ())) := by
          rw [hv] at hH ⊢
          rw [cut7_low hH]; exact Int.le_refl _
        have hlead : ∀ x ∈ (rdd zBlockS (cB c) i).2.1, ∀ y ∈ leadI x, y ∈ leadsC c (1, (id, ())) := fun x hx y hy => by
          show y ∈ leadsV (tabsV c) (blksV c) (grpsV c) (1, (id, ()))
          unfold leadsV
          rw [if_neg (by show ¬ ((1 : Int) = 0); omega), if_pos (by show (1 : Int) = 1; rfl)]
          show y ∈ ((blksV c id).getD []).flatMap leadI
          rw [hb]
          exact List.mem_flatMap.2 ⟨x, hx, hy⟩
        have hcl := h.code _ (rdd_mem (d := zBlockS) hlt)
        right
        obtain ⟨n, a', e, l, u, ha'⟩ := L_wb2 (qt := qt) (qb := qb) (c := c) (p := p) hp (fun y5 y6 y7 y8 y9 y10 y11 y12 y13 y14 y15 y16 => kr y5 y6 y7 y8 y9 y10 y11 y12 y13 y14 y15 y16) ((rdd zBlockS c.2.2.2.2.1 i).2.1) hcl
          (fun x hx h13 => ht _ (hlead x hx _ (by unfold leadI; rw [if_pos h13]; exact List.mem_singleton.2 rfl)) rfl)
          (fun x hx h14 => hg _ (hlead x hx _ (by unfold leadI; rw [if_neg (by omega), if_pos h14]; exact List.mem_singleton.2 rfl)) rfl) hH FUEL 0 0 a (Int.le_refl _) (by omega) (fuel_big (by show (rdd zBlockS (cB c) i).2.1.length - 0 ≤ _; omega)) ha (Int.le_refl _)
          (by show 0 + rdd 0 (codeL (HC c) (rdd zBlockS (cB c) i).2.1) 0 ≤ _; omega)
        exact ⟨n, a', stepT' c1 (stepT' c2 (stepF' n1 (stepT' c2 e))), l, u, ha'⟩
      · have n1 : ((rdd zBlockS c.2.2.2.2.1 i).1 != id) = true := by rw [int_bne, decide_eq_false he]; rfl
        rw [i64_succ (by omega)]
        rcases L_wb0 (qt := qt) (qb := qb) hp h hn id kr kt ht hg hH a ha m (i + 1) (by omega) (by omega) (fun j hj' => by
          by_cases e : j = i
          · rw [e]; exact he
          · exact hj j (by omega)) with e | ⟨n, a', e, l, u, ha'⟩
        · exact .inl (stepT' c1 (stepT' c2 (stepT' n1 e)))
        · exact .inr ⟨n, a', stepT' c1 (stepT' c2 (stepT' n1 e)), l, u, ha'⟩
    · left
      exact stepF' (decide_eq_false (by show ¬ (i : Int) < ((cB c).length : Int); omega)) rfl

noncomputable abbrev MB (qt qb : WF) : WF := fun a0 a1 a2 a3 a4 a5 a6 a7 a8 a9 a10 a11 => decRes ro_z0x rh_z0x (M_z0x FUEL qt qb a0 a1 a2 a3 a4 a5 a6 a7 a8 a9 a10 a11)
theorem MB_ok {qt qb : WF} {c : ConfigS} {p : List Int} (hp : Pk p) (h : Cfg c) (hn : ¬ RingC c) (id : Int)
    (ht : ∀ y ∈ leadsC c (1, (id, ())), y.1 = 0 → HC c y ≤ 20000 → WkOk qt c p (HC c y) y.2.1)
    (hg : ∀ y ∈ leadsC c (1, (id, ())), y.1 = 2 → HC c y ≤ 20000 → WkOk (Q_z0w qb) c p (HC c y) y.2.1) (hH : HC c (1, (id, ())) ≤ 20000) : WkOk (MB qt qb) c p (HC c (1, (id, ()))) id := fun a ha => by
  have h0 : 0 ≤ HC c (1, (id, ())) := (H_in _ _ _ _).1
  have hlb := h.b
  rcases L_wb0 (qt := qt) (qb := qb) hp h hn id (fun y29 y30 y31 y32 y33 y34 y35 y36 y37 y38 y39 y40 => some (encRes ro_z0x rh_z0x ((y29, ()), ((y30, (y31, (y32, (y33, (y34, (y35, (y36, (y37, (y38, (y39, (y40, ()))))))))))), ()))))
      (fun _ => some (encRes ro_z0x rh_z0x (wR 0 c p a))) ht hg hH a ha FUEL 0 (Nat.zero_le _) (fuel_big (by omega)) (fun j hj => by omega) with e | ⟨n, a', e, l, u, ha'⟩
  · exact ⟨0, a, fin e, Int.le_refl _, h0, ha⟩
  · exact ⟨n, a', fin e, l, u, ha'⟩

/-- A table's blocks. -/
theorem L_wt2 {qt : WF} (kt : Nat → List Int → Option Res) (id : Int) (es : List EntryS) (hes : es.length ≤ 1000) : ∀ (m j : Nat) (out : List Int), j ≤ es.length → es.length - j < m → out.length ≤ j + 1 →
    L_z0y_2 FUEL qt kt id es m out.length (j : Int) out = kt (out ++ ((es.drop j).filter fun x => decide (x.1 = id)).map eB).length (out ++ ((es.drop j).filter fun x => decide (x.1 = id)).map eB)
  | 0, j, out, _, h, _ => by omega
  | m + 1, j, out, hj, hm, ho => by
    show F_z0y_2 FUEL qt kt id es (L_z0y_2 FUEL qt kt id es m) out.length (j : Int) out = _
    unfold F_z0y_2
    by_cases hlt : j < es.length
    · have c1 : decide ((j : Int) < ((es.length : Nat) : Int)) = true := decide_eq_true (by omega)
      have c2 : decide ((0 : Int) ≤ (j : Int) ∧ (j : Int) < ((es.length : Nat) : Int)) = true := decide_eq_true (by omega)
      rw [drop_rdd zEntryS hlt, toNat_cast, i64_succ (by omega)]
      by_cases he : (rdd zEntryS es j).1 = id
      · refine stepT' c1 (stepT' c2 (stepT' (beqT' he) (stepT' c2 ?_)))
        rw [cutL_all]
        refine stepT' (decide_eq_true (by omega)) ?_
        rw [List.filter_cons_of_pos (by simpa using he)]
        have e := L_wt2 (qt := qt) kt id es hes m (j + 1) (out ++ [(rdd zEntryS es j).2.2.2.2.2.1]) (by omega) (by omega) (by simp; omega)
        rw [List.length_append (as := out) (bs := [_])] at e
        refine e.trans ?_
        simp
      · refine stepT' c1 (stepT' c2 (stepF' (beqF' he) ?_))
        rw [List.filter_cons_of_neg (by simpa using he)]
        exact L_wt2 (qt := qt) kt id es hes m (j + 1) out (by omega) (by omega) (by omega)
    · refine stepF' (decide_eq_false (by omega)) ?_
      rw [List.drop_of_length_le (by omega)]
      simp

theorem L_wt0 {qt : WF} {c : ConfigS} {p : List Int} (hp : Pk p) (h : Cfg c) (hn : ¬ RingC c) (id : Int) (kr : KR) (kt : Unit → Option Res)
    (hq : ∀ y ∈ leadsC c (0, (id, ())), HC c y ≤ 20000 → WkOk (Q_z0x qt) c p (HC c y) y.2.1) (hH : HC c (0, (id, ())) ≤ 20000) (a : Int) (ha : AtOk p a) :
    ∀ (m i : Nat), i ≤ (cT c).length → (cT c).length - i < m → (∀ j, j < i → (rdd zTableS (cT c) j).1 ≠ id) →
    (L_z0y_0 FUEL qt kr kt id c.1 c.2.1 c.2.2.1 c.2.2.2.1 c.2.2.2.2.1 c.2.2.2.2.2.1 c.2.2.2.2.2.2.1 c.2.2.2.2.2.2.2.1 c.2.2.2.2.2.2.2.2.1 p a m (i : Int) = kt ()) ∨
    ∃ n a', L_z0y_0 FUEL qt kr kt id c.1 c.2.1 c.2.2.1 c.2.2.2.1 c.2.2.2.2.1 c.2.2.2.2.2.1 c.2.2.2.2.2.2.1 c.2.2.2.2.2.2.2.1 c.2.2.2.2.2.2.2.2.1 p a m (i : Int) = apK kr n c p a' ∧ 0 ≤ n ∧ n ≤ HC c (0, (id, ())) ∧ AtOk p a'
  | 0, i, _, h, _ => by omega
  | m + 1, i, hi, hm, hj => by
    have hlt' := h.t
    have hle' := h.e
    show (F_z0y_0 FUEL qt kr kt id _ _ _ _ _ _ _ _ _ p a (L_z0y_0 FUEL qt kr kt id _ _ _ _ _ _ _ _ _ p a m) (i : Int) = kt ()) ∨ ∃ n a', F_z0y_0 FUEL qt kr kt id _ _ _ _ _ _ _ _ _ p a (L_z0y_0 FUEL qt kr kt id _ _ _ _ _ _ _ _ _ p a m) (i : Int) = _ ∧ _
    unfold F_z0y_0
    by_cases hlt : i < (cT c).length
    · have c1 : decide ((i : Int) < ((List.length c.2.2.1 : Nat) : Int)) = true := decide_eq_true (by show (i : Int) < ((cT c).length : Int); omega)
      have c2 : decide ((0 : Int) ≤ (i : Int) ∧ (i : Int) < ((List.length c.2.2.1 : Nat) : Int)) = true := decide_eq_true (by show (0 : Int) ≤ (i : Int) ∧ (i : Int) < ((cT c).length : Int); omega)
      rw [toNat_cast]
      by_cases he : (rdd zTableS (cT c) i).1 = id
      · have n1 : ((rdd zTableS c.2.2.1 i).1 != id) = false := by rw [int_bne, decide_eq_true he]; rfl
        have hf := firstT_at hj hlt he
        generalize hL : ([(rdd zTableS c.2.2.1 i).2.2.2.2.1] ++ (((cE c).drop 0).filter fun x => decide (x.1 = id)).map eB) = L
        have hb : tabsV c id = some L := by
          unfold tabsV; rw [hf, ← hL]; rfl
        have hLl : L.length ≤ 1001 := by
          rw [← hL]
          have := List.length_filter_le (fun x : EntryS => decide (x.1 = id)) ((cE c).drop 0)
          simp only [List.length_append, List.length_map, List.length_singleton, List.length_drop] at *
          omega
        have hLp : 0 < L.length := by rw [← hL]; simp
        have hv : HC c (0, (id, ())) = cut7 (foldT (HC c) L + 1) := by
          refine Eq.trans (H_eq (h.sol.ends hn (0, (id, ())))) ?_
          unfold stepV
          rw [if_pos (by show (0 : Int) = 0; rfl)]
          show cut7 (match tabsV c id with | none => 0 | some l => foldT _ l + 1) = _
          rw [hb]
        have hle : foldT (HC c) L + 1 = HC c (0, (id, ())) := by
          rw [hv] at hH ⊢
          exact (cut7_low hH).symm
        right
        have e0 := fun kt => L_wt2 (qt := qt) kt id c.2.2.2.1 hle' FUEL 0 [(rdd zTableS c.2.2.1 i).2.2.2.2.1] (Nat.zero_le _) (fuel_big (by show (cE c).length - 0 ≤ _; omega)) (by simp)
        rw [hL] at e0
        obtain ⟨r, a1, e1, l1, u1, ha1⟩ := Q_pick hp c ((L.length : Nat) : Int) (by omega) a ha
        have hr := u1 (by omega)
        have hrl : r.toNat < L.length := by omega
        have hmem := rdd_mem (d := (0 : Int)) hrl
        have hbnd := (foldT_ge (f := HC c) L).2 _ hmem
        obtain ⟨n, a2, e2, l2, u2, ha2⟩ := hq (1, (rdd 0 L r.toNat, ())) (by
          show (1, (rdd 0 L r.toNat, ())) ∈ leadsV (tabsV c) (blksV c) (grpsV c) (0, (id, ()))
          unfold leadsV
          rw [if_pos (by show (0 : Int) = 0; rfl)]
          show (1, (rdd 0 L r.toNat, ())) ∈ ((tabsV c id).getD []).map fun k => ((1, (k, ())) : ObjS)
          rw [hb]
          exact List.mem_map.2 ⟨_, hmem, rfl⟩) (by omega) a1 ha1
        refine ⟨1 + n, a2, stepT' c1 (stepT' c2 (stepF' n1 (stepT' c2 ((e0 _).trans ?_)))), by omega, by omega, ha2⟩
        extract_lets -merge +onlyGivenNames y3
        have e_y : y3 = _ := (congrArg RS.get e1).trans (get_some _)
        clear_value y3; subst e_y
        refine stepC' e1 ?_
        refine stepT' (decide_eq_true (by show 0 ≤ r ∧ r < ((L.length : Nat) : Int); omega)) ?_
        extract_lets -merge +onlyGivenNames y4
        have e_y : y4 = _ := (congrArg RS.get e2).trans (get_some _)
        clear_value y4; subst e_y
        refine stepC' e2 ?_
        have w2 : IntKind.wrap .i64 (1 + n) = 1 + n := i64_id (by omega)
        show apK kr (IntKind.wrap .i64 (1 + n)) c p a2 = _
        rw [w2]
      · have n1 : ((rdd zTableS c.2.2.1 i).1 != id) = true := by rw [int_bne, decide_eq_false he]; rfl
        rw [i64_succ (by omega)]
        rcases L_wt0 (qt := qt) hp h hn id kr kt hq hH a ha m (i + 1) (by omega) (by omega) (fun j hj' => by
          by_cases e : j = i
          · rw [e]; exact he
          · exact hj j (by omega)) with e | ⟨n, a', e, l, u, ha'⟩
        · exact .inl (stepT' c1 (stepT' c2 (stepT' n1 e)))
        · exact .inr ⟨n, a', stepT' c1 (stepT' c2 (stepT' n1 e)), l, u, ha'⟩
    · left
      exact stepF' (decide_eq_false (by show ¬ (i : Int) < ((cT c).length : Int); omega)) rfl

noncomputable abbrev MT (qt : WF) : WF := fun a0 a1 a2 a3 a4 a5 a6 a7 a8 a9 a10 a11 => decRes ro_z0y rh_z0y (M_z0y FUEL qt a0 a1 a2 a3 a4 a5 a6 a7 a8 a9 a10 a11)
theorem MT_ok {qt : WF} {c : ConfigS} {p : List Int} (hp : Pk p) (h : Cfg c) (hn : ¬ RingC c) (id : Int)
    (hq : ∀ y ∈ leadsC c (0, (id, ())), HC c y ≤ 20000 → WkOk (Q_z0x qt) c p (HC c y) y.2.1) (hH : HC c (0, (id, ())) ≤ 20000) : WkOk (MT qt) c p (HC c (0, (id, ()))) id := fun a ha => by
  have h0 : 0 ≤ HC c (0, (id, ())) := (H_in _ _ _ _).1
  have hlb := h.t
  rcases L_wt0 (qt := qt) hp h hn id (fun y29 y30 y31 y32 y33 y34 y35 y36 y37 y38 y39 y40 => some (encRes ro_z0y rh_z0y ((y29, ()), ((y30, (y31, (y32, (y33, (y34, (y35, (y36, (y37, (y38, (y39, (y40, ()))))))))))), ()))))
      (fun _ => some (encRes ro_z0y rh_z0y (wR 0 c p a))) hq hH a ha FUEL 0 (Nat.zero_le _) (fuel_big (by omega)) (fun j hj => by omega) with e | ⟨n, a', e, l, u, ha'⟩
  · exact ⟨0, a, fin e, Int.le_refl _, h0, ha⟩
  · exact ⟨n, a', fin e, l, u, ha'⟩

/-- All of them, by rank. -/
theorem walk_all {c : ConfigS} {p : List Int} (hp : Pk p) (h : Cfg c) (hn : ¬ RingC c) {U : List ObjS} (hU : ∀ x ∈ U, ∀ y ∈ leadsC c x, y ∈ U) (hUl : U.length ≤ 400000000) :
    ∀ (r : Nat), (∀ x ∈ U, x.1 = 0 → rk U (leadsC c) x < r → HC c x ≤ 20000 → ∀ dt, rk U (leadsC c) x < dt → WkOk (Qd_z0y dt) c p (HC c x) x.2.1) ∧
      (∀ x ∈ U, x.1 = 1 → rk U (leadsC c) x < r → HC c x ≤ 20000 → ∀ dt db, rk U (leadsC c) x < dt → rk U (leadsC c) x < db → WkOk (Qd_z0x (Qd_z0y dt) db) c p (HC c x) x.2.1) ∧
      (∀ x ∈ U, x.1 = 2 → rk U (leadsC c) x < r → HC c x ≤ 20000 → ∀ dt db, rk U (leadsC c) x < dt → rk U (leadsC c) x < db → WkOk (Q_z0w (Qd_z0x (Qd_z0y dt) db)) c p (HC c x) x.2.1)
  | 0 => ⟨fun _ _ _ h => by omega, fun _ _ _ h => by omega, fun _ _ _ h => by omega⟩
  | r + 1 => by
    obtain ⟨i0, i1, i2⟩ := walk_all hp h hn hU hUl r
    have hend := h.sol.ends hn
    have hlow : ∀ {x y : ObjS}, x ∈ U → y ∈ leadsC c x → rk U (leadsC c) y < rk U (leadsC c) x := fun {x y} hx hy => rk_lt (hend x) hy (hU x hx y hy)
    have hbig : ∀ {x : ObjS}, rk U (leadsC c) x ≤ U.length := fun {x} => List.countP_le_length
    refine ⟨fun x hx hk hr hH dt hdt => ?_, fun x hx hk hr hH dt db hdt hdb => ?_, fun x hx hk hr hH dt db hdt hdb => ?_⟩
    · obtain ⟨k, id, u⟩ := x
      have hk : k = 0 := hk
      subst hk
      cases dt with
      | zero => omega
      | succ dt =>
        refine MT_ok hp h hn id (fun y hy hy2 => ?_) hH
        have hl := hlow hx hy
        have hb := hbig (x := y)
        refine i1 y (hU _ hx y hy) ?_ (by omega) hy2 dt FUEL (by omega) (by unfold FUEL; omega)
        have hy : y ∈ leadsV (tabsV c) (blksV c) (grpsV c) (0, (id, ())) := hy
        unfold leadsV at hy
        rw [if_pos (by show (0 : Int) = 0; rfl)] at hy
        obtain ⟨k, _, rfl⟩ := List.mem_map.1 hy
        rfl
    · obtain ⟨k, id, u⟩ := x
      have hk : k = 1 := hk
      subst hk
      cases db with
      | zero => omega
      | succ db =>
        refine MB_ok hp h hn id (fun y hy hk hy2 => ?_) (fun y hy hk hy2 => ?_) hH
        · have hl := hlow hx hy
          exact i0 y (hU _ hx y hy) hk (by omega) hy2 dt (by omega)
        · have hl := hlow hx hy
          exact i2 y (hU _ hx y hy) hk (by omega) hy2 dt db (by omega) (by omega)
    · obtain ⟨k, id, u⟩ := x
      have hk : k = 2 := hk
      subst hk
      refine Q_wgroup hp h hn id (fun y hy hy2 => ?_) hH
      have hl := hlow hx hy
      refine i1 y (hU _ hx y hy) ?_ (by omega) hy2 dt db (by omega) (by omega)
      have hy : y ∈ leadsV (tabsV c) (blksV c) (grpsV c) (2, (id, ())) := hy
      unfold leadsV at hy
      rw [if_neg (by show ¬ ((2 : Int) = 0); omega), if_neg (by show ¬ ((2 : Int) = 1); omega)] at hy
      obtain ⟨k, _, rfl⟩ := List.mem_map.1 hy
      rfl

theorem walk_U {c : ConfigS} (h : Cfg c) (x : ObjS) : ∃ U : List ObjS, x ∈ U ∧ (∀ x ∈ U, ∀ y ∈ leadsC c x, y ∈ U) ∧ U.length ≤ 400000000 := by
  have hs := h.sol
  refine ⟨x :: leadsC c x ++ univ (allV c) (tabsV c) (blksV c) (grpsV c), List.mem_cons_self, fun y hy z hz => ?_, ?_⟩
  · rcases List.mem_cons.1 hy with rfl | hy
    · exact List.mem_cons_of_mem _ (List.mem_append_left _ hz)
    · refine List.mem_cons_of_mem _ (List.mem_append_right _ ?_)
      rcases List.mem_append.1 hy with hy | hy
      · exact List.mem_append_right _ (List.mem_flatMap.2 ⟨y, hs.here y (leads_kind hy) (fun e => by rw [show leadsC c y = leadsV (tabsV c) (blksV c) (grpsV c) y from rfl, e] at hz; cases hz), hz⟩)
      · exact hs.shut y hy z hz
  · have := hs.univ_len; have := leads_len hs.small x
    rw [List.length_append, List.length_cons]
    show (leadsV (tabsV c) (blksV c) (grpsV c) x).length + 1 + _ ≤ _
    omega
theorem walk_table {c : ConfigS} {p : List Int} (hp : Pk p) (h : Cfg c) (hn : ¬ RingC c) (id : Int) (hH : HC c (0, (id, ())) ≤ 20000) : WkOk Q_z0y c p (HC c (0, (id, ()))) id := by
  obtain ⟨U, h1, h2, h3⟩ := walk_U h (0, (id, ()))
  have hb : rk U (leadsC c) (0, (id, ())) ≤ U.length := List.countP_le_length
  have k := (walk_all hp h hn h2 h3 (U.length + 1)).1 _ h1 rfl (by omega) hH FUEL (by unfold FUEL; omega)
  exact fun a ha => by
    obtain ⟨n, a', e, r⟩ := k a ha
    exact ⟨n, a', e, r⟩
theorem walk_block {c : ConfigS} {p : List Int} (hp : Pk p) (h : Cfg c) (hn : ¬ RingC c) (id : Int) (hH : HC c (1, (id, ())) ≤ 20000) : WkOk (Q_z0x Q_z0y) c p (HC c (1, (id, ()))) id := by
  obtain ⟨U, h1, h2, h3⟩ := walk_U h (1, (id, ()))
  have hb : rk U (leadsC c) (1, (id, ())) ≤ U.length := List.countP_le_length
  have k := (walk_all hp h hn h2 h3 (U.length + 1)).2.1 _ h1 rfl (by omega) hH FUEL FUEL (by unfold FUEL; omega) (by unfold FUEL; omega)
  have et : Q_z0y = Qd_z0y FUEL := by
    funext a0 a1 a2 a3 a4 a5 a6 a7 a8 a9 a10 a11
    unfold Q_z0y
    rfl
  rw [et]
  exact fun a ha => by
    obtain ⟨n, a', e, r⟩ := k a ha
    exact ⟨n, a', e, r⟩
end Go.AMach

/- BoundWays. -/
namespace Go.AMach
set_option linter.unusedVariables false
set_option linter.unusedSimpArgs false
set_option linter.unnecessarySimpa false
set_option linter.unusedVariables false
set_option linter.unusedSimpArgs false
open Classical in
theorem Pure.BoundWays (c : ConfigS) (hg : ConfigT.good c) (p : List Int) (hp : (Ty.slice (.int .u8)).good p) (id : Int) (hid : (Ty.int .i64).good id) : Q_z0z c p id = some ((true, ()), ()) := by
  refine fin ?_
  unfold M_z0z
  have el := Q_large (cfg_len hg)
  extract_lets -merge +onlyGivenNames y1
  have e_y : y1 = _ := (congrArg RS.get el).trans (get_some _)
  clear_value y1; subst e_y
  refine stepC' el ?_
  have ya : q_z0s = ((true, ()), ()) := (congrArg RS.get awake24).trans (get_some _)
  cases hL : largeV c with
  | true =>
    refine stepT' rfl ?_
    extract_lets -merge +onlyGivenNames y2
    have e_y : y2 = _ := ya
    clear_value y2; subst e_y
    exact stepC' (o := Q_z0s) awake24 rfl
  | false =>
    refine stepF' rfl ?_
    by_cases h5 : ((p.length : Nat) : Int) > (5000 : Int)
    · refine stepT' (decide_eq_true h5) ?_
      extract_lets -merge +onlyGivenNames y3
      have e_y : y3 = _ := ya
      clear_value y3; subst e_y
      exact stepC' (o := Q_z0s) awake24 rfl
    · refine stepF' (decide_eq_false h5) ?_
      extract_lets -merge +onlyGivenNames y4
      have e_y : y4 = _ := ya
      clear_value y4; subst e_y
      refine stepC' (o := Q_z0s) awake24 ?_
      refine stepF' rfl ?_
      have h := (largeV_cfg hL).1
      have hpk : Pk p := ⟨by omega, fun x hx => by
        have h1 : (Lit.int .u8 x).wf = true := hp.2 x hx
        simp only [Lit.wf, IntKind.min, IntKind.max, IntKind.signed, IntKind.bits, Bool.and_eq_true, decide_eq_true_eq] at h1
        simp at h1
        omega⟩
      have e1 := Q_Table h 1
      have e2 := Q_Block h id
      have e3 := Q_Cycle h
      extract_lets -merge +onlyGivenNames y6
      have e_y : y6 = _ := (congrArg RS.get e1).trans (get_some _)
      clear_value y6; subst e_y
      refine stepC' e1 ?_
      extract_lets -merge +onlyGivenNames y7
      have e_y : y7 = _ := (congrArg RS.get e2).trans (get_some _)
      clear_value y7; subst e_y
      refine stepC' e2 ?_
      by_cases hr : RingC c
      · have o1 : ofV c (0, (1, ())) = (0, 10) := by unfold ofV; rw [if_pos hr]
        have o2 : ofV c (1, (id, ())) = (0, 10) := by unfold ofV; rw [if_pos hr]
        rw [o1, o2]
        refine stepT' rfl (stepT' rfl (stepT' rfl (stepT' rfl ?_)))
        extract_lets -merge +onlyGivenNames y8
        have e_y : y8 = _ := (congrArg RS.get e3).trans (get_some _)
        clear_value y8; subst e_y
        refine stepC' e3 ?_
        rw [decide_eq_true hr]
      · have o1 : ofV c (0, (1, ())) = (HC c (0, (1, ())), 0) := by unfold ofV; rw [if_neg hr]
        have o2 : ofV c (1, (id, ())) = (HC c (1, (id, ())), 0) := by unfold ofV; rw [if_neg hr]
        rw [o1, o2]
        refine stepF' rfl (stepF' rfl ?_)
        by_cases b1 : HC c (0, (1, ())) > 20000
        · refine stepT' (decide_eq_true b1) ?_
          extract_lets -merge +onlyGivenNames y10
          have e_y : y10 = _ := (congrArg RS.get e3).trans (get_some _)
          clear_value y10; subst e_y
          refine stepC' e3 ?_
          rw [decide_eq_false hr]; rfl
        · refine stepF' (decide_eq_false b1) ?_
          by_cases b2 : HC c (1, (id, ())) > 20000
          · refine stepT' (decide_eq_true b2) ?_
            extract_lets -merge +onlyGivenNames y11
            have e_y : y11 = _ := (congrArg RS.get e3).trans (get_some _)
            clear_value y11; subst e_y
            refine stepC' e3 ?_
            rw [decide_eq_false hr]; rfl
          · refine stepF' (decide_eq_false b2) ?_
            obtain ⟨n1, a1, q1, l1, u1, _⟩ := walk_table hpk h hr 1 (by omega) 0 ⟨by omega, by omega⟩
            obtain ⟨n2, a2, q2, l2, u2, _⟩ := walk_block hpk h hr id (by omega) 0 ⟨by omega, by omega⟩
            extract_lets -merge +onlyGivenNames y12
            have e_y : y12 = _ := (congrArg RS.get q1).trans (get_some _)
            clear_value y12; subst e_y
            refine stepC' q1 ?_
            refine stepF' (decide_eq_false (by show ¬ (n1 > HC c (0, (1, ()))); omega)) ?_
            extract_lets -merge +onlyGivenNames y13
            have e_y : y13 = _ := (congrArg RS.get q2).trans (get_some _)
            clear_value y13; subst e_y
            refine stepC' q2 ?_
            show some (encRes ro_z0z rh_z0z ((decide (n2 ≤ HC c (1, (id, ()))), ()), ())) = _
            rw [decide_eq_true u2]
end Go.AMach
