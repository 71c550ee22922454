/- Contracts: fragments compared by the document's answer. -/
import Derived.Test.YthhgeodgfbhkdaaYc
set_option linter.unusedVariables false
set_option linter.unusedSimpArgs false
set_option linter.unusedSectionVars false
namespace Go.AX.Tri
open Go.Proofs Go.AX.Mc
set_option linter.unusedSimpArgs false
set_option linter.unusedVariables false
noncomputable section

theorem loop23v {env : List Lp} {k : List KF} {Q : QF} (a a' : Option Addr) (c c' b6 b7 : Nat) (vs ws : List V4) (hl : vs.length = ws.length) (hsz : vs.length < 9223372036854775808) (h : AH) (hv : VecAt h a vs) (hw : VecAt h a' ws)
    (k6 : b6 < h.nx) (k7 : b7 < h.nx) (e6 : rd h b6 9 1 = some [.slice a vs.length c]) (e7 : rd h b7 9 1 = some [.slice a' ws.length c']) (x0 x1 x15 x16 : Value)
    (q1 : ∀ fr h', Ext h h' → eqVs vs ws = false → tmp fr (pa 4) = .bool false → Kt T env false k .ret fr [] (ext h []) Q)
    (q2 : ∀ fr, eqVs vs ws = true → tmp fr (pa 0) = x0 → tmp fr (pa 1) = x1 → tmp fr (pa 15) = x15 → tmp fr (pa 16) = x16 → Kt T env false k .normal fr [] (ext h []) Q) :
    ∀ (m i : Nat), i + m = vs.length → ∀ (fr : Tr Value), tmp fr (pa 0) = x0 → tmp fr (pa 1) = x1 → tmp fr (pa 15) = x15 → tmp fr (pa 16) = x16 → (∀ (j : Nat) v w, j < i → vs[j]? = some v → ws[j]? = some w → eqV v w = true) →
      tmp fr (pa 6) = .pointer (some ⟨b6, 0, none⟩) → tmp fr (pa 7) = .pointer (some ⟨b7, 0, none⟩) → tmp fr (pa 78) = .int .i64 vs.length → tmp fr (pa 79) = .int .i64 i →
      X T env false (.loop a23l0) (.blk 2 :: k) fr [] (ext h []) Q := by
  intro m
  induction m with
  | zero =>
    intro i hi fr f0 f1 f15 f16 h5 t6 t7 t12 t13
    rw [X_loop]
    change X _ _ _ (.seq _ _) _ _ _ _ _
    simp only [t6, t7, t12, t13, show ¬ ((i : Int) < vs.length) by omega, decide_false, go_sem, bin_add, bin_sub, bin_mul, Nat.reduceAdd, Nat.reduceMul, Nat.reduceEqDiff, Nat.reduceLeDiff, Nat.reduceLT, Nat.reduceSub, reduceIte, reduceCtorEq, Int.reduceToNat, Int.reduceNeg, Int.reduceLE, Int.reduceLT, Int.reduceEq, Nat.reduceOr, Nat.reduceShiftRight, Nat.reduceMod, Nat.reduceBNe, Nat.reduceBEq]
    refine q2 _ (eqL_true hl fun j v w hj hk => h5 j v w ?_ hj hk) ?_ ?_ ?_ ?_
    · have := (List.getElem?_eq_some_iff.1 hj).1; omega
    all_goals simp only [f0, f1, f15, f16, go_sem, bin_add, bin_sub, bin_mul, Nat.reduceAdd, Nat.reduceMul, Nat.reduceEqDiff, Nat.reduceLeDiff, Nat.reduceLT, Nat.reduceSub, reduceIte, reduceCtorEq, Int.reduceToNat, Int.reduceNeg, Int.reduceLE, Int.reduceLT, Int.reduceEq, Nat.reduceOr, Nat.reduceShiftRight, Nat.reduceMod, Nat.reduceBNe, Nat.reduceBEq]
  | succ m ih =>
    intro i hi fr f0 f1 f15 f16 h5 t6 t7 t12 t13
    have hlt : (i : Int) < vs.length := by omega
    have h0 : i < vs.length := by omega
    have h1 : i < ws.length := by omega
    obtain ⟨v, ev⟩ : ∃ v, vs[i]? = some v := ⟨vs[i]'(by omega), List.getElem?_eq_getElem (by omega)⟩
    obtain ⟨w, ew⟩ : ∃ v, ws[i]? = some v := ⟨ws[i]'(by omega), List.getElem?_eq_getElem (by omega)⟩
    obtain ⟨b, o, r, ha, hr, hb, r1⟩ := hv i v ev
    obtain ⟨b', o', r', ha', hr', hb', r2⟩ := hw i w ew
    rw [X_loop]
    change X _ _ _ (.seq _ _) _ _ _ _ _
    rw [ha] at e6
    rw [ha'] at e7
    rcases hr with rfl | rfl <;> rcases hr' with rfl | rfl
    all_goals
      simp only [t6, t7, t12, t13, hlt, go_sem, bin_add, bin_sub, bin_mul, Nat.reduceAdd, Nat.reduceMul, Nat.reduceEqDiff, Nat.reduceLeDiff, Nat.reduceLT, Nat.reduceSub, reduceIte, reduceCtorEq, Int.reduceToNat, Int.reduceNeg, Int.reduceLE, Int.reduceLT, Int.reduceEq, Nat.reduceOr, Nat.reduceShiftRight, Nat.reduceMod, Nat.reduceBNe, Nat.reduceBEq]
      refine X_drawE 0 (by rfl) ?_
      simp only [V4.cs, t6, t7, t13, k6, k7, e6, e7, h0, h1, rd_old _ _ _ _ _ hb, rd_old _ _ _ _ _ hb', rd_old _ _ _ _ _ k6, rd_old _ _ _ _ _ k7, r1, r2, bin_neqV', go_sem, bin_add, bin_sub, bin_mul, Nat.reduceAdd, Nat.reduceMul, Nat.reduceEqDiff, Nat.reduceLeDiff, Nat.reduceLT, Nat.reduceSub, reduceIte, reduceCtorEq, Int.reduceToNat, Int.reduceNeg, Int.reduceLE, Int.reduceLT, Int.reduceEq, Nat.reduceOr, Nat.reduceShiftRight, Nat.reduceMod, Nat.reduceBNe, Nat.reduceBEq]
      refine Cd_split ?_ ?_ <;> intro g
      · simp only [g, go_sem, bin_add, bin_sub, bin_mul, Nat.reduceAdd, Nat.reduceMul, Nat.reduceEqDiff, Nat.reduceLeDiff, Nat.reduceLT, Nat.reduceSub, reduceIte, reduceCtorEq, Int.reduceToNat, Int.reduceNeg, Int.reduceLE, Int.reduceLT, Int.reduceEq, Nat.reduceOr, Nat.reduceShiftRight, Nat.reduceMod, Nat.reduceBNe, Nat.reduceBEq]
        refine q1 _ _ (Ext.refl h) (eqL_false i v w ev ew (by simpa using g)) ?_
        simp only [go_sem, bin_add, bin_sub, bin_mul, Nat.reduceAdd, Nat.reduceMul, Nat.reduceEqDiff, Nat.reduceLeDiff, Nat.reduceLT, Nat.reduceSub, reduceIte, reduceCtorEq, Int.reduceToNat, Int.reduceNeg, Int.reduceLE, Int.reduceLT, Int.reduceEq, Nat.reduceOr, Nat.reduceShiftRight, Nat.reduceMod, Nat.reduceBNe, Nat.reduceBEq]
      · simp only [g, t13, go_sem, bin_add, bin_sub, bin_mul, Nat.reduceAdd, Nat.reduceMul, Nat.reduceEqDiff, Nat.reduceLeDiff, Nat.reduceLT, Nat.reduceSub, reduceIte, reduceCtorEq, Int.reduceToNat, Int.reduceNeg, Int.reduceLE, Int.reduceLT, Int.reduceEq, Nat.reduceOr, Nat.reduceShiftRight, Nat.reduceMod, Nat.reduceBNe, Nat.reduceBEq]
        refine ih (i + 1) (by omega) _ ?_ ?_ ?_ ?_ ?_ ?_ ?_ ?_ ?_
        · simp only [f0, go_sem, bin_add, bin_sub, bin_mul, Nat.reduceAdd, Nat.reduceMul, Nat.reduceEqDiff, Nat.reduceLeDiff, Nat.reduceLT, Nat.reduceSub, reduceIte, reduceCtorEq, Int.reduceToNat, Int.reduceNeg, Int.reduceLE, Int.reduceLT, Int.reduceEq, Nat.reduceOr, Nat.reduceShiftRight, Nat.reduceMod, Nat.reduceBNe, Nat.reduceBEq]
        · simp only [f1, go_sem, bin_add, bin_sub, bin_mul, Nat.reduceAdd, Nat.reduceMul, Nat.reduceEqDiff, Nat.reduceLeDiff, Nat.reduceLT, Nat.reduceSub, reduceIte, reduceCtorEq, Int.reduceToNat, Int.reduceNeg, Int.reduceLE, Int.reduceLT, Int.reduceEq, Nat.reduceOr, Nat.reduceShiftRight, Nat.reduceMod, Nat.reduceBNe, Nat.reduceBEq]
        · simp only [f15, go_sem, bin_add, bin_sub, bin_mul, Nat.reduceAdd, Nat.reduceMul, Nat.reduceEqDiff, Nat.reduceLeDiff, Nat.reduceLT, Nat.reduceSub, reduceIte, reduceCtorEq, Int.reduceToNat, Int.reduceNeg, Int.reduceLE, Int.reduceLT, Int.reduceEq, Nat.reduceOr, Nat.reduceShiftRight, Nat.reduceMod, Nat.reduceBNe, Nat.reduceBEq]
        · simp only [f16, go_sem, bin_add, bin_sub, bin_mul, Nat.reduceAdd, Nat.reduceMul, Nat.reduceEqDiff, Nat.reduceLeDiff, Nat.reduceLT, Nat.reduceSub, reduceIte, reduceCtorEq, Int.reduceToNat, Int.reduceNeg, Int.reduceLE, Int.reduceLT, Int.reduceEq, Nat.reduceOr, Nat.reduceShiftRight, Nat.reduceMod, Nat.reduceBNe, Nat.reduceBEq]
        · intro j x y hj hx hy
          by_cases e : j = i
          · subst e
            rw [ev] at hx; cases hx
            rw [ew] at hy; cases hy
            simpa using g
          · exact h5 j x y (by omega) hx hy
        · simp only [t6, go_sem, bin_add, bin_sub, bin_mul, Nat.reduceAdd, Nat.reduceMul, Nat.reduceEqDiff, Nat.reduceLeDiff, Nat.reduceLT, Nat.reduceSub, reduceIte, reduceCtorEq, Int.reduceToNat, Int.reduceNeg, Int.reduceLE, Int.reduceLT, Int.reduceEq, Nat.reduceOr, Nat.reduceShiftRight, Nat.reduceMod, Nat.reduceBNe, Nat.reduceBEq]
        · simp only [t7, go_sem, bin_add, bin_sub, bin_mul, Nat.reduceAdd, Nat.reduceMul, Nat.reduceEqDiff, Nat.reduceLeDiff, Nat.reduceLT, Nat.reduceSub, reduceIte, reduceCtorEq, Int.reduceToNat, Int.reduceNeg, Int.reduceLE, Int.reduceLT, Int.reduceEq, Nat.reduceOr, Nat.reduceShiftRight, Nat.reduceMod, Nat.reduceBNe, Nat.reduceBEq]
        · simp only [t12, go_sem, bin_add, bin_sub, bin_mul, Nat.reduceAdd, Nat.reduceMul, Nat.reduceEqDiff, Nat.reduceLeDiff, Nat.reduceLT, Nat.reduceSub, reduceIte, reduceCtorEq, Int.reduceToNat, Int.reduceNeg, Int.reduceLE, Int.reduceLT, Int.reduceEq, Nat.reduceOr, Nat.reduceShiftRight, Nat.reduceMod, Nat.reduceBNe, Nat.reduceBEq]
        · simp only [go_sem, bin_add, bin_sub, bin_mul, Nat.reduceAdd, Nat.reduceMul, Nat.reduceEqDiff, Nat.reduceLeDiff, Nat.reduceLT, Nat.reduceSub, reduceIte, reduceCtorEq, Int.reduceToNat, Int.reduceNeg, Int.reduceLE, Int.reduceLT, Int.reduceEq, Nat.reduceOr, Nat.reduceShiftRight, Nat.reduceMod, Nat.reduceBNe, Nat.reduceBEq, t13]
          rw [w1 (by omega)]

/-- places, depths, sides, points and numbers of vectors are the same. -/
def eqP (d e : Fd) : Bool := !decide (d.x = e.x) || (!decide (d.y = e.y) || (!decide (d.z = e.z) || (!decide (d.iw = e.iw) || (!(d.fr == e.fr) || (!eqV d.pt e.pt || !decide ((d.vs.length : Int) = e.vs.length))))))
theorem eqD_eqP {d e : Fd} (h : eqP d e = false) : eqD d e = eqVs d.vs e.vs := by
  simp only [eqP, Bool.or_eq_false_iff, Bool.not_eq_false'] at h
  obtain ⟨h1, h2, h3, h4, h5, h6, h7⟩ := h
  simp only [eqD, h1, h2, h3, h4, h5, h6, Bool.true_and]
theorem eqD_neP {d e : Fd} (h : eqP d e = true) : eqD d e = false := by
  by_cases hl : d.vs.length = e.vs.length
  · simp only [eqP, hl, decide_true, Bool.not_true, Bool.or_false] at h
    simp only [eqD]
    revert h
    cases decide (d.x = e.x) <;> cases decide (d.y = e.y) <;> cases decide (d.z = e.z) <;> cases decide (d.iw = e.iw) <;> cases (d.fr == e.fr) <;> cases eqV d.pt e.pt <;> simp
  · simp only [eqD, show eqVs d.vs e.vs = false from eqL_len hl, Bool.and_false]

set_option maxHeartbeats 4000000 in
theorem loop23 {env : List Lp} {k : List KF} {Q : QF} (a a' : Option Addr) (c c' : Nat) (ds es : List Fd) (hl : ds.length = es.length) (hsz : ds.length < 9223372036854775808) (H : AH)
    (q1 : ∀ fr h, H.nx ≤ h.lo → eqDs ds es = false → tmp fr (pa 4) = .bool false → Kt T env false k .ret fr [] (ext h []) Q)
    (q2 : ∀ fr h, H.nx ≤ h.lo → eqDs ds es = true → Kt T env false k .normal fr [] (ext h []) Q) :
    ∀ (m i : Nat), i + m = ds.length → ∀ (fr : Tr Value) (h : AH), H.nx ≤ h.lo → h.lo ≤ h.nx → FdsAt h a ds → FdsAt h a' es → (∀ (j : Nat) v w, j < i → ds[j]? = some v → es[j]? = some w → eqD v w = true) →
      tmp fr (pa 0) = .slice a ds.length c → tmp fr (pa 1) = .slice a' es.length c' → tmp fr (pa 15) = .int .i64 ds.length → tmp fr (pa 16) = .int .i64 i →
      X T env false (.loop a23l1) (.blk 0 :: k) fr [] (ext h []) Q := by
  intro m
  induction m with
  | zero =>
    intro i hi fr h hh hlo hv hw h5 t0 t1 t12 t13
    rw [X_loop]
    change X _ _ _ (.seq _ _) _ _ _ _ _
    simp only [t0, t1, t12, t13, show ¬ ((i : Int) < ds.length) by omega, decide_false, go_sem, bin_add, bin_sub, bin_mul, Nat.reduceAdd, Nat.reduceMul, Nat.reduceEqDiff, Nat.reduceLeDiff, Nat.reduceLT, Nat.reduceSub, reduceIte, reduceCtorEq, Int.reduceToNat, Int.reduceNeg, Int.reduceLE, Int.reduceLT, Int.reduceEq, Nat.reduceOr, Nat.reduceShiftRight, Nat.reduceMod, Nat.reduceBNe, Nat.reduceBEq]
    refine q2 _ _ hh (eqL_true hl fun j v w hj hk => h5 j v w ?_ hj hk)
    have := (List.getElem?_eq_some_iff.1 hj).1; omega
  | succ m ih =>
    intro i hi fr h hh hlo hv hw h5 t0 t1 t12 t13
    have hlt : (i : Int) < ds.length := by omega
    have h0 : i < ds.length := by omega
    have h1 : i < es.length := by omega
    obtain ⟨v, ev⟩ : ∃ v, ds[i]? = some v := ⟨ds[i]'(by omega), List.getElem?_eq_getElem (by omega)⟩
    obtain ⟨w, ew⟩ : ∃ v, es[i]? = some v := ⟨es[i]'(by omega), List.getElem?_eq_getElem (by omega)⟩
    obtain ⟨fv, b, o, r, ha, hr, hb, r1⟩ := hv i v ev
    obtain ⟨fw, b', o', r', ha', hr', hb', r2⟩ := hw i w ew
    rw [X_loop]
    change X _ _ _ (.seq _ _) _ _ _ _ _
    rw [ha] at t0
    rw [ha'] at t1
    have sv := v.ok
    have sw := w.ok
    rcases hr with rfl | rfl <;> rcases hr' with rfl | rfl
    all_goals
      simp only [t0, t1, t12, t13, hlt, go_sem, bin_add, bin_sub, bin_mul, Nat.reduceAdd, Nat.reduceMul, Nat.reduceEqDiff, Nat.reduceLeDiff, Nat.reduceLT, Nat.reduceSub, reduceIte, reduceCtorEq, Int.reduceToNat, Int.reduceNeg, Int.reduceLE, Int.reduceLT, Int.reduceEq, Nat.reduceOr, Nat.reduceShiftRight, Nat.reduceMod, Nat.reduceBNe, Nat.reduceBEq]
      refine X_drawE 2 (by rfl) ?_
      simp only [Fd.cs, t0, t1, t12, t13, hlt, h0, h1, hlo, rd_old _ _ _ _ _ hb, rd_old _ _ _ _ _ hb', r1, r2, sv _ _ _, sw _ _ _, go_sem, bin_add, bin_sub, bin_mul, Nat.reduceAdd, Nat.reduceMul, Nat.reduceEqDiff, Nat.reduceLeDiff, Nat.reduceLT, Nat.reduceSub, reduceIte, reduceCtorEq, Int.reduceToNat, Int.reduceNeg, Int.reduceLE, Int.reduceLT, Int.reduceEq, Nat.reduceOr, Nat.reduceShiftRight, Nat.reduceMod, Nat.reduceBNe, Nat.reduceBEq]
      refine Gd_split ?_ ?_ <;> intro g1 <;> simp only [g1, bin_neq_b, bin_neqV', sv _ _ _, sw _ _ _, go_sem, bin_add, bin_sub, bin_mul, Nat.reduceAdd, Nat.reduceMul, Nat.reduceEqDiff, Nat.reduceLeDiff, Nat.reduceLT, Nat.reduceSub, reduceIte, reduceCtorEq, Int.reduceToNat, Int.reduceNeg, Int.reduceLE, Int.reduceLT, Int.reduceEq, Nat.reduceOr, Nat.reduceShiftRight, Nat.reduceMod, Nat.reduceBNe, Nat.reduceBEq]
      rotate_left
      refine Gd_split ?_ ?_ <;> intro g2 <;> simp only [g1, g2, bin_neq_b, bin_neqV', sv _ _ _, sw _ _ _, go_sem, bin_add, bin_sub, bin_mul, Nat.reduceAdd, Nat.reduceMul, Nat.reduceEqDiff, Nat.reduceLeDiff, Nat.reduceLT, Nat.reduceSub, reduceIte, reduceCtorEq, Int.reduceToNat, Int.reduceNeg, Int.reduceLE, Int.reduceLT, Int.reduceEq, Nat.reduceOr, Nat.reduceShiftRight, Nat.reduceMod, Nat.reduceBNe, Nat.reduceBEq]
      rotate_left
      refine Gd_split ?_ ?_ <;> intro g3 <;> simp only [g1, g2, g3, bin_neq_b, bin_neqV', sv _ _ _, sw _ _ _, go_sem, bin_add, bin_sub, bin_mul, Nat.reduceAdd, Nat.reduceMul, Nat.reduceEqDiff, Nat.reduceLeDiff, Nat.reduceLT, Nat.reduceSub, reduceIte, reduceCtorEq, Int.reduceToNat, Int.reduceNeg, Int.reduceLE, Int.reduceLT, Int.reduceEq, Nat.reduceOr, Nat.reduceShiftRight, Nat.reduceMod, Nat.reduceBNe, Nat.reduceBEq]
      rotate_left
      refine Gd_split ?_ ?_ <;> intro g4 <;> simp only [g1, g2, g3, g4, bin_neq_b, bin_neqV', sv _ _ _, sw _ _ _, go_sem, bin_add, bin_sub, bin_mul, Nat.reduceAdd, Nat.reduceMul, Nat.reduceEqDiff, Nat.reduceLeDiff, Nat.reduceLT, Nat.reduceSub, reduceIte, reduceCtorEq, Int.reduceToNat, Int.reduceNeg, Int.reduceLE, Int.reduceLT, Int.reduceEq, Nat.reduceOr, Nat.reduceShiftRight, Nat.reduceMod, Nat.reduceBNe, Nat.reduceBEq]
      rotate_left
      refine Gd_split ?_ ?_ <;> intro g5 <;> simp only [g1, g2, g3, g4, g5, bin_neq_b, bin_neqV', sv _ _ _, sw _ _ _, go_sem, bin_add, bin_sub, bin_mul, Nat.reduceAdd, Nat.reduceMul, Nat.reduceEqDiff, Nat.reduceLeDiff, Nat.reduceLT, Nat.reduceSub, reduceIte, reduceCtorEq, Int.reduceToNat, Int.reduceNeg, Int.reduceLE, Int.reduceLT, Int.reduceEq, Nat.reduceOr, Nat.reduceShiftRight, Nat.reduceMod, Nat.reduceBNe, Nat.reduceBEq]
      rotate_left
      refine Gd_split ?_ ?_ <;> intro g6 <;> simp only [g1, g2, g3, g4, g5, g6, bin_neq_b, bin_neqV', sv _ _ _, sw _ _ _, go_sem, bin_add, bin_sub, bin_mul, Nat.reduceAdd, Nat.reduceMul, Nat.reduceEqDiff, Nat.reduceLeDiff, Nat.reduceLT, Nat.reduceSub, reduceIte, reduceCtorEq, Int.reduceToNat, Int.reduceNeg, Int.reduceLE, Int.reduceLT, Int.reduceEq, Nat.reduceOr, Nat.reduceShiftRight, Nat.reduceMod, Nat.reduceBNe, Nat.reduceBEq]
      rotate_left
      refine Cd_split ?_ ?_ <;> intro g7 <;> simp only [g1, g2, g3, g4, g5, g6, g7, sv _ _ _, sw _ _ _, go_sem, bin_add, bin_sub, bin_mul, Nat.reduceAdd, Nat.reduceMul, Nat.reduceEqDiff, Nat.reduceLeDiff, Nat.reduceLT, Nat.reduceSub, reduceIte, reduceCtorEq, Int.reduceToNat, Int.reduceNeg, Int.reduceLE, Int.reduceLT, Int.reduceEq, Nat.reduceOr, Nat.reduceShiftRight, Nat.reduceMod, Nat.reduceBNe, Nat.reduceBEq]
      rotate_left
      · have hlv : v.vs.length = w.vs.length := by simp at g7; omega
        have hP : eqD v w = eqVs v.vs w.vs := eqD_eqP (by
          change (!eqV v.pt w.pt) = _ at g6
          simp only [eqP, *, Bool.false_or]; simp)
        refine loop23v v.a w.a v.c w.c h.nx (h.nx + 1) v.vs w.vs hlv fv.sz (ext h [some _, some _]) (fv.ext _).vec (fw.ext _).vec (by rw [ext_nx]; simp) (by rw [ext_nx]; simp) ?_ ?_ (.slice a ds.length c) (.slice a' es.length c') (.int .i64 ds.length) (.int .i64 i) ?_ ?_ v.vs.length 0 (by omega) _ ?_ ?_ ?_ ?_ ?_ ?_ ?_ ?_ ?_
        · simp only [go_sem, bin_add, bin_sub, bin_mul, Nat.reduceAdd, Nat.reduceMul, Nat.reduceEqDiff, Nat.reduceLeDiff, Nat.reduceLT, Nat.reduceSub, reduceIte, reduceCtorEq, Int.reduceToNat, Int.reduceNeg, Int.reduceLE, Int.reduceLT, Int.reduceEq, Nat.reduceOr, Nat.reduceShiftRight, Nat.reduceMod, Nat.reduceBNe, Nat.reduceBEq]
        · simp only [go_sem, bin_add, bin_sub, bin_mul, Nat.reduceAdd, Nat.reduceMul, Nat.reduceEqDiff, Nat.reduceLeDiff, Nat.reduceLT, Nat.reduceSub, reduceIte, reduceCtorEq, Int.reduceToNat, Int.reduceNeg, Int.reduceLE, Int.reduceLT, Int.reduceEq, Nat.reduceOr, Nat.reduceShiftRight, Nat.reduceMod, Nat.reduceBNe, Nat.reduceBEq]
        · intro fr' h' _ he e4
          simp only [go_sem, bin_add, bin_sub, bin_mul, Nat.reduceAdd, Nat.reduceMul, Nat.reduceEqDiff, Nat.reduceLeDiff, Nat.reduceLT, Nat.reduceSub, reduceIte, reduceCtorEq, Int.reduceToNat, Int.reduceNeg, Int.reduceLE, Int.reduceLT, Int.reduceEq, Nat.reduceOr, Nat.reduceShiftRight, Nat.reduceMod, Nat.reduceBNe, Nat.reduceBEq]
          exact q1 _ (ext h [some _, some _]) (by rw [ext_lo]; exact hh) (eqL_false i v w ev ew (by rw [hP, he])) e4
        · intro fr' he f0 f1 f15 f16
          simp only [f16, go_sem, bin_add, bin_sub, bin_mul, Nat.reduceAdd, Nat.reduceMul, Nat.reduceEqDiff, Nat.reduceLeDiff, Nat.reduceLT, Nat.reduceSub, reduceIte, reduceCtorEq, Int.reduceToNat, Int.reduceNeg, Int.reduceLE, Int.reduceLT, Int.reduceEq, Nat.reduceOr, Nat.reduceShiftRight, Nat.reduceMod, Nat.reduceBNe, Nat.reduceBEq]
          refine ih (i + 1) (by omega) _ (ext h [some _, some _]) (by rw [ext_lo]; exact hh) (by rw [ext_lo, ext_nx]; omega) (hv.ext _) (hw.ext _) ?_ ?_ ?_ ?_ ?_
          · intro j x y hj hx hy
            by_cases e : j = i
            · subst e
              rw [ev] at hx; cases hx
              rw [ew] at hy; cases hy
              rw [hP, he]
            · exact h5 j x y (by omega) hx hy
          · simp only [f0, go_sem, bin_add, bin_sub, bin_mul, Nat.reduceAdd, Nat.reduceMul, Nat.reduceEqDiff, Nat.reduceLeDiff, Nat.reduceLT, Nat.reduceSub, reduceIte, reduceCtorEq, Int.reduceToNat, Int.reduceNeg, Int.reduceLE, Int.reduceLT, Int.reduceEq, Nat.reduceOr, Nat.reduceShiftRight, Nat.reduceMod, Nat.reduceBNe, Nat.reduceBEq]
          · simp only [f1, go_sem, bin_add, bin_sub, bin_mul, Nat.reduceAdd, Nat.reduceMul, Nat.reduceEqDiff, Nat.reduceLeDiff, Nat.reduceLT, Nat.reduceSub, reduceIte, reduceCtorEq, Int.reduceToNat, Int.reduceNeg, Int.reduceLE, Int.reduceLT, Int.reduceEq, Nat.reduceOr, Nat.reduceShiftRight, Nat.reduceMod, Nat.reduceBNe, Nat.reduceBEq]
          · simp only [f15, go_sem, bin_add, bin_sub, bin_mul, Nat.reduceAdd, Nat.reduceMul, Nat.reduceEqDiff, Nat.reduceLeDiff, Nat.reduceLT, Nat.reduceSub, reduceIte, reduceCtorEq, Int.reduceToNat, Int.reduceNeg, Int.reduceLE, Int.reduceLT, Int.reduceEq, Nat.reduceOr, Nat.reduceShiftRight, Nat.reduceMod, Nat.reduceBNe, Nat.reduceBEq]
          · simp only [f16, go_sem, bin_add, bin_sub, bin_mul, Nat.reduceAdd, Nat.reduceMul, Nat.reduceEqDiff, Nat.reduceLeDiff, Nat.reduceLT, Nat.reduceSub, reduceIte, reduceCtorEq, Int.reduceToNat, Int.reduceNeg, Int.reduceLE, Int.reduceLT, Int.reduceEq, Nat.reduceOr, Nat.reduceShiftRight, Nat.reduceMod, Nat.reduceBNe, Nat.reduceBEq]
            rw [w1 (by omega)]
        · simp only [t0, ha, go_sem, bin_add, bin_sub, bin_mul, Nat.reduceAdd, Nat.reduceMul, Nat.reduceEqDiff, Nat.reduceLeDiff, Nat.reduceLT, Nat.reduceSub, reduceIte, reduceCtorEq, Int.reduceToNat, Int.reduceNeg, Int.reduceLE, Int.reduceLT, Int.reduceEq, Nat.reduceOr, Nat.reduceShiftRight, Nat.reduceMod, Nat.reduceBNe, Nat.reduceBEq]
        · simp only [t1, ha', go_sem, bin_add, bin_sub, bin_mul, Nat.reduceAdd, Nat.reduceMul, Nat.reduceEqDiff, Nat.reduceLeDiff, Nat.reduceLT, Nat.reduceSub, reduceIte, reduceCtorEq, Int.reduceToNat, Int.reduceNeg, Int.reduceLE, Int.reduceLT, Int.reduceEq, Nat.reduceOr, Nat.reduceShiftRight, Nat.reduceMod, Nat.reduceBNe, Nat.reduceBEq]
        · simp only [t12, go_sem, bin_add, bin_sub, bin_mul, Nat.reduceAdd, Nat.reduceMul, Nat.reduceEqDiff, Nat.reduceLeDiff, Nat.reduceLT, Nat.reduceSub, reduceIte, reduceCtorEq, Int.reduceToNat, Int.reduceNeg, Int.reduceLE, Int.reduceLT, Int.reduceEq, Nat.reduceOr, Nat.reduceShiftRight, Nat.reduceMod, Nat.reduceBNe, Nat.reduceBEq]
        · simp only [t13, go_sem, bin_add, bin_sub, bin_mul, Nat.reduceAdd, Nat.reduceMul, Nat.reduceEqDiff, Nat.reduceLeDiff, Nat.reduceLT, Nat.reduceSub, reduceIte, reduceCtorEq, Int.reduceToNat, Int.reduceNeg, Int.reduceLE, Int.reduceLT, Int.reduceEq, Nat.reduceOr, Nat.reduceShiftRight, Nat.reduceMod, Nat.reduceBNe, Nat.reduceBEq]
        · intro j; omega
        all_goals simp only [go_sem, bin_add, bin_sub, bin_mul, Nat.reduceAdd, Nat.reduceMul, Nat.reduceEqDiff, Nat.reduceLeDiff, Nat.reduceLT, Nat.reduceSub, reduceIte, reduceCtorEq, Int.reduceToNat, Int.reduceNeg, Int.reduceLE, Int.reduceLT, Int.reduceEq, Nat.reduceOr, Nat.reduceShiftRight, Nat.reduceMod, Nat.reduceBNe, Nat.reduceBEq]
      all_goals
        refine q1 _ (ext h [some _, some _]) (by rw [ext_lo]; exact hh) (eqL_false i v w ev ew (eqD_neP ?_)) ?_
        · try change (!eqV v.pt w.pt) = _ at g6
          simp only [eqP, *, Bool.true_or, Bool.false_or]
        · simp only [go_sem, bin_add, bin_sub, bin_mul, Nat.reduceAdd, Nat.reduceMul, Nat.reduceEqDiff, Nat.reduceLeDiff, Nat.reduceLT, Nat.reduceSub, reduceIte, reduceCtorEq, Int.reduceToNat, Int.reduceNeg, Int.reduceLE, Int.reduceLT, Int.reduceEq, Nat.reduceOr, Nat.reduceShiftRight, Nat.reduceMod, Nat.reduceBNe, Nat.reduceBEq]

theorem c23 {env : List Lp} (a a' : Option Addr) (c c' : Nat) (ds es : List Fd) (H : AH) (s1 : Sl a) (s2 : Sl a') (hsz : ds.length < 9223372036854775808) (hv : FdsAt H a ds) (hw : FdsAt H a' es) (Q : AEnd → AH → Prop) :
    C T env 23 [.slice a ds.length c, .slice a' es.length c'] H Q = Q (.ret (.bool (eqDs ds es))) H := by
  refine C_det ?_ Q
  rw [C_fn T23 rfl]
  simp only [a23, s1 _ _ _, s2 _ _ _, go_sem, bin_add, bin_sub, bin_mul, Nat.reduceAdd, Nat.reduceMul, Nat.reduceEqDiff, Nat.reduceLeDiff, Nat.reduceLT, Nat.reduceSub, reduceIte, reduceCtorEq, Int.reduceToNat, Int.reduceNeg, Int.reduceLE, Int.reduceLT, Int.reduceEq, Nat.reduceOr, Nat.reduceShiftRight, Nat.reduceMod, Nat.reduceBNe, Nat.reduceBEq]
  refine Cd_split ?_ ?_ <;> intro g <;> simp only [g, s1 _ _ _, s2 _ _ _, go_sem, bin_add, bin_sub, bin_mul, Nat.reduceAdd, Nat.reduceMul, Nat.reduceEqDiff, Nat.reduceLeDiff, Nat.reduceLT, Nat.reduceSub, reduceIte, reduceCtorEq, Int.reduceToNat, Int.reduceNeg, Int.reduceLE, Int.reduceLT, Int.reduceEq, Nat.reduceOr, Nat.reduceShiftRight, Nat.reduceMod, Nat.reduceBNe, Nat.reduceBEq]
  · rw [show eqDs ds es = false from eqL_len (by simp at g; omega)]
  · have hl : ds.length = es.length := by simp at g; omega
    refine loop23 a a' c c' ds es hl hsz H ?_ ?_ ds.length 0 (by omega) _ H.now (Nat.le_refl _) (Nat.le_refl _) hv.now hw.now (by intro j; omega) ?_ ?_ ?_ ?_
    · intro fr h hh he h4
      simp only [h4, he, go_sem, bin_add, bin_sub, bin_mul, Nat.reduceAdd, Nat.reduceMul, Nat.reduceEqDiff, Nat.reduceLeDiff, Nat.reduceLT, Nat.reduceSub, reduceIte, reduceCtorEq, Int.reduceToNat, Int.reduceNeg, Int.reduceLE, Int.reduceLT, Int.reduceEq, Nat.reduceOr, Nat.reduceShiftRight, Nat.reduceMod, Nat.reduceBNe, Nat.reduceBEq]
      exact trim_clo H _ _ rfl hh
    · intro fr h hh he
      simp only [he, go_sem, bin_add, bin_sub, bin_mul, Nat.reduceAdd, Nat.reduceMul, Nat.reduceEqDiff, Nat.reduceLeDiff, Nat.reduceLT, Nat.reduceSub, reduceIte, reduceCtorEq, Int.reduceToNat, Int.reduceNeg, Int.reduceLE, Int.reduceLT, Int.reduceEq, Nat.reduceOr, Nat.reduceShiftRight, Nat.reduceMod, Nat.reduceBNe, Nat.reduceBEq]
      exact trim_clo H _ _ rfl hh
    all_goals simp only [go_sem, bin_add, bin_sub, bin_mul, Nat.reduceAdd, Nat.reduceMul, Nat.reduceEqDiff, Nat.reduceLeDiff, Nat.reduceLT, Nat.reduceSub, reduceIte, reduceCtorEq, Int.reduceToNat, Int.reduceNeg, Int.reduceLE, Int.reduceLT, Int.reduceEq, Nat.reduceOr, Nat.reduceShiftRight, Nat.reduceMod, Nat.reduceBNe, Nat.reduceBEq]
end
end Go.AX.Tri
