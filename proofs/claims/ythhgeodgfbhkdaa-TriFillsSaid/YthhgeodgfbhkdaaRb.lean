/- Contracts: the document's Fill (1): a cell. -/
import Derived.Test.YthhgeodgfbhkdaaVc
import Derived.Test.YthhgeodgfbhkdaaSr
set_option linter.unusedVariables false
set_option linter.unusedSimpArgs false
set_option linter.unusedSectionVars false
namespace Go.AX.Tri
open Go.Proofs Go.AX.Mc
set_option linter.unusedSimpArgs false
set_option linter.unusedVariables false
noncomputable section

/-- the heap while the document's Fill runs. -/
structure Inv28 (H : AH) (a b c : Wn) (px py pw ph : Nat) (h : AH) (hd : Value) (l : List Fg) : Prop where
  lo : H.nx ≤ h.lo
  le : h.lo ≤ h.nx
  nx : H.nx + 4 ≤ h.nx
  old : ∀ b, b < H.nx → h.get b = H.get b
  ga : h.get H.nx = some (.cells a.cs 0 0)
  gb : h.get (H.nx + 1) = some (.cells b.cs 0 0)
  gc : h.get (H.nx + 2) = some (.cells c.cs 0 0)
  gp : h.get (H.nx + 3) = some (.cells (pcV px py pw ph) 0 0)
  fl : FL (H.nx + 4) h hd l
structure Fr28 (N : Nat) (hd : Value) (fr : Tr Value) : Prop where
  t4 : tmp fr (pa 4) = .pointer (some ⟨N, 0, none⟩)
  t5 : tmp fr (pa 5) = .pointer (some ⟨N + 1, 0, none⟩)
  t6 : tmp fr (pa 6) = .pointer (some ⟨N + 2, 0, none⟩)
  t7 : tmp fr (pa 7) = .pointer (some ⟨N + 3, 0, none⟩)
  t9 : tmp fr (pa 9) = hd

theorem Inv28.ext {H : AH} {a b c : Wn} {px py pw ph : Nat} {h : AH} {hd : Value} {l : List Fg} (I : Inv28 H a b c px py pw ph h hd l) (L : List (Option AB)) : Inv28 H a b c px py pw ph (Mc.ext h L) hd l := by
  obtain ⟨i1, i2, i3, i4, i5, i6, i7, i8, i9⟩ := I
  refine ⟨by rw [ext_lo]; exact i1, by rw [ext_lo, ext_nx]; omega, by rw [ext_nx]; omega, ?_, ?_, ?_, ?_, ?_, ?_⟩
  · intro b hb; rw [ext_get_old _ _ _ (by omega)]; exact i4 b hb
  · rw [ext_get_old _ _ _ (by omega)]; exact i5
  · rw [ext_get_old _ _ _ (by omega)]; exact i6
  · rw [ext_get_old _ _ _ (by omega)]; exact i7
  · rw [ext_get_old _ _ _ (by omega)]; exact i8
  · exact FL.mono (by rw [ext_nx]; omega) (Nat.le_refl _) (fun b cs k z hb1 hb2 hb3 _ => by rw [ext_get_old _ _ _ hb2]; exact hb3) i9

theorem iter28 {env : List Lp} {K : List KF} {Q : QF} {H : AH} {a b c : Wn} {px py pw ph : Nat} (hbad : badL [a, b, c] = false) (wa : WnAt H a) (wb : WnAt H b) (wc : WnAt H c) (hw : px + pw ≤ 64)
    {h : AH} {hd : Value} {l : List Fg} (hsz : l.length < 10000) (I : Inv28 H a b c px py pw ph h hd l) {fr : Tr Value} (F : Fr28 H.nx hd fr) (x y : Nat) (x1 : x < px + pw) (y1 : y < 64)
    (t10 : tmp fr (pa 10) = .int .i64 (y : Int)) (t11 : tmp fr (pa 11) = .int .i64 (x : Int))
    (hQ : ∀ fr h hd, Inv28 H a b c px py pw ph h hd (l ++ (fragF (turnF a b c) x y).toList) → Fr28 H.nx hd fr → tmp fr (pa 10) = .int .i64 (y : Int) → tmp fr (pa 11) = .int .i64 ((x + 1 : Nat) : Int) →
      X T env false (.loop a28l0) (.blk 2 :: K) fr [] (ext h []) Q) :
    X T env false (.loop a28l0) (.blk 2 :: K) fr [] (ext h []) Q := by
  obtain ⟨t4, t5, t6, t7, t9⟩ := F
  have I0 := I
  obtain ⟨i1, i2, i3, i4, i5, i6, i7, i8, i9⟩ := I
  have n0 : H.nx < h.nx := by omega
  have n1 : H.nx + 1 < h.nx := by omega
  have n2 : H.nx + 2 < h.nx := by omega
  have n3 : H.nx + 3 < h.nx := by omega
  have r0 : rd h H.nx 0 6 = some a.cs := by rw [rd_rdB, i5]; rfl
  have r1 : rd h (H.nx + 1) 0 6 = some b.cs := by rw [rd_rdB, i6]; rfl
  have r2 : rd h (H.nx + 2) 0 6 = some c.cs := by rw [rd_rdB, i7]; rfl
  have p0 : rd h (H.nx + 3) 0 1 = some [.int .i64 (px : Int)] := by rw [rd_rdB, i8]; rfl
  have p2 : rd h (H.nx + 3) 2 1 = some [.int .i64 (pw : Int)] := by rw [rd_rdB, i8]; rfl
  have e : wrapF .i64 ((px : Int) + (pw : Int)) = ((px + pw : Nat) : Int) := by rw [w64_id (by omega) (by omega)]; omega
  have hlt : ((x : Nat) : Int) < ((px + pw : Nat) : Int) := by omega
  have hcov := cov_eq hbad (x : Int) (y : Int)
  have hall : allF (x : Int) (y : Int) = true := by simp [allF]; omega
  rw [hall, Bool.true_and] at hcov
  have k25 := fun (H : AH) (Q : AEnd → AH → Prop) => c25 (env := env) a b c (x : Int) (y : Int) H Q
  simp only [Wn.v, Wn.cs, ← hcov] at k25
  simp only [Wn.cs] at r0 r1 r2
  have wn := w1 (i := x) (by omega)
  rw [X_loop]
  change X _ _ _ (.seq _ _) _ _ _ _ _
  cases hs : (sidesF (turnF a b c) x y).2
  · simp only [hs] at k25
    simp only [t4, t5, t6, t7, t9, t10, t11, n0, n1, n2, n3, r0, r1, r2, p0, p2, e, hlt, k25, wn, go_sem, bin_add, bin_sub, bin_mul, Nat.reduceAdd, Nat.reduceMul, Nat.reduceEqDiff, Nat.reduceLeDiff, Nat.reduceLT, Nat.reduceSub, reduceIte, reduceCtorEq, Int.reduceToNat, Int.reduceNeg, Int.reduceLE, Int.reduceLT, Int.reduceEq, Nat.reduceOr, Nat.reduceShiftRight, Nat.reduceMod, Nat.reduceBNe, Nat.reduceBEq]
    have eg : (fragF (turnF a b c) x y).toList = [] := by simp only [fragF, hs]; rfl
    rw [eg, List.append_nil] at hQ
    refine hQ _ _ hd I0 ⟨?_, ?_, ?_, ?_, ?_⟩ ?_ ?_
    all_goals simp only [t4, t5, t6, t7, t9, t10, go_sem, bin_add, bin_sub, bin_mul, Nat.reduceAdd, Nat.reduceMul, Nat.reduceEqDiff, Nat.reduceLeDiff, Nat.reduceLT, Nat.reduceSub, reduceIte, reduceCtorEq, Int.reduceToNat, Int.reduceNeg, Int.reduceLE, Int.reduceLT, Int.reduceEq, Nat.reduceOr, Nat.reduceShiftRight, Nat.reduceMod, Nat.reduceBNe, Nat.reduceBEq]
  · simp only [hs] at k25
    simp only [t4, t5, t6, t7, t9, t10, t11, n0, n1, n2, n3, r0, r1, r2, p0, p2, e, hlt, k25, wn, go_sem, bin_add, bin_sub, bin_mul, Nat.reduceAdd, Nat.reduceMul, Nat.reduceEqDiff, Nat.reduceLeDiff, Nat.reduceLT, Nat.reduceSub, reduceIte, reduceCtorEq, Int.reduceToNat, Int.reduceNeg, Int.reduceLE, Int.reduceLT, Int.reduceEq, Nat.reduceOr, Nat.reduceShiftRight, Nat.reduceMod, Nat.reduceBNe, Nat.reduceBEq]
    clear k25 r0 r1 r2 p0 p2
    obtain ⟨n0', n1', n2', es, _⟩ := sides_ok (turn_ok (bad3 hbad).1 (bad3 hbad).2.1 (bad3 hbad).2.2.1) (x := (x : Int)) (y := (y : Int)) (by omega) (by omega) (by omega) (by omega) hs
    have hmem := @turn_mem a b c
    have htl : ∀ p, (p = (turnF a b c).a ∨ p = (turnF a b c).b ∨ p = (turnF a b c).c) → p.l = (turnF a b c).a.l := by
      obtain ⟨_, _, _, lb, lc⟩ := bad3 hbad
      have e : ∀ q, (q = a ∨ q = b ∨ q = c) → q.l = a.l := by rintro q (rfl | rfl | rfl) <;> first | rfl | assumption
      intro p hp
      rw [e p (hmem p hp), e (turnF a b c).a (hmem _ (.inl rfl))]
    have hl4 : (turnF a b c).a.l < 1000 := Nat.lt_of_le_of_lt (turn_ok (bad3 hbad).1 (bad3 hbad).2.1 (bad3 hbad).2.2.1).a.l4 (by decide)
    obtain ⟨ua, ub, uc, hrf⟩ := rf_of hbad (x := (x : Int)) (y := (y : Int)) (by rw [hall, hs]; rfl) es (by rintro p (rfl | rfl | rfl) <;> first | exact wa.w.2 | exact wb.w.2 | exact wc.w.2)
    have eg : (fragF (turnF a b c) x y).toList = [⟨x, y, nearZ (turnF a b c) n0' n1' n2', nearW (turnF a b c) n0' n1' n2', (turnF a b c).front, vsF (turnF a b c) n0' n1' n2' (turnF a b c).a.l⟩] := by
      simp only [fragF, hs, es, fgOf, Int.toNat_natCast]; rfl
    rw [eg, turn_front] at hQ
    refine c26 a b c x y hrf (H := Mc.ext h []) (by rw [ext_lo, ext_nx]; omega) ?_ htl hl4 _ ?_
    · intro p hp
      have m : ∀ q, WnAt H q → WnAt h q := fun q hq => hq.mono (by omega) fun b hb o n => by rw [rd_rdB, i4 b hb, ← rd_rdB]
      show WnAt h p
      rcases hmem p hp with rfl | rfl | rfl
      · exact m _ wa
      · exact m _ wb
      · exact m _ wc
    intro L hdv hV
    clear hrf htl hl4 eg es
    generalize vsF (turnF a b c) n0' n1' n2' (turnF a b c).a.l = fvs at *
    generalize nearZ (turnF a b c) n0' n1' n2' = fz at *
    generalize nearW (turnF a b c) n0' n1' n2' = fw at *
    generalize decide (0 < wayF a b c.x c.y) = ff at *
    have hfl : flat hdv = true ∧ hdv.cells.toList = [hdv] := by rcases hV with ⟨_, rfl⟩ | ⟨_, _, _, rfl⟩ <;> exact ⟨rfl, rfl⟩
    rcases i9 with ⟨rfl, rfl⟩ | ⟨hl0, b', cs, hb1, hb2, hb3, hb4, rfl⟩
    · simp only [ext_ext, frV, go_sem, bin_add, bin_sub, bin_mul, Nat.reduceAdd, Nat.reduceMul, Nat.reduceEqDiff, Nat.reduceLeDiff, Nat.reduceLT, Nat.reduceSub, reduceIte, reduceCtorEq, Int.reduceToNat, Int.reduceNeg, Int.reduceLE, Int.reduceLT, Int.reduceEq, Nat.reduceOr, Nat.reduceShiftRight, Nat.reduceMod, Nat.reduceBNe, Nat.reduceBEq]
      rw [app_nil _ 10 72 _ 0 (frV x y fz fw ff hdv) (aSource_s _ 10 _ 0 1 1 _ (by simp only [frV, go_sem, bin_add, bin_sub, bin_mul, Nat.reduceAdd, Nat.reduceMul, Nat.reduceEqDiff, Nat.reduceLeDiff, Nat.reduceLT, Nat.reduceSub, reduceIte, reduceCtorEq, Int.reduceToNat, Int.reduceNeg, Int.reduceLE, Int.reduceLT, Int.reduceEq, Nat.reduceOr, Nat.reduceShiftRight, Nat.reduceMod, Nat.reduceBNe, Nat.reduceBEq])) (room_of (by omega) (by omega)) (by simp only [frV, hfl, go_sem, bin_add, bin_sub, bin_mul, Nat.reduceAdd, Nat.reduceMul, Nat.reduceEqDiff, Nat.reduceLeDiff, Nat.reduceLT, Nat.reduceSub, reduceIte, reduceCtorEq, Int.reduceToNat, Int.reduceNeg, Int.reduceLE, Int.reduceLT, Int.reduceEq, Nat.reduceOr, Nat.reduceShiftRight, Nat.reduceMod, Nat.reduceBNe, Nat.reduceBEq])]
      simp only [t10, t11, wn, frV, go_sem, bin_add, bin_sub, bin_mul, Nat.reduceAdd, Nat.reduceMul, Nat.reduceEqDiff, Nat.reduceLeDiff, Nat.reduceLT, Nat.reduceSub, reduceIte, reduceCtorEq, Int.reduceToNat, Int.reduceNeg, Int.reduceLE, Int.reduceLT, Int.reduceEq, Nat.reduceOr, Nat.reduceShiftRight, Nat.reduceMod, Nat.reduceBNe, Nat.reduceBEq]
      refine hQ _ (Mc.ext h (L ++ [some (.cells (frV x y fz fw ff hdv) 0 0), some (.cells (frV x y fz fw ff hdv) 1 10)])) (.slice (some ⟨h.nx + (L.length + 1), 0, some 0⟩) 1 1) ?_ ⟨?_, ?_, ?_, ?_, ?_⟩ ?_ ?_
      rotate_left
      · simp only [t4, go_sem, bin_add, bin_sub, bin_mul, Nat.reduceAdd, Nat.reduceMul, Nat.reduceEqDiff, Nat.reduceLeDiff, Nat.reduceLT, Nat.reduceSub, reduceIte, reduceCtorEq, Int.reduceToNat, Int.reduceNeg, Int.reduceLE, Int.reduceLT, Int.reduceEq, Nat.reduceOr, Nat.reduceShiftRight, Nat.reduceMod, Nat.reduceBNe, Nat.reduceBEq]
      · simp only [t5, go_sem, bin_add, bin_sub, bin_mul, Nat.reduceAdd, Nat.reduceMul, Nat.reduceEqDiff, Nat.reduceLeDiff, Nat.reduceLT, Nat.reduceSub, reduceIte, reduceCtorEq, Int.reduceToNat, Int.reduceNeg, Int.reduceLE, Int.reduceLT, Int.reduceEq, Nat.reduceOr, Nat.reduceShiftRight, Nat.reduceMod, Nat.reduceBNe, Nat.reduceBEq]
      · simp only [t6, go_sem, bin_add, bin_sub, bin_mul, Nat.reduceAdd, Nat.reduceMul, Nat.reduceEqDiff, Nat.reduceLeDiff, Nat.reduceLT, Nat.reduceSub, reduceIte, reduceCtorEq, Int.reduceToNat, Int.reduceNeg, Int.reduceLE, Int.reduceLT, Int.reduceEq, Nat.reduceOr, Nat.reduceShiftRight, Nat.reduceMod, Nat.reduceBNe, Nat.reduceBEq]
      · simp only [t7, go_sem, bin_add, bin_sub, bin_mul, Nat.reduceAdd, Nat.reduceMul, Nat.reduceEqDiff, Nat.reduceLeDiff, Nat.reduceLT, Nat.reduceSub, reduceIte, reduceCtorEq, Int.reduceToNat, Int.reduceNeg, Int.reduceLE, Int.reduceLT, Int.reduceEq, Nat.reduceOr, Nat.reduceShiftRight, Nat.reduceMod, Nat.reduceBNe, Nat.reduceBEq]
      · simp only [go_sem, bin_add, bin_sub, bin_mul, Nat.reduceAdd, Nat.reduceMul, Nat.reduceEqDiff, Nat.reduceLeDiff, Nat.reduceLT, Nat.reduceSub, reduceIte, reduceCtorEq, Int.reduceToNat, Int.reduceNeg, Int.reduceLE, Int.reduceLT, Int.reduceEq, Nat.reduceOr, Nat.reduceShiftRight, Nat.reduceMod, Nat.reduceBNe, Nat.reduceBEq]
      · simp only [t10, go_sem, bin_add, bin_sub, bin_mul, Nat.reduceAdd, Nat.reduceMul, Nat.reduceEqDiff, Nat.reduceLeDiff, Nat.reduceLT, Nat.reduceSub, reduceIte, reduceCtorEq, Int.reduceToNat, Int.reduceNeg, Int.reduceLE, Int.reduceLT, Int.reduceEq, Nat.reduceOr, Nat.reduceShiftRight, Nat.reduceMod, Nat.reduceBNe, Nat.reduceBEq]
      · simp only [go_sem, bin_add, bin_sub, bin_mul, Nat.reduceAdd, Nat.reduceMul, Nat.reduceEqDiff, Nat.reduceLeDiff, Nat.reduceLT, Nat.reduceSub, reduceIte, reduceCtorEq, Int.reduceToNat, Int.reduceNeg, Int.reduceLE, Int.reduceLT, Int.reduceEq, Nat.reduceOr, Nat.reduceShiftRight, Nat.reduceMod, Nat.reduceBNe, Nat.reduceBEq]
      obtain ⟨j1, j2, j3, j4, j5, j6, j7, j8, _⟩ := I0.ext (L ++ [some (.cells (frV x y fz fw ff hdv) 0 0), some (.cells (frV x y fz fw ff hdv) 1 10)])
      refine ⟨j1, j2, j3, j4, j5, j6, j7, j8, ?_⟩
      refine .inr ⟨by simp, h.nx + (L.length + 1), _, by omega, ?_, ?_, ⟨_, [], (List.append_nil _).symm, ⟨hdv, rfl, ?_⟩, rfl⟩, rfl⟩
      · rw [ext_nx]; simp only [List.length_cons, List.length_append]; omega
      · rw [ext_get_new]
        simp only [go_sem, bin_add, bin_sub, bin_mul, Nat.reduceAdd, Nat.reduceMul, Nat.reduceEqDiff, Nat.reduceLeDiff, Nat.reduceLT, Nat.reduceSub, reduceIte, reduceCtorEq, Int.reduceToNat, Int.reduceNeg, Int.reduceLE, Int.reduceLT, Int.reduceEq, Nat.reduceOr, Nat.reduceShiftRight, Nat.reduceMod, Nat.reduceBNe, Nat.reduceBEq]
      · rcases hV with hV | ⟨v0, i, hi, rfl⟩
        · exact .inl hV
        · have hil := (List.getElem?_eq_some_iff.1 hi).1
          refine .inr ⟨v0, h.nx + i, by omega, by rw [ext_nx, List.length_append]; omega, ?_, rfl⟩
          rw [ext_get_new, List.getElem?_append_left hil, hi]; rfl
    · simp only [ext_ext, frV, go_sem, bin_add, bin_sub, bin_mul, Nat.reduceAdd, Nat.reduceMul, Nat.reduceEqDiff, Nat.reduceLeDiff, Nat.reduceLT, Nat.reduceSub, reduceIte, reduceCtorEq, Int.reduceToNat, Int.reduceNeg, Int.reduceLE, Int.reduceLT, Int.reduceEq, Nat.reduceOr, Nat.reduceShiftRight, Nat.reduceMod, Nat.reduceBNe, Nat.reduceBEq]
      have hcl := hb4.length
      rw [app_slr _ 10 72 b' l.length cs _ 0 (frV x y fz fw ff hdv) (aSource_s _ 10 _ 0 1 1 _ (by simp only [frV, go_sem, bin_add, bin_sub, bin_mul, Nat.reduceAdd, Nat.reduceMul, Nat.reduceEqDiff, Nat.reduceLeDiff, Nat.reduceLT, Nat.reduceSub, reduceIte, reduceCtorEq, Int.reduceToNat, Int.reduceNeg, Int.reduceLE, Int.reduceLT, Int.reduceEq, Nat.reduceOr, Nat.reduceShiftRight, Nat.reduceMod, Nat.reduceBNe, Nat.reduceBEq])) (by rw [ext_get_old _ _ _ hb2]; exact hb3) hcl (room_of (by omega) (by omega)) (by simp only [frV, hfl, go_sem, bin_add, bin_sub, bin_mul, Nat.reduceAdd, Nat.reduceMul, Nat.reduceEqDiff, Nat.reduceLeDiff, Nat.reduceLT, Nat.reduceSub, reduceIte, reduceCtorEq, Int.reduceToNat, Int.reduceNeg, Int.reduceLE, Int.reduceLT, Int.reduceEq, Nat.reduceOr, Nat.reduceShiftRight, Nat.reduceMod, Nat.reduceBNe, Nat.reduceBEq])]
      rw [ext_set_old _ _ _ _ hb2]
      simp only [t10, t11, wn, frV, go_sem, bin_add, bin_sub, bin_mul, Nat.reduceAdd, Nat.reduceMul, Nat.reduceEqDiff, Nat.reduceLeDiff, Nat.reduceLT, Nat.reduceSub, reduceIte, reduceCtorEq, Int.reduceToNat, Int.reduceNeg, Int.reduceLE, Int.reduceLT, Int.reduceEq, Nat.reduceOr, Nat.reduceShiftRight, Nat.reduceMod, Nat.reduceBNe, Nat.reduceBEq]
      refine hQ _ (Mc.ext (AH.set h b' .dead) (L ++ [some (.cells (frV x y fz fw ff hdv) 0 0), some (.cells (cs ++ frV x y fz fw ff hdv) 1 10)])) (.slice (some ⟨h.nx + (L.length + 1), 0, some 0⟩) (l.length + 1) (l.length + 1)) ?_ ⟨?_, ?_, ?_, ?_, ?_⟩ ?_ ?_
      rotate_left
      · simp only [t4, go_sem, bin_add, bin_sub, bin_mul, Nat.reduceAdd, Nat.reduceMul, Nat.reduceEqDiff, Nat.reduceLeDiff, Nat.reduceLT, Nat.reduceSub, reduceIte, reduceCtorEq, Int.reduceToNat, Int.reduceNeg, Int.reduceLE, Int.reduceLT, Int.reduceEq, Nat.reduceOr, Nat.reduceShiftRight, Nat.reduceMod, Nat.reduceBNe, Nat.reduceBEq]
      · simp only [t5, go_sem, bin_add, bin_sub, bin_mul, Nat.reduceAdd, Nat.reduceMul, Nat.reduceEqDiff, Nat.reduceLeDiff, Nat.reduceLT, Nat.reduceSub, reduceIte, reduceCtorEq, Int.reduceToNat, Int.reduceNeg, Int.reduceLE, Int.reduceLT, Int.reduceEq, Nat.reduceOr, Nat.reduceShiftRight, Nat.reduceMod, Nat.reduceBNe, Nat.reduceBEq]
      · simp only [t6, go_sem, bin_add, bin_sub, bin_mul, Nat.reduceAdd, Nat.reduceMul, Nat.reduceEqDiff, Nat.reduceLeDiff, Nat.reduceLT, Nat.reduceSub, reduceIte, reduceCtorEq, Int.reduceToNat, Int.reduceNeg, Int.reduceLE, Int.reduceLT, Int.reduceEq, Nat.reduceOr, Nat.reduceShiftRight, Nat.reduceMod, Nat.reduceBNe, Nat.reduceBEq]
      · simp only [t7, go_sem, bin_add, bin_sub, bin_mul, Nat.reduceAdd, Nat.reduceMul, Nat.reduceEqDiff, Nat.reduceLeDiff, Nat.reduceLT, Nat.reduceSub, reduceIte, reduceCtorEq, Int.reduceToNat, Int.reduceNeg, Int.reduceLE, Int.reduceLT, Int.reduceEq, Nat.reduceOr, Nat.reduceShiftRight, Nat.reduceMod, Nat.reduceBNe, Nat.reduceBEq]
      · simp only [go_sem, bin_add, bin_sub, bin_mul, Nat.reduceAdd, Nat.reduceMul, Nat.reduceEqDiff, Nat.reduceLeDiff, Nat.reduceLT, Nat.reduceSub, reduceIte, reduceCtorEq, Int.reduceToNat, Int.reduceNeg, Int.reduceLE, Int.reduceLT, Int.reduceEq, Nat.reduceOr, Nat.reduceShiftRight, Nat.reduceMod, Nat.reduceBNe, Nat.reduceBEq]
      · simp only [t10, go_sem, bin_add, bin_sub, bin_mul, Nat.reduceAdd, Nat.reduceMul, Nat.reduceEqDiff, Nat.reduceLeDiff, Nat.reduceLT, Nat.reduceSub, reduceIte, reduceCtorEq, Int.reduceToNat, Int.reduceNeg, Int.reduceLE, Int.reduceLT, Int.reduceEq, Nat.reduceOr, Nat.reduceShiftRight, Nat.reduceMod, Nat.reduceBNe, Nat.reduceBEq]
      · simp only [go_sem, bin_add, bin_sub, bin_mul, Nat.reduceAdd, Nat.reduceMul, Nat.reduceEqDiff, Nat.reduceLeDiff, Nat.reduceLT, Nat.reduceSub, reduceIte, reduceCtorEq, Int.reduceToNat, Int.reduceNeg, Int.reduceLE, Int.reduceLT, Int.reduceEq, Nat.reduceOr, Nat.reduceShiftRight, Nat.reduceMod, Nat.reduceBNe, Nat.reduceBEq]
      have I1 : Inv28 H a b c px py pw ph (AH.set h b' .dead) (.slice none 0 0) [] := by
        refine ⟨?_, ?_, by rw [AH.nx_set]; omega, ?_, ?_, ?_, ?_, ?_, .inl ⟨rfl, rfl⟩⟩
        · show H.nx ≤ min h.lo b'; omega
        · rw [AH.nx_set]; show min h.lo b' ≤ _; omega
        · intro z hz; rw [AH.get_set_ne _ _ _ (by omega)]; exact i4 z hz
        · rw [AH.get_set_ne _ _ _ (by omega)]; exact i5
        · rw [AH.get_set_ne _ _ _ (by omega)]; exact i6
        · rw [AH.get_set_ne _ _ _ (by omega)]; exact i7
        · rw [AH.get_set_ne _ _ _ (by omega)]; exact i8
      obtain ⟨j1, j2, j3, j4, j5, j6, j7, j8, _⟩ := I1.ext (L ++ [some (.cells (frV x y fz fw ff hdv) 0 0), some (.cells (cs ++ frV x y fz fw ff hdv) 1 10)])
      refine ⟨j1, j2, j3, j4, j5, j6, j7, j8, ?_⟩
      refine .inr ⟨by simp, h.nx + (L.length + 1), _, by omega, ?_, ?_, FgsAt.snoc ⟨hdv, rfl, ?_⟩ (hb4.mono ?_ ?_), by simp⟩
      · rw [ext_nx, AH.nx_set]; simp only [List.length_cons, List.length_append]; omega
      · rw [ext_get_at (AH.set h b' _) _ h.nx _ rfl]
        simp only [go_sem, bin_add, bin_sub, bin_mul, Nat.reduceAdd, Nat.reduceMul, Nat.reduceEqDiff, Nat.reduceLeDiff, Nat.reduceLT, Nat.reduceSub, reduceIte, reduceCtorEq, Int.reduceToNat, Int.reduceNeg, Int.reduceLE, Int.reduceLT, Int.reduceEq, Nat.reduceOr, Nat.reduceShiftRight, Nat.reduceMod, Nat.reduceBNe, Nat.reduceBEq]
      · rcases hV with hV | ⟨v0, i, hi, rfl⟩
        · exact .inl hV
        · have hil := (List.getElem?_eq_some_iff.1 hi).1
          refine .inr ⟨v0, h.nx + i, by omega, by rw [ext_nx, AH.nx_set, List.length_append]; omega, ?_, rfl⟩
          rw [ext_get_at (AH.set h b' _) _ h.nx _ rfl, List.getElem?_append_left hil, hi]; rfl
      · rw [ext_nx, AH.nx_set]; omega
      · intro z cs' _ hc hcs
        rw [ext_get_old _ _ _ (by rw [AH.nx_set]; exact hc), AH.get_set_ne _ _ _ (by intro e; rw [e, hb3] at hcs; cases hcs)]
        exact hcs
end
end Go.AX.Tri
