/- Contracts: the document's fragment (5): the loop over vectors. -/
import Derived.Test.YthhgeodgfbhkdaaSn
set_option linter.unusedVariables false
set_option linter.unusedSimpArgs false
set_option linter.unusedSectionVars false
namespace Go.AX.Tri
open Go.Proofs Go.AX.Mc
set_option linter.unusedSimpArgs false
set_option linter.unusedVariables false
noncomputable section

/-- vectors in a block behind the first five of a call. -/
def V5 (N : Nat) (R : List (Option AB)) (hd : Value) (vs : List V4) : Prop :=
  (vs = [] ∧ hd = .slice none 0 0) ∨ (vs ≠ [] ∧ ∃ j, R[j]? = some (some (.cells (vs.flatMap V4.cs) 1 4)) ∧ hd = .slice (some ⟨N + (j + 1 + 1 + 1 + 1 + 1), 0, some 0⟩) vs.length vs.length)
theorem V5.flat {N : Nat} {R : List (Option AB)} {hd : Value} {vs : List V4} (h : V5 N R hd vs) : flat hd = true ∧ hd.cells.toList = [hd] := by
  rcases h with ⟨_, rfl⟩ | ⟨_, _, _, rfl⟩ <;> exact ⟨rfl, rfl⟩

theorem room4 {n : Nat} (h : n < 1000) : room (n + (0 + 1)) 16 = true := room_of (by omega) (by omega)
theorem vout26 {env : List Lp} {K : List KF} {Q : QF} {f : Fc} {G : AH} (hlo : G.lo ≤ G.nx) {x3 : Option AB} {R : List (Option AB)} {j2 : Nat} {hd hd2 : Value} {m0 m1 m2 : Nat} {vs : List V4} {va vb vc : V4} {x y z iw : Int} {front : Bool}
    (B : B5 G.nx R j2 hd2 [m0, m1, m2]) (V : V5 G.nx R hd vs) (hk : vs.length < f.a.l) (hsz : f.a.l < 1000)
    (ha : VecAt G f.a.a f.a.vs) (hb : VecAt G f.b.a f.b.vs) (hc : VecAt G f.c.a f.c.vs) (la : f.a.l = f.a.vs.length) (lb : f.b.l = f.b.vs.length) (lc : f.c.l = f.c.vs.length)
    (ea : f.a.vs[vs.length]? = some va) (eb : f.b.vs[vs.length]? = some vb) (ec : f.c.vs[vs.length]? = some vc)
    (b0 : ∀ n, -2147483648 ≤ va.at n ∧ va.at n < 2147483648) (b1 : ∀ n, -2147483648 ≤ vb.at n ∧ vb.at n < 2147483648) (b2 : ∀ n, -2147483648 ≤ vc.at n ∧ vc.at n < 2147483648)
    (h0 : m0 ≤ 4951760157141521099596496896) (h1 : m1 ≤ 4951760157141521099596496896) (h2 : m2 ≤ 4951760157141521099596496896) (hA : 0 < m0 + m1 + m2) (fr : Tr Value) (hf : Fr26 G.nx hd2 f.a.l fr)
    (t72 : tmp fr (pa 72) = .int .i64 (vs.length : Int))
    (hQ : ∀ fr R' hd', B5 G.nx R' j2 hd2 [m0, m1, m2] → V5 G.nx R' hd' (vs ++ [⟨nearF m0 m1 m2 (va.at 0) (vb.at 0) (vc.at 0), nearF m0 m1 m2 (va.at 1) (vb.at 1) (vc.at 1), nearF m0 m1 m2 (va.at 2) (vb.at 2) (vc.at 2), nearF m0 m1 m2 (va.at 3) (vb.at 3) (vc.at 3)⟩]) →
      Fr26 G.nx hd2 f.a.l fr → tmp fr (pa 72) = .int .i64 ((vs.length + 1 : Nat) : Int) →
      X T env false (.loop a26l1) (.blk 0 :: K) fr [] (ext G (blk f.a.cs :: blk f.b.cs :: blk f.c.cs :: x3 :: blk (frV x y z iw front hd') :: R')) Q) :
    X T env false (.loop a26l1) (.blk 0 :: K) fr [] (ext G (blk f.a.cs :: blk f.b.cs :: blk f.c.cs :: x3 :: blk (frV x y z iw front hd) :: R)) Q := by
  obtain ⟨t5, t6, t7, t10, t11, t13, t71⟩ := hf
  have hlt : (vs.length : Int) < f.a.l := Int.ofNat_lt.2 hk
  have hfl := V.flat
  have wk : wrapF .i64 ((vs.length : Int) + 1) = ((vs.length + 1 : Nat) : Int) := w1 (Nat.lt_trans hk (Nat.lt_trans hsz (by decide)))
  rw [X_loop]
  change X _ _ _ (.seq _ _) _ _ _ _ _
  simp only [t71, t72, hlt, go_sem, bin_add, bin_sub, bin_mul, Nat.reduceAdd, Nat.reduceMul, Nat.reduceEqDiff, Nat.reduceLeDiff, Nat.reduceLT, Nat.reduceSub, reduceIte, reduceCtorEq, Int.reduceToNat, Int.reduceNeg, Int.reduceLE, Int.reduceLT, Int.reduceEq, Nat.reduceOr, Nat.reduceShiftRight, Nat.reduceMod, Nat.reduceBNe, Nat.reduceBEq]
  refine iter26 hlo B ha hb hc la lb lc ea eb ec b0 b1 b2 h0 h1 h2 hA f.a.l _ ⟨?_, ?_, ?_, ?_, ?_, ?_, ?_⟩ ?_ ?_ ?_ ?_ ?_
  · simp only [t5, go_sem, bin_add, bin_sub, bin_mul, Nat.reduceAdd, Nat.reduceMul, Nat.reduceEqDiff, Nat.reduceLeDiff, Nat.reduceLT, Nat.reduceSub, reduceIte, reduceCtorEq, Int.reduceToNat, Int.reduceNeg, Int.reduceLE, Int.reduceLT, Int.reduceEq, Nat.reduceOr, Nat.reduceShiftRight, Nat.reduceMod, Nat.reduceBNe, Nat.reduceBEq]
  · simp only [t6, go_sem, bin_add, bin_sub, bin_mul, Nat.reduceAdd, Nat.reduceMul, Nat.reduceEqDiff, Nat.reduceLeDiff, Nat.reduceLT, Nat.reduceSub, reduceIte, reduceCtorEq, Int.reduceToNat, Int.reduceNeg, Int.reduceLE, Int.reduceLT, Int.reduceEq, Nat.reduceOr, Nat.reduceShiftRight, Nat.reduceMod, Nat.reduceBNe, Nat.reduceBEq]
  · simp only [t7, go_sem, bin_add, bin_sub, bin_mul, Nat.reduceAdd, Nat.reduceMul, Nat.reduceEqDiff, Nat.reduceLeDiff, Nat.reduceLT, Nat.reduceSub, reduceIte, reduceCtorEq, Int.reduceToNat, Int.reduceNeg, Int.reduceLE, Int.reduceLT, Int.reduceEq, Nat.reduceOr, Nat.reduceShiftRight, Nat.reduceMod, Nat.reduceBNe, Nat.reduceBEq]
  · simp only [t10, go_sem, bin_add, bin_sub, bin_mul, Nat.reduceAdd, Nat.reduceMul, Nat.reduceEqDiff, Nat.reduceLeDiff, Nat.reduceLT, Nat.reduceSub, reduceIte, reduceCtorEq, Int.reduceToNat, Int.reduceNeg, Int.reduceLE, Int.reduceLT, Int.reduceEq, Nat.reduceOr, Nat.reduceShiftRight, Nat.reduceMod, Nat.reduceBNe, Nat.reduceBEq]
  · simp only [t11, go_sem, bin_add, bin_sub, bin_mul, Nat.reduceAdd, Nat.reduceMul, Nat.reduceEqDiff, Nat.reduceLeDiff, Nat.reduceLT, Nat.reduceSub, reduceIte, reduceCtorEq, Int.reduceToNat, Int.reduceNeg, Int.reduceLE, Int.reduceLT, Int.reduceEq, Nat.reduceOr, Nat.reduceShiftRight, Nat.reduceMod, Nat.reduceBNe, Nat.reduceBEq]
  · simp only [t13, go_sem, bin_add, bin_sub, bin_mul, Nat.reduceAdd, Nat.reduceMul, Nat.reduceEqDiff, Nat.reduceLeDiff, Nat.reduceLT, Nat.reduceSub, reduceIte, reduceCtorEq, Int.reduceToNat, Int.reduceNeg, Int.reduceLE, Int.reduceLT, Int.reduceEq, Nat.reduceOr, Nat.reduceShiftRight, Nat.reduceMod, Nat.reduceBNe, Nat.reduceBEq]
  · simp only [t71, go_sem, bin_add, bin_sub, bin_mul, Nat.reduceAdd, Nat.reduceMul, Nat.reduceEqDiff, Nat.reduceLeDiff, Nat.reduceLT, Nat.reduceSub, reduceIte, reduceCtorEq, Int.reduceToNat, Int.reduceNeg, Int.reduceLE, Int.reduceLT, Int.reduceEq, Nat.reduceOr, Nat.reduceShiftRight, Nat.reduceMod, Nat.reduceBNe, Nat.reduceBEq]
  · simp only [go_sem, bin_add, bin_sub, bin_mul, Nat.reduceAdd, Nat.reduceMul, Nat.reduceEqDiff, Nat.reduceLeDiff, Nat.reduceLT, Nat.reduceSub, reduceIte, reduceCtorEq, Int.reduceToNat, Int.reduceNeg, Int.reduceLE, Int.reduceLT, Int.reduceEq, Nat.reduceOr, Nat.reduceShiftRight, Nat.reduceMod, Nat.reduceBNe, Nat.reduceBEq]
  · simp only [go_sem, bin_add, bin_sub, bin_mul, Nat.reduceAdd, Nat.reduceMul, Nat.reduceEqDiff, Nat.reduceLeDiff, Nat.reduceLT, Nat.reduceSub, reduceIte, reduceCtorEq, Int.reduceToNat, Int.reduceNeg, Int.reduceLE, Int.reduceLT, Int.reduceEq, Nat.reduceOr, Nat.reduceShiftRight, Nat.reduceMod, Nat.reduceBNe, Nat.reduceBEq]
  · simp only [t72, go_sem, bin_add, bin_sub, bin_mul, Nat.reduceAdd, Nat.reduceMul, Nat.reduceEqDiff, Nat.reduceLeDiff, Nat.reduceLT, Nat.reduceSub, reduceIte, reduceCtorEq, Int.reduceToNat, Int.reduceNeg, Int.reduceLE, Int.reduceLT, Int.reduceEq, Nat.reduceOr, Nat.reduceShiftRight, Nat.reduceMod, Nat.reduceBNe, Nat.reduceBEq]
  · simp only [go_sem, bin_add, bin_sub, bin_mul, Nat.reduceAdd, Nat.reduceMul, Nat.reduceEqDiff, Nat.reduceLeDiff, Nat.reduceLT, Nat.reduceSub, reduceIte, reduceCtorEq, Int.reduceToNat, Int.reduceNeg, Int.reduceLE, Int.reduceLT, Int.reduceEq, Nat.reduceOr, Nat.reduceShiftRight, Nat.reduceMod, Nat.reduceBNe, Nat.reduceBEq]; try rfl
  clear t5 t6 t7 t10 t11 t13 t71 t72 fr
  intro fr E hf t14 t15 t72 t75
  obtain ⟨t5, t6, t7, t10, t11, t13, t71⟩ := hf
  rw [X_loop]
  change X _ _ _ (.seq _ _) _ _ _ _ _
  simp only [frV, t5, t6, t7, t10, t11, t13, t14, t15, t71, t72, t75, hlo, hfl.1, hfl.2, get_mid, show ¬ (((4 : Nat) : Int) < 4) from (by decide), go_sem, bin_add, bin_sub, bin_mul, Nat.reduceAdd, Nat.reduceMul, Nat.reduceEqDiff, Nat.reduceLeDiff, Nat.reduceLT, Nat.reduceSub, reduceIte, reduceCtorEq, Int.reduceToNat, Int.reduceNeg, Int.reduceLE, Int.reduceLT, Int.reduceEq, Nat.reduceOr, Nat.reduceShiftRight, Nat.reduceMod, Nat.reduceBNe, Nat.reduceBEq]
  generalize hv : (⟨nearF m0 m1 m2 (va.at 0) (vb.at 0) (vc.at 0), nearF m0 m1 m2 (va.at 1) (vb.at 1) (vc.at 1), nearF m0 m1 m2 (va.at 2) (vb.at 2) (vc.at 2), nearF m0 m1 m2 (va.at 3) (vb.at 3) (vc.at 3)⟩ : V4) = v at hQ
  have hvc : [Value.int .i32 (nearF m0 m1 m2 (va.at 0) (vb.at 0) (vc.at 0)), .int .i32 (nearF m0 m1 m2 (va.at 1) (vb.at 1) (vc.at 1)), .int .i32 (nearF m0 m1 m2 (va.at 2) (vb.at 2) (vc.at 2)), .int .i32 (nearF m0 m1 m2 (va.at 3) (vb.at 3) (vc.at 3))] = v.cs := by rw [← hv]; rfl
  have vl4 : v.cs.length = 4 := rfl
  have vt4 : v.cs.take 4 = v.cs := rfl
  have vf : v.cs.all flat = true := rfl
  rw [hvc]
  clear hv hvc
  rcases V with ⟨hv0, rfl⟩ | ⟨hv0, j, hj, rfl⟩
  · rw [app_nil _ 4 16 _ 0 v.cs (aSource_s _ 4 _ 0 1 1 _ (by simp only [vl4, vt4, go_sem, bin_add, bin_sub, bin_mul, Nat.reduceAdd, Nat.reduceMul, Nat.reduceEqDiff, Nat.reduceLeDiff, Nat.reduceLT, Nat.reduceSub, reduceIte, reduceCtorEq, Int.reduceToNat, Int.reduceNeg, Int.reduceLE, Int.reduceLT, Int.reduceEq, Nat.reduceOr, Nat.reduceShiftRight, Nat.reduceMod, Nat.reduceBNe, Nat.reduceBEq])) (room_of (by omega) (by omega)) vf]
    simp only [frV, t5, t6, t7, t10, t11, t13, t14, t15, t71, t72, t75, hlo, go_sem, bin_add, bin_sub, bin_mul, Nat.reduceAdd, Nat.reduceMul, Nat.reduceEqDiff, Nat.reduceLeDiff, Nat.reduceLT, Nat.reduceSub, reduceIte, reduceCtorEq, Int.reduceToNat, Int.reduceNeg, Int.reduceLE, Int.reduceLT, Int.reduceEq, Nat.reduceOr, Nat.reduceShiftRight, Nat.reduceMod, Nat.reduceBNe, Nat.reduceBEq]
    subst hv0
    refine hQ _ (R ++ some (.cells v.cs 0 0) :: (E ++ [some (.cells v.cs 0 0), some (.cells v.cs 1 4)])) _ (B.more _) (.inr ⟨by simp, R.length + (E.length + 1 + 1), ?_, rfl⟩) ⟨?_, ?_, ?_, ?_, ?_, ?_, ?_⟩ ?_
    · simp
    · simp only [t5, go_sem, bin_add, bin_sub, bin_mul, Nat.reduceAdd, Nat.reduceMul, Nat.reduceEqDiff, Nat.reduceLeDiff, Nat.reduceLT, Nat.reduceSub, reduceIte, reduceCtorEq, Int.reduceToNat, Int.reduceNeg, Int.reduceLE, Int.reduceLT, Int.reduceEq, Nat.reduceOr, Nat.reduceShiftRight, Nat.reduceMod, Nat.reduceBNe, Nat.reduceBEq]
    · simp only [t6, go_sem, bin_add, bin_sub, bin_mul, Nat.reduceAdd, Nat.reduceMul, Nat.reduceEqDiff, Nat.reduceLeDiff, Nat.reduceLT, Nat.reduceSub, reduceIte, reduceCtorEq, Int.reduceToNat, Int.reduceNeg, Int.reduceLE, Int.reduceLT, Int.reduceEq, Nat.reduceOr, Nat.reduceShiftRight, Nat.reduceMod, Nat.reduceBNe, Nat.reduceBEq]
    · simp only [t7, go_sem, bin_add, bin_sub, bin_mul, Nat.reduceAdd, Nat.reduceMul, Nat.reduceEqDiff, Nat.reduceLeDiff, Nat.reduceLT, Nat.reduceSub, reduceIte, reduceCtorEq, Int.reduceToNat, Int.reduceNeg, Int.reduceLE, Int.reduceLT, Int.reduceEq, Nat.reduceOr, Nat.reduceShiftRight, Nat.reduceMod, Nat.reduceBNe, Nat.reduceBEq]
    · simp only [t10, go_sem, bin_add, bin_sub, bin_mul, Nat.reduceAdd, Nat.reduceMul, Nat.reduceEqDiff, Nat.reduceLeDiff, Nat.reduceLT, Nat.reduceSub, reduceIte, reduceCtorEq, Int.reduceToNat, Int.reduceNeg, Int.reduceLE, Int.reduceLT, Int.reduceEq, Nat.reduceOr, Nat.reduceShiftRight, Nat.reduceMod, Nat.reduceBNe, Nat.reduceBEq]
    · simp only [t11, go_sem, bin_add, bin_sub, bin_mul, Nat.reduceAdd, Nat.reduceMul, Nat.reduceEqDiff, Nat.reduceLeDiff, Nat.reduceLT, Nat.reduceSub, reduceIte, reduceCtorEq, Int.reduceToNat, Int.reduceNeg, Int.reduceLE, Int.reduceLT, Int.reduceEq, Nat.reduceOr, Nat.reduceShiftRight, Nat.reduceMod, Nat.reduceBNe, Nat.reduceBEq]
    · simp only [t13, go_sem, bin_add, bin_sub, bin_mul, Nat.reduceAdd, Nat.reduceMul, Nat.reduceEqDiff, Nat.reduceLeDiff, Nat.reduceLT, Nat.reduceSub, reduceIte, reduceCtorEq, Int.reduceToNat, Int.reduceNeg, Int.reduceLE, Int.reduceLT, Int.reduceEq, Nat.reduceOr, Nat.reduceShiftRight, Nat.reduceMod, Nat.reduceBNe, Nat.reduceBEq]
    · simp only [t71, go_sem, bin_add, bin_sub, bin_mul, Nat.reduceAdd, Nat.reduceMul, Nat.reduceEqDiff, Nat.reduceLeDiff, Nat.reduceLT, Nat.reduceSub, reduceIte, reduceCtorEq, Int.reduceToNat, Int.reduceNeg, Int.reduceLE, Int.reduceLT, Int.reduceEq, Nat.reduceOr, Nat.reduceShiftRight, Nat.reduceMod, Nat.reduceBNe, Nat.reduceBEq]
    · simp only [go_sem, bin_add, bin_sub, bin_mul, Nat.reduceAdd, Nat.reduceMul, Nat.reduceEqDiff, Nat.reduceLeDiff, Nat.reduceLT, Nat.reduceSub, reduceIte, reduceCtorEq, Int.reduceToNat, Int.reduceNeg, Int.reduceLE, Int.reduceLT, Int.reduceEq, Nat.reduceOr, Nat.reduceShiftRight, Nat.reduceMod, Nat.reduceBNe, Nat.reduceBEq]; rfl
  · have hjl := (List.getElem?_eq_some_iff.1 hj).1
    rw [app_slr _ 4 16 _ vs.length (vs.flatMap V4.cs) _ 0 v.cs (aSource_s _ 4 _ 0 1 1 _ (by simp only [vl4, vt4, go_sem, bin_add, bin_sub, bin_mul, Nat.reduceAdd, Nat.reduceMul, Nat.reduceEqDiff, Nat.reduceLeDiff, Nat.reduceLT, Nat.reduceSub, reduceIte, reduceCtorEq, Int.reduceToNat, Int.reduceNeg, Int.reduceLE, Int.reduceLT, Int.reduceEq, Nat.reduceOr, Nat.reduceShiftRight, Nat.reduceMod, Nat.reduceBNe, Nat.reduceBEq])) (by simp only [List.getElem?_append_left hjl, hj, go_sem, bin_add, bin_sub, bin_mul, Nat.reduceAdd, Nat.reduceMul, Nat.reduceEqDiff, Nat.reduceLeDiff, Nat.reduceLT, Nat.reduceSub, reduceIte, reduceCtorEq, Int.reduceToNat, Int.reduceNeg, Int.reduceLE, Int.reduceLT, Int.reduceEq, Nat.reduceOr, Nat.reduceShiftRight, Nat.reduceMod, Nat.reduceBNe, Nat.reduceBEq]) (v4_length vs) (room4 (Nat.lt_trans hk hsz)) vf]
    rw [ext_set_new G hlo _ _ _ (by simp only [List.length_cons, List.length_append]; omega)]
    simp only [frV, t5, t6, t7, t10, t11, t13, t14, t15, t71, t72, t75, hlo, List.set_append_left _ _ hjl, List.length_set, go_sem, bin_add, bin_sub, bin_mul, Nat.reduceAdd, Nat.reduceMul, Nat.reduceEqDiff, Nat.reduceLeDiff, Nat.reduceLT, Nat.reduceSub, reduceIte, reduceCtorEq, Int.reduceToNat, Int.reduceNeg, Int.reduceLE, Int.reduceLT, Int.reduceEq, Nat.reduceOr, Nat.reduceShiftRight, Nat.reduceMod, Nat.reduceBNe, Nat.reduceBEq]
    have hne : j2 ≠ j := by
      intro e
      have h1 := B.1
      rw [e, hj] at h1
      simp at h1
    refine hQ _ (R.set j (some .dead) ++ some (.cells v.cs 0 0) :: (E ++ [some (.cells v.cs 0 0), some (.cells (vs.flatMap V4.cs ++ v.cs) 1 4)])) (.slice (some ⟨G.nx + (R.length + (E.length + 1 + 1) + 1 + 1 + 1 + 1 + 1), 0, some 0⟩) (vs.length + 1) (vs.length + 1)) ((B.set hne _).more _) (.inr ⟨by simp, R.length + (E.length + 1 + 1), ?_, by simp⟩) ⟨?_, ?_, ?_, ?_, ?_, ?_, ?_⟩ ?_
    · simp
    · simp only [t5, go_sem, bin_add, bin_sub, bin_mul, Nat.reduceAdd, Nat.reduceMul, Nat.reduceEqDiff, Nat.reduceLeDiff, Nat.reduceLT, Nat.reduceSub, reduceIte, reduceCtorEq, Int.reduceToNat, Int.reduceNeg, Int.reduceLE, Int.reduceLT, Int.reduceEq, Nat.reduceOr, Nat.reduceShiftRight, Nat.reduceMod, Nat.reduceBNe, Nat.reduceBEq]
    · simp only [t6, go_sem, bin_add, bin_sub, bin_mul, Nat.reduceAdd, Nat.reduceMul, Nat.reduceEqDiff, Nat.reduceLeDiff, Nat.reduceLT, Nat.reduceSub, reduceIte, reduceCtorEq, Int.reduceToNat, Int.reduceNeg, Int.reduceLE, Int.reduceLT, Int.reduceEq, Nat.reduceOr, Nat.reduceShiftRight, Nat.reduceMod, Nat.reduceBNe, Nat.reduceBEq]
    · simp only [t7, go_sem, bin_add, bin_sub, bin_mul, Nat.reduceAdd, Nat.reduceMul, Nat.reduceEqDiff, Nat.reduceLeDiff, Nat.reduceLT, Nat.reduceSub, reduceIte, reduceCtorEq, Int.reduceToNat, Int.reduceNeg, Int.reduceLE, Int.reduceLT, Int.reduceEq, Nat.reduceOr, Nat.reduceShiftRight, Nat.reduceMod, Nat.reduceBNe, Nat.reduceBEq]
    · simp only [t10, go_sem, bin_add, bin_sub, bin_mul, Nat.reduceAdd, Nat.reduceMul, Nat.reduceEqDiff, Nat.reduceLeDiff, Nat.reduceLT, Nat.reduceSub, reduceIte, reduceCtorEq, Int.reduceToNat, Int.reduceNeg, Int.reduceLE, Int.reduceLT, Int.reduceEq, Nat.reduceOr, Nat.reduceShiftRight, Nat.reduceMod, Nat.reduceBNe, Nat.reduceBEq]
    · simp only [t11, go_sem, bin_add, bin_sub, bin_mul, Nat.reduceAdd, Nat.reduceMul, Nat.reduceEqDiff, Nat.reduceLeDiff, Nat.reduceLT, Nat.reduceSub, reduceIte, reduceCtorEq, Int.reduceToNat, Int.reduceNeg, Int.reduceLE, Int.reduceLT, Int.reduceEq, Nat.reduceOr, Nat.reduceShiftRight, Nat.reduceMod, Nat.reduceBNe, Nat.reduceBEq]
    · simp only [t13, go_sem, bin_add, bin_sub, bin_mul, Nat.reduceAdd, Nat.reduceMul, Nat.reduceEqDiff, Nat.reduceLeDiff, Nat.reduceLT, Nat.reduceSub, reduceIte, reduceCtorEq, Int.reduceToNat, Int.reduceNeg, Int.reduceLE, Int.reduceLT, Int.reduceEq, Nat.reduceOr, Nat.reduceShiftRight, Nat.reduceMod, Nat.reduceBNe, Nat.reduceBEq]
    · simp only [t71, go_sem, bin_add, bin_sub, bin_mul, Nat.reduceAdd, Nat.reduceMul, Nat.reduceEqDiff, Nat.reduceLeDiff, Nat.reduceLT, Nat.reduceSub, reduceIte, reduceCtorEq, Int.reduceToNat, Int.reduceNeg, Int.reduceLE, Int.reduceLT, Int.reduceEq, Nat.reduceOr, Nat.reduceShiftRight, Nat.reduceMod, Nat.reduceBNe, Nat.reduceBEq]
    · simp only [wk, go_sem, bin_add, bin_sub, bin_mul, Nat.reduceAdd, Nat.reduceMul, Nat.reduceEqDiff, Nat.reduceLeDiff, Nat.reduceLT, Nat.reduceSub, reduceIte, reduceCtorEq, Int.reduceToNat, Int.reduceNeg, Int.reduceLE, Int.reduceLT, Int.reduceEq, Nat.reduceOr, Nat.reduceShiftRight, Nat.reduceMod, Nat.reduceBNe, Nat.reduceBEq]
end
end Go.AX.Tri
/- Contracts: the document's fragment (6). -/
namespace Go.AX.Tri
open Go.Proofs Go.AX.Mc
set_option linter.unusedSimpArgs false
set_option linter.unusedVariables false
noncomputable section

theorem loop26 {env : List Lp} {K : List KF} {Q : QF} {f : Fc} {G : AH} (hlo : G.lo ≤ G.nx) {x3 : Option AB} {j2 : Nat} {hd2 : Value} {n0 n1 n2 : Nat} {x y z iw : Int} {front : Bool} (hsz : f.a.l < 1000)
    (wa : WnAt G f.a) (wb : WnAt G f.b) (wc : WnAt G f.c) (lb : f.b.l = f.a.l) (lc : f.c.l = f.a.l)
    (h0 : n0 * f.b.w.toNat * f.c.w.toNat ≤ 4951760157141521099596496896) (h1 : n1 * f.c.w.toNat * f.a.w.toNat ≤ 4951760157141521099596496896) (h2 : n2 * f.a.w.toNat * f.b.w.toNat ≤ 4951760157141521099596496896)
    (hA : 0 < n0 * f.b.w.toNat * f.c.w.toNat + n1 * f.c.w.toNat * f.a.w.toNat + n2 * f.a.w.toNat * f.b.w.toNat)
    (q2 : ∀ fr R hd, V5 G.nx R hd (vsF f n0 n1 n2 f.a.l) → Fr26 G.nx hd2 f.a.l fr → Kt T env false K .normal fr [] (ext G (blk f.a.cs :: blk f.b.cs :: blk f.c.cs :: x3 :: blk (frV x y z iw front hd) :: R)) Q) :
    ∀ (r k : Nat), k + r = f.a.l → ∀ fr R hd, B5 G.nx R j2 hd2 [n0 * f.b.w.toNat * f.c.w.toNat, n1 * f.c.w.toNat * f.a.w.toNat, n2 * f.a.w.toNat * f.b.w.toNat] → V5 G.nx R hd (vsF f n0 n1 n2 k) → Fr26 G.nx hd2 f.a.l fr → tmp fr (pa 72) = .int .i64 (k : Int) →
      X T env false (.loop a26l1) (.blk 0 :: K) fr [] (ext G (blk f.a.cs :: blk f.b.cs :: blk f.c.cs :: x3 :: blk (frV x y z iw front hd) :: R)) Q := by
  intro r
  induction r with
  | zero =>
    intro k hk fr R hd B V hf t72
    have hk' : k = f.a.l := hk
    subst hk'
    obtain ⟨t5, t6, t7, t10, t11, t13, t71⟩ := hf
    rw [X_loop]
    change X _ _ _ (.seq _ _) _ _ _ _ _
    simp only [t71, t72, Int.lt_irrefl, decide_false, go_sem, bin_add, bin_sub, bin_mul, Nat.reduceAdd, Nat.reduceMul, Nat.reduceEqDiff, Nat.reduceLeDiff, Nat.reduceLT, Nat.reduceSub, reduceIte, reduceCtorEq, Int.reduceToNat, Int.reduceNeg, Int.reduceLE, Int.reduceLT, Int.reduceEq, Nat.reduceOr, Nat.reduceShiftRight, Nat.reduceMod, Nat.reduceBNe, Nat.reduceBEq]
    refine q2 _ R hd V ⟨?_, ?_, ?_, ?_, ?_, ?_, ?_⟩
    all_goals simp only [t5, t6, t7, t10, t11, t13, t71, go_sem, bin_add, bin_sub, bin_mul, Nat.reduceAdd, Nat.reduceMul, Nat.reduceEqDiff, Nat.reduceLeDiff, Nat.reduceLT, Nat.reduceSub, reduceIte, reduceCtorEq, Int.reduceToNat, Int.reduceNeg, Int.reduceLE, Int.reduceLT, Int.reduceEq, Nat.reduceOr, Nat.reduceShiftRight, Nat.reduceMod, Nat.reduceBNe, Nat.reduceBEq]
  | succ r ih =>
    intro k hk fr R hd B V hf t72
    have hkl : k < f.a.l := Nat.lt_of_lt_of_le (Nat.lt_add_of_pos_right (Nat.succ_pos r)) (Nat.le_of_eq hk)
    have hvl : (vsF f n0 n1 n2 k).length = k := by unfold vsF; rw [List.length_map, List.length_range]
    have G1 : ∀ p : Wn, WnAt G p → p.l = f.a.l → ∃ v, p.vs[(vsF f n0 n1 n2 k).length]? = some v := by
      intro p hp hl
      rw [hvl]
      exact ⟨p.vs[k]'(by rw [← hp.len, hl]; exact hkl), List.getElem?_eq_getElem _⟩
    obtain ⟨va, ea⟩ := G1 f.a wa rfl
    obtain ⟨vb, eb⟩ := G1 f.b wb lb
    obtain ⟨vc, ec⟩ := G1 f.c wc lc
    refine vout26 hlo B V (by rw [hvl]; exact hkl) hsz wa.vec wb.vec wc.vec wa.len wb.len wc.len ea eb ec (wa.num va (List.mem_of_getElem? ea)) (wb.num vb (List.mem_of_getElem? eb)) (wc.num vc (List.mem_of_getElem? ec)) h0 h1 h2 hA fr hf (by rw [hvl]; exact t72) ?_
    intro fr' R' hd' B' V' hf' t72'
    rw [hvl] at ea eb ec t72'
    refine ih (k + 1) (by rw [← hk, Nat.add_assoc, Nat.add_comm 1 r]) fr' R' hd' B' ?_ hf' t72'
    have e : vsF f n0 n1 n2 (k + 1) = vsF f n0 n1 n2 k ++ [vecF f n0 n1 n2 k] := by unfold vsF; rw [List.range_succ, List.map_append]; rfl
    rw [e]
    have ev : vecF f n0 n1 n2 k = ⟨_, _, _, _⟩ := rfl
    unfold vecF vecN
    simp only [atV_some ea, atV_some eb, atV_some ec]
    exact V'

theorem sum_pos {n0 n1 n2 a b c : Nat} (h : 0 < n0 + n1 + n2) (ha : 0 < a) (hb : 0 < b) (hc : 0 < c) : 0 < n0 * b * c + n1 * c * a + n2 * a * b := by
  rcases (show 0 < n0 ∨ 0 < n1 ∨ 0 < n2 by omega) with k | k | k
  · have := Nat.mul_pos (Nat.mul_pos k hb) hc; omega
  · have := Nat.mul_pos (Nat.mul_pos k hc) ha; omega
  · have := Nat.mul_pos (Nat.mul_pos k ha) hb; omega
theorem c26 {env : List Lp} (a b c : Wn) (x y : Int) {n0 n1 n2 wa wb wc : Nat} (hf : RfHyp (turnF a b c) x y n0 n1 n2 wa wb wc) {H : AH} (hlo : H.lo ≤ H.nx)
    (hw : ∀ p, (p = (turnF a b c).a ∨ p = (turnF a b c).b ∨ p = (turnF a b c).c) → WnAt H p) (hl : ∀ p, (p = (turnF a b c).a ∨ p = (turnF a b c).b ∨ p = (turnF a b c).c) → p.l = (turnF a b c).a.l) (hsz : (turnF a b c).a.l < 1000) (Q : AEnd → AH → Prop)
    (hQ : ∀ L hd, VsOut H.nx L hd (vsF (turnF a b c) n0 n1 n2 (turnF a b c).a.l) → Q (.ret (.agg (frV x y (nearZ (turnF a b c) n0 n1 n2) (nearW (turnF a b c) n0 n1 n2) (decide (0 < wayF a b c.x c.y)) hd).toArray)) (ext H L)) :
    C T env 26 [a.v, b.v, c.v, .int .i64 x, .int .i64 y] H Q := by
  rw [C_fn T26 rfl]
  have k30 := fun (H : AH) (Q : AEnd → AH → Prop) => c30 (env := env) a b c H Q
  have k38 := fun (L : List (Option AB)) (Q : AEnd → AH → Prop) (hQ : ∀ L', Q (.ret (.tuple [(turnF a b c).a.v, (turnF a b c).b.v, (turnF a b c).c.v].toArray)) (ext (ext H.now L) L')) => c38 (env := env) a b c (H := ext H.now L) (by rw [ext_lo, ext_nx]; exact Nat.le_add_right _ _) hQ
  simp only [Wn.v, Wn.cs] at k30 k38
  simp only [a26, Wn.v, Wn.cs, k30, go_sem, bin_add, bin_sub, bin_mul, Nat.reduceAdd, Nat.reduceMul, Nat.reduceEqDiff, Nat.reduceLeDiff, Nat.reduceLT, Nat.reduceSub, reduceIte, reduceCtorEq, Int.reduceToNat, Int.reduceNeg, Int.reduceLE, Int.reduceLT, Int.reduceEq, Nat.reduceOr, Nat.reduceShiftRight, Nat.reduceMod, Nat.reduceBNe, Nat.reduceBEq]
  refine k38 _ _ fun L0 => ?_
  generalize decide (0 < wayF a b c.x c.y) = front at *
  clear k30 k38
  generalize turnF a b c = f at *
  simp only [ext_ext, go_sem, bin_add, bin_sub, bin_mul, Nat.reduceAdd, Nat.reduceMul, Nat.reduceEqDiff, Nat.reduceLeDiff, Nat.reduceLT, Nat.reduceSub, reduceIte, reduceCtorEq, Int.reduceToNat, Int.reduceNeg, Int.reduceLE, Int.reduceLT, Int.reduceEq, Nat.reduceOr, Nat.reduceShiftRight, Nat.reduceMod, Nat.reduceBNe, Nat.reduceBEq]
  have k40 := fun (L : List (Option AB)) => c40 (env := env) f.a f.b f.c (ctr x) (ctr y) hf.e0 hf.e1 hf.e2 (lt63 hf.h0) (lt63 hf.h1) (lt63 hf.h2) hf.ea hf.eb hf.ec hf.ka hf.kb hf.kc (H := ext H.now L) (by rw [ext_lo, ext_nx]; exact Nat.le_add_right _ _)
  simp only [Wn.v, Wn.cs, ctr, w64] at k40
  refine k40 _ _ fun L1 j1 j2 hd1 hd2 B1 B2 => ?_
  clear k40
  simp only [ext_ext, go_sem, bin_add, bin_sub, bin_mul, Nat.reduceAdd, Nat.reduceMul, Nat.reduceEqDiff, Nat.reduceLeDiff, Nat.reduceLT, Nat.reduceSub, reduceIte, reduceCtorEq, Int.reduceToNat, Int.reduceNeg, Int.reduceLE, Int.reduceLT, Int.reduceEq, Nat.reduceOr, Nat.reduceShiftRight, Nat.reduceMod, Nat.reduceBNe, Nat.reduceBEq]
  have A1 := B1.b5 (by simp)
  have A2 := B2.b5 (by simp)
  clear B1 B2
  generalize L0.length + j1 = j1' at A1
  generalize L0.length + j2 = j2' at A2
  have wza := (hw f.a (.inl rfl)).z
  have wzb := (hw f.b (.inr (.inl rfl))).z
  have wzc := (hw f.c (.inr (.inr rfl))).z
  rw [w64_32 wza, w64_32 wzb, w64_32 wzc]
  have n0b : n0 ≤ 4951760157141521099596496896 := Nat.le_trans (Nat.le_of_lt hf.h0) (by decide)
  have n1b : n1 ≤ 4951760157141521099596496896 := Nat.le_trans (Nat.le_of_lt hf.h1) (by decide)
  have n2b : n2 ≤ 4951760157141521099596496896 := Nat.le_trans (Nat.le_of_lt hf.h2) (by decide)
  rw [← List.append_assoc L0 L1, ← List.length_append]
  generalize L0 ++ L1 = R at *
  rw [near5 (A1.more _) (by simp) n0b n1b n2b hf.hA wza wzb wzc]
  simp only [go_sem, bin_add, bin_sub, bin_mul, Nat.reduceAdd, Nat.reduceMul, Nat.reduceEqDiff, Nat.reduceLeDiff, Nat.reduceLT, Nat.reduceSub, reduceIte, reduceCtorEq, Int.reduceToNat, Int.reduceNeg, Int.reduceLE, Int.reduceLT, Int.reduceEq, Nat.reduceOr, Nat.reduceShiftRight, Nat.reduceMod, Nat.reduceBNe, Nat.reduceBEq]
  refine X_drawE 1 (by rfl) ?_
  have wwa : 0 < f.a.w := by rw [hf.ea]; exact Int.ofNat_lt.2 hf.pa
  have wwb : 0 < f.b.w := by rw [hf.eb]; exact Int.ofNat_lt.2 hf.pb
  have wwc : 0 < f.c.w := by rw [hf.ec]; exact Int.ofNat_lt.2 hf.pc
  have k0 := fun (H : AH) (Q : AEnd → AH → Prop) => c42 (env := env) f.a wwa (hw f.a (.inl rfl)).w.2 H Q
  have k1 := fun (H : AH) (Q : AEnd → AH → Prop) => c42 (env := env) f.b wwb (hw f.b (.inr (.inl rfl))).w.2 H Q
  have k2 := fun (H : AH) (Q : AEnd → AH → Prop) => c42 (env := env) f.c wwc (hw f.c (.inr (.inr rfl))).w.2 H Q
  simp only [Wn.v, Wn.cs] at k0 k1 k2
  simp only [k0, k1, k2, go_sem, bin_add, bin_sub, bin_mul, Nat.reduceAdd, Nat.reduceMul, Nat.reduceEqDiff, Nat.reduceLeDiff, Nat.reduceLT, Nat.reduceSub, reduceIte, reduceCtorEq, Int.reduceToNat, Int.reduceNeg, Int.reduceLE, Int.reduceLT, Int.reduceEq, Nat.reduceOr, Nat.reduceShiftRight, Nat.reduceMod, Nat.reduceBNe, Nat.reduceBEq]
  rw [near5 (A1.more _) (k := R.length + 1) (by simp) n0b n1b n2b hf.hA (over_bd f.a.w) (over_bd f.b.w) (over_bd f.c.w)]
  simp only [dg_zip, f.a.ok _ _ _, go_sem, bin_add, bin_sub, bin_mul, Nat.reduceAdd, Nat.reduceMul, Nat.reduceEqDiff, Nat.reduceLeDiff, Nat.reduceLT, Nat.reduceSub, reduceIte, reduceCtorEq, Int.reduceToNat, Int.reduceNeg, Int.reduceLE, Int.reduceLT, Int.reduceEq, Nat.reduceOr, Nat.reduceShiftRight, Nat.reduceMod, Nat.reduceBNe, Nat.reduceBEq]
  have ewa : f.a.w.toNat = wa := by rw [hf.ea]; rfl
  have ewb : f.b.w.toNat = wb := by rw [hf.eb]; rfl
  have ewc : f.c.w.toNat = wc := by rw [hf.ec]; rfl
  rw [← ewa, ← ewb, ← ewc] at A2
  have hm0 : n0 * f.b.w.toNat * f.c.w.toNat ≤ 4951760157141521099596496896 := by rw [ewb, ewc]; exact mul3_lt n0 wb wc hf.h0 hf.kb hf.kc
  have hm1 : n1 * f.c.w.toNat * f.a.w.toNat ≤ 4951760157141521099596496896 := by rw [ewa, ewc]; exact mul3_lt n1 wc wa hf.h1 hf.kc hf.ka
  have hm2 : n2 * f.a.w.toNat * f.b.w.toNat ≤ 4951760157141521099596496896 := by rw [ewa, ewb]; exact mul3_lt n2 wa wb hf.h2 hf.ka hf.kb
  have hmA : 0 < n0 * f.b.w.toNat * f.c.w.toNat + n1 * f.c.w.toNat * f.a.w.toNat + n2 * f.a.w.toNat * f.b.w.toNat := by
    rw [ewa, ewb, ewc]
    exact sum_pos hf.hA hf.pa hf.pb hf.pc
  have hll := (hl f.a (.inl rfl))
  have wna := (hw f.a (.inl rfl)).mono (h' := H.now) (Nat.le_refl _) fun _ _ _ _ => rfl
  have wnb := (hw f.b (.inr (.inl rfl))).mono (h' := H.now) (Nat.le_refl _) fun _ _ _ _ => rfl
  have wnc := (hw f.c (.inr (.inr rfl))).mono (h' := H.now) (Nat.le_refl _) fun _ _ _ _ => rfl
  refine loop26 (G := H.now) (Nat.le_refl _) hsz wna wnb wnc (hl f.b (.inr (.inl rfl))) (hl f.c (.inr (.inr rfl))) hm0 hm1 hm2 hmA ?_ f.a.l 0 (Nat.zero_add _) _ _ (.slice none 0 0) (A2.more _) (.inl ⟨rfl, rfl⟩) ⟨?_, ?_, ?_, ?_, ?_, ?_, ?_⟩ ?_
  · intro fr R' hd V hf26
    obtain ⟨t5, t6, t7, t10, t11, t13, t71⟩ := hf26
    have hfl := V.flat
    simp only [frV, t10, t11, hfl.1, hfl.2, go_sem, bin_add, bin_sub, bin_mul, Nat.reduceAdd, Nat.reduceMul, Nat.reduceEqDiff, Nat.reduceLeDiff, Nat.reduceLT, Nat.reduceSub, reduceIte, reduceCtorEq, Int.reduceToNat, Int.reduceNeg, Int.reduceLE, Int.reduceLT, Int.reduceEq, Nat.reduceOr, Nat.reduceShiftRight, Nat.reduceMod, Nat.reduceBNe, Nat.reduceBEq]
    rcases V with ⟨e0, rfl⟩ | ⟨e0, j, hj, rfl⟩
    · refine trim_go hlo fun L' => ?_
      exact hQ L' _ (.inl ⟨e0, rfl⟩)
    · refine (congrArg (Q _) (trim_keep H _ _ ?_ hlo)).mpr ?_
      · rw [clo_agg5]
        simp only [List.all_cons, clo_sl, Bool.false_and, Bool.and_false]
      · refine hQ _ _ (.inr ⟨e0, j + 1 + 1 + 1 + 1 + 1, ?_, rfl⟩)
        simp only [List.getElem?_cons_succ]
        exact hj
  all_goals first
    | (simp only [go_sem, bin_add, bin_sub, bin_mul, Nat.reduceAdd, Nat.reduceMul, Nat.reduceEqDiff, Nat.reduceLeDiff, Nat.reduceLT, Nat.reduceSub, reduceIte, reduceCtorEq, Int.reduceToNat, Int.reduceNeg, Int.reduceLE, Int.reduceLT, Int.reduceEq, Nat.reduceOr, Nat.reduceShiftRight, Nat.reduceMod, Nat.reduceBNe, Nat.reduceBEq]; done)
    | (simp only [go_sem, bin_add, bin_sub, bin_mul, Nat.reduceAdd, Nat.reduceMul, Nat.reduceEqDiff, Nat.reduceLeDiff, Nat.reduceLT, Nat.reduceSub, reduceIte, reduceCtorEq, Int.reduceToNat, Int.reduceNeg, Int.reduceLE, Int.reduceLT, Int.reduceEq, Nat.reduceOr, Nat.reduceShiftRight, Nat.reduceMod, Nat.reduceBNe, Nat.reduceBEq]; rfl)
end
end Go.AX.Tri
