/- Contracts: the document's fragment (4): a vector. -/
import Derived.Test.YthhgeodgfbhkdaaVa
set_option linter.unusedVariables false
set_option linter.unusedSimpArgs false
set_option linter.unusedSectionVars false
namespace Go.AX.Tri
open Go.Proofs Go.AX.Mc
set_option linter.unusedSimpArgs false
set_option linter.unusedVariables false
noncomputable section

theorem set_mid (R E : List (Option AB)) (v w e : Option AB) : (R ++ v :: E).set R.length w ++ [e] = R ++ w :: (E ++ [e]) := by
  rw [List.set_append_right _ _ (Nat.le_refl _), Nat.sub_self, List.set_cons_zero, List.append_assoc]
  rfl
theorem get_mid (R E : List (Option AB)) (v : Option AB) : (R ++ v :: E)[R.length]? = some v := by
  rw [List.getElem?_append_right (Nat.le_refl _), Nat.sub_self]; rfl
theorem atV_some {p : Wn} {k : Nat} {v : V4} (h : p.vs[k]? = some v) (n : Nat) : atV p k n = v.at n := by unfold atV; rw [h]

theorem iter26 {env : List Lp} {K : List KF} {Q : QF} {f : Fc} {G : AH} (hlo : G.lo ≤ G.nx) {x3 x4 : Option AB} {R : List (Option AB)} {j2 k : Nat} {hd2 : Value} {m0 m1 m2 : Nat} {va vb vc : V4}
    (B : B5 G.nx R j2 hd2 [m0, m1, m2])
    (ha : VecAt G f.a.a f.a.vs) (hb : VecAt G f.b.a f.b.vs) (hc : VecAt G f.c.a f.c.vs) (la : f.a.l = f.a.vs.length) (lb : f.b.l = f.b.vs.length) (lc : f.c.l = f.c.vs.length)
    (ea : f.a.vs[k]? = some va) (eb : f.b.vs[k]? = some vb) (ec : f.c.vs[k]? = some vc)
    (b0 : ∀ n, -2147483648 ≤ va.at n ∧ va.at n < 2147483648) (b1 : ∀ n, -2147483648 ≤ vb.at n ∧ vb.at n < 2147483648) (b2 : ∀ n, -2147483648 ≤ vc.at n ∧ vc.at n < 2147483648)
    (h0 : m0 ≤ 4951760157141521099596496896) (h1 : m1 ≤ 4951760157141521099596496896) (h2 : m2 ≤ 4951760157141521099596496896) (hA : 0 < m0 + m1 + m2) (l : Nat) (fr : Tr Value) (hf : Fr26 G.nx hd2 l fr)
    (t14 : tmp fr (pa 14) = .int .i64 (k : Int)) (t15 : tmp fr (pa 15) = .pointer (some ⟨G.nx + (R.length + 1 + 1 + 1 + 1 + 1), 0, none⟩)) (t72 : tmp fr (pa 72) = .int .i64 (k : Int)) (t75 : tmp fr (pa 75) = .int .i64 ((0 : Nat) : Int))
    (hQ : ∀ fr E, Fr26 G.nx hd2 l fr → tmp fr (pa 14) = .int .i64 (k : Int) → tmp fr (pa 15) = .pointer (some ⟨G.nx + (R.length + 1 + 1 + 1 + 1 + 1), 0, none⟩) → tmp fr (pa 72) = .int .i64 (k : Int) → tmp fr (pa 75) = .int .i64 ((4 : Nat) : Int) →
      X T env false (.loop a26l0) (.blk 2 :: K) fr [] (ext G (blk f.a.cs :: blk f.b.cs :: blk f.c.cs :: x3 :: x4 :: (R ++ some (.cells [.int .i32 (nearF m0 m1 m2 (va.at 0) (vb.at 0) (vc.at 0)), .int .i32 (nearF m0 m1 m2 (va.at 1) (vb.at 1) (vc.at 1)), .int .i32 (nearF m0 m1 m2 (va.at 2) (vb.at 2) (vc.at 2)), .int .i32 (nearF m0 m1 m2 (va.at 3) (vb.at 3) (vc.at 3))] 0 0) :: E))) Q) :
    X T env false (.loop a26l0) (.blk 2 :: K) fr [] (ext G (blk f.a.cs :: blk f.b.cs :: blk f.c.cs :: x3 :: x4 :: (R ++ [some (.cells [.int .i32 0, .int .i32 0, .int .i32 0, .int .i32 0] 0 0)]))) Q := by
  have hj : j2 ≠ R.length := Nat.ne_of_lt (List.getElem?_eq_some_iff.1 B.1).1
  refine step26n (n := 0) hlo (by decide) (B.more _) hj (get_mid R [] _) rfl ha hb hc la lb lc ea eb ec (b0 0) (b1 0) (b2 0) h0 h1 h2 hA l fr hf t14 t15 t72 t75 ?_
  clear hf t14 t15 t72 t75 fr
  intro fr E hf t14 t15 t72 t75
  rw [set_mid]
  refine step26n (n := 1) hlo (by decide) (B.more _) hj (get_mid R _ _) rfl ha hb hc la lb lc ea eb ec (b0 1) (b1 1) (b2 1) h0 h1 h2 hA l fr hf t14 t15 t72 t75 ?_
  clear hf t14 t15 t72 t75 fr
  intro fr E hf t14 t15 t72 t75
  rw [set_mid]
  refine step26n (n := 2) hlo (by decide) (B.more _) hj (get_mid R _ _) rfl ha hb hc la lb lc ea eb ec (b0 2) (b1 2) (b2 2) h0 h1 h2 hA l fr hf t14 t15 t72 t75 ?_
  clear hf t14 t15 t72 t75 fr
  intro fr E hf t14 t15 t72 t75
  rw [set_mid]
  refine step26n (n := 3) hlo (by decide) (B.more _) hj (get_mid R _ _) rfl ha hb hc la lb lc ea eb ec (b0 3) (b1 3) (b2 3) h0 h1 h2 hA l fr hf t14 t15 t72 t75 ?_
  clear hf t14 t15 t72 t75 fr
  intro fr E hf t14 t15 t72 t75
  rw [set_mid]
  exact hQ fr _ hf t14 t15 t72 t75
end
end Go.AX.Tri
/- Contracts: the document's fragment (5): the loop over vectors. -/
namespace Go.AX.Tri
open Go.Proofs Go.AX.Mc
set_option linter.unusedSimpArgs false
set_option linter.unusedVariables false
noncomputable section

/-- vectors in a block behind the first five of a call. -/
def V5 (N : Nat) (R : List (Option AB)) (hd : Value) (vs : List V4) : Prop :=
  (vs = [] ∧ hd = .slice none 0 0) ∨ (vs ≠ [] ∧ ∃ j, R[j]? = some (some (.cells (vs.flatMap V4.cs) 1 4)) ∧ hd = .slice (some ⟨N + (j + 1 + 1 + 1 + 1 + 1), 0, some 0⟩) vs.length vs.length)
theorem V5.flat {N : Nat} {R : List (Option AB)} {hd : Value} {vs : List V4} (h : V5 N R hd vs) : flat hd = true ∧ hd.cells.toList = [hd] := by
  rcases h with ⟨_, rfl⟩ | ⟨_, _, _, rfl⟩ <;> exact ⟨rfl, rfl⟩

theorem room4 {n : Nat} (h : n < 1000) : room (n + (0 + 1)) 16 = true := room_of (by omega) (by omega)
theorem vout26 {env : List Lp} {K : List KF} {Q : QF} {f : Fc} {G : AH} (hlo : G.lo ≤ G.nx) {x3 : Option AB} {R : List (Option AB)} {j2 : Nat} {hd hd2 : Value} {m0 m1 m2 : Nat} {vs : List V4} {va vb vc : V4} {x y z iw : Int} {front : Bool}
    (B : B5 G.nx R j2 hd2 [m0, m1, m2]) (V : V5 G.nx R hd vs) (hk : vs.length < f.a.l) (hsz : f.a.l < 1000)
    (ha : VecAt G f.a.a f.a.vs) (hb : VecAt G f.b.a f.b.vs) (hc : VecAt G f.c.a f.c.vs) (la : f.a.l = f.a.vs.length) (lb : f.b.l = f.b.vs.length) (lc : f.c.l = f.c.vs.length)
    (ea : f.a.vs[vs.length]? = some va) (eb : f.b.vs[vs.length]? = some vb) (ec : f.c.vs[vs.length]? = some vc)
    (b0 : ∀ n, -2147483648 ≤ va.at n ∧ va.at n < 2147483648) (b1 : ∀ n, -2147483648 ≤ vb.at n ∧ vb.at n < 2147483648) (b2 : ∀ n, -2147483648 ≤ vc.at n ∧ vc.at n < 2147483648)
    (h0 : m0 ≤ 4951760157141521099596496896) (h1 : m1 ≤ 4951760157141521099596496896) (h2 : m2 ≤ 4951760157141521099596496896) (hA : 0 < m0 + m1 + m2) (fr : Tr Value) (hf : Fr26 G.nx hd2 f.a.l fr)
    (t72 : tmp fr (pa 72) = .int .i64 (vs.length : Int))
    (hQ : ∀ fr R' hd', B5 G.nx R' j2 hd2 [m0, m1, m2] → V5 G.nx R' hd' (vs ++ [⟨nearF m0 m1 m2 (va.at 0) (vb.at 0) (vc.at 0), nearF m0 m1 m2 (va.at 1) (vb.at 1) (vc.at 1), nearF m0 m1 m2 (va.at 2) (vb.at 2) (vc.at 2), nearF m0 m1 m2 (va.at 3) (vb.at 3) (vc.at 3)⟩]) →
      Fr26 G.nx hd2 f.a.l fr → tmp fr (pa 72) = .int .i64 ((vs.length + 1 : Nat) : Int) →
      X T env false (.loop a26l1) (.blk 0 :: K) fr [] (ext G (blk f.a.cs :: blk f.b.cs :: blk f.c.cs :: x3 :: blk (frV x y z iw front hd') :: R')) Q) :
    X T env false (.loop a26l1) (.blk 0 :: K) fr [] (ext G (blk f.a.cs :: blk f.b.cs :: blk f.c.cs :: x3 :: blk (frV x y z iw front hd) :: R)) Q := by
  obtain ⟨t5, t6, t7, t10, t11, t13, t71⟩ := hf
  have hlt : (vs.length : Int) < f.a.l := Int.ofNat_lt.2 hk
  have hfl := V.flat
  have wk : wrapF .i64 ((vs.length : Int) + 1) = ((vs.length + 1 : Nat) : Int) := w1 (Nat.lt_trans hk (Nat.lt_trans hsz (by decide)))
  rw [X_loop]
  change X _ _ _ (.seq _ _) _ _ _ _ _
  simp only [t71, t72, hlt, go_sem, bin_add, bin_sub, bin_mul, Nat.reduceAdd, Nat.reduceMul, Nat.reduceEqDiff, Nat.reduceLeDiff, Nat.reduceLT, Nat.reduceSub, reduceIte, reduceCtorEq, Int.reduceToNat, Int.reduceNeg, Int.reduceLE, Int.reduceLT, Int.reduceEq, Nat.reduceOr, Nat.reduceShiftRight, Nat.reduceMod, Nat.reduceBNe, Nat.reduceBEq]
  refine iter26 hlo B ha hb hc la lb lc ea eb ec b0 b1 b2 h0 h1 h2 hA f.a.l _ ⟨?_, ?_, ?_, ?_, ?_, ?_, ?_⟩ ?_ ?_ ?_ ?_ ?_
  · simp only [t5, go_sem, bin_add, bin_sub, bin_mul, Nat.reduceAdd, Nat.reduceMul, Nat.reduceEqDiff, Nat.reduceLeDiff, Nat.reduceLT, Nat.reduceSub, reduceIte, reduceCtorEq, Int.reduceToNat, Int.reduceNeg, Int.reduceLE, Int.reduceLT, Int.reduceEq, Nat.reduceOr, Nat.reduceShiftRight, Nat.reduceMod, Nat.reduceBNe, Nat.reduceBEq]
  · simp only [t6, go_sem, bin_add, bin_sub, bin_mul, Nat.reduceAdd, Nat.reduceMul, Nat.reduceEqDiff, Nat.reduceLeDiff, Nat.reduceLT, Nat.reduceSub, reduceIte, reduceCtorEq, Int.reduceToNat, Int.reduceNeg, Int.reduceLE, Int.reduceLT, Int.reduceEq, Nat.reduceOr, Nat.reduceShiftRight, Nat.reduceMod, Nat.reduceBNe, Nat.reduceBEq]
  · simp only [t7, go_sem, bin_add, bin_sub, bin_mul, Nat.reduceAdd, Nat.reduceMul, Nat.reduceEqDiff, Nat.reduceLeDiff, Nat.reduceLT, Nat.reduceSub, reduceIte, reduceCtorEq, Int.reduceToNat, Int.reduceNeg, Int.reduceLE, Int.reduceLT, Int.reduceEq, Nat.reduceOr, Nat.reduceShiftRight, Nat.reduceMod, Nat.reduceBNe, Nat.reduceBEq]
  · simp only [t10, go_sem, bin_add, bin_sub, bin_mul, Nat.reduceAdd, Nat.reduceMul, Nat.reduceEqDiff, Nat.reduceLeDiff, Nat.reduceLT, Nat.reduceSub, reduceIte, reduceCtorEq, Int.reduceToNat, Int.reduceNeg, Int.reduceLE, Int.reduceLT, Int.reduceEq, Nat.reduceOr, Nat.reduceShiftRight, Nat.reduceMod, Nat.reduceBNe, Nat.reduceBEq]
  · simp only [t11, go_sem, bin_add, bin_sub, bin_mul, Nat.reduceAdd, Nat.reduceMul, Nat.reduceEqDiff, Nat.reduceLeDiff, Nat.reduceLT, Nat.reduceSub, reduceIte, reduceCtorEq, Int.reduceToNat, Int.reduceNeg, Int.reduceLE, Int.reduceLT, Int.reduceEq, Nat.reduceOr, Nat.reduceShiftRight, Nat.reduceMod, Nat.reduceBNe, Nat.reduceBEq]
  · simp only [t13, go_sem, bin_add, bin_sub, bin_mul, Nat.reduceAdd, Nat.reduceMul, Nat.reduceEqDiff, Nat.reduceLeDiff, Nat.reduceLT, Nat.reduceSub, reduceIte, reduceCtorEq, Int.reduceToNat, Int.reduceNeg, Int.reduceLE, Int.reduceLT, Int.reduceEq, Nat.reduceOr, Nat.reduceShiftRight, Nat.reduceMod, Nat.reduceBNe, Nat.reduceBEq]
  · simp only [t71, go_sem, bin_add, bin_sub, bin_mul, Nat.reduceAdd, Nat.reduceMul, Nat.reduceEqDiff, Nat.reduceLeDiff, Nat.reduceLT, Nat.reduceSub, reduceIte, reduceCtorEq, Int.reduceToNat, Int.reduceNeg, Int.reduceLE, Int.reduceLT, Int.reduceEq, Nat.reduceOr, Nat.reduceShiftRight, Nat.reduceMod, Nat.reduceBNe, Nat.reduceBEq]
  · simp only [go_sem, bin_add, bin_sub, bin_mul, Nat.reduceAdd, Nat.reduceMul, Nat.reduceEqDiff, Nat.reduceLeDiff, Nat.reduceLT, Nat.reduceSub, reduceIte, reduceCtorEq, Int.reduceToNat, Int.reduceNeg, Int.reduceLE, Int.reduceLT, Int.reduceEq, Nat.reduceOr, Nat.reduceShiftRight, Nat.reduceMod, Nat.reduceBNe, Nat.reduceBEq]
  · simp only [go_sem, bin_add, bin_sub, bin_mul, Nat.reduceAdd, Nat.reduceMul, Nat.reduceEqDiff, Nat.reduceLeDiff, Nat.reduceLT, Nat.reduceSub, reduceIte, reduceCtorEq, Int.reduceToNat, Int.reduceNeg, Int.reduceLE, Int.reduceLT, Int.reduceEq, Nat.reduceOr, Nat.reduceShiftRight, Nat.reduceMod, Nat.reduceBNe, Nat.reduceBEq]
  · simp only [t72, go_sem, bin_add, bin_sub, bin_mul, Nat.reduceAdd, Nat.reduceMul, Nat.reduceEqDiff, Nat.reduceLeDiff, Nat.reduceLT, Nat.reduceSub, reduceIte, reduceCtorEq, Int.reduceToNat, Int.reduceNeg, Int.reduceLE, Int.reduceLT, Int.reduceEq, Nat.reduceOr, Nat.reduceShiftRight, Nat.reduceMod, Nat.reduceBNe, Nat.reduceBEq]
  · simp only [go_sem, bin_add, bin_sub, bin_mul, Nat.reduceAdd, Nat.reduceMul, Nat.reduceEqDiff, Nat.reduceLeDiff, Nat.reduceLT, Nat.reduceSub, reduceIte, reduceCtorEq, Int.reduceToNat, Int.reduceNeg, Int.reduceLE, Int.reduceLT, Int.reduceEq, Nat.reduceOr, Nat.reduceShiftRight, Nat.reduceMod, Nat.reduceBNe, Nat.reduceBEq]; try rfl
  clear t5 t6 t7 t10 t11 t13 t71 t72 fr
  intro fr E hf t14 t15 t72 t75
  obtain ⟨t5, t6, t7, t10, t11, t13, t71⟩ := hf
  rw [X_loop]
  change X _ _ _ (.seq _ _) _ _ _ _ _
  simp only [frV, t5, t6, t7, t10, t11, t13, t14, t15, t71, t72, t75, hlo, hfl.1, hfl.2, get_mid, show ¬ (((4 : Nat) : Int) < 4) from (by decide), go_sem, bin_add, bin_sub, bin_mul, Nat.reduceAdd, Nat.reduceMul, Nat.reduceEqDiff, Nat.reduceLeDiff, Nat.reduceLT, Nat.reduceSub, reduceIte, reduceCtorEq, Int.reduceToNat, Int.reduceNeg, Int.reduceLE, Int.reduceLT, Int.reduceEq, Nat.reduceOr, Nat.reduceShiftRight, Nat.reduceMod, Nat.reduceBNe, Nat.reduceBEq]
  generalize hv : (⟨nearF m0 m1 m2 (va.at 0) (vb.at 0) (vc.at 0), nearF m0 m1 m2 (va.at 1) (vb.at 1) (vc.at 1), nearF m0 m1 m2 (va.at 2) (vb.at 2) (vc.at 2), nearF m0 m1 m2 (va.at 3) (vb.at 3) (vc.at 3)⟩ : V4) = v at hQ
  have hvc : [Value.int .i32 (nearF m0 m1 m2 (va.at 0) (vb.at 0) (vc.at 0)), .int .i32 (nearF m0 m1 m2 (va.at 1) (vb.at 1) (vc.at 1)), .int .i32 (nearF m0 m1 m2 (va.at 2) (vb.at 2) (vc.at 2)), .int .i32 (nearF m0 m1 m2 (va.at 3) (vb.at 3) (vc.at 3))] = v.cs := by rw [← hv]; rfl
  have vl4 : v.cs.length = 4 := rfl
  have vt4 : v.cs.take 4 = v.cs := rfl
  have vf : v.cs.all flat = true := rfl
  rw [hvc]
  clear hv hvc
  rcases V with ⟨hv0, rfl⟩ | ⟨hv0, j, hj, rfl⟩
  · rw [app_nil _ 4 16 _ 0 v.cs (aSource_s _ 4 _ 0 1 1 _ (by simp only [vl4, vt4, go_sem, bin_add, bin_sub, bin_mul, Nat.reduceAdd, Nat.reduceMul, Nat.reduceEqDiff, Nat.reduceLeDiff, Nat.reduceLT, Nat.reduceSub, reduceIte, reduceCtorEq, Int.reduceToNat, Int.reduceNeg, Int.reduceLE, Int.reduceLT, Int.reduceEq, Nat.reduceOr, Nat.reduceShiftRight, Nat.reduceMod, Nat.reduceBNe, Nat.reduceBEq])) (room_of (by omega) (by omega)) vf]
    simp only [frV, t5, t6, t7, t10, t11, t13, t14, t15, t71, t72, t75, hlo, go_sem, bin_add, bin_sub, bin_mul, Nat.reduceAdd, Nat.reduceMul, Nat.reduceEqDiff, Nat.reduceLeDiff, Nat.reduceLT, Nat.reduceSub, reduceIte, reduceCtorEq, Int.reduceToNat, Int.reduceNeg, Int.reduceLE, Int.reduceLT, Int.reduceEq, Nat.reduceOr, Nat.reduceShiftRight, Nat.reduceMod, Nat.reduceBNe, Nat.reduceBEq]
    subst hv0
    refine hQ _ (R ++ some (.cells v.cs 0 0) :: (E ++ [some (.cells v.cs 0 0), some (.cells v.cs 1 4)])) _ (B.more _) (.inr ⟨by simp, R.length + (E.length + 1 + 1), ?_, rfl⟩) ⟨?_, ?_, ?_, ?_, ?_, ?_, ?_⟩ ?_
    · simp
    · simp only [t5, go_sem, bin_add, bin_sub, bin_mul, Nat.reduceAdd, Nat.reduceMul, Nat.reduceEqDiff, Nat.reduceLeDiff, Nat.reduceLT, Nat.reduceSub, reduceIte, reduceCtorEq, Int.reduceToNat, Int.reduceNeg, Int.reduceLE, Int.reduceLT, Int.reduceEq, Nat.reduceOr, Nat.reduceShiftRight, Nat.reduceMod, Nat.reduceBNe, Nat.reduceBEq]
    · simp only [t6, go_sem, bin_add, bin_sub, bin_mul, Nat.reduceAdd, Nat.reduceMul, Nat.reduceEqDiff, Nat.reduceLeDiff, Nat.reduceLT, Nat.reduceSub, reduceIte, reduceCtorEq, Int.reduceToNat, Int.reduceNeg, Int.reduceLE, Int.reduceLT, Int.reduceEq, Nat.reduceOr, Nat.reduceShiftRight, Nat.reduceMod, Nat.reduceBNe, Nat.reduceBEq]
    · simp only [t7, go_sem, bin_add, bin_sub, bin_mul, Nat.reduceAdd, Nat.reduceMul, Nat.reduceEqDiff, Nat.reduceLeDiff, Nat.reduceLT, Nat.reduceSub, reduceIte, reduceCtorEq, Int.reduceToNat, Int.reduceNeg, Int.reduceLE, Int.reduceLT, Int.reduceEq, Nat.reduceOr, Nat.reduceShiftRight, Nat.reduceMod, Nat.reduceBNe, Nat.reduceBEq]
    · simp only [t10, go_sem, bin_add, bin_sub, bin_mul, Nat.reduceAdd, Nat.reduceMul, Nat.reduceEqDiff, Nat.reduceLeDiff, Nat.reduceLT, Nat.reduceSub, reduceIte, reduceCtorEq, Int.reduceToNat, Int.reduceNeg, Int.reduceLE, Int.reduceLT, Int.reduceEq, Nat.reduceOr, Nat.reduceShiftRight, Nat.reduceMod, Nat.reduceBNe, Nat.reduceBEq]
    · simp only [t11, go_sem, bin_add, bin_sub, bin_mul, Nat.reduceAdd, Nat.reduceMul, Nat.reduceEqDiff, Nat.reduceLeDiff, Nat.reduceLT, Nat.reduceSub, reduceIte, reduceCtorEq, Int.reduceToNat, Int.reduceNeg, Int.reduceLE, Int.reduceLT, Int.reduceEq, Nat.reduceOr, Nat.reduceShiftRight, Nat.reduceMod, Nat.reduceBNe, Nat.reduceBEq]
    · simp only [t13, go_sem, bin_add, bin_sub, bin_mul, Nat.reduceAdd, Nat.reduceMul, Nat.reduceEqDiff, Nat.reduceLeDiff, Nat.reduceLT, Nat.reduceSub, reduceIte, reduceCtorEq, Int.reduceToNat, Int.reduceNeg, Int.reduceLE, Int.reduceLT, Int.reduceEq, Nat.reduceOr, Nat.reduceShiftRight, Nat.reduceMod, Nat.reduceBNe, Nat.reduceBEq]
    · simp only [t71, go_sem, bin_add, bin_sub, bin_mul, Nat.reduceAdd, Nat.reduceMul, Nat.reduceEqDiff, Nat.reduceLeDiff, Nat.reduceLT, Nat.reduceSub, reduceIte, reduceCtorEq, Int.reduceToNat, Int.reduceNeg, Int.reduceLE, Int.reduceLT, Int.reduceEq, Nat.reduceOr, Nat.reduceShiftRight, Nat.reduceMod, Nat.reduceBNe, Nat.reduceBEq]
    · simp only [go_sem, bin_add, bin_sub, bin_mul, Nat.reduceAdd, Nat.reduceMul, Nat.reduceEqDiff, Nat.reduceLeDiff, Nat.reduceLT, Nat.reduceSub, reduceIte, reduceCtorEq, Int.reduceToNat, Int.reduceNeg, Int.reduceLE, Int.reduceLT, Int.reduceEq, Nat.reduceOr, Nat.reduceShiftRight, Nat.reduceMod, Nat.reduceBNe, Nat.reduceBEq]; rfl
  · have hjl := (List.getElem?_eq_some_iff.1 hj).1
    rw [app_slr _ 4 16 _ vs.length (vs.flatMap V4.cs) _ 0 v.cs (aSource_s _ 4 _ 0 1 1 _ (by simp only [vl4, vt4, go_sem, bin_add, bin_sub, bin_mul, Nat.reduceAdd, Nat.reduceMul, Nat.reduceEqDiff, Nat.reduceLeDiff, Nat.reduceLT, Nat.reduceSub, reduceIte, reduceCtorEq, Int.reduceToNat, Int.reduceNeg, Int.reduceLE, Int.reduceLT, Int.reduceEq, Nat.reduceOr, Nat.reduceShiftRight, Nat.reduceMod, Nat.reduceBNe, Nat.reduceBEq])) (by simp only [List.getElem?_append_left hjl, hj, go_sem, bin_add, bin_sub, bin_mul, Nat.reduceAdd, Nat.reduceMul, Nat.reduceEqDiff, Nat.reduceLeDiff, Nat.reduceLT, Nat.reduceSub, reduceIte, reduceCtorEq, Int.reduceToNat, Int.reduceNeg, Int.reduceLE, Int.reduceLT, Int.reduceEq, Nat.reduceOr, Nat.reduceShiftRight, Nat.reduceMod, Nat.reduceBNe, Nat.reduceBEq]) (v4_length vs) (room4 (Nat.lt_trans hk hsz)) vf]
    rw [ext_set_new G hlo _ _ _ (by simp only [List.length_cons, List.length_append]; omega)]
    simp only [frV, t5, t6, t7, t10, t11, t13, t14, t15, t71, t72, t75, hlo, List.set_append_left _ _ hjl, List.length_set, go_sem, bin_add, bin_sub, bin_mul, Nat.reduceAdd, Nat.reduceMul, Nat.reduceEqDiff, Nat.reduceLeDiff, Nat.reduceLT, Nat.reduceSub, reduceIte, reduceCtorEq, Int.reduceToNat, Int.reduceNeg, Int.reduceLE, Int.reduceLT, Int.reduceEq, Nat.reduceOr, Nat.reduceShiftRight, Nat.reduceMod, Nat.reduceBNe, Nat.reduceBEq]
    have hne : j2 ≠ j := by
      intro e
      have h1 := B.1
      rw [e, hj] at h1
      simp at h1
    refine hQ _ (R.set j (some .dead) ++ some (.cells v.cs 0 0) :: (E ++ [some (.cells v.cs 0 0), some (.cells (vs.flatMap V4.cs ++ v.cs) 1 4)])) (.slice (some ⟨G.nx + (R.length + (E.length + 1 + 1) + 1 + 1 + 1 + 1 + 1), 0, some 0⟩) (vs.length + 1) (vs.length + 1)) ((B.set hne _).more _) (.inr ⟨by simp, R.length + (E.length + 1 + 1), ?_, by simp⟩) ⟨?_, ?_, ?_, ?_, ?_, ?_, ?_⟩ ?_
    · simp
    · simp only [t5, go_sem, bin_add, bin_sub, bin_mul, Nat.reduceAdd, Nat.reduceMul, Nat.reduceEqDiff, Nat.reduceLeDiff, Nat.reduceLT, Nat.reduceSub, reduceIte, reduceCtorEq, Int.reduceToNat, Int.reduceNeg, Int.reduceLE, Int.reduceLT, Int.reduceEq, Nat.reduceOr, Nat.reduceShiftRight, Nat.reduceMod, Nat.reduceBNe, Nat.reduceBEq]
    · simp only [t6, go_sem, bin_add, bin_sub, bin_mul, Nat.reduceAdd, Nat.reduceMul, Nat.reduceEqDiff, Nat.reduceLeDiff, Nat.reduceLT, Nat.reduceSub, reduceIte, reduceCtorEq, Int.reduceToNat, Int.reduceNeg, Int.reduceLE, Int.reduceLT, Int.reduceEq, Nat.reduceOr, Nat.reduceShiftRight, Nat.reduceMod, Nat.reduceBNe, Nat.reduceBEq]
    · simp only [t7, go_sem, bin_add, bin_sub, bin_mul, Nat.reduceAdd, Nat.reduceMul, Nat.reduceEqDiff, Nat.reduceLeDiff, Nat.reduceLT, Nat.reduceSub, reduceIte, reduceCtorEq, Int.reduceToNat, Int.reduceNeg, Int.reduceLE, Int.reduceLT, Int.reduceEq, Nat.reduceOr, Nat.reduceShiftRight, Nat.reduceMod, Nat.reduceBNe, Nat.reduceBEq]
    · simp only [t10, go_sem, bin_add, bin_sub, bin_mul, Nat.reduceAdd, Nat.reduceMul, Nat.reduceEqDiff, Nat.reduceLeDiff, Nat.reduceLT, Nat.reduceSub, reduceIte, reduceCtorEq, Int.reduceToNat, Int.reduceNeg, Int.reduceLE, Int.reduceLT, Int.reduceEq, Nat.reduceOr, Nat.reduceShiftRight, Nat.reduceMod, Nat.reduceBNe, Nat.reduceBEq]
    · simp only [t11, go_sem, bin_add, bin_sub, bin_mul, Nat.reduceAdd, Nat.reduceMul, Nat.reduceEqDiff, Nat.reduceLeDiff, Nat.reduceLT, Nat.reduceSub, reduceIte, reduceCtorEq, Int.reduceToNat, Int.reduceNeg, Int.reduceLE, Int.reduceLT, Int.reduceEq, Nat.reduceOr, Nat.reduceShiftRight, Nat.reduceMod, Nat.reduceBNe, Nat.reduceBEq]
    · simp only [t13, go_sem, bin_add, bin_sub, bin_mul, Nat.reduceAdd, Nat.reduceMul, Nat.reduceEqDiff, Nat.reduceLeDiff, Nat.reduceLT, Nat.reduceSub, reduceIte, reduceCtorEq, Int.reduceToNat, Int.reduceNeg, Int.reduceLE, Int.reduceLT, Int.reduceEq, Nat.reduceOr, Nat.reduceShiftRight, Nat.reduceMod, Nat.reduceBNe, Nat.reduceBEq]
    · simp only [t71, go_sem, bin_add, bin_sub, bin_mul, Nat.reduceAdd, Nat.reduceMul, Nat.reduceEqDiff, Nat.reduceLeDiff, Nat.reduceLT, Nat.reduceSub, reduceIte, reduceCtorEq, Int.reduceToNat, Int.reduceNeg, Int.reduceLE, Int.reduceLT, Int.reduceEq, Nat.reduceOr, Nat.reduceShiftRight, Nat.reduceMod, Nat.reduceBNe, Nat.reduceBEq]
    · simp only [wk, go_sem, bin_add, bin_sub, bin_mul, Nat.reduceAdd, Nat.reduceMul, Nat.reduceEqDiff, Nat.reduceLeDiff, Nat.reduceLT, Nat.reduceSub, reduceIte, reduceCtorEq, Int.reduceToNat, Int.reduceNeg, Int.reduceLE, Int.reduceLT, Int.reduceEq, Nat.reduceOr, Nat.reduceShiftRight, Nat.reduceMod, Nat.reduceBNe, Nat.reduceBEq]
end
end Go.AX.Tri
