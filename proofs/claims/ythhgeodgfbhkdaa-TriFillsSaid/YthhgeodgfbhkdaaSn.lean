/- Contracts: the document's fragment (3): the loop over a vector's numbers. -/
import Derived.Test.YthhgeodgfbhkdaaSk
import Derived.Test.YthhgeodgfbhkdaaVc
set_option linter.unusedVariables false
set_option linter.unusedSimpArgs false
set_option linter.unusedSectionVars false
namespace Go.AX.Tri
open Go.Proofs Go.AX.Mc
set_option linter.unusedSimpArgs false
set_option linter.unusedVariables false
noncomputable section

/-- the frame's part that the loops keep. -/
structure Fr26 (N : Nat) (hd2 : Value) (l : Nat) (fr : Tr Value) : Prop where
  t5 : tmp fr (pa 5) = .pointer (some ⟨N, 0, none⟩)
  t6 : tmp fr (pa 6) = .pointer (some ⟨N + 1, 0, none⟩)
  t7 : tmp fr (pa 7) = .pointer (some ⟨N + 2, 0, none⟩)
  t10 : tmp fr (pa 10) = .pointer (some ⟨N + 3, 0, none⟩)
  t11 : tmp fr (pa 11) = .pointer (some ⟨N + 4, 0, none⟩)
  t13 : tmp fr (pa 13) = hd2
  t71 : tmp fr (pa 71) = .int .i64 l

theorem B5.set {N : Nat} {R : List (Option AB)} {j m : Nat} {hd : Value} {l : List Nat} (B : B5 N R j hd l) (h : j ≠ m) (x : Option AB) : B5 N (R.set m x) j hd l :=
  ⟨by rw [List.getElem?_set_ne (Ne.symm h)]; exact B.1, B.2⟩

theorem step26n {env : List Lp} {K : List KF} {Q : QF} {f : Fc} {G : AH} (hlo : G.lo ≤ G.nx) {x3 x4 : Option AB} {R : List (Option AB)} {j2 m k n : Nat} {hd2 : Value} {m0 m1 m2 : Nat} {va vb vc : V4} {vl : List Value} (hn : n < 4)
    (B : B5 G.nx R j2 hd2 [m0, m1, m2]) (hjm : j2 ≠ m) (hm : R[m]? = some (some (.cells vl 0 0))) (hvl : vl.length = 4)
    (ha : VecAt G f.a.a f.a.vs) (hb : VecAt G f.b.a f.b.vs) (hc : VecAt G f.c.a f.c.vs) (la : f.a.l = f.a.vs.length) (lb : f.b.l = f.b.vs.length) (lc : f.c.l = f.c.vs.length)
    (ea : f.a.vs[k]? = some va) (eb : f.b.vs[k]? = some vb) (ec : f.c.vs[k]? = some vc)
    (b0 : -2147483648 ≤ va.at n ∧ va.at n < 2147483648) (b1 : -2147483648 ≤ vb.at n ∧ vb.at n < 2147483648) (b2 : -2147483648 ≤ vc.at n ∧ vc.at n < 2147483648)
    (h0 : m0 ≤ 4951760157141521099596496896) (h1 : m1 ≤ 4951760157141521099596496896) (h2 : m2 ≤ 4951760157141521099596496896) (hA : 0 < m0 + m1 + m2) (l : Nat) (fr : Tr Value) (hf : Fr26 G.nx hd2 l fr)
    (t14 : tmp fr (pa 14) = .int .i64 (k : Int)) (t15 : tmp fr (pa 15) = .pointer (some ⟨G.nx + (m + 1 + 1 + 1 + 1 + 1), 0, none⟩)) (t72 : tmp fr (pa 72) = .int .i64 (k : Int)) (t75 : tmp fr (pa 75) = .int .i64 (n : Int))
    (hQ : ∀ fr E, Fr26 G.nx hd2 l fr → tmp fr (pa 14) = .int .i64 (k : Int) → tmp fr (pa 15) = .pointer (some ⟨G.nx + (m + 1 + 1 + 1 + 1 + 1), 0, none⟩) → tmp fr (pa 72) = .int .i64 (k : Int) → tmp fr (pa 75) = .int .i64 ((n + 1 : Nat) : Int) →
      X T env false (.loop a26l0) (.blk 2 :: K) fr [] (ext G (blk f.a.cs :: blk f.b.cs :: blk f.c.cs :: x3 :: x4 :: (R.set m (some (.cells (vl.take n ++ .int .i32 (nearF m0 m1 m2 (va.at n) (vb.at n) (vc.at n)) :: vl.drop (n + 1)) 0 0)) ++ [E]))) Q) :
    X T env false (.loop a26l0) (.blk 2 :: K) fr [] (ext G (blk f.a.cs :: blk f.b.cs :: blk f.c.cs :: x3 :: x4 :: R)) Q := by
  obtain ⟨t5, t6, t7, t10, t11, t13, t71⟩ := hf
  have hlt : (n : Int) < 4 := by omega
  have hn1 : n + 1 ≤ 4 := by omega
  have hml : m < R.length := (List.getElem?_eq_some_iff.1 hm).1
  obtain ⟨ba, oa, na, ra, ia⟩ := vec_idx ha la ea
  obtain ⟨bb, ob, nb, rb, ib⟩ := vec_idx hb lb eb
  obtain ⟨bc, oc, nc, rc, ic⟩ := vec_idx hc lc ec
  have hset : ∀ (E : List (Option AB)) (x : Option AB), (R ++ E).set m x = R.set m x ++ E := fun E x => List.set_append_left _ _ hml
  have hget : ∀ E : List (Option AB), (R ++ E)[m]? = some (some (.cells vl 0 0)) := fun E => by rw [List.getElem?_append_left hml]; exact hm
  have w0 := w64_32 b0
  have w1' := w64_32 b1
  have w2' := w64_32 b2
  have wn : wrapF .i64 ((n : Int) + 1) = ((n + 1 : Nat) : Int) := w1 (Nat.lt_trans hn (by decide))
  have near := fun (E : List (Option AB)) (x0 x1 x2 x3 x4 : Option AB) => near5 (env := env) (x0 := x0) (x1 := x1) (x2 := x2) (x3 := x3) (x4 := x4) (H := G) (R := R ++ [some (.cells [.int .i64 (va.at n), .int .i64 (vb.at n), .int .i64 (vc.at n)] 0 0)]) (k := R.length) (B.more _) (by simp) h0 h1 h2 hA b0 b1 b2
  rw [X_loop]
  change X _ _ _ (.seq _ _) _ _ _ _ _
  simp only [t5, t6, t7, t10, t11, t13, t14, t15, t75, hlt, go_sem, bin_add, bin_sub, bin_mul, Nat.reduceAdd, Nat.reduceMul, Nat.reduceEqDiff, Nat.reduceLeDiff, Nat.reduceLT, Nat.reduceSub, reduceIte, reduceCtorEq, Int.reduceToNat, Int.reduceNeg, Int.reduceLE, Int.reduceLT, Int.reduceEq, Nat.reduceOr, Nat.reduceShiftRight, Nat.reduceMod, Nat.reduceBNe, Nat.reduceBEq]
  refine X_drawE 1 (by rfl) ?_
  simp only [Wn.cs, t5, t6, t7, t10, t11, t13, t14, t15, t75, hn, hn1, hlo, ia, ib, ic, na, nb, nc, rd_old _ _ _ _ _ na, rd_old _ _ _ _ _ nb, rd_old _ _ _ _ _ nc, ra n hn, rb n hn, rc n hn, w0, w1', w2', Nat.mul_one, go_sem, bin_add, bin_sub, bin_mul, Nat.reduceAdd, Nat.reduceMul, Nat.reduceEqDiff, Nat.reduceLeDiff, Nat.reduceLT, Nat.reduceSub, reduceIte, reduceCtorEq, Int.reduceToNat, Int.reduceNeg, Int.reduceLE, Int.reduceLT, Int.reduceEq, Nat.reduceOr, Nat.reduceShiftRight, Nat.reduceMod, Nat.reduceBNe, Nat.reduceBEq]
  rw [near5 (B.more _) (k := R.length) (by simp) h0 h1 h2 hA b0 b1 b2]
  have hz : ∀ u, vl.take n ++ (u :: vl.drop (n + 1)) = vl.take n ++ u :: vl.drop (n + 1) := fun _ => rfl
  simp only [Wn.cs, t5, t6, t7, t10, t11, t13, t14, t15, t75, hn, hn1, hlo, hget, hset, hvl, ia, ib, ic, na, nb, nc, rd_old _ _ _ _ _ na, rd_old _ _ _ _ _ nb, rd_old _ _ _ _ _ nc, ra n hn, rb n hn, rc n hn, Nat.mul_one, go_sem, bin_add, bin_sub, bin_mul, Nat.reduceAdd, Nat.reduceMul, Nat.reduceEqDiff, Nat.reduceLeDiff, Nat.reduceLT, Nat.reduceSub, reduceIte, reduceCtorEq, Int.reduceToNat, Int.reduceNeg, Int.reduceLE, Int.reduceLT, Int.reduceEq, Nat.reduceOr, Nat.reduceShiftRight, Nat.reduceMod, Nat.reduceBNe, Nat.reduceBEq]
  refine hQ _ (some (.cells [.int .i64 (va.at n), .int .i64 (vb.at n), .int .i64 (vc.at n)] 0 0)) ⟨?_, ?_, ?_, ?_, ?_, ?_, ?_⟩ ?_ ?_ ?_ ?_
  · simp only [t5, go_sem, bin_add, bin_sub, bin_mul, Nat.reduceAdd, Nat.reduceMul, Nat.reduceEqDiff, Nat.reduceLeDiff, Nat.reduceLT, Nat.reduceSub, reduceIte, reduceCtorEq, Int.reduceToNat, Int.reduceNeg, Int.reduceLE, Int.reduceLT, Int.reduceEq, Nat.reduceOr, Nat.reduceShiftRight, Nat.reduceMod, Nat.reduceBNe, Nat.reduceBEq]
  · simp only [t6, go_sem, bin_add, bin_sub, bin_mul, Nat.reduceAdd, Nat.reduceMul, Nat.reduceEqDiff, Nat.reduceLeDiff, Nat.reduceLT, Nat.reduceSub, reduceIte, reduceCtorEq, Int.reduceToNat, Int.reduceNeg, Int.reduceLE, Int.reduceLT, Int.reduceEq, Nat.reduceOr, Nat.reduceShiftRight, Nat.reduceMod, Nat.reduceBNe, Nat.reduceBEq]
  · simp only [t7, go_sem, bin_add, bin_sub, bin_mul, Nat.reduceAdd, Nat.reduceMul, Nat.reduceEqDiff, Nat.reduceLeDiff, Nat.reduceLT, Nat.reduceSub, reduceIte, reduceCtorEq, Int.reduceToNat, Int.reduceNeg, Int.reduceLE, Int.reduceLT, Int.reduceEq, Nat.reduceOr, Nat.reduceShiftRight, Nat.reduceMod, Nat.reduceBNe, Nat.reduceBEq]
  · simp only [t10, go_sem, bin_add, bin_sub, bin_mul, Nat.reduceAdd, Nat.reduceMul, Nat.reduceEqDiff, Nat.reduceLeDiff, Nat.reduceLT, Nat.reduceSub, reduceIte, reduceCtorEq, Int.reduceToNat, Int.reduceNeg, Int.reduceLE, Int.reduceLT, Int.reduceEq, Nat.reduceOr, Nat.reduceShiftRight, Nat.reduceMod, Nat.reduceBNe, Nat.reduceBEq]
  · simp only [t11, go_sem, bin_add, bin_sub, bin_mul, Nat.reduceAdd, Nat.reduceMul, Nat.reduceEqDiff, Nat.reduceLeDiff, Nat.reduceLT, Nat.reduceSub, reduceIte, reduceCtorEq, Int.reduceToNat, Int.reduceNeg, Int.reduceLE, Int.reduceLT, Int.reduceEq, Nat.reduceOr, Nat.reduceShiftRight, Nat.reduceMod, Nat.reduceBNe, Nat.reduceBEq]
  · simp only [t13, go_sem, bin_add, bin_sub, bin_mul, Nat.reduceAdd, Nat.reduceMul, Nat.reduceEqDiff, Nat.reduceLeDiff, Nat.reduceLT, Nat.reduceSub, reduceIte, reduceCtorEq, Int.reduceToNat, Int.reduceNeg, Int.reduceLE, Int.reduceLT, Int.reduceEq, Nat.reduceOr, Nat.reduceShiftRight, Nat.reduceMod, Nat.reduceBNe, Nat.reduceBEq]
  · simp only [t71, go_sem, bin_add, bin_sub, bin_mul, Nat.reduceAdd, Nat.reduceMul, Nat.reduceEqDiff, Nat.reduceLeDiff, Nat.reduceLT, Nat.reduceSub, reduceIte, reduceCtorEq, Int.reduceToNat, Int.reduceNeg, Int.reduceLE, Int.reduceLT, Int.reduceEq, Nat.reduceOr, Nat.reduceShiftRight, Nat.reduceMod, Nat.reduceBNe, Nat.reduceBEq]
  · simp only [t14, go_sem, bin_add, bin_sub, bin_mul, Nat.reduceAdd, Nat.reduceMul, Nat.reduceEqDiff, Nat.reduceLeDiff, Nat.reduceLT, Nat.reduceSub, reduceIte, reduceCtorEq, Int.reduceToNat, Int.reduceNeg, Int.reduceLE, Int.reduceLT, Int.reduceEq, Nat.reduceOr, Nat.reduceShiftRight, Nat.reduceMod, Nat.reduceBNe, Nat.reduceBEq]
  · simp only [t15, go_sem, bin_add, bin_sub, bin_mul, Nat.reduceAdd, Nat.reduceMul, Nat.reduceEqDiff, Nat.reduceLeDiff, Nat.reduceLT, Nat.reduceSub, reduceIte, reduceCtorEq, Int.reduceToNat, Int.reduceNeg, Int.reduceLE, Int.reduceLT, Int.reduceEq, Nat.reduceOr, Nat.reduceShiftRight, Nat.reduceMod, Nat.reduceBNe, Nat.reduceBEq]
  · simp only [t72, go_sem, bin_add, bin_sub, bin_mul, Nat.reduceAdd, Nat.reduceMul, Nat.reduceEqDiff, Nat.reduceLeDiff, Nat.reduceLT, Nat.reduceSub, reduceIte, reduceCtorEq, Int.reduceToNat, Int.reduceNeg, Int.reduceLE, Int.reduceLT, Int.reduceEq, Nat.reduceOr, Nat.reduceShiftRight, Nat.reduceMod, Nat.reduceBNe, Nat.reduceBEq]
  · simp only [wn, go_sem, bin_add, bin_sub, bin_mul, Nat.reduceAdd, Nat.reduceMul, Nat.reduceEqDiff, Nat.reduceLeDiff, Nat.reduceLT, Nat.reduceSub, reduceIte, reduceCtorEq, Int.reduceToNat, Int.reduceNeg, Int.reduceLE, Int.reduceLT, Int.reduceEq, Nat.reduceOr, Nat.reduceShiftRight, Nat.reduceMod, Nat.reduceBNe, Nat.reduceBEq]
end
end Go.AX.Tri
/- Contracts: the document's fragment (4): a vector. -/
namespace Go.AX.Tri
open Go.Proofs Go.AX.Mc
set_option linter.unusedSimpArgs false
set_option linter.unusedVariables false
noncomputable section

theorem set_mid (R E : List (Option AB)) (v w e : Option AB) : (R ++ v :: E).set R.length w ++ [e] = R ++ w :: (E ++ [e]) := by
  rw [List.set_append_right _ _ (Nat.le_refl _), Nat.sub_self, List.set_cons_zero, List.append_assoc]
  rfl
theorem get_mid (R E : List (Option AB)) (v : Option AB) : (R ++ v :: E)[R.length]? = some v := by
  rw [List.getElem?_append_right (Nat.le_refl _), Nat.sub_self]; rfl
theorem atV_some {p : Wn} {k : Nat} {v : V4} (h : p.vs[k]? = some v) (n : Nat) : atV p k n = v.at n := by unfold atV; rw [h]

theorem iter26 {env : List Lp} {K : List KF} {Q : QF} {f : Fc} {G : AH} (hlo : G.lo ≤ G.nx) {x3 x4 : Option AB} {R : List (Option AB)} {j2 k : Nat} {hd2 : Value} {m0 m1 m2 : Nat} {va vb vc : V4}
    (B : B5 G.nx R j2 hd2 [m0, m1, m2])
    (ha : VecAt G f.a.a f.a.vs) (hb : VecAt G f.b.a f.b.vs) (hc : VecAt G f.c.a f.c.vs) (la : f.a.l = f.a.vs.length) (lb : f.b.l = f.b.vs.length) (lc : f.c.l = f.c.vs.length)
    (ea : f.a.vs[k]? = some va) (eb : f.b.vs[k]? = some vb) (ec : f.c.vs[k]? = some vc)
    (b0 : ∀ n, -2147483648 ≤ va.at n ∧ va.at n < 2147483648) (b1 : ∀ n, -2147483648 ≤ vb.at n ∧ vb.at n < 2147483648) (b2 : ∀ n, -2147483648 ≤ vc.at n ∧ vc.at n < 2147483648)
    (h0 : m0 ≤ 4951760157141521099596496896) (h1 : m1 ≤ 4951760157141521099596496896) (h2 : m2 ≤ 4951760157141521099596496896) (hA : 0 < m0 + m1 + m2) (l : Nat) (fr : Tr Value) (hf : Fr26 G.nx hd2 l fr)
    (t14 : tmp fr (pa 14) = .int .i64 (k : Int)) (t15 : tmp fr (pa 15) = .pointer (some ⟨G.nx + (R.length + 1 + 1 + 1 + 1 + 1), 0, none⟩)) (t72 : tmp fr (pa 72) = .int .i64 (k : Int)) (t75 : tmp fr (pa 75) = .int .i64 ((0 : Nat) : Int))
    (hQ : ∀ fr E, Fr26 G.nx hd2 l fr → tmp fr (pa 14) = .int .i64 (k : Int) → tmp fr (pa 15) = .pointer (some ⟨G.nx + (R.length + 1 + 1 + 1 + 1 + 1), 0, none⟩) → tmp fr (pa 72) = .int .i64 (k : Int) → tmp fr (pa 75) = .int .i64 ((4 : Nat) : Int) →
      X T env false (.loop a26l0) (.blk 2 :: K) fr [] (ext G (blk f.a.cs :: blk f.b.cs :: blk f.c.cs :: x3 :: x4 :: (R ++ some (.cells [.int .i32 (nearF m0 m1 m2 (va.at 0) (vb.at 0) (vc.at 0)), .int .i32 (nearF m0 m1 m2 (va.at 1) (vb.at 1) (vc.at 1)), .int .i32 (nearF m0 m1 m2 (va.at 2) (vb.at 2) (vc.at 2)), .int .i32 (nearF m0 m1 m2 (va.at 3) (vb.at 3) (vc.at 3))] 0 0) :: E))) Q) :
    X T env false (.loop a26l0) (.blk 2 :: K) fr [] (ext G (blk f.a.cs :: blk f.b.cs :: blk f.c.cs :: x3 :: x4 :: (R ++ [some (.cells [.int .i32 0, .int .i32 0, .int .i32 0, .int .i32 0] 0 0)]))) Q := by
  have hj : j2 ≠ R.length := Nat.ne_of_lt (List.getElem?_eq_some_iff.1 B.1).1
  refine step26n (n := 0) hlo (by decide) (B.more _) hj (get_mid R [] _) rfl ha hb hc la lb lc ea eb ec (b0 0) (b1 0) (b2 0) h0 h1 h2 hA l fr hf t14 t15 t72 t75 ?_
  clear hf t14 t15 t72 t75 fr
  intro fr E hf t14 t15 t72 t75
  rw [set_mid]
  refine step26n (n := 1) hlo (by decide) (B.more _) hj (get_mid R _ _) rfl ha hb hc la lb lc ea eb ec (b0 1) (b1 1) (b2 1) h0 h1 h2 hA l fr hf t14 t15 t72 t75 ?_
  clear hf t14 t15 t72 t75 fr
  intro fr E hf t14 t15 t72 t75
  rw [set_mid]
  refine step26n (n := 2) hlo (by decide) (B.more _) hj (get_mid R _ _) rfl ha hb hc la lb lc ea eb ec (b0 2) (b1 2) (b2 2) h0 h1 h2 hA l fr hf t14 t15 t72 t75 ?_
  clear hf t14 t15 t72 t75 fr
  intro fr E hf t14 t15 t72 t75
  rw [set_mid]
  refine step26n (n := 3) hlo (by decide) (B.more _) hj (get_mid R _ _) rfl ha hb hc la lb lc ea eb ec (b0 3) (b1 3) (b2 3) h0 h1 h2 hA l fr hf t14 t15 t72 t75 ?_
  clear hf t14 t15 t72 t75 fr
  intro fr E hf t14 t15 t72 t75
  rw [set_mid]
  exact hQ fr _ hf t14 t15 t72 t75
end
end Go.AX.Tri
