/- Contracts: the fragment at a centre (4): the loops over its vectors. -/
import Derived.Test.YthhgeodgfbhkdaaWi
set_option linter.unusedVariables false
set_option linter.unusedSimpArgs false
set_option linter.unusedSectionVars false
namespace Go.AX.Tri
open Go.Proofs Go.AX.Mc
set_option linter.unusedSimpArgs false
set_option linter.unusedVariables false
noncomputable section

/-- the frame's constant part. -/
structure Fr36 (H : AH) (fr : Tr Value) : Prop where
  t4 : tmp fr (pa 4) = .pointer (some ⟨H.now.nx, 0, none⟩)
  t8 : tmp fr (pa 8) = .pointer (some ⟨H.now.nx + 2, 0, none⟩)
  t10 : tmp fr (pa 10) = .pointer (some ⟨H.now.nx + 4, 0, none⟩)
  t13 : tmp fr (pa 13) = .func (.func 49) #[] #[.pointer (some ⟨H.now.nx, 0, none⟩)]
  t14 : tmp fr (pa 14) = .pointer (some ⟨H.now.nx + 5, 0, none⟩)

theorem byF_length (f : Fc) (a b c : Nat) : (byF f a b c).length = 6 := rfl
theorem byF_take (f : Fc) (a b c : Nat) : (byF f a b c).take 6 = byF f a b c := rfl
theorem veq_byF (f : Fc) (a b c : Nat) : ((byF f a b c).zip (byF f a b c)).all (fun x => veq 5 x.1 x.2) = true := veq_wsV _ _ _

theorem vstep {env : List Lp} {k0 : List KF} {Q : QF} {f : Fc} {bf n0 n1 n2 : Nat} {H : AH} (h : FrHyp f bf n0 n1 n2 H) (b1 b2 b3 b5 : Option AB) (k : Nat) (hk : k < f.a.l) (n : Nat) (hn : n < 4) (vc : List Value) (hvc : vc.length = 4)
    (G0 G1 : List (Option AB)) (fr : Tr Value) (hf : Fr36 H fr) (v78 v79 : Value) (t78 : tmp fr (pa 78) = v78) (t79 : tmp fr (pa 79) = v79)
    (t15 : tmp fr (pa 15) = .pointer (some ⟨H.now.nx + (G0.length + 1 + 1 + 1 + 1 + 1 + 1), 0, none⟩)) (t16 : tmp fr (pa 16) = .pointer (some ⟨H.now.nx + (G0.length + 1 + 1 + 1 + 1 + 1 + 1 + 1), 0, none⟩)) (t82 : tmp fr (pa 82) = .int .i64 (n : Int))
    (hQ : ∀ fr G1, Fr36 H fr → tmp fr (pa 78) = v78 → tmp fr (pa 79) = v79 → tmp fr (pa 15) = .pointer (some ⟨H.now.nx + (G0.length + 1 + 1 + 1 + 1 + 1 + 1), 0, none⟩) → tmp fr (pa 16) = .pointer (some ⟨H.now.nx + (G0.length + 1 + 1 + 1 + 1 + 1 + 1 + 1), 0, none⟩) →
      tmp fr (pa 82) = .int .i64 ((n + 1 : Nat) : Int) →
      X T env false (.loop a36l0) k0 fr [] (ext H.now (blk [.pointer (some ⟨bf, 0, none⟩)] :: b1 :: b2 :: b3 :: blk (byF f n0 n1 n2) :: b5 :: (G0 ++ blk [.int .i64 (k : Int)] :: blk (vc.take (n * 1) ++ .int .i32 (vecN f n0 n1 n2 k n) :: vc.drop (n * 1 + 1)) :: G1))) Q) :
    X T env false (.loop a36l0) k0 fr [] (ext H.now (blk [.pointer (some ⟨bf, 0, none⟩)] :: b1 :: b2 :: b3 :: blk (byF f n0 n1 n2) :: b5 :: (G0 ++ blk [.int .i64 (k : Int)] :: blk vc :: G1))) Q := by
  obtain ⟨t4, t8, t10, t13, t14⟩ := hf
  have hn4 : (n : Int) < 4 := by omega
  have hl : n * 1 + 1 ≤ vc.length := by omega
  rw [X_loop]
  change X _ _ _ (.seq _ _) _ _ _ _ _
  simp only [t4, t8, t10, t13, t14, t15, t16, t78, t79, t82, hn4, go_sem, bin_add, bin_sub, bin_mul, Nat.reduceAdd, Nat.reduceMul, Nat.reduceEqDiff, Nat.reduceLeDiff, Nat.reduceLT, Nat.reduceSub, reduceIte, reduceCtorEq, Int.reduceToNat, Int.reduceNeg, Int.reduceLE, Int.reduceLT, Int.reduceEq, Nat.reduceOr, Nat.reduceShiftRight, Nat.reduceMod, Nat.reduceBNe, Nat.reduceBEq]
  refine X_drawE 0 (by rfl) ?_
  have K := of_vec (env := env) h k n hk hn (b1 :: b2 :: b3 :: blk (byF f n0 n1 n2) :: b5 :: (G0 ++ blk [.int .i64 (k : Int)] :: blk vc :: (G1 ++ [blk [.int .i64 (n : Int)]]))) (H.now.nx + (G0.length + 1 + 1 + 1 + 1 + 1 + 1)) (H.now.nx + (G0.length + (G1.length + 1 + 1) + 1 + 1 + 1 + 1 + 1 + 1))
    (by rw [ext_nx]; simp only [List.length_cons, List.length_append]; omega) (by rw [ext_nx]; simp only [List.length_cons, List.length_append]; omega) (by simp only [go_sem, bin_add, bin_sub, bin_mul, Nat.reduceAdd, Nat.reduceMul, Nat.reduceEqDiff, Nat.reduceLeDiff, Nat.reduceLT, Nat.reduceSub, reduceIte, reduceCtorEq, Int.reduceToNat, Int.reduceNeg, Int.reduceLE, Int.reduceLT, Int.reduceEq, Nat.reduceOr, Nat.reduceShiftRight, Nat.reduceMod, Nat.reduceBNe, Nat.reduceBEq]) (by simp only [go_sem, bin_add, bin_sub, bin_mul, Nat.reduceAdd, Nat.reduceMul, Nat.reduceEqDiff, Nat.reduceLeDiff, Nat.reduceLT, Nat.reduceSub, reduceIte, reduceCtorEq, Int.reduceToNat, Int.reduceNeg, Int.reduceLE, Int.reduceLT, Int.reduceEq, Nat.reduceOr, Nat.reduceShiftRight, Nat.reduceMod, Nat.reduceBNe, Nat.reduceBEq])
  simp only [t4, t8, t10, t13, t14, t15, t16, t78, t79, t82, hn, hl, K, byF_length, byF_take, veq_byF, go_sem, bin_add, bin_sub, bin_mul, Nat.reduceAdd, Nat.reduceMul, Nat.reduceEqDiff, Nat.reduceLeDiff, Nat.reduceLT, Nat.reduceSub, reduceIte, reduceCtorEq, Int.reduceToNat, Int.reduceNeg, Int.reduceLE, Int.reduceLT, Int.reduceEq, Nat.reduceOr, Nat.reduceShiftRight, Nat.reduceMod, Nat.reduceBNe, Nat.reduceBEq]
  refine hQ _ _ ⟨?_, ?_, ?_, ?_, ?_⟩ ?_ ?_ ?_ ?_ ?_ <;> simp only [t4, t8, t10, t13, t14, t15, t16, t78, t79, t82, w64_succ n (by omega), go_sem, bin_add, bin_sub, bin_mul, Nat.reduceAdd, Nat.reduceMul, Nat.reduceEqDiff, Nat.reduceLeDiff, Nat.reduceLT, Nat.reduceSub, reduceIte, reduceCtorEq, Int.reduceToNat, Int.reduceNeg, Int.reduceLE, Int.reduceLT, Int.reduceEq, Nat.reduceOr, Nat.reduceShiftRight, Nat.reduceMod, Nat.reduceBNe, Nat.reduceBEq]
end
end Go.AX.Tri
/- Contracts: the fragment at a centre (5). -/
namespace Go.AX.Tri
open Go.Proofs Go.AX.Mc
set_option linter.unusedSimpArgs false
set_option linter.unusedVariables false
noncomputable section

/-- vectors that a call has laid in blocks of its own. -/
def VsIn (N : Nat) (G : List (Option AB)) (hd : Value) (vs : List V4) : Prop :=
  (vs = [] ∧ hd = .slice none 0 0) ∨ (vs ≠ [] ∧ ∃ G0 G1, G = G0 ++ some (.cells (vs.flatMap V4.cs) 1 4) :: G1 ∧ hd = .slice (some ⟨N + (G0.length + 1 + 1 + 1 + 1 + 1 + 1), 0, some 0⟩) vs.length vs.length)
def vecF (f : Fc) (n0 n1 n2 k : Nat) : V4 := ⟨vecN f n0 n1 n2 k 0, vecN f n0 n1 n2 k 1, vecN f n0 n1 n2 k 2, vecN f n0 n1 n2 k 3⟩
theorem flat_hd {N : Nat} {G : List (Option AB)} {hd : Value} {vs : List V4} (h : VsIn N G hd vs) : flat hd = true ∧ hd.cells.toList = [hd] := by
  rcases h with ⟨_, rfl⟩ | ⟨_, _, _, _, rfl⟩ <;> exact ⟨rfl, rfl⟩
theorem v4_length (vs : List V4) : (vs.flatMap V4.cs).length = vs.length * 4 := by
  induction vs with
  | nil => rfl
  | cons v l ih => rw [List.flatMap_cons, List.length_append, ih]; simp only [V4.cs, List.length_cons, List.length_nil]; omega

theorem vouter {env : List Lp} {k0 : List KF} {Q : QF} {f : Fc} {bf n0 n1 n2 : Nat} {H : AH} (h : FrHyp f bf n0 n1 n2 H) (b1 b2 b3 : Option AB) (x y z w : Int) (fb : Bool) (hd : Value) (vs : List V4) (hvs : vs.length < f.a.l) (hsz : f.a.l < 1000)
    (G : List (Option AB)) (hV : VsIn H.now.nx G hd vs) (fr : Tr Value) (hf : Fr36 H fr) (t78 : tmp fr (pa 78) = .int .i64 f.a.l) (t79 : tmp fr (pa 79) = .int .i64 (vs.length : Int))
    (hQ : ∀ fr G hd, VsIn H.now.nx G hd (vs ++ [vecF f n0 n1 n2 vs.length]) → Fr36 H fr → tmp fr (pa 78) = .int .i64 f.a.l → tmp fr (pa 79) = .int .i64 ((vs.length + 1 : Nat) : Int) →
      X T env false (.loop a36l1) k0 fr [] (ext H.now (blk [.pointer (some ⟨bf, 0, none⟩)] :: b1 :: b2 :: b3 :: blk (byF f n0 n1 n2) :: blk (frV x y z w fb hd) :: G)) Q) :
    X T env false (.loop a36l1) k0 fr [] (ext H.now (blk [.pointer (some ⟨bf, 0, none⟩)] :: b1 :: b2 :: b3 :: blk (byF f n0 n1 n2) :: blk (frV x y z w fb hd) :: G)) Q := by
  obtain ⟨t4, t8, t10, t13, t14⟩ := hf
  have hlt : (vs.length : Int) < f.a.l := by omega
  rw [X_loop]
  change X _ _ _ (.seq _ _) _ _ _ _ _
  simp only [t4, t8, t10, t13, t14, t78, t79, hlt, go_sem, bin_add, bin_sub, bin_mul, Nat.reduceAdd, Nat.reduceMul, Nat.reduceEqDiff, Nat.reduceLeDiff, Nat.reduceLT, Nat.reduceSub, reduceIte, reduceCtorEq, Int.reduceToNat, Int.reduceNeg, Int.reduceLE, Int.reduceLT, Int.reduceEq, Nat.reduceOr, Nat.reduceShiftRight, Nat.reduceMod, Nat.reduceBNe, Nat.reduceBEq]
  have z4 : (4 : Nat) = [Value.int .i32 0, Value.int .i32 0, Value.int .i32 0, Value.int .i32 0].length := rfl
  refine vstep h b1 b2 b3 _ vs.length hvs 0 (by omega) [.int .i32 0, .int .i32 0, .int .i32 0, .int .i32 0] rfl G [] _ ⟨by simp only [t4, go_sem, bin_add, bin_sub, bin_mul, Nat.reduceAdd, Nat.reduceMul, Nat.reduceEqDiff, Nat.reduceLeDiff, Nat.reduceLT, Nat.reduceSub, reduceIte, reduceCtorEq, Int.reduceToNat, Int.reduceNeg, Int.reduceLE, Int.reduceLT, Int.reduceEq, Nat.reduceOr, Nat.reduceShiftRight, Nat.reduceMod, Nat.reduceBNe, Nat.reduceBEq], by simp only [t8, go_sem, bin_add, bin_sub, bin_mul, Nat.reduceAdd, Nat.reduceMul, Nat.reduceEqDiff, Nat.reduceLeDiff, Nat.reduceLT, Nat.reduceSub, reduceIte, reduceCtorEq, Int.reduceToNat, Int.reduceNeg, Int.reduceLE, Int.reduceLT, Int.reduceEq, Nat.reduceOr, Nat.reduceShiftRight, Nat.reduceMod, Nat.reduceBNe, Nat.reduceBEq], by simp only [t10, go_sem, bin_add, bin_sub, bin_mul, Nat.reduceAdd, Nat.reduceMul, Nat.reduceEqDiff, Nat.reduceLeDiff, Nat.reduceLT, Nat.reduceSub, reduceIte, reduceCtorEq, Int.reduceToNat, Int.reduceNeg, Int.reduceLE, Int.reduceLT, Int.reduceEq, Nat.reduceOr, Nat.reduceShiftRight, Nat.reduceMod, Nat.reduceBNe, Nat.reduceBEq], by simp only [t13, go_sem, bin_add, bin_sub, bin_mul, Nat.reduceAdd, Nat.reduceMul, Nat.reduceEqDiff, Nat.reduceLeDiff, Nat.reduceLT, Nat.reduceSub, reduceIte, reduceCtorEq, Int.reduceToNat, Int.reduceNeg, Int.reduceLE, Int.reduceLT, Int.reduceEq, Nat.reduceOr, Nat.reduceShiftRight, Nat.reduceMod, Nat.reduceBNe, Nat.reduceBEq], by simp only [t14, go_sem, bin_add, bin_sub, bin_mul, Nat.reduceAdd, Nat.reduceMul, Nat.reduceEqDiff, Nat.reduceLeDiff, Nat.reduceLT, Nat.reduceSub, reduceIte, reduceCtorEq, Int.reduceToNat, Int.reduceNeg, Int.reduceLE, Int.reduceLT, Int.reduceEq, Nat.reduceOr, Nat.reduceShiftRight, Nat.reduceMod, Nat.reduceBNe, Nat.reduceBEq]⟩
    (.int .i64 f.a.l) (.int .i64 (vs.length : Int)) (by simp only [t78, go_sem, bin_add, bin_sub, bin_mul, Nat.reduceAdd, Nat.reduceMul, Nat.reduceEqDiff, Nat.reduceLeDiff, Nat.reduceLT, Nat.reduceSub, reduceIte, reduceCtorEq, Int.reduceToNat, Int.reduceNeg, Int.reduceLE, Int.reduceLT, Int.reduceEq, Nat.reduceOr, Nat.reduceShiftRight, Nat.reduceMod, Nat.reduceBNe, Nat.reduceBEq]) (by simp only [t79, go_sem, bin_add, bin_sub, bin_mul, Nat.reduceAdd, Nat.reduceMul, Nat.reduceEqDiff, Nat.reduceLeDiff, Nat.reduceLT, Nat.reduceSub, reduceIte, reduceCtorEq, Int.reduceToNat, Int.reduceNeg, Int.reduceLE, Int.reduceLT, Int.reduceEq, Nat.reduceOr, Nat.reduceShiftRight, Nat.reduceMod, Nat.reduceBNe, Nat.reduceBEq]) (by simp only [go_sem, bin_add, bin_sub, bin_mul, Nat.reduceAdd, Nat.reduceMul, Nat.reduceEqDiff, Nat.reduceLeDiff, Nat.reduceLT, Nat.reduceSub, reduceIte, reduceCtorEq, Int.reduceToNat, Int.reduceNeg, Int.reduceLE, Int.reduceLT, Int.reduceEq, Nat.reduceOr, Nat.reduceShiftRight, Nat.reduceMod, Nat.reduceBNe, Nat.reduceBEq]) (by simp only [go_sem, bin_add, bin_sub, bin_mul, Nat.reduceAdd, Nat.reduceMul, Nat.reduceEqDiff, Nat.reduceLeDiff, Nat.reduceLT, Nat.reduceSub, reduceIte, reduceCtorEq, Int.reduceToNat, Int.reduceNeg, Int.reduceLE, Int.reduceLT, Int.reduceEq, Nat.reduceOr, Nat.reduceShiftRight, Nat.reduceMod, Nat.reduceBNe, Nat.reduceBEq]) (by simp only [go_sem, bin_add, bin_sub, bin_mul, Nat.reduceAdd, Nat.reduceMul, Nat.reduceEqDiff, Nat.reduceLeDiff, Nat.reduceLT, Nat.reduceSub, reduceIte, reduceCtorEq, Int.reduceToNat, Int.reduceNeg, Int.reduceLE, Int.reduceLT, Int.reduceEq, Nat.reduceOr, Nat.reduceShiftRight, Nat.reduceMod, Nat.reduceBNe, Nat.reduceBEq]) ?_
  intro fr G1 hf t78 t79 t15 t16 t82
  refine vstep h b1 b2 b3 _ vs.length hvs 1 (by omega) [.int .i32 (vecN f n0 n1 n2 vs.length 0), .int .i32 0, .int .i32 0, .int .i32 0] rfl G G1 fr hf _ _ t78 t79 t15 t16 t82 ?_
  clear hf t78 t79 t15 t16 t82 fr G1
  intro fr G1 hf t78 t79 t15 t16 t82
  refine vstep h b1 b2 b3 _ vs.length hvs 2 (by omega) [.int .i32 (vecN f n0 n1 n2 vs.length 0), .int .i32 (vecN f n0 n1 n2 vs.length 1), .int .i32 0, .int .i32 0] rfl G G1 fr hf _ _ t78 t79 t15 t16 t82 ?_
  clear hf t78 t79 t15 t16 t82 fr G1
  intro fr G1 hf t78 t79 t15 t16 t82
  refine vstep h b1 b2 b3 _ vs.length hvs 3 (by omega) [.int .i32 (vecN f n0 n1 n2 vs.length 0), .int .i32 (vecN f n0 n1 n2 vs.length 1), .int .i32 (vecN f n0 n1 n2 vs.length 2), .int .i32 0] rfl G G1 fr hf _ _ t78 t79 t15 t16 t82 ?_
  clear hf t78 t79 t15 t16 t82 fr G1
  intro fr G1 hf t78 t79 t15 t16 t82
  obtain ⟨t4, t8, t10, t13, t14⟩ := hf
  rw [X_loop]
  change X _ _ _ (.seq _ _) _ _ _ _ _
  have hfl := flat_hd hV
  simp only [t4, t8, t10, t13, t14, t15, t16, t78, t79, t82, show ¬ ((3 + 1 : Nat) : Int) < 4 by omega, frV, go_sem, bin_add, bin_sub, bin_mul, Nat.reduceAdd, Nat.reduceMul, Nat.reduceEqDiff, Nat.reduceLeDiff, Nat.reduceLT, Nat.reduceSub, reduceIte, reduceCtorEq, Int.reduceToNat, Int.reduceNeg, Int.reduceLE, Int.reduceLT, Int.reduceEq, Nat.reduceOr, Nat.reduceShiftRight, Nat.reduceMod, Nat.reduceBNe, Nat.reduceBEq]
  have hl4 : (vecF f n0 n1 n2 vs.length).cs = [.int .i32 (vecN f n0 n1 n2 vs.length 0), .int .i32 (vecN f n0 n1 n2 vs.length 1), .int .i32 (vecN f n0 n1 n2 vs.length 2), .int .i32 (vecN f n0 n1 n2 vs.length 3)] := rfl
  have hx := fun (HH : AH) (b : Nat) (hr : rd HH b 0 (1 * 4) = some (vecF f n0 n1 n2 vs.length).cs) => aSource_s HH 4 b 0 1 1 _ hr
  rcases hV with ⟨hv0, rfl⟩ | ⟨hv0, G0, G2, hG, rfl⟩
  · rw [app_nil _ 4 16 _ 0 (vecF f n0 n1 n2 vs.length).cs (aSource_s _ 4 _ 0 1 1 _ (by simp only [hl4, go_sem, bin_add, bin_sub, bin_mul, Nat.reduceAdd, Nat.reduceMul, Nat.reduceEqDiff, Nat.reduceLeDiff, Nat.reduceLT, Nat.reduceSub, reduceIte, reduceCtorEq, Int.reduceToNat, Int.reduceNeg, Int.reduceLE, Int.reduceLT, Int.reduceEq, Nat.reduceOr, Nat.reduceShiftRight, Nat.reduceMod, Nat.reduceBNe, Nat.reduceBEq])) (room_of (by omega) (by omega)) rfl]
    simp only [t4, t8, t10, t13, t14, t15, t16, t78, t79, t82, frV, go_sem, bin_add, bin_sub, bin_mul, Nat.reduceAdd, Nat.reduceMul, Nat.reduceEqDiff, Nat.reduceLeDiff, Nat.reduceLT, Nat.reduceSub, reduceIte, reduceCtorEq, Int.reduceToNat, Int.reduceNeg, Int.reduceLE, Int.reduceLT, Int.reduceEq, Nat.reduceOr, Nat.reduceShiftRight, Nat.reduceMod, Nat.reduceBNe, Nat.reduceBEq]
    refine hQ _ _ _ ?_ ⟨?_, ?_, ?_, ?_, ?_⟩ ?_ ?_
    · subst hv0
      refine .inr ⟨by simp, G ++ blk [.int .i64 (([] : List V4).length : Int)] :: blk (vecF f n0 n1 n2 ([] : List V4).length).cs :: (G1 ++ [blk (vecF f n0 n1 n2 ([] : List V4).length).cs]), [], ?_, ?_⟩
      · simp [V4.cs, vecF]
      · simp
    all_goals simp only [t4, t8, t10, t13, t14, t15, t16, t78, t79, w64_succ vs.length (by omega), go_sem, bin_add, bin_sub, bin_mul, Nat.reduceAdd, Nat.reduceMul, Nat.reduceEqDiff, Nat.reduceLeDiff, Nat.reduceLT, Nat.reduceSub, reduceIte, reduceCtorEq, Int.reduceToNat, Int.reduceNeg, Int.reduceLE, Int.reduceLT, Int.reduceEq, Nat.reduceOr, Nat.reduceShiftRight, Nat.reduceMod, Nat.reduceBNe, Nat.reduceBEq]
  · have hlt : G0.length < G.length := by rw [hG]; simp
    rw [app_slr _ 4 16 _ vs.length (vs.flatMap V4.cs) _ 0 (vecF f n0 n1 n2 vs.length).cs (aSource_s _ 4 _ 0 1 1 _ (by simp only [hl4, go_sem, bin_add, bin_sub, bin_mul, Nat.reduceAdd, Nat.reduceMul, Nat.reduceEqDiff, Nat.reduceLeDiff, Nat.reduceLT, Nat.reduceSub, reduceIte, reduceCtorEq, Int.reduceToNat, Int.reduceNeg, Int.reduceLE, Int.reduceLT, Int.reduceEq, Nat.reduceOr, Nat.reduceShiftRight, Nat.reduceMod, Nat.reduceBNe, Nat.reduceBEq])) (by simp only [hG, go_sem, bin_add, bin_sub, bin_mul, Nat.reduceAdd, Nat.reduceMul, Nat.reduceEqDiff, Nat.reduceLeDiff, Nat.reduceLT, Nat.reduceSub, reduceIte, reduceCtorEq, Int.reduceToNat, Int.reduceNeg, Int.reduceLE, Int.reduceLT, Int.reduceEq, Nat.reduceOr, Nat.reduceShiftRight, Nat.reduceMod, Nat.reduceBNe, Nat.reduceBEq]) (v4_length vs) (room_of (by omega) (by omega)) rfl]
    rw [ext_set_new H.now (Nat.le_refl _) _ _ _ (by simp only [List.length_cons, List.length_append]; omega)]
    simp only [t4, t8, t10, t13, t14, t15, t16, t78, t79, t82, frV, List.set_append_left _ _ hlt, List.length_set, go_sem, bin_add, bin_sub, bin_mul, Nat.reduceAdd, Nat.reduceMul, Nat.reduceEqDiff, Nat.reduceLeDiff, Nat.reduceLT, Nat.reduceSub, reduceIte, reduceCtorEq, Int.reduceToNat, Int.reduceNeg, Int.reduceLE, Int.reduceLT, Int.reduceEq, Nat.reduceOr, Nat.reduceShiftRight, Nat.reduceMod, Nat.reduceBNe, Nat.reduceBEq]
    refine hQ _ _ _ ?_ ⟨?_, ?_, ?_, ?_, ?_⟩ ?_ ?_
    · refine .inr ⟨by simp, G.set G0.length (some .dead) ++ blk [.int .i64 (vs.length : Int)] :: blk (vecF f n0 n1 n2 vs.length).cs :: (G1 ++ [blk (vecF f n0 n1 n2 vs.length).cs]), [], ?_, ?_⟩
      · simp [V4.cs, vecF]
      · simp
    all_goals simp only [t4, t8, t10, t13, t14, t15, t16, t78, t79, w64_succ vs.length (by omega), go_sem, bin_add, bin_sub, bin_mul, Nat.reduceAdd, Nat.reduceMul, Nat.reduceEqDiff, Nat.reduceLeDiff, Nat.reduceLT, Nat.reduceSub, reduceIte, reduceCtorEq, Int.reduceToNat, Int.reduceNeg, Int.reduceLE, Int.reduceLT, Int.reduceEq, Nat.reduceOr, Nat.reduceShiftRight, Nat.reduceMod, Nat.reduceBNe, Nat.reduceBEq]
end
end Go.AX.Tri
/- Contracts: the fragment at a centre (6): the contract. -/
namespace Go.AX.Tri
open Go.Proofs Go.AX.Mc
set_option linter.unusedSimpArgs false
set_option linter.unusedVariables false
noncomputable section

/-- vectors in blocks that a call leaves behind it. -/
def VsOut (N : Nat) (L : List (Option AB)) (hd : Value) (vs : List V4) : Prop :=
  (vs = [] ∧ hd = .slice none 0 0) ∨ (vs ≠ [] ∧ ∃ i, L[i]? = some (some (.cells (vs.flatMap V4.cs) 1 4)) ∧ hd = .slice (some ⟨N + i, 0, some 0⟩) vs.length vs.length)
def vsF (f : Fc) (n0 n1 n2 m : Nat) : List V4 := (List.range m).map (vecF f n0 n1 n2)

theorem vloop {env : List Lp} {k0 : List KF} {Q : QF} {f : Fc} {bf n0 n1 n2 : Nat} {H : AH} (h : FrHyp f bf n0 n1 n2 H) (hsz : f.a.l < 1000) (b1 b2 b3 : Option AB) (x y z w : Int) (fb : Bool)
    (hQ : ∀ fr G hd, VsIn H.now.nx G hd (vsF f n0 n1 n2 f.a.l) → Fr36 H fr → Kt T env false k0 .normal fr [] (ext H.now (blk [.pointer (some ⟨bf, 0, none⟩)] :: b1 :: b2 :: b3 :: blk (byF f n0 n1 n2) :: blk (frV x y z w fb hd) :: G)) Q) :
    ∀ (r m : Nat), m + r = f.a.l → ∀ fr G hd, VsIn H.now.nx G hd (vsF f n0 n1 n2 m) → Fr36 H fr → tmp fr (pa 78) = .int .i64 f.a.l → tmp fr (pa 79) = .int .i64 (m : Int) →
      X T env false (.loop a36l1) (.blk 2 :: k0) fr [] (ext H.now (blk [.pointer (some ⟨bf, 0, none⟩)] :: b1 :: b2 :: b3 :: blk (byF f n0 n1 n2) :: blk (frV x y z w fb hd) :: G)) Q := by
  intro r
  induction r with
  | zero =>
    intro m hm fr G hd hV hf t78 t79
    obtain rfl : m = f.a.l := by omega
    rw [X_loop]
    change X _ _ _ (.seq _ _) _ _ _ _ _
    simp only [t78, t79, show ¬ ((f.a.l : Int) < f.a.l) by omega, go_sem, bin_add, bin_sub, bin_mul, Nat.reduceAdd, Nat.reduceMul, Nat.reduceEqDiff, Nat.reduceLeDiff, Nat.reduceLT, Nat.reduceSub, reduceIte, reduceCtorEq, Int.reduceToNat, Int.reduceNeg, Int.reduceLE, Int.reduceLT, Int.reduceEq, Nat.reduceOr, Nat.reduceShiftRight, Nat.reduceMod, Nat.reduceBNe, Nat.reduceBEq]
    exact hQ _ _ _ hV ⟨by simp only [hf.t4, go_sem, bin_add, bin_sub, bin_mul, Nat.reduceAdd, Nat.reduceMul, Nat.reduceEqDiff, Nat.reduceLeDiff, Nat.reduceLT, Nat.reduceSub, reduceIte, reduceCtorEq, Int.reduceToNat, Int.reduceNeg, Int.reduceLE, Int.reduceLT, Int.reduceEq, Nat.reduceOr, Nat.reduceShiftRight, Nat.reduceMod, Nat.reduceBNe, Nat.reduceBEq], by simp only [hf.t8, go_sem, bin_add, bin_sub, bin_mul, Nat.reduceAdd, Nat.reduceMul, Nat.reduceEqDiff, Nat.reduceLeDiff, Nat.reduceLT, Nat.reduceSub, reduceIte, reduceCtorEq, Int.reduceToNat, Int.reduceNeg, Int.reduceLE, Int.reduceLT, Int.reduceEq, Nat.reduceOr, Nat.reduceShiftRight, Nat.reduceMod, Nat.reduceBNe, Nat.reduceBEq], by simp only [hf.t10, go_sem, bin_add, bin_sub, bin_mul, Nat.reduceAdd, Nat.reduceMul, Nat.reduceEqDiff, Nat.reduceLeDiff, Nat.reduceLT, Nat.reduceSub, reduceIte, reduceCtorEq, Int.reduceToNat, Int.reduceNeg, Int.reduceLE, Int.reduceLT, Int.reduceEq, Nat.reduceOr, Nat.reduceShiftRight, Nat.reduceMod, Nat.reduceBNe, Nat.reduceBEq], by simp only [hf.t13, go_sem, bin_add, bin_sub, bin_mul, Nat.reduceAdd, Nat.reduceMul, Nat.reduceEqDiff, Nat.reduceLeDiff, Nat.reduceLT, Nat.reduceSub, reduceIte, reduceCtorEq, Int.reduceToNat, Int.reduceNeg, Int.reduceLE, Int.reduceLT, Int.reduceEq, Nat.reduceOr, Nat.reduceShiftRight, Nat.reduceMod, Nat.reduceBNe, Nat.reduceBEq], by simp only [hf.t14, go_sem, bin_add, bin_sub, bin_mul, Nat.reduceAdd, Nat.reduceMul, Nat.reduceEqDiff, Nat.reduceLeDiff, Nat.reduceLT, Nat.reduceSub, reduceIte, reduceCtorEq, Int.reduceToNat, Int.reduceNeg, Int.reduceLE, Int.reduceLT, Int.reduceEq, Nat.reduceOr, Nat.reduceShiftRight, Nat.reduceMod, Nat.reduceBNe, Nat.reduceBEq]⟩
  | succ r ih =>
    intro m hm fr G hd hV hf t78 t79
    have hl : (vsF f n0 n1 n2 m).length = m := by simp [vsF]
    refine vouter h b1 b2 b3 x y z w fb hd (vsF f n0 n1 n2 m) (by omega) hsz G hV fr hf t78 (by rw [hl]; exact t79) ?_
    intro fr G hd hV hf t78 t79
    rw [hl] at hV t79
    rw [show vsF f n0 n1 n2 m ++ [vecF f n0 n1 n2 m] = vsF f n0 n1 n2 (m + 1) by simp [vsF, List.range_succ]] at hV
    exact ih (m + 1) (by omega) fr G hd hV hf t78 t79

theorem c36 {env : List Lp} {f : Fc} {bf n0 n1 n2 : Nat} {H : AH} (h : FrHyp f bf n0 n1 n2 H) (hsz : f.a.l < 1000) (hlo : H.lo ≤ H.nx) (x y : Int) (Q : AEnd → AH → Prop)
    (hQ : ∀ L hd, VsOut H.nx L hd (vsF f n0 n1 n2 f.a.l) → Q (.ret (.agg (frV x y (nearZ f n0 n1 n2) (nearW f n0 n1 n2) f.front hd).toArray)) (ext H L)) :
    C T env 36 [.pointer (some ⟨bf, 0, none⟩), .int .i64 x, .int .i64 y, .agg (s3V (n0, n1, n2)).toArray] H Q := by
  refine frag_pre f bf x y n0 n1 n2 H h.hb h.hf h.h0 h.h1 h.h2 h.hA (fun p hp => ⟨h.hw p hp, (h.ha p hp).w.2⟩) (fun p hp => (h.ha p hp).z) Q ?_
  intro fr t4 t8 t10 t13 t14 t78 t79
  refine vloop h hsz _ _ _ _ _ _ _ _ ?_ f.a.l 0 (by omega) fr [] (.slice none 0 0) (.inl ⟨rfl, rfl⟩) ⟨t4, t8, t10, t13, t14⟩ t78 t79
  intro fr G hd hV hf
  obtain ⟨t4, t8, t10, t13, t14⟩ := hf
  have hfl := flat_hd hV
  simp only [K36, t4, t8, t10, t13, t14, frV, hfl, go_sem, bin_add, bin_sub, bin_mul, Nat.reduceAdd, Nat.reduceMul, Nat.reduceEqDiff, Nat.reduceLeDiff, Nat.reduceLT, Nat.reduceSub, reduceIte, reduceCtorEq, Int.reduceToNat, Int.reduceNeg, Int.reduceLE, Int.reduceLT, Int.reduceEq, Nat.reduceOr, Nat.reduceShiftRight, Nat.reduceMod, Nat.reduceBNe, Nat.reduceBEq]
  generalize hvs : vsF f n0 n1 n2 f.a.l = vs at *
  rcases hV with ⟨hv0, rfl⟩ | ⟨hv0, G0, G2, hG, rfl⟩
  · rw [trim_ext_clo _ _ _ rfl]
    exact hQ [] _ (.inl ⟨hv0, rfl⟩)
  · rw [trim_keep _ _ _ rfl hlo]
    refine hQ _ _ (.inr ⟨hv0, _, ?_, rfl⟩)
    simp only [hG, go_sem, bin_add, bin_sub, bin_mul, Nat.reduceAdd, Nat.reduceMul, Nat.reduceEqDiff, Nat.reduceLeDiff, Nat.reduceLT, Nat.reduceSub, reduceIte, reduceCtorEq, Int.reduceToNat, Int.reduceNeg, Int.reduceLE, Int.reduceLT, Int.reduceEq, Nat.reduceOr, Nat.reduceShiftRight, Nat.reduceMod, Nat.reduceBNe, Nat.reduceBEq]
end
end Go.AX.Tri
