/- Contracts: the document's weights. -/
import Derived.Test.YthhgeodgfbhkdaaVc
set_option linter.unusedVariables false
set_option linter.unusedSimpArgs false
set_option linter.unusedSectionVars false
namespace Go.AX.Tri
open Go.Proofs Go.AX.Mc
set_option linter.unusedSimpArgs false
set_option linter.unusedVariables false
noncomputable section

theorem i_rem3 (ox oy : Operand) (H : AH) {a : Nat} (ha : a < 9223372036854775808) : aBin Try.prog .rem 3 ox oy none (.int .i64 (a : Int)) (.int .i64 3) H = some (.val (.int .i64 ((a % 3 : Nat) : Int)) H) := i_rem ox oy none 3 H (b := 3) ha (by decide)

theorem setL_get {L : List (Option AB)} {l : List Nat} {j k : Nat} (h : k ≠ j) : (setL L l j)[k]? = L[k]? := by
  cases l with
  | nil => rfl
  | cons a l => exact List.getElem?_set_ne (Ne.symm h)
theorem setL_bg {N : Nat} {L : List (Option AB)} {l l' : List Nat} {j i : Nat} {hd : Value} (h : Bg N L i hd l') (hne : i ≠ j) : Bg N (setL L l j) i hd l' := by
  cases l with
  | nil => exact h
  | cons a l => exact h.other hne _
theorem bg_step {N : Nat} {L : List (Option AB)} {x : Option AB} {j1 j2 : Nat} {hd2 : Value} {l1 l2 : List Nat} {n : Nat} {s3 w3 : List Value} (f3 : L[3]? = some (some (.cells s3 0 0))) (f4 : L[4]? = some (some (.cells w3 0 0))) (B2 : Bg N L j2 hd2 l2) (k1 : 5 ≤ j1) (k3 : l1 = [] ∨ j2 ≠ j1) :
    ∃ X, setL (L ++ [x]) l1 j1 ++ [some (.cells ((l1 ++ [n]).flatMap dg) 1 12)] = X ∧ X[3]? = some (some (.cells s3 0 0)) ∧ X[4]? = some (some (.cells w3 0 0)) ∧
      Bg N X (L.length + 1) (.slice (some ⟨N + (L ++ [x]).length, 0, some 0⟩) (l1.length + 1) (l1.length + 1)) (l1 ++ [n]) ∧ Bg N X j2 hd2 l2 := by
  have l3 : 3 < L.length := (List.getElem?_eq_some_iff.1 f3).1
  have l4 : 4 < L.length := (List.getElem?_eq_some_iff.1 f4).1
  have hl : (setL (L ++ [x]) l1 j1).length = L.length + 1 := by rw [setL_len, List.length_append]; rfl
  refine ⟨_, rfl, ?_, ?_, ?_, ?_⟩
  · rw [List.getElem?_append_left (by omega), setL_get (by omega), List.getElem?_append_left l3, f3]
  · rw [List.getElem?_append_left (by omega), setL_get (by omega), List.getElem?_append_left l4, f4]
  · have := Bg.app (N := N) (L := setL (L ++ [x]) l1 j1) (l := l1) (n := n) (m := L.length + 1) hl.symm
    rw [setL_len] at this
    exact this
  · refine Bg.more ?_ _
    rcases k3 with rfl | k3
    · exact B2.more _
    · exact setL_bg (B2.more _) k3
theorem nums40 {i : Nat} (hi : i < 3) : wrapF .i64 ((i : Int) + 1) = ((i + 1 : Nat) : Int) ∧ wrapF .i64 ((i : Int) + 2) = ((i + 2 : Nat) : Int) ∧ i + 1 < 9223372036854775808 ∧ i + 2 < 9223372036854775808 ∧ (i + 1) % 3 < 3 ∧ (i + 2) % 3 < 3 ∧ (i + 1) % 3 + 1 ≤ 3 ∧ (i + 2) % 3 + 1 ≤ 3 := by
  refine ⟨?_, ?_, by omega, by omega, by omega, by omega, by omega, by omega⟩
  · rw [w64_id (by omega) (by omega)]; omega
  · rw [w64_id (by omega) (by omega)]; omega
theorem succ_ne (n : Nat) : n + 1 ≠ n + 2 + 1 := by omega
theorem setL_s {Y : List (Option AB)} {l : List Nat} {j k : Nat} {v : Option AB} (hk : k < Y.length) (hj : k ≠ j) (h : Y[k]? = some v) (x y : Option AB) : (setL (Y ++ [x]) l j ++ [y])[k]? = some v := by
  rw [List.getElem?_append_left (by rw [setL_len, List.length_append]; omega), setL_get hj, List.getElem?_append_left hk, h]
theorem step40 {env : List Lp} {K : List KF} {Q : QF} {G : AH} (hlo : G.lo ≤ G.nx) {i n m1 m2 : Nat} (hi : i < 3) {s3 w3 : List Value} (hs : (s3.drop i).take 1 = [.int .i64 (n : Int)]) (hsl : s3.length = 3)
    (hw1 : (w3.drop ((i + 1) % 3)).take 1 = [.int .i64 (m1 : Int)]) (hw2 : (w3.drop ((i + 2) % 3)).take 1 = [.int .i64 (m2 : Int)]) (hwl : w3.length = 3) (hn : n < 9223372036854775808) (hm1 : m1 < 281474976710656) (hm2 : m2 < 281474976710656)
    {L : List (Option AB)} (f3 : L[3]? = some (some (.cells s3 0 0))) (f4 : L[4]? = some (some (.cells w3 0 0))) {j1 j2 : Nat} {hd1 hd2 : Value} {l1 l2 : List Nat} (B1 : Bg G.nx L j1 hd1 l1) (B2 : Bg G.nx L j2 hd2 l2) (k1 : 5 ≤ j1) (k2 : 5 ≤ j2) (k3 : j1 ≠ j2) (k4 : j1 < L.length ∨ l1 = []) (q1 : l1.length < 1000) (q2 : l2.length < 1000) (fr : Tr Value)
    (t12 : tmp fr (pa 12) = .pointer (some ⟨G.nx + 3, 0, none⟩)) (t13 : tmp fr (pa 13) = .pointer (some ⟨G.nx + 4, 0, none⟩)) (t14 : tmp fr (pa 14) = hd1) (t15 : tmp fr (pa 15) = hd2) (t43 : tmp fr (pa 43) = .int .i64 (i : Int))
    (hQ : ∀ fr L j1 j2 hd1 hd2, L[3]? = some (some (.cells s3 0 0)) → L[4]? = some (some (.cells w3 0 0)) → Bg G.nx L j1 hd1 (l1 ++ [n]) → Bg G.nx L j2 hd2 (l2 ++ [n * m1 * m2]) → 5 ≤ j1 → 5 ≤ j2 → j1 ≠ j2 →
      tmp fr (pa 12) = .pointer (some ⟨G.nx + 3, 0, none⟩) → tmp fr (pa 13) = .pointer (some ⟨G.nx + 4, 0, none⟩) → tmp fr (pa 14) = hd1 → tmp fr (pa 15) = hd2 → tmp fr (pa 43) = .int .i64 ((i + 1 : Nat) : Int) →
      X T env false (.loop a40l0) (.blk 0 :: K) fr [] (ext G L) Q) :
    X T env false (.loop a40l0) (.blk 0 :: K) fr [] (ext G L) Q := by
  have hlt : (i : Int) < 3 := by omega
  have hi1 : i + 1 ≤ 3 := by omega
  have l3 : 3 < L.length := (List.getElem?_eq_some_iff.1 f3).1
  have l4 : 4 < L.length := (List.getElem?_eq_some_iff.1 f4).1
  have dl : ∀ n, (dg n).length = 12 := fun n => fn_length _ _
  have dt : ∀ n, (dg n).take 12 = dg n := fun n => fn_take _ _
  have dd : ∀ n, (dg n).drop 12 = [] := fun n => fn_drop0 _ _
  have df : ∀ n, (dg n).all flat = true := fun n => dV_flat _ _
  rw [X_loop]
  change X _ _ _ (.seq _ _) _ _ _ _ _
  simp only [t12, t13, t14, t15, t43, hlt, hi, hi1, hs, hsl, f3, hlo, Nat.mul_one, c56 _ hn, zero12, dl, dt, dd, df, go_sem, bin_add, bin_sub, bin_mul, Nat.reduceAdd, Nat.reduceMul, Nat.reduceEqDiff, Nat.reduceLeDiff, Nat.reduceLT, Nat.reduceSub, reduceIte, reduceCtorEq, Int.reduceToNat, Int.reduceNeg, Int.reduceLE, Int.reduceLT, Int.reduceEq, Nat.reduceOr, Nat.reduceShiftRight, Nat.reduceMod, Nat.reduceBNe, Nat.reduceBEq]
  rw [app_bg hlo (B1.more _) q1 (n := n) (aSource_s _ 12 _ 0 1 1 _ (by simp only [dl, dt, go_sem, bin_add, bin_sub, bin_mul, Nat.reduceAdd, Nat.reduceMul, Nat.reduceEqDiff, Nat.reduceLeDiff, Nat.reduceLT, Nat.reduceSub, reduceIte, reduceCtorEq, Int.reduceToNat, Int.reduceNeg, Int.reduceLE, Int.reduceLT, Int.reduceEq, Nat.reduceOr, Nat.reduceShiftRight, Nat.reduceMod, Nat.reduceBNe, Nat.reduceBEq]))]
  obtain ⟨Y, hX, f3', f4', B1', B2'⟩ := bg_step (x := some (.cells (dg n) 0 0)) (l1 := l1) (n := n) f3 f4 B2 k1 (.inr (Ne.symm k3))
  rw [hX]
  simp only [t12, t13, t14, t15, t43, go_sem, bin_add, bin_sub, bin_mul, Nat.reduceAdd, Nat.reduceMul, Nat.reduceEqDiff, Nat.reduceLeDiff, Nat.reduceLT, Nat.reduceSub, reduceIte, reduceCtorEq, Int.reduceToNat, Int.reduceNeg, Int.reduceLE, Int.reduceLT, Int.reduceEq, Nat.reduceOr, Nat.reduceShiftRight, Nat.reduceMod, Nat.reduceBNe, Nat.reduceBEq]
  have hYl : Y.length = L.length + 2 := by rw [← hX, List.length_append, setL_len, List.length_append]; rfl
  have k5 : l2 = [] ∨ L.length + 1 ≠ j2 := by
    rcases B2 with ⟨h, _⟩ | ⟨_, h, _⟩
    · exact .inl h
    · have := (List.getElem?_eq_some_iff.1 h).1
      exact .inr (by omega)
  clear hX B2 B1
  have y3 : 3 < Y.length := (List.getElem?_eq_some_iff.1 f3').1
  have y4 : 4 < Y.length := (List.getElem?_eq_some_iff.1 f4').1
  have f3n : ∀ x, (Y ++ [x])[3]? = some (some (.cells s3 0 0)) := fun x => by rw [List.getElem?_append_left y3, f3']
  have f4n : ∀ x, (Y ++ [x])[4]? = some (some (.cells w3 0 0)) := fun x => by rw [List.getElem?_append_left y4, f4']
  have f3s : ∀ x y, (setL (Y ++ [x]) l2 j2 ++ [y])[3]? = some (some (.cells s3 0 0)) := setL_s y3 (Nat.ne_of_lt (Nat.lt_of_lt_of_le (by decide) k2)) f3'
  have f4s : ∀ x y, (setL (Y ++ [x]) l2 j2 ++ [y])[4]? = some (some (.cells w3 0 0)) := setL_s y4 (Nat.ne_of_lt (Nat.lt_of_lt_of_le (by decide) k2)) f4'
  obtain ⟨a1, a2, b1, b2, p1, p2, p3, p4⟩ := nums40 hi
  have r1 : ∀ ox oy H, aBin Try.prog .rem 3 ox oy none (.int .i64 ((i + 1 : Nat) : Int)) (.int .i64 3) H = some (.val (.int .i64 (((i + 1) % 3 : Nat) : Int)) H) := fun ox oy H => i_rem3 ox oy H b1
  have r2 : ∀ ox oy H, aBin Try.prog .rem 3 ox oy none (.int .i64 ((i + 2 : Nat) : Int)) (.int .i64 3) H = some (.val (.int .i64 (((i + 2) % 3 : Nat) : Int)) H) := fun ox oy H => i_rem3 ox oy H b2
  generalize (i + 1) % 3 = z1 at *
  generalize (i + 2) % 3 = z2 at *
  refine X_drawE 1 (by rfl) ?_
  simp only [t12, t13, t14, t15, t43, hlt, hi, hi1, hs, hsl, hwl, hw1, hw2, f3', f4', f3n, f4n, f3s, f4s, hlo, a1, a2, r1, r2, p1, p2, p3, p4, Nat.mul_one, c56 _ hn, c57 _ _ hm1, c57 _ _ hm2, dl, dt, dd, df, go_sem, bin_add, bin_sub, bin_mul, Nat.reduceAdd, Nat.reduceMul, Nat.reduceEqDiff, Nat.reduceLeDiff, Nat.reduceLT, Nat.reduceSub, reduceIte, reduceCtorEq, Int.reduceToNat, Int.reduceNeg, Int.reduceLE, Int.reduceLT, Int.reduceEq, Nat.reduceOr, Nat.reduceShiftRight, Nat.reduceMod, Nat.reduceBNe, Nat.reduceBEq]
  rw [app_bg hlo (B2'.more _) q2 (n := n * m1 * m2) (aSource_s _ 12 _ 0 1 1 _ (by simp only [dl, dt, go_sem, bin_add, bin_sub, bin_mul, Nat.reduceAdd, Nat.reduceMul, Nat.reduceEqDiff, Nat.reduceLeDiff, Nat.reduceLT, Nat.reduceSub, reduceIte, reduceCtorEq, Int.reduceToNat, Int.reduceNeg, Int.reduceLE, Int.reduceLT, Int.reduceEq, Nat.reduceOr, Nat.reduceShiftRight, Nat.reduceMod, Nat.reduceBNe, Nat.reduceBEq]))]
  simp only [t12, t13, t14, t15, t43, hlt, hi, hi1, hs, hsl, hwl, hw1, hw2, f3', f4', f3n, f4n, f3s, f4s, hlo, a1, a2, r1, r2, p1, p2, p3, p4, Nat.mul_one, c56 _ hn, c57 _ _ hm1, c57 _ _ hm2, dl, dt, dd, df, dg_zip, go_sem, bin_add, bin_sub, bin_mul, Nat.reduceAdd, Nat.reduceMul, Nat.reduceEqDiff, Nat.reduceLeDiff, Nat.reduceLT, Nat.reduceSub, reduceIte, reduceCtorEq, Int.reduceToNat, Int.reduceNeg, Int.reduceLE, Int.reduceLT, Int.reduceEq, Nat.reduceOr, Nat.reduceShiftRight, Nat.reduceMod, Nat.reduceBNe, Nat.reduceBEq]
  obtain ⟨Z, hZ, g3, g4, B2'', B1''⟩ := bg_step (x := some (.cells (dg (n * m1 * m2)) 0 0)) (l1 := l2) (n := n * m1 * m2) f3' f4' B1' k2 k5
  rw [hZ]
  clear hZ
  refine hQ _ Z (L.length + 1) (Y.length + 1) _ _ g3 g4 B1'' B2'' (Nat.le_succ_of_le l4) (Nat.le_succ_of_le y4) (by rw [hYl]; exact succ_ne L.length) ?_ ?_ ?_ ?_ ?_
  · simp only [t12, go_sem, bin_add, bin_sub, bin_mul, Nat.reduceAdd, Nat.reduceMul, Nat.reduceEqDiff, Nat.reduceLeDiff, Nat.reduceLT, Nat.reduceSub, reduceIte, reduceCtorEq, Int.reduceToNat, Int.reduceNeg, Int.reduceLE, Int.reduceLT, Int.reduceEq, Nat.reduceOr, Nat.reduceShiftRight, Nat.reduceMod, Nat.reduceBNe, Nat.reduceBEq]
  · simp only [t13, go_sem, bin_add, bin_sub, bin_mul, Nat.reduceAdd, Nat.reduceMul, Nat.reduceEqDiff, Nat.reduceLeDiff, Nat.reduceLT, Nat.reduceSub, reduceIte, reduceCtorEq, Int.reduceToNat, Int.reduceNeg, Int.reduceLE, Int.reduceLT, Int.reduceEq, Nat.reduceOr, Nat.reduceShiftRight, Nat.reduceMod, Nat.reduceBNe, Nat.reduceBEq]
  · simp only [go_sem, bin_add, bin_sub, bin_mul, Nat.reduceAdd, Nat.reduceMul, Nat.reduceEqDiff, Nat.reduceLeDiff, Nat.reduceLT, Nat.reduceSub, reduceIte, reduceCtorEq, Int.reduceToNat, Int.reduceNeg, Int.reduceLE, Int.reduceLT, Int.reduceEq, Nat.reduceOr, Nat.reduceShiftRight, Nat.reduceMod, Nat.reduceBNe, Nat.reduceBEq]
  · simp only [go_sem, bin_add, bin_sub, bin_mul, Nat.reduceAdd, Nat.reduceMul, Nat.reduceEqDiff, Nat.reduceLeDiff, Nat.reduceLT, Nat.reduceSub, reduceIte, reduceCtorEq, Int.reduceToNat, Int.reduceNeg, Int.reduceLE, Int.reduceLT, Int.reduceEq, Nat.reduceOr, Nat.reduceShiftRight, Nat.reduceMod, Nat.reduceBNe, Nat.reduceBEq]
  · simp only [a1, go_sem, bin_add, bin_sub, bin_mul, Nat.reduceAdd, Nat.reduceMul, Nat.reduceEqDiff, Nat.reduceLeDiff, Nat.reduceLT, Nat.reduceSub, reduceIte, reduceCtorEq, Int.reduceToNat, Int.reduceNeg, Int.reduceLE, Int.reduceLT, Int.reduceEq, Nat.reduceOr, Nat.reduceShiftRight, Nat.reduceMod, Nat.reduceBNe, Nat.reduceBEq]

theorem Bg.lt {N : Nat} {L : List (Option AB)} {j : Nat} {hd : Value} {l : List Nat} (h : Bg N L j hd l) (hl : l ≠ []) : j < L.length := by
  rcases h with ⟨h, _⟩ | ⟨_, h, _⟩
  · exact absurd h hl
  · exact (List.getElem?_eq_some_iff.1 h).1
theorem c40 {env : List Lp} (a b c : Wn) (u v : Int) {n0 n1 n2 wa wb wc : Nat} (e0 : wayF b c u v = (n0 : Int)) (e1 : wayF c a u v = (n1 : Int)) (e2 : wayF a b u v = (n2 : Int)) (h0 : n0 < 9223372036854775808) (h1 : n1 < 9223372036854775808) (h2 : n2 < 9223372036854775808)
    (ea : a.w = (wa : Int)) (eb : b.w = (wb : Int)) (ec : c.w = (wc : Int)) (ka : wa < 2147483648) (kb : wb < 2147483648) (kc : wc < 2147483648) {H : AH} (hlo : H.lo ≤ H.nx) (Q : AEnd → AH → Prop)
    (hQ : ∀ L j1 j2 hd1 hd2, Bg H.nx L j1 hd1 [n0, n1, n2] → Bg H.nx L j2 hd2 [n0 * wb * wc, n1 * wc * wa, n2 * wa * wb] → Q (.ret (.tuple [hd1, hd2].toArray)) (ext H L)) :
    C T env 40 [a.v, b.v, c.v, .int .i64 u, .int .i64 v] H Q := by
  rw [C_fn T40 rfl]
  have k0 := fun (H : AH) (Q : AEnd → AH → Prop) => c55 (env := env) b c u v H Q
  have k1 := fun (H : AH) (Q : AEnd → AH → Prop) => c55 (env := env) c a u v H Q
  have k2 := fun (H : AH) (Q : AEnd → AH → Prop) => c55 (env := env) a b u v H Q
  rw [e0] at k0
  rw [e1] at k1
  rw [e2] at k2
  simp only [Wn.v, Wn.cs] at k0 k1 k2
  have wwa : wrapF .i64 (wa : Int) = (wa : Int) := w64_id (by omega) (by omega)
  have wwb : wrapF .i64 (wb : Int) = (wb : Int) := w64_id (by omega) (by omega)
  have wwc : wrapF .i64 (wc : Int) = (wc : Int) := w64_id (by omega) (by omega)
  simp only [a40, Wn.v, Wn.cs, go_sem, bin_add, bin_sub, bin_mul, Nat.reduceAdd, Nat.reduceMul, Nat.reduceEqDiff, Nat.reduceLeDiff, Nat.reduceLT, Nat.reduceSub, reduceIte, reduceCtorEq, Int.reduceToNat, Int.reduceNeg, Int.reduceLE, Int.reduceLT, Int.reduceEq, Nat.reduceOr, Nat.reduceShiftRight, Nat.reduceMod, Nat.reduceBNe, Nat.reduceBEq]
  refine X_drawE 1 (by rfl) ?_
  rw [ea, eb, ec] at *
  simp only [k0, k1, k2, go_sem, bin_add, bin_sub, bin_mul, Nat.reduceAdd, Nat.reduceMul, Nat.reduceEqDiff, Nat.reduceLeDiff, Nat.reduceLT, Nat.reduceSub, reduceIte, reduceCtorEq, Int.reduceToNat, Int.reduceNeg, Int.reduceLE, Int.reduceLT, Int.reduceEq, Nat.reduceOr, Nat.reduceShiftRight, Nat.reduceMod, Nat.reduceBNe, Nat.reduceBEq]
  simp only [wwa, wwb, wwc, go_sem, bin_add, bin_sub, bin_mul, Nat.reduceAdd, Nat.reduceMul, Nat.reduceEqDiff, Nat.reduceLeDiff, Nat.reduceLT, Nat.reduceSub, reduceIte, reduceCtorEq, Int.reduceToNat, Int.reduceNeg, Int.reduceLE, Int.reduceLT, Int.reduceEq, Nat.reduceOr, Nat.reduceShiftRight, Nat.reduceMod, Nat.reduceBNe, Nat.reduceBEq]
  refine step40 (G := H.now) (Nat.le_refl _) (i := 0) (n := n0) (m1 := wb) (m2 := wc) (by decide) (s3 := [.int .i64 (n0 : Int), .int .i64 (n1 : Int), .int .i64 (n2 : Int)]) (w3 := [.int .i64 (wa : Int), .int .i64 (wb : Int), .int .i64 (wc : Int)]) rfl rfl rfl rfl rfl h0 (Nat.lt_trans kb (by decide)) (Nat.lt_trans kc (by decide)) rfl rfl (j1 := 5) (j2 := 6) (.inl ⟨rfl, rfl⟩) (.inl ⟨rfl, rfl⟩) (by decide) (by decide) (by decide) (.inr rfl) (by decide) (by decide) _ ?_ ?_ ?_ ?_ ?_ ?_
  · simp only [go_sem, bin_add, bin_sub, bin_mul, Nat.reduceAdd, Nat.reduceMul, Nat.reduceEqDiff, Nat.reduceLeDiff, Nat.reduceLT, Nat.reduceSub, reduceIte, reduceCtorEq, Int.reduceToNat, Int.reduceNeg, Int.reduceLE, Int.reduceLT, Int.reduceEq, Nat.reduceOr, Nat.reduceShiftRight, Nat.reduceMod, Nat.reduceBNe, Nat.reduceBEq]
  · simp only [go_sem, bin_add, bin_sub, bin_mul, Nat.reduceAdd, Nat.reduceMul, Nat.reduceEqDiff, Nat.reduceLeDiff, Nat.reduceLT, Nat.reduceSub, reduceIte, reduceCtorEq, Int.reduceToNat, Int.reduceNeg, Int.reduceLE, Int.reduceLT, Int.reduceEq, Nat.reduceOr, Nat.reduceShiftRight, Nat.reduceMod, Nat.reduceBNe, Nat.reduceBEq]
  · simp only [go_sem, bin_add, bin_sub, bin_mul, Nat.reduceAdd, Nat.reduceMul, Nat.reduceEqDiff, Nat.reduceLeDiff, Nat.reduceLT, Nat.reduceSub, reduceIte, reduceCtorEq, Int.reduceToNat, Int.reduceNeg, Int.reduceLE, Int.reduceLT, Int.reduceEq, Nat.reduceOr, Nat.reduceShiftRight, Nat.reduceMod, Nat.reduceBNe, Nat.reduceBEq]
  · simp only [go_sem, bin_add, bin_sub, bin_mul, Nat.reduceAdd, Nat.reduceMul, Nat.reduceEqDiff, Nat.reduceLeDiff, Nat.reduceLT, Nat.reduceSub, reduceIte, reduceCtorEq, Int.reduceToNat, Int.reduceNeg, Int.reduceLE, Int.reduceLT, Int.reduceEq, Nat.reduceOr, Nat.reduceShiftRight, Nat.reduceMod, Nat.reduceBNe, Nat.reduceBEq]
  · simp only [go_sem, bin_add, bin_sub, bin_mul, Nat.reduceAdd, Nat.reduceMul, Nat.reduceEqDiff, Nat.reduceLeDiff, Nat.reduceLT, Nat.reduceSub, reduceIte, reduceCtorEq, Int.reduceToNat, Int.reduceNeg, Int.reduceLE, Int.reduceLT, Int.reduceEq, Nat.reduceOr, Nat.reduceShiftRight, Nat.reduceMod, Nat.reduceBNe, Nat.reduceBEq]
  intro fr L j1 j2 hd1 hd2 f3 f4 B1 B2 k1 k2 k3 t12 t13 t14 t15 t43
  refine step40 (G := H.now) (Nat.le_refl _) (i := 1) (n := n1) (m1 := wc) (m2 := wa) (by decide) rfl rfl rfl rfl rfl h1 (Nat.lt_trans kc (by decide)) (Nat.lt_trans ka (by decide)) f3 f4 B1 B2 k1 k2 k3 (.inl (B1.lt (by simp))) (by simp) (by simp) fr t12 t13 t14 t15 t43 ?_
  clear f3 f4 B1 B2 k1 k2 k3 t12 t13 t14 t15 t43 fr L j1 j2 hd1 hd2
  intro fr L j1 j2 hd1 hd2 f3 f4 B1 B2 k1 k2 k3 t12 t13 t14 t15 t43
  refine step40 (G := H.now) (Nat.le_refl _) (i := 2) (n := n2) (m1 := wa) (m2 := wb) (by decide) rfl rfl rfl rfl rfl h2 (Nat.lt_trans ka (by decide)) (Nat.lt_trans kb (by decide)) f3 f4 B1 B2 k1 k2 k3 (.inl (B1.lt (by simp))) (by simp) (by simp) fr t12 t13 t14 t15 t43 ?_
  clear f3 f4 B1 B2 k1 k2 k3 t12 t13 t14 t15 t43 fr L j1 j2 hd1 hd2
  intro fr L j1 j2 hd1 hd2 f3 f4 B1 B2 k1 k2 k3 t12 t13 t14 t15 t43
  rw [X_loop]
  change X _ _ _ (.seq _ _) _ _ _ _ _
  simp only [t12, t13, t14, t15, t43, show ¬ (((2 + 1 : Nat) : Int) < 3) from (by decide), go_sem, bin_add, bin_sub, bin_mul, Nat.reduceAdd, Nat.reduceMul, Nat.reduceEqDiff, Nat.reduceLeDiff, Nat.reduceLT, Nat.reduceSub, reduceIte, reduceCtorEq, Int.reduceToNat, Int.reduceNeg, Int.reduceLE, Int.reduceLT, Int.reduceEq, Nat.reduceOr, Nat.reduceShiftRight, Nat.reduceMod, Nat.reduceBNe, Nat.reduceBEq]
  have hcl : clo 5 (.tuple [hd1, hd2].toArray) = false := by
    rcases B1 with ⟨h, _⟩ | ⟨_, _, e⟩
    · simp at h
    · rw [clo_tuple5, e]
      simp only [List.all_cons, clo_sl, Bool.false_and]
  refine (congrArg (Q _) (trim_keep H _ L hcl hlo)).mpr ?_
  exact hQ L j1 j2 hd1 hd2 B1 B2
end
end Go.AX.Tri
/- Contracts: the document's fragment. -/
namespace Go.AX.Tri
open Go.Proofs Go.AX.Mc
set_option linter.unusedSimpArgs false
set_option linter.unusedVariables false
noncomputable section

/-- weights in a block behind the first five of a call. -/
def B5 (N : Nat) (R : List (Option AB)) (j : Nat) (hd : Value) (l : List Nat) : Prop :=
  R[j]? = some (some (.cells (l.flatMap dg) 1 12)) ∧ hd = .slice (some ⟨N + (j + 1 + 1 + 1 + 1 + 1), 0, some 0⟩) l.length l.length
theorem Bg.b5 {H : AH} {x0 x1 x2 x3 x4 : Option AB} {L0 L1 : List (Option AB)} {j : Nat} {hd : Value} {l : List Nat} (B : Bg (ext H (x0 :: x1 :: x2 :: x3 :: x4 :: L0)).nx L1 j hd l) (hl : l ≠ []) : B5 H.nx (L0 ++ L1) (L0.length + j) hd l := by
  rcases B with ⟨h, _⟩ | ⟨_, h, e⟩
  · exact absurd h hl
  · refine ⟨by rw [List.getElem?_append_right (by omega), Nat.add_sub_cancel_left]; exact h, ?_⟩
    rw [e, ext_nx]
    simp only [List.length_cons]
    congr 3
    omega
theorem B5.more {N : Nat} {R : List (Option AB)} {j : Nat} {hd : Value} {l : List Nat} (B : B5 N R j hd l) (E : List (Option AB)) : B5 N (R ++ E) j hd l :=
  ⟨by rw [List.getElem?_append_left (List.getElem?_eq_some_iff.1 B.1).1]; exact B.1, B.2⟩
theorem dgs_drop : ∀ (l : List Nat) (i w : Nat), l[i]? = some w → ((l.flatMap dg).drop (i * 12)).take 12 = dg w := by
  intro l
  induction l with
  | nil => intro i w h; simp at h
  | cons a l ih =>
    intro i w h
    have dl : (dg a).length = 12 := fn_length _ _
    cases i with
    | zero =>
      cases h
      rw [Nat.zero_mul, List.drop_zero, List.flatMap_cons, List.take_append_of_le_length (by omega), List.take_of_length_le (by omega)]
    | succ i =>
      rw [List.flatMap_cons, show (i + 1) * 12 = (dg a).length + i * 12 by omega, List.drop_append, List.drop_eq_nil_of_le (by omega), List.nil_append, Nat.add_sub_cancel_left]
      exact ih i w h
/-- weights that a call has laid, and numbers in a row of three: as Near reads them. -/
theorem B5.wt {H : AH} {x0 x1 x2 x3 x4 : Option AB} {R : List (Option AB)} {j k : Nat} {hd : Value} {l : List Nat} (B : B5 H.nx R j hd l) {r0 r1 r2 : Int} (hk : R[k]? = some (some (.cells [.int .i64 r0, .int .i64 r1, .int .i64 r2] 0 0)))
    {i w : Nat} {r : Int} (hw : l[i]? = some w) (hri : [r0, r1, r2][i]? = some r) (hl : l.length = 3) (bd : -4294967296 ≤ r ∧ r ≤ 4294967296) :
    WtAt (ext H (x0 :: x1 :: x2 :: x3 :: x4 :: R)) hd (.slice (some ⟨H.nx + (k + 1 + 1 + 1 + 1 + 1), 0, none⟩) 3 3) i w r := by
  obtain ⟨hj, rfl⟩ := B
  have hi : i < 3 := by have := (List.getElem?_eq_some_iff.1 hw).1; omega
  have j1 := (List.getElem?_eq_some_iff.1 hj).1
  have k1 := (List.getElem?_eq_some_iff.1 hk).1
  have hr : rd (ext H (x0 :: x1 :: x2 :: x3 :: x4 :: R)) (H.nx + (k + 1 + 1 + 1 + 1 + 1)) 0 3 = some [.int .i64 r0, .int .i64 r1, .int .i64 r2] := by
    rw [rd_new]
    simp only [List.getElem?_cons_succ]
    rw [hk]; rfl
  refine ⟨⟨H.nx + (j + 1 + 1 + 1 + 1 + 1), i * 12, ?_, ?_, ?_⟩, ⟨H.nx + (k + 1 + 1 + 1 + 1 + 1), i, ?_, ?_, ?_⟩, bd⟩
  · rw [ext_nx]; simp only [List.length_cons]; omega
  · rw [rd_new]
    simp only [List.getElem?_cons_succ]
    rw [hj]
    show rdB (some (.cells (l.flatMap dg) 1 12)) (i * 12) 12 = _
    rw [rdB_cells, dgs_length, if_pos (by omega), dgs_drop l i w hw]
  · intro G
    rw [idxS_r, if_pos ⟨Int.natCast_nonneg _, by rw [hl]; simpa using hi⟩, Nat.zero_add]
    simp
  · rw [ext_nx]; simp only [List.length_cons]; omega
  · have := rd_part hr i 1 (by omega)
    rw [Nat.zero_add] at this
    rw [this]
    rcases (show i = 0 ∨ i = 1 ∨ i = 2 by omega) with rfl | rfl | rfl
    · cases hri; rfl
    · cases hri; rfl
    · cases hri; rfl
  · intro G
    rw [idxS_s, if_pos ⟨Int.natCast_nonneg _, by simpa using hi⟩, Nat.zero_add]
    simp
end
end Go.AX.Tri
/- Contracts: the document's fragment (2). -/
namespace Go.AX.Tri
open Go.Proofs Go.AX.Mc
set_option linter.unusedSimpArgs false
set_option linter.unusedVariables false
noncomputable section

/-- what the document's fragment stands on. -/
structure RfHyp (f : Fc) (x y : Int) (n0 n1 n2 wa wb wc : Nat) : Prop where
  e0 : wayF f.b f.c (ctr x) (ctr y) = (n0 : Int)
  e1 : wayF f.c f.a (ctr x) (ctr y) = (n1 : Int)
  e2 : wayF f.a f.b (ctr x) (ctr y) = (n2 : Int)
  h0 : n0 < 1073741824
  h1 : n1 < 1073741824
  h2 : n2 < 1073741824
  hA : 0 < n0 + n1 + n2
  ea : f.a.w = (wa : Int)
  eb : f.b.w = (wb : Int)
  ec : f.c.w = (wc : Int)
  ka : wa < 2147483648
  kb : wb < 2147483648
  kc : wc < 2147483648
  pa : 0 < wa
  pb : 0 < wb
  pc : 0 < wc

theorem lt63 {n : Nat} (h : n < 1073741824) : n < 9223372036854775808 := Nat.lt_trans h (by decide)
theorem w64_32 {n : Int} (h : -2147483648 ≤ n ∧ n < 2147483648) : wrapF .i64 n = n := w64_id (by omega) (by omega)

theorem z_bd {z : Int} (h : -2147483648 ≤ z ∧ z < 2147483648) : -4294967296 ≤ z ∧ z ≤ 4294967296 := by omega
theorem sum_bd {n0 n1 n2 : Nat} (h0 : n0 < 1073741824) (h1 : n1 < 1073741824) (h2 : n2 < 1073741824) : n0 + n1 + n2 ≤ 1267650600228229401496703205376 := by omega
theorem up_bd {n0 n1 n2 : Nat} {l0 l1 l2 : Int} {B : Nat} (h0 : n0 ≤ B) (h1 : n1 ≤ B) (h2 : n2 ≤ B) (k0 : -2147483648 ≤ l0 ∧ l0 < 2147483648) (k1 : -2147483648 ≤ l1 ∧ l1 < 2147483648) (k2 : -2147483648 ≤ l2 ∧ l2 < 2147483648) :
    upN n0 l0 + upN n1 l1 + upN n2 l2 ≤ 3 * (B * 2147483648) ∧ dnN n0 l0 + dnN n1 l1 + dnN n2 l2 ≤ 3 * (B * 2147483648) := by
  have a0 := up_le n0 l0 k0.1 k0.2
  have a1 := up_le n1 l1 k1.1 k1.2
  have a2 := up_le n2 l2 k2.1 k2.2
  have b0 := dn_le n0 l0 k0.1 k0.2
  have b1 := dn_le n1 l1 k1.1 k1.2
  have b2 := dn_le n2 l2 k2.1 k2.2
  have c0 := Nat.mul_le_mul_right 2147483648 h0
  have c1 := Nat.mul_le_mul_right 2147483648 h1
  have c2 := Nat.mul_le_mul_right 2147483648 h2
  omega

/-- Near over weights that a call has laid. -/
theorem near5 {env : List Lp} {H : AH} {x0 x1 x2 x3 x4 : Option AB} {R : List (Option AB)} {j k : Nat} {hd : Value} {m0 m1 m2 : Nat} (B : B5 H.nx R j hd [m0, m1, m2]) {r0 r1 r2 : Int} (hk : R[k]? = some (some (.cells [.int .i64 r0, .int .i64 r1, .int .i64 r2] 0 0)))
    (h0 : m0 ≤ 4951760157141521099596496896) (h1 : m1 ≤ 4951760157141521099596496896) (h2 : m2 ≤ 4951760157141521099596496896) (hA : 0 < m0 + m1 + m2)
    (b0 : -2147483648 ≤ r0 ∧ r0 < 2147483648) (b1 : -2147483648 ≤ r1 ∧ r1 < 2147483648) (b2 : -2147483648 ≤ r2 ∧ r2 < 2147483648) (Q : AEnd → AH → Prop) :
    C T env 41 [hd, .slice (some ⟨H.nx + (k + 1 + 1 + 1 + 1 + 1), 0, none⟩) 3 3] (ext H (x0 :: x1 :: x2 :: x3 :: x4 :: R)) Q = Q (.ret (.int .i32 (nearF m0 m1 m2 r0 r1 r2))) (ext H (x0 :: x1 :: x2 :: x3 :: x4 :: R)) := by
  have u := up_bd h0 h1 h2 b0 b1 b2
  refine c41 _ (B.wt hk rfl rfl rfl (z_bd b0)) (B.wt hk rfl rfl rfl (z_bd b1)) (B.wt hk rfl rfl rfl (z_bd b2)) ?_ hA (by omega) (Nat.le_trans u.1 (by decide)) (Nat.le_trans u.2 (by decide)) Q
  intro G
  rw [B.2]
  rfl

theorem over_bd (w : Int) : -2147483648 ≤ overF w ∧ overF w < 2147483648 := by unfold overF rawF; omega
end
end Go.AX.Tri
