/- Contracts: the number nearest to numbers, weighted, by digits (2). -/
import Derived.Test.YthhgeodgfbhkdaaSd
set_option linter.unusedVariables false
set_option linter.unusedSimpArgs false
set_option linter.unusedSectionVars false
namespace Go.AX.Tri
open Go.Proofs Go.AX.Mc
set_option linter.unusedSimpArgs false
set_option linter.unusedVariables false
noncomputable section

def nearN (U D A : Nat) : Nat → Nat → Nat
  | 0, n => n
  | j + 1, n => nearN U D A j (if n + 2 ^ j < 4294967296 ∧ ¬ (U + U < D + D + A * (n + 2 ^ j) + A * (n + 2 ^ j - 1)) then n + 2 ^ j else n)
theorem nearN_eq {U D A : Nat} (hA : 0 < A) (hD : D ≤ U) : ∀ j n, n ≤ min ((2 * (U - D) + A) / (2 * A)) 4294967295 → min ((2 * (U - D) + A) / (2 * A)) 4294967295 < n + 2 ^ j → nearN U D A j n = min ((2 * (U - D) + A) / (2 * A)) 4294967295
  | 0, n, h1, h2 => by
    rw [Nat.pow_zero] at h2
    unfold nearN
    omega
  | j + 1, n, h1, h2 => by
    unfold nearN
    have hp : 0 < 2 ^ j := Nat.pow_pos (by omega)
    have key : (n + 2 ^ j < 4294967296 ∧ ¬ (U + U < D + D + A * (n + 2 ^ j) + A * (n + 2 ^ j - 1))) ↔ n + 2 ^ j ≤ min ((2 * (U - D) + A) / (2 * A)) 4294967295 := by
      generalize hm : n + 2 ^ j = m
      have hm0 : 0 < m := by omega
      obtain ⟨m', rfl⟩ : ∃ m', m = m' + 1 := ⟨m - 1, by omega⟩
      rw [Nat.le_min, Nat.le_div_iff_mul_le (by omega), Nat.add_sub_cancel]
      have e1 : A * (m' + 1) = A * m' + A := by rw [Nat.mul_add, Nat.mul_one]
      have e2 : (m' + 1) * (2 * A) = 2 * (A * m') + 2 * A := by rw [Nat.add_mul, Nat.one_mul, Nat.mul_left_comm, Nat.mul_comm m' A]
      rw [e1, e2]
      generalize A * m' = x
      omega
    rw [Nat.pow_succ] at h2
    by_cases hc : n + 2 ^ j ≤ min ((2 * (U - D) + A) / (2 * A)) 4294967295
    · rw [if_pos (key.2 hc)]
      exact nearN_eq hA hD j _ hc (by omega)
    · rw [if_neg fun h => hc (key.1 h)]
      exact nearN_eq hA hD j _ h1 (by omega)

theorem pow12 : Bs ^ 12 = 6277101735386680763835789423207666416102355444464034512896 := by decide

theorem lt_of_dec {m : Nat} (h : decide ((m : Int) < 4294967296) = true) : m < 4294967296 := by simp at h; omega
theorem nlt_of_dec {m : Nat} (h : decide ((m : Int) < 4294967296) = false) : ¬ m < 4294967296 := by simp at h; omega
theorem nums {n b c : Nat} (hn : n < 4294967296) (hb : b ≤ 8589934592) (hp : 0 < b) (hc : c ≤ 8589934592) : n + b < 281474976710656 ∧ n + b - 1 < 281474976710656 ∧ (0 : Int) < (b : Int) ∧
    wrapF .i64 ((n : Int) + (b : Int)) = ((n + b : Nat) : Int) ∧ wrapF .i64 (((n + b : Nat) : Int) - 1) = ((n + b - 1 : Nat) : Int) ∧ wrapF .i64 ((c : Nat) : Int) = ((c : Nat) : Int) := by
  refine ⟨by omega, by omega, by omega, ?_, ?_, ?_⟩
  · rw [w64_id (by omega) (by omega)]; omega
  · rw [w64_id (by omega) (by omega)]; omega
  · rw [w64_id (by omega) (by omega)]

theorem loop41 {env : List Lp} {K : List KF} {Q : QF} {G : AH} (hlo : G.lo ≤ G.nx) {U D A : Nat} (hU : U ≤ 1361129467683753853853498429727072845824) (hD : D ≤ 1361129467683753853853498429727072845824) (hA : A ≤ 1267650600228229401496703205376) {x10 : Value} {Z : Nat}
    (q2 : ∀ fr R n, n = Z → tmp fr (pa 10) = x10 → tmp fr (pa 11) = .int .i64 ((n : Nat) : Int) → Kt T env false K .normal fr [] (ext G (blk (dg U) :: blk (dg D) :: blk (dg A) :: R)) Q) :
    ∀ (j n : Nat), j ≤ 34 → n < 4294967296 → nearN U D A j n = Z → ∀ (fr : Tr Value) (R : List (Option AB)), tmp fr (pa 5) = .pointer (some ⟨G.nx, 0, none⟩) → tmp fr (pa 6) = .pointer (some ⟨G.nx + 1, 0, none⟩) → tmp fr (pa 7) = .pointer (some ⟨G.nx + 2, 0, none⟩) →
      tmp fr (pa 10) = x10 → tmp fr (pa 11) = .int .i64 (n : Int) → tmp fr (pa 12) = .int .i64 ((bitv j : Nat) : Int) →
      X T env false (.loop a41l0) (.blk 2 :: K) fr [] (ext G (blk (dg U) :: blk (dg D) :: blk (dg A) :: R)) Q := by
  intro j
  induction j with
  | zero =>
    intro n hj hn he fr R t5 t6 t7 t10 t11 t12
    rw [X_loop]
    change X _ _ _ (.seq _ _) _ _ _ _ _
    have e0 : ((bitv 0 : Nat) : Int) = 0 := rfl
    rw [e0] at t12
    simp only [t12, show ¬ ((0 : Int) < 0) by omega, decide_false, go_sem, bin_add, bin_sub, bin_mul, Nat.reduceAdd, Nat.reduceMul, Nat.reduceEqDiff, Nat.reduceLeDiff, Nat.reduceLT, Nat.reduceSub, reduceIte, reduceCtorEq, Int.reduceToNat, Int.reduceNeg, Int.reduceLE, Int.reduceLT, Int.reduceEq, Nat.reduceOr, Nat.reduceShiftRight, Nat.reduceMod, Nat.reduceBNe, Nat.reduceBEq]
    refine q2 _ _ n he ?_ ?_
    all_goals simp only [t10, t11, go_sem, bin_add, bin_sub, bin_mul, Nat.reduceAdd, Nat.reduceMul, Nat.reduceEqDiff, Nat.reduceLeDiff, Nat.reduceLT, Nat.reduceSub, reduceIte, reduceCtorEq, Int.reduceToNat, Int.reduceNeg, Int.reduceLE, Int.reduceLT, Int.reduceEq, Nat.reduceOr, Nat.reduceShiftRight, Nat.reduceMod, Nat.reduceBNe, Nat.reduceBEq]
  | succ j ih =>
    intro n hj hn he fr R t5 t6 t7 t10 t11 t12
    rw [bitv_succ] at t12
    have hp : 0 < 2 ^ j := Nat.pow_pos (by omega)
    have hp2 : 2 ^ j ≤ 2 ^ 33 := Nat.pow_le_pow_right (by omega) (by omega)
    have hp3 : 2 ^ j ≤ 8589934592 := hp2
    have hb : bitv j ≤ 8589934592 := by unfold bitv; omega
    have dq : ((2 ^ j : Nat) : Int).tdiv 2 = ((bitv j : Nat) : Int) := by unfold bitv; rfl
    have hs : nearN U D A (j + 1) n = nearN U D A j (if n + 2 ^ j < 4294967296 ∧ ¬ (U + U < D + D + A * (n + 2 ^ j) + A * (n + 2 ^ j - 1)) then n + 2 ^ j else n) := rfl
    clear hp2
    generalize 2 ^ j = b at *
    obtain ⟨hm48, hm48', hm0, w1, w2, w3⟩ := nums (n := n) (b := b) (c := bitv j) hn hp3 hp hb
    have k1 : A * (n + b) ≤ 1267650600228229401496703205376 * 281474976710656 := Nat.mul_le_mul hA (Nat.le_of_lt hm48)
    have k2 : A * (n + b - 1) ≤ 1267650600228229401496703205376 * 281474976710656 := Nat.mul_le_mul hA (Nat.le_of_lt hm48')
    have hl : D + D + A * (n + b) + A * (n + b - 1) < Bs ^ 12 := by rw [pow12]; omega
    have hu : U + U < Bs ^ 12 := by rw [pow12]; omega
    clear hU hD hA k1 k2
    have dl : ∀ n, (dg n).length = 12 := fun n => fn_length _ _
    have dt : ∀ n, (dg n).take 12 = dg n := fun n => fn_take _ _
    have dd : ∀ n, (dg n).drop 12 = [] := fun n => fn_drop0 _ _
    have df : ∀ n, (dg n).all flat = true := fun n => dV_flat _ _
    rw [X_loop]
    change X _ _ _ (.seq _ _) _ _ _ _ _
    simp only [t5, t6, t7, t10, t11, t12, hm0, w1, go_sem, bin_add, bin_sub, bin_mul, Nat.reduceAdd, Nat.reduceMul, Nat.reduceEqDiff, Nat.reduceLeDiff, Nat.reduceLT, Nat.reduceSub, reduceIte, reduceCtorEq, Int.reduceToNat, Int.reduceNeg, Int.reduceLE, Int.reduceLT, Int.reduceEq, Nat.reduceOr, Nat.reduceShiftRight, Nat.reduceMod, Nat.reduceBNe, Nat.reduceBEq]
    refine X_drawE 1 (by rfl) ?_
    simp only [t5, t6, t7, t10, t11, t12, hlo, w1, w2, c57 _ _ hm48, c57 _ _ hm48', c58, zero12, dl, dt, dd, df, dg_zip, Nat.le_refl, go_sem, bin_add, bin_sub, bin_mul, Nat.reduceAdd, Nat.reduceMul, Nat.reduceEqDiff, Nat.reduceLeDiff, Nat.reduceLT, Nat.reduceSub, reduceIte, reduceCtorEq, Int.reduceToNat, Int.reduceNeg, Int.reduceLE, Int.reduceLT, Int.reduceEq, Nat.reduceOr, Nat.reduceShiftRight, Nat.reduceMod, Nat.reduceBNe, Nat.reduceBEq]
    refine X_drawE 0 (by rfl) ?_
    simp only [t5, t6, t7, t10, t11, t12, hlo, w1, w2, dl, dt, dd, df, dg_zip, Nat.le_refl, go_sem, bin_add, bin_sub, bin_mul, Nat.reduceAdd, Nat.reduceMul, Nat.reduceEqDiff, Nat.reduceLeDiff, Nat.reduceLT, Nat.reduceSub, reduceIte, reduceCtorEq, Int.reduceToNat, Int.reduceNeg, Int.reduceLE, Int.reduceLT, Int.reduceEq, Nat.reduceOr, Nat.reduceShiftRight, Nat.reduceMod, Nat.reduceBNe, Nat.reduceBEq]
    have hq2 : ∀ (ox oy : Operand) (H : AH), aBin Try.prog .quo 2 ox oy none (.int .i64 (b : Int)) (.int .i64 2) H = some (.val (.int .i64 ((bitv j : Nat) : Int)) H) := by
      intro ox oy H
      rw [bin_quo_w _ _ _ _ _ _ _ _ _ (by decide), dq, w3]
    cases g1 : decide (((n + b : Nat) : Int) < 4294967296) <;> simp only [g1, t5, t6, t7, t10, t11, t12, hlo, w1, w2, hq2, c58, c59 _ _ hu hl, dl, dt, dd, df, dg_zip, Nat.le_refl, go_sem, bin_add, bin_sub, bin_mul, Nat.reduceAdd, Nat.reduceMul, Nat.reduceEqDiff, Nat.reduceLeDiff, Nat.reduceLT, Nat.reduceSub, reduceIte, reduceCtorEq, Int.reduceToNat, Int.reduceNeg, Int.reduceLE, Int.reduceLT, Int.reduceEq, Nat.reduceOr, Nat.reduceShiftRight, Nat.reduceMod, Nat.reduceBNe, Nat.reduceBEq]
    · rw [hs, if_neg (fun h => nlt_of_dec g1 h.1)] at he
      refine ih n (by omega) hn he _ _ ?_ ?_ ?_ ?_ ?_ ?_
      all_goals simp only [t5, t6, t7, t10, t11, t12, go_sem, bin_add, bin_sub, bin_mul, Nat.reduceAdd, Nat.reduceMul, Nat.reduceEqDiff, Nat.reduceLeDiff, Nat.reduceLT, Nat.reduceSub, reduceIte, reduceCtorEq, Int.reduceToNat, Int.reduceNeg, Int.reduceLE, Int.reduceLT, Int.reduceEq, Nat.reduceOr, Nat.reduceShiftRight, Nat.reduceMod, Nat.reduceBNe, Nat.reduceBEq]
    · have hlt : n + b < 4294967296 := lt_of_dec g1
      cases g2 : decide (U + U < D + D + A * (n + b) + A * (n + b - 1)) <;> simp only [g2, t5, t6, t7, t10, t11, t12, hq2, go_sem, bin_add, bin_sub, bin_mul, Nat.reduceAdd, Nat.reduceMul, Nat.reduceEqDiff, Nat.reduceLeDiff, Nat.reduceLT, Nat.reduceSub, reduceIte, reduceCtorEq, Int.reduceToNat, Int.reduceNeg, Int.reduceLE, Int.reduceLT, Int.reduceEq, Nat.reduceOr, Nat.reduceShiftRight, Nat.reduceMod, Nat.reduceBNe, Nat.reduceBEq]
      · rw [hs, if_pos ⟨hlt, by simpa using g2⟩] at he
        refine ih (n + b) (by omega) hlt he _ _ ?_ ?_ ?_ ?_ ?_ ?_
        all_goals simp only [t5, t6, t7, t10, t11, t12, go_sem, bin_add, bin_sub, bin_mul, Nat.reduceAdd, Nat.reduceMul, Nat.reduceEqDiff, Nat.reduceLeDiff, Nat.reduceLT, Nat.reduceSub, reduceIte, reduceCtorEq, Int.reduceToNat, Int.reduceNeg, Int.reduceLE, Int.reduceLT, Int.reduceEq, Nat.reduceOr, Nat.reduceShiftRight, Nat.reduceMod, Nat.reduceBNe, Nat.reduceBEq]
      · rw [hs, if_neg (fun h => h.2 (by simpa using g2))] at he
        refine ih n (by omega) hn he _ _ ?_ ?_ ?_ ?_ ?_ ?_
        all_goals simp only [t5, t6, t7, t10, t11, t12, go_sem, bin_add, bin_sub, bin_mul, Nat.reduceAdd, Nat.reduceMul, Nat.reduceEqDiff, Nat.reduceLeDiff, Nat.reduceLT, Nat.reduceSub, reduceIte, reduceCtorEq, Int.reduceToNat, Int.reduceNeg, Int.reduceLE, Int.reduceLT, Int.reduceEq, Nat.reduceOr, Nat.reduceShiftRight, Nat.reduceMod, Nat.reduceBNe, Nat.reduceBEq]
end
end Go.AX.Tri
/- Contracts: the number nearest to numbers, weighted, by digits (3). -/
namespace Go.AX.Tri
open Go.Proofs Go.AX.Mc
set_option linter.unusedSimpArgs false
set_option linter.unusedVariables false
noncomputable section

theorem raw_min (q : Nat) : rawF ((min q 4294967295 : Nat) : Int) = rawF (q : Int) := by unfold rawF; omega
theorem raw_min' (q : Nat) : rawF (-((min q 4294967295 : Nat) : Int)) = rawF (-(q : Int)) := by unfold rawF; omega
theorem near34 {U D A : Nat} (hA : 0 < A) (hD : D ≤ U) : nearN U D A 34 0 = min ((2 * (U - D) + A) / (2 * A)) 4294967295 := by
  refine nearN_eq hA hD 34 0 (Nat.zero_le _) ?_
  refine Nat.lt_of_le_of_lt (Nat.min_le_right _ _) ?_
  decide
theorem bitv34 : ((bitv 34 : Nat) : Int) = 8589934592 := by decide
theorem neg_w {n : Nat} (h : n < 4294967296) : wrapF .i64 (-(n : Int)) = -(n : Int) := w64_id (by omega) (by omega)
theorem min_lt (q : Nat) : min q 4294967295 < 4294967296 := by omega

theorem c41 {env : List Lp} {v v' : Value} {w0 w1 w2 : Nat} {r0 r1 r2 : Int} (H : AH) (h0 : WtAt H v v' 0 w0 r0) (h1 : WtAt H v v' 1 w1 r1) (h2 : WtAt H v v' 2 w2 r2) (hl : ∀ H, lnS v H = some (.val (.int .i64 3) H))
    (hA : 0 < w0 + w1 + w2) (hA' : w0 + w1 + w2 ≤ 1267650600228229401496703205376) (hU : upN w0 r0 + upN w1 r1 + upN w2 r2 ≤ 1361129467683753853853498429727072845824) (hD : dnN w0 r0 + dnN w1 r1 + dnN w2 r2 ≤ 1361129467683753853853498429727072845824)
    (Q : AEnd → AH → Prop) : C T env 41 [v, v'] H Q = Q (.ret (.int .i32 (nearF w0 w1 w2 r0 r1 r2))) H := by
  refine C_det ?_ Q
  rw [C_fn T41 rfl]
  have hn : ∀ {i w : Nat} {r : Int}, WtAt H v v' i w r → WtAt H.now v v' i w r := fun h => ⟨h.wt, h.rt, h.bd⟩
  have dl : ∀ n, (dg n).length = 12 := fun n => fn_length _ _
  have dt : ∀ n, (dg n).take 12 = dg n := fun n => fn_take _ _
  have dd : ∀ n, (dg n).drop 12 = [] := fun n => fn_drop0 _ _
  have df : ∀ n, (dg n).all flat = true := fun n => dV_flat _ _
  simp only [a41, zero12, hl, go_sem, bin_add, bin_sub, bin_mul, Nat.reduceAdd, Nat.reduceMul, Nat.reduceEqDiff, Nat.reduceLeDiff, Nat.reduceLT, Nat.reduceSub, reduceIte, reduceCtorEq, Int.reduceToNat, Int.reduceNeg, Int.reduceLE, Int.reduceLT, Int.reduceEq, Nat.reduceOr, Nat.reduceShiftRight, Nat.reduceMod, Nat.reduceBNe, Nat.reduceBEq]
  refine step41 (G := H.now) (Nat.le_refl _) (by omega) (hn h0) 0 0 0 [] _ (by simp only [go_sem, bin_add, bin_sub, bin_mul, Nat.reduceAdd, Nat.reduceMul, Nat.reduceEqDiff, Nat.reduceLeDiff, Nat.reduceLT, Nat.reduceSub, reduceIte, reduceCtorEq, Int.reduceToNat, Int.reduceNeg, Int.reduceLE, Int.reduceLT, Int.reduceEq, Nat.reduceOr, Nat.reduceShiftRight, Nat.reduceMod, Nat.reduceBNe, Nat.reduceBEq]) (by simp only [go_sem, bin_add, bin_sub, bin_mul, Nat.reduceAdd, Nat.reduceMul, Nat.reduceEqDiff, Nat.reduceLeDiff, Nat.reduceLT, Nat.reduceSub, reduceIte, reduceCtorEq, Int.reduceToNat, Int.reduceNeg, Int.reduceLE, Int.reduceLT, Int.reduceEq, Nat.reduceOr, Nat.reduceShiftRight, Nat.reduceMod, Nat.reduceBNe, Nat.reduceBEq]) (by simp only [go_sem, bin_add, bin_sub, bin_mul, Nat.reduceAdd, Nat.reduceMul, Nat.reduceEqDiff, Nat.reduceLeDiff, Nat.reduceLT, Nat.reduceSub, reduceIte, reduceCtorEq, Int.reduceToNat, Int.reduceNeg, Int.reduceLE, Int.reduceLT, Int.reduceEq, Nat.reduceOr, Nat.reduceShiftRight, Nat.reduceMod, Nat.reduceBNe, Nat.reduceBEq]) (by simp only [go_sem, bin_add, bin_sub, bin_mul, Nat.reduceAdd, Nat.reduceMul, Nat.reduceEqDiff, Nat.reduceLeDiff, Nat.reduceLT, Nat.reduceSub, reduceIte, reduceCtorEq, Int.reduceToNat, Int.reduceNeg, Int.reduceLE, Int.reduceLT, Int.reduceEq, Nat.reduceOr, Nat.reduceShiftRight, Nat.reduceMod, Nat.reduceBNe, Nat.reduceBEq]) (by simp only [go_sem, bin_add, bin_sub, bin_mul, Nat.reduceAdd, Nat.reduceMul, Nat.reduceEqDiff, Nat.reduceLeDiff, Nat.reduceLT, Nat.reduceSub, reduceIte, reduceCtorEq, Int.reduceToNat, Int.reduceNeg, Int.reduceLE, Int.reduceLT, Int.reduceEq, Nat.reduceOr, Nat.reduceShiftRight, Nat.reduceMod, Nat.reduceBNe, Nat.reduceBEq]) (by simp only [go_sem, bin_add, bin_sub, bin_mul, Nat.reduceAdd, Nat.reduceMul, Nat.reduceEqDiff, Nat.reduceLeDiff, Nat.reduceLT, Nat.reduceSub, reduceIte, reduceCtorEq, Int.reduceToNat, Int.reduceNeg, Int.reduceLE, Int.reduceLT, Int.reduceEq, Nat.reduceOr, Nat.reduceShiftRight, Nat.reduceMod, Nat.reduceBNe, Nat.reduceBEq]) (by simp only [go_sem, bin_add, bin_sub, bin_mul, Nat.reduceAdd, Nat.reduceMul, Nat.reduceEqDiff, Nat.reduceLeDiff, Nat.reduceLT, Nat.reduceSub, reduceIte, reduceCtorEq, Int.reduceToNat, Int.reduceNeg, Int.reduceLE, Int.reduceLT, Int.reduceEq, Nat.reduceOr, Nat.reduceShiftRight, Nat.reduceMod, Nat.reduceBNe, Nat.reduceBEq]) (by simp only [go_sem, bin_add, bin_sub, bin_mul, Nat.reduceAdd, Nat.reduceMul, Nat.reduceEqDiff, Nat.reduceLeDiff, Nat.reduceLT, Nat.reduceSub, reduceIte, reduceCtorEq, Int.reduceToNat, Int.reduceNeg, Int.reduceLE, Int.reduceLT, Int.reduceEq, Nat.reduceOr, Nat.reduceShiftRight, Nat.reduceMod, Nat.reduceBNe, Nat.reduceBEq]) ?_
  intro fr R t0 t1 t5 t6 t7 t15 t16 t17
  refine step41 (G := H.now) (Nat.le_refl _) (by omega) (hn h1) _ _ _ R fr t0 t1 t5 t6 t7 t15 t16 t17 ?_
  clear t0 t1 t5 t6 t7 t15 t16 t17 fr R
  intro fr R t0 t1 t5 t6 t7 t15 t16 t17
  refine step41 (G := H.now) (Nat.le_refl _) (by omega) (hn h2) _ _ _ R fr t0 t1 t5 t6 t7 t15 t16 t17 ?_
  clear t0 t1 t5 t6 t7 t15 t16 t17 fr R
  intro fr R t0 t1 t5 t6 t7 t15 t16 t17
  rw [Nat.zero_add, Nat.zero_add, Nat.zero_add]
  unfold nearF
  clear h0 h1 h2
  generalize upN w0 r0 + upN w1 r1 + upN w2 r2 = U at *
  generalize dnN w0 r0 + dnN w1 r1 + dnN w2 r2 = D at *
  generalize w0 + w1 + w2 = A at *
  have hu : U < Bs ^ 12 := by rw [pow12]; omega
  have hd : D < Bs ^ 12 := by rw [pow12]; omega
  rw [X_loop]
  change X _ _ _ (.seq _ _) _ _ _ _ _
  simp only [t0, t1, t5, t6, t7, t15, t16, t17, show ¬ (((2 + 1 : Nat) : Int) < 3) from (by decide), c59 _ _ hu hd, dl, dt, dd, df, Nat.le_refl, go_sem, bin_add, bin_sub, bin_mul, Nat.reduceAdd, Nat.reduceMul, Nat.reduceEqDiff, Nat.reduceLeDiff, Nat.reduceLT, Nat.reduceSub, reduceIte, reduceCtorEq, Int.reduceToNat, Int.reduceNeg, Int.reduceLE, Int.reduceLT, Int.reduceEq, Nat.reduceOr, Nat.reduceShiftRight, Nat.reduceMod, Nat.reduceBNe, Nat.reduceBEq]
  clear hu hd
  cases g : decide (U < D) <;> simp only [g, t0, t1, t5, t6, t7, t15, t16, t17, dl, dt, dd, df, Nat.le_refl, go_sem, bin_add, bin_sub, bin_mul, Nat.reduceAdd, Nat.reduceMul, Nat.reduceEqDiff, Nat.reduceLeDiff, Nat.reduceLT, Nat.reduceSub, reduceIte, reduceCtorEq, Int.reduceToNat, Int.reduceNeg, Int.reduceLE, Int.reduceLT, Int.reduceEq, Nat.reduceOr, Nat.reduceShiftRight, Nat.reduceMod, Nat.reduceBNe, Nat.reduceBEq]
  · have hle : D ≤ U := by simpa using g
    refine loop41 (G := H.now) (Nat.le_refl _) hU hD hA' (x10 := .bool false) ?_ 34 0 (by decide) (by decide) rfl _ R ?_ ?_ ?_ ?_ ?_ ?_
    · intro fr' R' n hn t10 t11
      rw [near34 hA hle] at hn
      simp only [t10, t11, c60, go_sem, bin_add, bin_sub, bin_mul, Nat.reduceAdd, Nat.reduceMul, Nat.reduceEqDiff, Nat.reduceLeDiff, Nat.reduceLT, Nat.reduceSub, reduceIte, reduceCtorEq, Int.reduceToNat, Int.reduceNeg, Int.reduceLE, Int.reduceLT, Int.reduceEq, Nat.reduceOr, Nat.reduceShiftRight, Nat.reduceMod, Nat.reduceBNe, Nat.reduceBEq]
      have e : nearU U D A = rawF ((n : Nat) : Int) := by
        unfold nearU
        rw [if_neg (by omega), hn, raw_min]
      rw [e]
    all_goals first
      | (simp only [t5, t6, t7, bitv34, go_sem, bin_add, bin_sub, bin_mul, Nat.reduceAdd, Nat.reduceMul, Nat.reduceEqDiff, Nat.reduceLeDiff, Nat.reduceLT, Nat.reduceSub, reduceIte, reduceCtorEq, Int.reduceToNat, Int.reduceNeg, Int.reduceLE, Int.reduceLT, Int.reduceEq, Nat.reduceOr, Nat.reduceShiftRight, Nat.reduceMod, Nat.reduceBNe, Nat.reduceBEq]; done)
      | (simp only [t5, t6, t7, go_sem, bin_add, bin_sub, bin_mul, Nat.reduceAdd, Nat.reduceMul, Nat.reduceEqDiff, Nat.reduceLeDiff, Nat.reduceLT, Nat.reduceSub, reduceIte, reduceCtorEq, Int.reduceToNat, Int.reduceNeg, Int.reduceLE, Int.reduceLT, Int.reduceEq, Nat.reduceOr, Nat.reduceShiftRight, Nat.reduceMod, Nat.reduceBNe, Nat.reduceBEq]; rfl)
  · have hlt : U < D := by simpa using g
    refine loop41 (G := H.now) (Nat.le_refl _) hD hU hA' (x10 := .bool true) ?_ 34 0 (by decide) (by decide) rfl _ R ?_ ?_ ?_ ?_ ?_ ?_
    · intro fr' R' n hn t10 t11
      rw [near34 hA (Nat.le_of_lt hlt)] at hn
      have hn32 : n < 4294967296 := by rw [hn]; exact min_lt _
      simp only [t10, t11, neg_w hn32, c60, go_sem, bin_add, bin_sub, bin_mul, Nat.reduceAdd, Nat.reduceMul, Nat.reduceEqDiff, Nat.reduceLeDiff, Nat.reduceLT, Nat.reduceSub, reduceIte, reduceCtorEq, Int.reduceToNat, Int.reduceNeg, Int.reduceLE, Int.reduceLT, Int.reduceEq, Nat.reduceOr, Nat.reduceShiftRight, Nat.reduceMod, Nat.reduceBNe, Nat.reduceBEq]
      have e : nearU U D A = rawF (-((n : Nat) : Int)) := by
        unfold nearU
        rw [if_pos hlt, hn, raw_min']
      rw [e]
    all_goals first
      | (simp only [t5, t6, t7, bitv34, go_sem, bin_add, bin_sub, bin_mul, Nat.reduceAdd, Nat.reduceMul, Nat.reduceEqDiff, Nat.reduceLeDiff, Nat.reduceLT, Nat.reduceSub, reduceIte, reduceCtorEq, Int.reduceToNat, Int.reduceNeg, Int.reduceLE, Int.reduceLT, Int.reduceEq, Nat.reduceOr, Nat.reduceShiftRight, Nat.reduceMod, Nat.reduceBNe, Nat.reduceBEq]; done)
      | (simp only [t5, t6, t7, go_sem, bin_add, bin_sub, bin_mul, Nat.reduceAdd, Nat.reduceMul, Nat.reduceEqDiff, Nat.reduceLeDiff, Nat.reduceLT, Nat.reduceSub, reduceIte, reduceCtorEq, Int.reduceToNat, Int.reduceNeg, Int.reduceLE, Int.reduceLT, Int.reduceEq, Nat.reduceOr, Nat.reduceShiftRight, Nat.reduceMod, Nat.reduceBNe, Nat.reduceBEq]; rfl)
end
end Go.AX.Tri
