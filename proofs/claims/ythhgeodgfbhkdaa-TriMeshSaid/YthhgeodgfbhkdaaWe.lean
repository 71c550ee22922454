/- Contracts: near. -/
import Derived.Test.YthhgeodgfbhkdaaWd
set_option linter.unusedVariables false
set_option linter.unusedSimpArgs false
set_option linter.unusedSectionVars false
namespace Go.AX.Tri
open Go.Proofs Go.AX.Mc
set_option linter.unusedSimpArgs false
set_option linter.unusedVariables false
noncomputable section

theorem bitsF_eq (top all : Nat) (ha : 0 < all) (hb : all * 8589934592 ≤ B128) : ∀ (j n : Nat), j ≤ 33 → n % 2 ^ j = 0 → n ≤ top / all → top / all < n + 2 ^ j → n + 2 ^ j ≤ 8589934592 → bitsF top all j n = top / all
  | 0, n, _, _, h1, h2, _ => by unfold bitsF; simp at h2; omega
  | j + 1, n, hj, hm, h1, h2, h3 => by
    have e : n ||| 2 ^ j = n + 2 ^ j := by
      have h4 : n % 2 ^ (j + 1) = 0 := hm
      obtain ⟨q, rfl⟩ := Nat.dvd_of_mod_eq_zero h4
      rw [show 2 ^ (j + 1) * q = 2 ^ (j + 1) * q from rfl, Nat.two_pow_add_eq_or_of_lt (i := j + 1) (Nat.pow_lt_pow_right (by omega) (by omega))]
    have hp : 2 ^ (j + 1) = 2 ^ j + 2 ^ j := by rw [Nat.pow_succ]; omega
    have hm' : n % 2 ^ j = 0 := by
      have : 2 ^ j ∣ n := Nat.dvd_trans (Nat.pow_dvd_pow 2 (by omega)) (Nat.dvd_of_mod_eq_zero hm)
      exact Nat.mod_eq_zero_of_dvd this
    have hlt : all * (n + 2 ^ j) % B128 = all * (n + 2 ^ j) := by
      apply Nat.mod_eq_of_lt
      have hp0 : 0 < 2 ^ j := Nat.pow_pos (by omega)
      have : all * (n + 2 ^ j) < all * 8589934592 := Nat.mul_lt_mul_of_pos_left (by omega) ha
      omega
    unfold bitsF
    rw [e, hlt]
    have hdiv : (top < all * (n + 2 ^ j)) ↔ top / all < n + 2 ^ j := by
      rw [Nat.div_lt_iff_lt_mul ha, Nat.mul_comm]
    by_cases hc : top < all * (n + 2 ^ j)
    · rw [if_pos hc]
      exact bitsF_eq top all ha hb j n (by omega) hm' h1 (hdiv.1 hc) (by omega)
    · rw [if_neg hc]
      refine bitsF_eq top all ha hb j (n + 2 ^ j) (by omega) ?_ ?_ ?_ (by omega)
      · rw [Nat.add_mod_right]; exact hm'
      · have := (not_congr hdiv).1 hc; omega
      · omega

def upN (N : Nat) (l : Int) : Nat := if l < 0 then 0 else N * l.natAbs
def dnN (N : Nat) (l : Int) : Nat := if l < 0 then N * l.natAbs else 0
/-- the number nearest to numbers, weighted; halves away from 0. -/
def nearU (U D A : Nat) : Int := if U < D then rawF (-(((2 * (D - U) + A) / (2 * A) : Nat) : Int)) else rawF (((2 * (U - D) + A) / (2 * A) : Nat) : Int)
def nearF (N0 N1 N2 : Nat) (l0 l1 l2 : Int) : Int := nearU (upN N0 l0 + upN N1 l1 + upN N2 l2) (dnN N0 l0 + dnN N1 l1 + dnN N2 l2) (N0 + N1 + N2)

theorem part_le (N : Nat) (l : Int) (h1 : -2147483648 ≤ l) (h2 : l < 2147483648) : N * l.natAbs ≤ N * 2147483648 := Nat.mul_le_mul_left _ (by omega)
theorem up_le (N : Nat) (l : Int) (h1 : -2147483648 ≤ l) (h2 : l < 2147483648) : upN N l ≤ N * 2147483648 := by unfold upN; split; omega; exact part_le N l h1 h2
theorem dn_le (N : Nat) (l : Int) (h1 : -2147483648 ≤ l) (h2 : l < 2147483648) : dnN N l ≤ N * 2147483648 := by unfold dnN; split; exact part_le N l h1 h2; omega
theorem up_step (U N : Nat) (l : Int) (h1 : -2147483648 ≤ l) (h2 : l < 2147483648) (h : U + N * 2147483648 < B128) : (if l < 0 then U else (U + N * l.natAbs % B128) % B128) = U + upN N l := by
  have := part_le N l h1 h2
  unfold upN
  split
  · rfl
  · rw [Nat.mod_eq_of_lt (a := N * l.natAbs) (by omega), Nat.mod_eq_of_lt (by omega)]
theorem dn_step (U N : Nat) (l : Int) (h1 : -2147483648 ≤ l) (h2 : l < 2147483648) (h : U + N * 2147483648 < B128) : (if l < 0 then (U + N * l.natAbs % B128) % B128 else U) = U + dnN N l := by
  have := part_le N l h1 h2
  unfold dnN
  split
  · rw [Nat.mod_eq_of_lt (a := N * l.natAbs) (by omega), Nat.mod_eq_of_lt (by omega)]
  · rfl

def lsV (l0 l1 l2 : Int) : List Value := [.int .i32 l0, .int .i32 l1, .int .i32 l2]
def wsV (N0 N1 N2 : Nat) : List Value := wd N0 ++ (wd N1 ++ wd N2)

theorem c50 {env : List Lp} (N0 N1 N2 : Nat) (l0 l1 l2 : Int) (hA : 0 < N0 + N1 + N2) (hN : N0 + N1 + N2 < 19807040628566084398385987584)
    (g0 : -2147483648 ≤ l0) (k0 : l0 < 2147483648) (g1 : -2147483648 ≤ l1) (k1 : l1 < 2147483648) (g2 : -2147483648 ≤ l2) (k2 : l2 < 2147483648) (H : AH) (Q : AEnd → AH → Prop) :
    C T env 50 [.agg (wsV N0 N1 N2).toArray, .agg (lsV l0 l1 l2).toArray] H Q = Q (.ret (.int .i32 (nearF N0 N1 N2 l0 l1 l2))) H := by
  refine C_det ?_ Q
  rw [C_fn T50 rfl]
  simp only [a50, go_sem, bin_add, bin_sub, bin_mul, Nat.reduceAdd, Nat.reduceMul, Nat.reduceEqDiff, Nat.reduceLeDiff, Nat.reduceLT, Nat.reduceSub, reduceIte, reduceCtorEq, Int.reduceToNat, Int.reduceNeg, Int.reduceLE, Int.reduceLT, Int.reduceEq, Nat.reduceOr, Nat.reduceShiftRight, Nat.reduceMod, Nat.reduceBNe, Nat.reduceBEq]
  have hlen : (wsV N0 N1 N2).length = 6 := rfl
  have htake : (wsV N0 N1 N2).take 6 = wsV N0 N1 N2 := rfl
  simp only [hlen, htake, go_sem, bin_add, bin_sub, bin_mul, Nat.reduceAdd, Nat.reduceMul, Nat.reduceEqDiff, Nat.reduceLeDiff, Nat.reduceLT, Nat.reduceSub, reduceIte, reduceCtorEq, Int.reduceToNat, Int.reduceNeg, Int.reduceLE, Int.reduceLT, Int.reduceEq, Nat.reduceOr, Nat.reduceShiftRight, Nat.reduceMod, Nat.reduceBNe, Nat.reduceBEq]
  refine step50 H (wsV N0 N1 N2) (lsV l0 l1 l2) 0 N0 0 0 0 l0 (by omega) g0 k0 rfl rfl rfl _ [] (by simp only [go_sem, bin_add, bin_sub, bin_mul, Nat.reduceAdd, Nat.reduceMul, Nat.reduceEqDiff, Nat.reduceLeDiff, Nat.reduceLT, Nat.reduceSub, reduceIte, reduceCtorEq, Int.reduceToNat, Int.reduceNeg, Int.reduceLE, Int.reduceLT, Int.reduceEq, Nat.reduceOr, Nat.reduceShiftRight, Nat.reduceMod, Nat.reduceBNe, Nat.reduceBEq]) (by simp only [go_sem, bin_add, bin_sub, bin_mul, Nat.reduceAdd, Nat.reduceMul, Nat.reduceEqDiff, Nat.reduceLeDiff, Nat.reduceLT, Nat.reduceSub, reduceIte, reduceCtorEq, Int.reduceToNat, Int.reduceNeg, Int.reduceLE, Int.reduceLT, Int.reduceEq, Nat.reduceOr, Nat.reduceShiftRight, Nat.reduceMod, Nat.reduceBNe, Nat.reduceBEq]) (by simp only [go_sem, bin_add, bin_sub, bin_mul, Nat.reduceAdd, Nat.reduceMul, Nat.reduceEqDiff, Nat.reduceLeDiff, Nat.reduceLT, Nat.reduceSub, reduceIte, reduceCtorEq, Int.reduceToNat, Int.reduceNeg, Int.reduceLE, Int.reduceLT, Int.reduceEq, Nat.reduceOr, Nat.reduceShiftRight, Nat.reduceMod, Nat.reduceBNe, Nat.reduceBEq]) (by simp only [go_sem, bin_add, bin_sub, bin_mul, Nat.reduceAdd, Nat.reduceMul, Nat.reduceEqDiff, Nat.reduceLeDiff, Nat.reduceLT, Nat.reduceSub, reduceIte, reduceCtorEq, Int.reduceToNat, Int.reduceNeg, Int.reduceLE, Int.reduceLT, Int.reduceEq, Nat.reduceOr, Nat.reduceShiftRight, Nat.reduceMod, Nat.reduceBNe, Nat.reduceBEq]) (by simp only [go_sem, bin_add, bin_sub, bin_mul, Nat.reduceAdd, Nat.reduceMul, Nat.reduceEqDiff, Nat.reduceLeDiff, Nat.reduceLT, Nat.reduceSub, reduceIte, reduceCtorEq, Int.reduceToNat, Int.reduceNeg, Int.reduceLE, Int.reduceLT, Int.reduceEq, Nat.reduceOr, Nat.reduceShiftRight, Nat.reduceMod, Nat.reduceBNe, Nat.reduceBEq]) (by simp only [go_sem, bin_add, bin_sub, bin_mul, Nat.reduceAdd, Nat.reduceMul, Nat.reduceEqDiff, Nat.reduceLeDiff, Nat.reduceLT, Nat.reduceSub, reduceIte, reduceCtorEq, Int.reduceToNat, Int.reduceNeg, Int.reduceLE, Int.reduceLT, Int.reduceEq, Nat.reduceOr, Nat.reduceShiftRight, Nat.reduceMod, Nat.reduceBNe, Nat.reduceBEq]) (by simp only [go_sem, bin_add, bin_sub, bin_mul, Nat.reduceAdd, Nat.reduceMul, Nat.reduceEqDiff, Nat.reduceLeDiff, Nat.reduceLT, Nat.reduceSub, reduceIte, reduceCtorEq, Int.reduceToNat, Int.reduceNeg, Int.reduceLE, Int.reduceLT, Int.reduceEq, Nat.reduceOr, Nat.reduceShiftRight, Nat.reduceMod, Nat.reduceBNe, Nat.reduceBEq]) ?_
  intro fr G t2 t3 t5 t6 t7 t14 t15
  refine step50 H (wsV N0 N1 N2) (lsV l0 l1 l2) 1 N1 _ _ _ l1 (by omega) g1 k1 rfl rfl rfl fr G t2 t3 t5 t6 t7 t14 t15 ?_
  clear t2 t3 t5 t6 t7 t14 t15 fr G
  intro fr G t2 t3 t5 t6 t7 t14 t15
  refine step50 H (wsV N0 N1 N2) (lsV l0 l1 l2) 2 N2 _ _ _ l2 (by omega) g2 k2 rfl rfl rfl fr G t2 t3 t5 t6 t7 t14 t15 ?_
  clear t2 t3 t5 t6 t7 t14 t15 fr G
  intro fr G t2 t3 t5 t6 t7 t14 t15
  have p0 := up_le N0 l0 g0 k0
  have p1 := up_le N1 l1 g1 k1
  have p2 := up_le N2 l2 g2 k2
  have d0 := dn_le N0 l0 g0 k0
  have d1 := dn_le N1 l1 g1 k1
  have d2 := dn_le N2 l2 g2 k2
  rw [up_step 0 N0 l0 g0 k0 (by simp only [B128]; omega), up_step (0 + upN N0 l0) N1 l1 g1 k1 (by simp only [B128]; omega), up_step (0 + upN N0 l0 + upN N1 l1) N2 l2 g2 k2 (by simp only [B128]; omega),
    dn_step 0 N0 l0 g0 k0 (by simp only [B128]; omega), dn_step (0 + dnN N0 l0) N1 l1 g1 k1 (by simp only [B128]; omega), dn_step (0 + dnN N0 l0 + dnN N1 l1) N2 l2 g2 k2 (by simp only [B128]; omega),
    show ((((0 + N0) % B128 + N1) % B128 + N2) % B128) = N0 + N1 + N2 by simp only [B128]; omega]
  unfold nearF
  have hU : upN N0 l0 + upN N1 l1 + upN N2 l2 ≤ (N0 + N1 + N2) * 2147483648 := by omega
  have hD : dnN N0 l0 + dnN N1 l1 + dnN N2 l2 ≤ (N0 + N1 + N2) * 2147483648 := by omega
  simp only [Nat.zero_add]
  generalize upN N0 l0 + upN N1 l1 + upN N2 l2 = U at *
  generalize dnN N0 l0 + dnN N1 l1 + dnN N2 l2 = D at *
  generalize N0 + N1 + N2 = A at *
  clear p0 p1 p2 d0 d1 d2
  generalize wsV N0 N1 N2 = wv at *
  generalize lsV l0 l1 l2 = lv at *
  rw [X_loop]
  change X _ _ _ (.seq _ _) _ _ _ _ _
  simp only [t2, t3, t5, t6, t7, t14, t15, show ¬ ((2 + 1 : Nat) : Int) < 3 by omega, c64, wd_length, wd_flat, wd_take, wd_drop, blk, go_sem, bin_add, bin_sub, bin_mul, Nat.reduceAdd, Nat.reduceMul, Nat.reduceEqDiff, Nat.reduceLeDiff, Nat.reduceLT, Nat.reduceSub, reduceIte, reduceCtorEq, Int.reduceToNat, Int.reduceNeg, Int.reduceLE, Int.reduceLT, Int.reduceEq, Nat.reduceOr, Nat.reduceShiftRight, Nat.reduceMod, Nat.reduceBNe, Nat.reduceBEq]
  refine Cd_split ?_ ?_ <;> intro g
  · have hle : U ≤ D := by simp only [decide_eq_true_eq] at g; omega
    have hmin : D < B128 := by simp only [B128]; omega
    have m1 : (D - U + (D - U)) % B128 = 2 * (D - U) := by simp only [B128]; omega
    have m2 : (2 * (D - U) + A) % B128 = 2 * (D - U) + A := by simp only [B128]; omega
    have m3 : (A + A) % B128 = 2 * A := by simp only [B128]; omega
    simp only [g, t2, t3, t5, t6, t7, t14, t15, c65 D U hmin hle, wd_length, wd_flat, wd_take, wd_drop, blk, go_sem, bin_add, bin_sub, bin_mul, Nat.reduceAdd, Nat.reduceMul, Nat.reduceEqDiff, Nat.reduceLeDiff, Nat.reduceLT, Nat.reduceSub, reduceIte, reduceCtorEq, Int.reduceToNat, Int.reduceNeg, Int.reduceLE, Int.reduceLT, Int.reduceEq, Nat.reduceOr, Nat.reduceShiftRight, Nat.reduceMod, Nat.reduceBNe, Nat.reduceBEq]
    refine X_drawE 0 (by rfl) ?_
    simp only [g, t2, t3, t5, t6, t7, t14, t15, c63, m1, m2, wd_length, wd_flat, wd_take, wd_drop, veq_wd, blk, go_sem, bin_add, bin_sub, bin_mul, Nat.reduceAdd, Nat.reduceMul, Nat.reduceEqDiff, Nat.reduceLeDiff, Nat.reduceLT, Nat.reduceSub, reduceIte, reduceCtorEq, Int.reduceToNat, Int.reduceNeg, Int.reduceLE, Int.reduceLT, Int.reduceEq, Nat.reduceOr, Nat.reduceShiftRight, Nat.reduceMod, Nat.reduceBNe, Nat.reduceBEq]
    have hb : bitsF (2 * (D - U) + A) (2 * A) 33 0 = (2 * (D - U) + A) / (2 * A) := by
      refine bitsF_eq _ _ (by omega) (by simp only [B128]; omega) 33 0 (by omega) (by omega) (Nat.zero_le _) ?_ (by omega)
      rw [Nat.div_lt_iff_lt_mul (by omega)]; omega
    have hq : (2 * (D - U) + A) / (2 * A) < 8589934592 := by rw [Nat.div_lt_iff_lt_mul (by omega)]; omega
    simp only [g, t2, t3, t5, t6, t7, t14, t15, c63, m3, wd_length, wd_flat, wd_take, wd_drop, veq_wd, blk, go_sem, bin_add, bin_sub, bin_mul, Nat.reduceAdd, Nat.reduceMul, Nat.reduceEqDiff, Nat.reduceLeDiff, Nat.reduceLT, Nat.reduceSub, reduceIte, reduceCtorEq, Int.reduceToNat, Int.reduceNeg, Int.reduceLE, Int.reduceLT, Int.reduceEq, Nat.reduceOr, Nat.reduceShiftRight, Nat.reduceMod, Nat.reduceBNe, Nat.reduceBEq]
    refine loop50b (ext H.now _) (2 * (D - U) + A) (2 * A) (H.now.nx + (G.length + 1 + 1 + 1 + 1 + 1)) (H.now.nx + 4) ?_ ?_ (.bool true) ((2 * (D - U) + A) / (2 * A)) ?_ 33 0 (by omega) (by omega) hb _ ?_ ?_ ?_ ?_ ?_
    · simp only [wd_length, wd_take, go_sem, bin_add, bin_sub, bin_mul, Nat.reduceAdd, Nat.reduceMul, Nat.reduceEqDiff, Nat.reduceLeDiff, Nat.reduceLT, Nat.reduceSub, reduceIte, reduceCtorEq, Int.reduceToNat, Int.reduceNeg, Int.reduceLE, Int.reduceLT, Int.reduceEq, Nat.reduceOr, Nat.reduceShiftRight, Nat.reduceMod, Nat.reduceBNe, Nat.reduceBEq]
    · simp only [wd_length, wd_take, go_sem, bin_add, bin_sub, bin_mul, Nat.reduceAdd, Nat.reduceMul, Nat.reduceEqDiff, Nat.reduceLeDiff, Nat.reduceLT, Nat.reduceSub, reduceIte, reduceCtorEq, Int.reduceToNat, Int.reduceNeg, Int.reduceLE, Int.reduceLT, Int.reduceEq, Nat.reduceOr, Nat.reduceShiftRight, Nat.reduceMod, Nat.reduceBNe, Nat.reduceBEq]
    · intro fr' u10 u12
      simp only [u10, u12, c66, w64_id (n := (((2 * (D - U) + A) / (2 * A) : Nat) : Int)) (by omega) (by omega), w64_id (n := -(((2 * (D - U) + A) / (2 * A) : Nat) : Int)) (by omega) (by omega), go_sem, bin_add, bin_sub, bin_mul, Nat.reduceAdd, Nat.reduceMul, Nat.reduceEqDiff, Nat.reduceLeDiff, Nat.reduceLT, Nat.reduceSub, reduceIte, reduceCtorEq, Int.reduceToNat, Int.reduceNeg, Int.reduceLE, Int.reduceLT, Int.reduceEq, Nat.reduceOr, Nat.reduceShiftRight, Nat.reduceMod, Nat.reduceBNe, Nat.reduceBEq]
      simp only [decide_eq_true_eq, decide_eq_false_iff_not] at g
      unfold nearU
      simp only [g, reduceIte]
    all_goals simp only [t7, go_sem, bin_add, bin_sub, bin_mul, Nat.reduceAdd, Nat.reduceMul, Nat.reduceEqDiff, Nat.reduceLeDiff, Nat.reduceLT, Nat.reduceSub, reduceIte, reduceCtorEq, Int.reduceToNat, Int.reduceNeg, Int.reduceLE, Int.reduceLT, Int.reduceEq, Nat.reduceOr, Nat.reduceShiftRight, Nat.reduceMod, Nat.reduceBNe, Nat.reduceBEq]
    all_goals rfl
  · have hle : D ≤ U := by simp only [decide_eq_false_iff_not] at g; omega
    have hmin : U < B128 := by simp only [B128]; omega
    have m1 : (U - D + (U - D)) % B128 = 2 * (U - D) := by simp only [B128]; omega
    have m2 : (2 * (U - D) + A) % B128 = 2 * (U - D) + A := by simp only [B128]; omega
    have m3 : (A + A) % B128 = 2 * A := by simp only [B128]; omega
    simp only [g, t2, t3, t5, t6, t7, t14, t15, c65 U D hmin hle, wd_length, wd_flat, wd_take, wd_drop, blk, go_sem, bin_add, bin_sub, bin_mul, Nat.reduceAdd, Nat.reduceMul, Nat.reduceEqDiff, Nat.reduceLeDiff, Nat.reduceLT, Nat.reduceSub, reduceIte, reduceCtorEq, Int.reduceToNat, Int.reduceNeg, Int.reduceLE, Int.reduceLT, Int.reduceEq, Nat.reduceOr, Nat.reduceShiftRight, Nat.reduceMod, Nat.reduceBNe, Nat.reduceBEq]
    refine X_drawE 0 (by rfl) ?_
    simp only [g, t2, t3, t5, t6, t7, t14, t15, c63, m1, m2, wd_length, wd_flat, wd_take, wd_drop, veq_wd, blk, go_sem, bin_add, bin_sub, bin_mul, Nat.reduceAdd, Nat.reduceMul, Nat.reduceEqDiff, Nat.reduceLeDiff, Nat.reduceLT, Nat.reduceSub, reduceIte, reduceCtorEq, Int.reduceToNat, Int.reduceNeg, Int.reduceLE, Int.reduceLT, Int.reduceEq, Nat.reduceOr, Nat.reduceShiftRight, Nat.reduceMod, Nat.reduceBNe, Nat.reduceBEq]
    have hb : bitsF (2 * (U - D) + A) (2 * A) 33 0 = (2 * (U - D) + A) / (2 * A) := by
      refine bitsF_eq _ _ (by omega) (by simp only [B128]; omega) 33 0 (by omega) (by omega) (Nat.zero_le _) ?_ (by omega)
      rw [Nat.div_lt_iff_lt_mul (by omega)]; omega
    have hq : (2 * (U - D) + A) / (2 * A) < 8589934592 := by rw [Nat.div_lt_iff_lt_mul (by omega)]; omega
    simp only [g, t2, t3, t5, t6, t7, t14, t15, c63, m3, wd_length, wd_flat, wd_take, wd_drop, veq_wd, blk, go_sem, bin_add, bin_sub, bin_mul, Nat.reduceAdd, Nat.reduceMul, Nat.reduceEqDiff, Nat.reduceLeDiff, Nat.reduceLT, Nat.reduceSub, reduceIte, reduceCtorEq, Int.reduceToNat, Int.reduceNeg, Int.reduceLE, Int.reduceLT, Int.reduceEq, Nat.reduceOr, Nat.reduceShiftRight, Nat.reduceMod, Nat.reduceBNe, Nat.reduceBEq]
    refine loop50b (ext H.now _) (2 * (U - D) + A) (2 * A) (H.now.nx + (G.length + 1 + 1 + 1 + 1 + 1)) (H.now.nx + 4) ?_ ?_ (.bool false) ((2 * (U - D) + A) / (2 * A)) ?_ 33 0 (by omega) (by omega) hb _ ?_ ?_ ?_ ?_ ?_
    · simp only [wd_length, wd_take, go_sem, bin_add, bin_sub, bin_mul, Nat.reduceAdd, Nat.reduceMul, Nat.reduceEqDiff, Nat.reduceLeDiff, Nat.reduceLT, Nat.reduceSub, reduceIte, reduceCtorEq, Int.reduceToNat, Int.reduceNeg, Int.reduceLE, Int.reduceLT, Int.reduceEq, Nat.reduceOr, Nat.reduceShiftRight, Nat.reduceMod, Nat.reduceBNe, Nat.reduceBEq]
    · simp only [wd_length, wd_take, go_sem, bin_add, bin_sub, bin_mul, Nat.reduceAdd, Nat.reduceMul, Nat.reduceEqDiff, Nat.reduceLeDiff, Nat.reduceLT, Nat.reduceSub, reduceIte, reduceCtorEq, Int.reduceToNat, Int.reduceNeg, Int.reduceLE, Int.reduceLT, Int.reduceEq, Nat.reduceOr, Nat.reduceShiftRight, Nat.reduceMod, Nat.reduceBNe, Nat.reduceBEq]
    · intro fr' u10 u12
      simp only [u10, u12, c66, w64_id (n := (((2 * (U - D) + A) / (2 * A) : Nat) : Int)) (by omega) (by omega), w64_id (n := -(((2 * (U - D) + A) / (2 * A) : Nat) : Int)) (by omega) (by omega), go_sem, bin_add, bin_sub, bin_mul, Nat.reduceAdd, Nat.reduceMul, Nat.reduceEqDiff, Nat.reduceLeDiff, Nat.reduceLT, Nat.reduceSub, reduceIte, reduceCtorEq, Int.reduceToNat, Int.reduceNeg, Int.reduceLE, Int.reduceLT, Int.reduceEq, Nat.reduceOr, Nat.reduceShiftRight, Nat.reduceMod, Nat.reduceBNe, Nat.reduceBEq]
      simp only [decide_eq_true_eq, decide_eq_false_iff_not] at g
      unfold nearU
      simp only [g, reduceIte]
    all_goals simp only [t7, go_sem, bin_add, bin_sub, bin_mul, Nat.reduceAdd, Nat.reduceMul, Nat.reduceEqDiff, Nat.reduceLeDiff, Nat.reduceLT, Nat.reduceSub, reduceIte, reduceCtorEq, Int.reduceToNat, Int.reduceNeg, Int.reduceLE, Int.reduceLT, Int.reduceEq, Nat.reduceOr, Nat.reduceShiftRight, Nat.reduceMod, Nat.reduceBNe, Nat.reduceBEq]
    all_goals rfl
end
end Go.AX.Tri
