/- Contracts: the number nearest to numbers, weighted. -/
import Derived.Test.YthhgeodgfbhkdaaWc
set_option linter.unusedVariables false
set_option linter.unusedSimpArgs false
set_option linter.unusedSectionVars false
namespace Go.AX.Tri
open Go.Proofs Go.AX.Mc
set_option linter.unusedSimpArgs false
set_option linter.unusedVariables false
noncomputable section

theorem u64_neg (l : Int) (h : l < 0) (h2 : -2147483648 ≤ l) : wrapF .u64 (wrapF .i64 (-(wrapF .i64 l))) = ((l.natAbs : Nat) : Int) := by
  rw [w64_id (n := l) (by omega) (by omega), w64_id (n := -l) (by omega) (by omega), show -l = (l.natAbs : Int) by omega, w_u64]
  congr 1; omega
theorem u64_pos (l : Int) (h : 0 ≤ l) (h2 : l < 2147483648) : wrapF .u64 l = ((l.natAbs : Nat) : Int) := by
  rw [show l = (l.natAbs : Int) by omega, w_u64]
  congr 1; omega

abbrev blk (l : List Value) : Option AB := some (.cells l 0 0)

theorem wd_length (N : Nat) : (wd N).length = 2 := rfl
theorem w64_succ (i : Nat) (h : i < 1000000000) : wrapF .i64 ((i : Int) + 1) = ((i + 1 : Nat) : Int) := by rw [w64_id (by omega) (by omega)]; omega
theorem wd_take (N : Nat) : (wd N).take 2 = wd N := rfl
theorem wd_drop (N : Nat) : (wd N).drop 2 = [] := rfl
theorem veq_wd (N : Nat) : ((wd N).zip (wd N)).all (fun x => veq 5 x.1 x.2) = true := by simp only [wd, List.zip_cons_cons, List.zip_nil_right, List.all_cons, List.all_nil, veq_int]; rfl
theorem wd_flat (N : Nat) : (wd N).all flat = true := rfl
theorem step50 {env : List Lp} {k : List KF} {Q : QF} (H : AH) (wcs lcs : List Value) (i N U D A : Nat) (l : Int) (hi : i < 3) (hl1 : -2147483648 ≤ l) (hl2 : l < 2147483648)
    (hN : (wcs.drop (i * 2)).take 2 = wd N) (hl : (lcs.drop (i * 1)).take 1 = [.int .i32 l]) (hL : lcs.length = 3)
    (fr : Tr Value) (G : List (Option AB))
    (t2 : tmp fr (pa 2) = .pointer (some ⟨H.now.nx, 0, none⟩)) (t3 : tmp fr (pa 3) = .pointer (some ⟨H.now.nx + 1, 0, none⟩)) (t5 : tmp fr (pa 5) = .pointer (some ⟨H.now.nx + 2, 0, none⟩))
    (t6 : tmp fr (pa 6) = .pointer (some ⟨H.now.nx + 3, 0, none⟩)) (t7 : tmp fr (pa 7) = .pointer (some ⟨H.now.nx + 4, 0, none⟩)) (t14 : tmp fr (pa 14) = .agg wcs.toArray) (t15 : tmp fr (pa 15) = .int .i64 (i : Int))
    (hQ : ∀ fr' G', tmp fr' (pa 2) = .pointer (some ⟨H.now.nx, 0, none⟩) → tmp fr' (pa 3) = .pointer (some ⟨H.now.nx + 1, 0, none⟩) → tmp fr' (pa 5) = .pointer (some ⟨H.now.nx + 2, 0, none⟩) →
      tmp fr' (pa 6) = .pointer (some ⟨H.now.nx + 3, 0, none⟩) → tmp fr' (pa 7) = .pointer (some ⟨H.now.nx + 4, 0, none⟩) → tmp fr' (pa 14) = .agg wcs.toArray → tmp fr' (pa 15) = .int .i64 ((i + 1 : Nat) : Int) →
      X T env false (.loop a50l1) k fr' [] (ext H.now (blk wcs :: blk lcs :: blk (wd (if l < 0 then U else (U + N * l.natAbs % B128) % B128)) :: blk (wd (if l < 0 then (D + N * l.natAbs % B128) % B128 else D)) :: blk (wd ((A + N) % B128)) :: G')) Q) :
    X T env false (.loop a50l1) k fr [] (ext H.now (blk wcs :: blk lcs :: blk (wd U) :: blk (wd D) :: blk (wd A) :: G)) Q := by
  have hi1 : i * 1 + 1 ≤ lcs.length := by omega
  have hi3 : (i : Int) < 3 := by omega
  rw [X_loop]
  change X _ _ _ (.seq _ _) _ _ _ _ _
  simp only [t2, t3, t5, t6, t7, t14, t15, hi, hi3, hi1, hN, hl, wd_length, wd_flat, wd_take, wd_drop, c63, blk, go_sem, bin_add, bin_sub, bin_mul, Nat.reduceAdd, Nat.reduceMul, Nat.reduceEqDiff, Nat.reduceLeDiff, Nat.reduceLT, Nat.reduceSub, reduceIte, reduceCtorEq, Int.reduceToNat, Int.reduceNeg, Int.reduceLE, Int.reduceLT, Int.reduceEq, Nat.reduceOr, Nat.reduceShiftRight, Nat.reduceMod, Nat.reduceBNe, Nat.reduceBEq]
  refine Cd_split ?_ ?_ <;> intro g
  · simp only [decide_eq_true_eq] at g
    have hb : l.natAbs < B64 := by simp only [B64]; omega
    refine X_drawE 0 (by rfl) ?_
    simp only [t2, t3, t5, t6, t7, t14, t15, hi, hi3, hi1, hN, hl, u64_neg l g hl1, c48 _ _ hb, c63, wd_length, wd_flat, wd_take, wd_drop, veq_wd, blk, go_sem, bin_add, bin_sub, bin_mul, Nat.reduceAdd, Nat.reduceMul, Nat.reduceEqDiff, Nat.reduceLeDiff, Nat.reduceLT, Nat.reduceSub, reduceIte, reduceCtorEq, Int.reduceToNat, Int.reduceNeg, Int.reduceLE, Int.reduceLT, Int.reduceEq, Nat.reduceOr, Nat.reduceShiftRight, Nat.reduceMod, Nat.reduceBNe, Nat.reduceBEq]
    simp only [g, reduceIte] at hQ
    refine hQ _ _ ?_ ?_ ?_ ?_ ?_ ?_ ?_ <;> simp only [t2, t3, t5, t6, t7, t14, t15, w64_succ i (by omega), go_sem, bin_add, bin_sub, bin_mul, Nat.reduceAdd, Nat.reduceMul, Nat.reduceEqDiff, Nat.reduceLeDiff, Nat.reduceLT, Nat.reduceSub, reduceIte, reduceCtorEq, Int.reduceToNat, Int.reduceNeg, Int.reduceLE, Int.reduceLT, Int.reduceEq, Nat.reduceOr, Nat.reduceShiftRight, Nat.reduceMod, Nat.reduceBNe, Nat.reduceBEq]
  · simp only [decide_eq_false_iff_not] at g
    have hb : l.natAbs < B64 := by simp only [B64]; omega
    refine X_drawE 0 (by rfl) ?_
    simp only [t2, t3, t5, t6, t7, t14, t15, hi, hi3, hi1, hN, hl, u64_pos l (by omega) hl2, c48 _ _ hb, c63, wd_length, wd_flat, wd_take, wd_drop, veq_wd, blk, go_sem, bin_add, bin_sub, bin_mul, Nat.reduceAdd, Nat.reduceMul, Nat.reduceEqDiff, Nat.reduceLeDiff, Nat.reduceLT, Nat.reduceSub, reduceIte, reduceCtorEq, Int.reduceToNat, Int.reduceNeg, Int.reduceLE, Int.reduceLT, Int.reduceEq, Nat.reduceOr, Nat.reduceShiftRight, Nat.reduceMod, Nat.reduceBNe, Nat.reduceBEq]
    simp only [g, reduceIte] at hQ
    refine hQ _ _ ?_ ?_ ?_ ?_ ?_ ?_ ?_ <;> simp only [t2, t3, t5, t6, t7, t14, t15, w64_succ i (by omega), go_sem, bin_add, bin_sub, bin_mul, Nat.reduceAdd, Nat.reduceMul, Nat.reduceEqDiff, Nat.reduceLeDiff, Nat.reduceLT, Nat.reduceSub, reduceIte, reduceCtorEq, Int.reduceToNat, Int.reduceNeg, Int.reduceLE, Int.reduceLT, Int.reduceEq, Nat.reduceOr, Nat.reduceShiftRight, Nat.reduceMod, Nat.reduceBNe, Nat.reduceBEq]

/-! ## Bit by bit -/
/-- the greatest number of j bits more, all times which is not above top. -/
def bitsF (top all : Nat) : Nat → Nat → Nat
  | 0, n => n
  | j + 1, n => bitsF top all j (if top < all * (n ||| 2 ^ j) % B128 then n else n ||| 2 ^ j)

def bitv (j : Nat) : Nat := 2 ^ j / 2
theorem bitv_succ (j : Nat) : bitv (j + 1) = 2 ^ j := by unfold bitv; rw [Nat.pow_succ]; omega
theorem or_lt {n m : Nat} (h : n < 8589934592) (k : m < 8589934592) : n ||| m < 8589934592 := Nat.or_lt_two_pow (n := 33) h k

theorem loop50b {env : List Lp} {k : List KF} {Q : QF} (h : AH) (top all bt bl : Nat) (ht : rd h bt 0 2 = some (wd top)) (hl : rd h bl 0 2 = some (wd all)) (v10 : Value) (N : Nat)
    (hQ : ∀ fr', tmp fr' (pa 10) = v10 → tmp fr' (pa 12) = .int .u64 (N : Int) → Kt T env false k .normal fr' [] h Q) :
    ∀ (j n : Nat), j ≤ 33 → n < 8589934592 → bitsF top all j n = N → ∀ fr, tmp fr (pa 7) = .pointer (some ⟨bl, 0, none⟩) → tmp fr (pa 11) = .pointer (some ⟨bt, 0, none⟩) → tmp fr (pa 10) = v10 →
      tmp fr (pa 12) = .int .u64 (n : Int) → tmp fr (pa 13) = .int .u64 (bitv j : Int) → X T env false (.loop a50l0) (.blk 2 :: k) fr [] h Q := by
  intro j
  induction j with
  | zero =>
    intro n _ _ hN fr t7 t11 t10 t12 t13
    rw [X_loop]
    change X _ _ _ (.seq _ _) _ _ _ _ _
    simp only [t7, t11, t12, t13, show (bitv 0 : Int) = 0 from rfl, go_sem, bin_add, bin_sub, bin_mul, Nat.reduceAdd, Nat.reduceMul, Nat.reduceEqDiff, Nat.reduceLeDiff, Nat.reduceLT, Nat.reduceSub, reduceIte, reduceCtorEq, Int.reduceToNat, Int.reduceNeg, Int.reduceLE, Int.reduceLT, Int.reduceEq, Nat.reduceOr, Nat.reduceShiftRight, Nat.reduceMod, Nat.reduceBNe, Nat.reduceBEq]
    refine hQ _ ?_ ?_ <;> simp only [t10, t12, ← hN, go_sem, bin_add, bin_sub, bin_mul, Nat.reduceAdd, Nat.reduceMul, Nat.reduceEqDiff, Nat.reduceLeDiff, Nat.reduceLT, Nat.reduceSub, reduceIte, reduceCtorEq, Int.reduceToNat, Int.reduceNeg, Int.reduceLE, Int.reduceLT, Int.reduceEq, Nat.reduceOr, Nat.reduceShiftRight, Nat.reduceMod, Nat.reduceBNe, Nat.reduceBEq]
    rfl
  | succ j ih =>
    intro n hj hn hN fr t7 t11 t10 t12 t13
    have hp : 2 ^ j < 8589934592 := Nat.pow_lt_pow_right (by omega) (show j < 33 by omega)
    have hp0 : 0 < 2 ^ j := Nat.pow_pos (by omega)
    have hor := or_lt hn hp
    have hpos : (0 : Int) < ((2 ^ j : Nat) : Int) := by exact_mod_cast hp0
    have hm1 : n % B64 = n := Nat.mod_eq_of_lt (by simp only [B64]; omega)
    have hm2 : 2 ^ j % B64 = 2 ^ j := Nat.mod_eq_of_lt (by simp only [B64]; omega)
    have hb : n ||| 2 ^ j < B64 := by simp only [B64]; omega
    rw [bitv_succ] at t13
    rw [X_loop]
    change X _ _ _ (.seq _ _) _ _ _ _ _
    simp only [t7, t11, t12, t13, hpos, go_sem, bin_add, bin_sub, bin_mul, Nat.reduceAdd, Nat.reduceMul, Nat.reduceEqDiff, Nat.reduceLeDiff, Nat.reduceLT, Nat.reduceSub, reduceIte, reduceCtorEq, Int.reduceToNat, Int.reduceNeg, Int.reduceLE, Int.reduceLT, Int.reduceEq, Nat.reduceOr, Nat.reduceShiftRight, Nat.reduceMod, Nat.reduceBNe, Nat.reduceBEq]
    refine X_draw0 (by rfl) ?_
    simp only [t7, t11, t12, t13, hpos, ht, hl, u_or, hm1, hm2, c48 _ _ hb, c64, wd_length, wd_flat, wd_take, wd_drop, veq_wd, go_sem, bin_add, bin_sub, bin_mul, Nat.reduceAdd, Nat.reduceMul, Nat.reduceEqDiff, Nat.reduceLeDiff, Nat.reduceLT, Nat.reduceSub, reduceIte, reduceCtorEq, Int.reduceToNat, Int.reduceNeg, Int.reduceLE, Int.reduceLT, Int.reduceEq, Nat.reduceOr, Nat.reduceShiftRight, Nat.reduceMod, Nat.reduceBNe, Nat.reduceBEq]
    rw [bitsF] at hN
    refine Cd_split ?_ ?_ <;> intro g
    · simp only [Bool.not_eq_true', decide_eq_false_iff_not] at g
      rw [if_neg g] at hN
      simp only [t7, t11, t12, t13, u_or, u_shr1, hm1, hm2, go_sem, bin_add, bin_sub, bin_mul, Nat.reduceAdd, Nat.reduceMul, Nat.reduceEqDiff, Nat.reduceLeDiff, Nat.reduceLT, Nat.reduceSub, reduceIte, reduceCtorEq, Int.reduceToNat, Int.reduceNeg, Int.reduceLE, Int.reduceLT, Int.reduceEq, Nat.reduceOr, Nat.reduceShiftRight, Nat.reduceMod, Nat.reduceBNe, Nat.reduceBEq]
      refine ih _ (by omega) hor hN _ ?_ ?_ ?_ ?_ ?_ <;> simp only [t7, t10, t11, t12, t13, go_sem, bin_add, bin_sub, bin_mul, Nat.reduceAdd, Nat.reduceMul, Nat.reduceEqDiff, Nat.reduceLeDiff, Nat.reduceLT, Nat.reduceSub, reduceIte, reduceCtorEq, Int.reduceToNat, Int.reduceNeg, Int.reduceLE, Int.reduceLT, Int.reduceEq, Nat.reduceOr, Nat.reduceShiftRight, Nat.reduceMod, Nat.reduceBNe, Nat.reduceBEq]
      rfl
    · simp only [Bool.not_eq_false', decide_eq_true_eq] at g
      rw [if_pos g] at hN
      simp only [t7, t11, t12, t13, u_or, u_shr1, hm1, hm2, go_sem, bin_add, bin_sub, bin_mul, Nat.reduceAdd, Nat.reduceMul, Nat.reduceEqDiff, Nat.reduceLeDiff, Nat.reduceLT, Nat.reduceSub, reduceIte, reduceCtorEq, Int.reduceToNat, Int.reduceNeg, Int.reduceLE, Int.reduceLT, Int.reduceEq, Nat.reduceOr, Nat.reduceShiftRight, Nat.reduceMod, Nat.reduceBNe, Nat.reduceBEq]
      refine ih _ (by omega) hn hN _ ?_ ?_ ?_ ?_ ?_ <;> simp only [t7, t10, t11, t12, t13, go_sem, bin_add, bin_sub, bin_mul, Nat.reduceAdd, Nat.reduceMul, Nat.reduceEqDiff, Nat.reduceLeDiff, Nat.reduceLT, Nat.reduceSub, reduceIte, reduceCtorEq, Int.reduceToNat, Int.reduceNeg, Int.reduceLE, Int.reduceLT, Int.reduceEq, Nat.reduceOr, Nat.reduceShiftRight, Nat.reduceMod, Nat.reduceBNe, Nat.reduceBEq]
      rfl
end
end Go.AX.Tri
