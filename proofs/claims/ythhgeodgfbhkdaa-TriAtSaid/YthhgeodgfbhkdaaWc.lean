/- Contracts: numbers of two words; Raw, Div. -/
import Derived.Test.YthhgeodgfbhkdaaWa
set_option linter.unusedVariables false
set_option linter.unusedSimpArgs false
set_option linter.unusedSectionVars false
namespace Go.AX.Tri
open Go.Proofs Go.AX.Mc
set_option linter.unusedSimpArgs false
set_option linter.unusedVariables false
noncomputable section

/-! ## Numbers of a kind -/
abbrev B64 : Nat := 18446744073709551616
abbrev B128 : Nat := 340282366920938463463374607431768211456
theorem w_u64 (n : Nat) : wrapF .u64 (n : Int) = ((n % 18446744073709551616 : Nat) : Int) := by
  show (n : Int) % 18446744073709551616 = _
  omega
theorem and_u64 (a b : Nat) : wrapF .u64 ((BitVec.ofInt 64 (a : Int) &&& BitVec.ofInt 64 (b : Int)).toNat : Int) = (((a % B64) &&& (b % B64) : Nat) : Int) := by
  rw [w_u64]
  simp only [BitVec.ofInt_natCast, BitVec.toNat_and, BitVec.toNat_ofNat]
  congr 1
  exact Nat.mod_eq_of_lt (Nat.and_lt_two_pow (n := 64) _ (Nat.mod_lt _ (by decide)))
theorem or_u64 (a b : Nat) : wrapF .u64 ((BitVec.ofInt 64 (a : Int) ||| BitVec.ofInt 64 (b : Int)).toNat : Int) = (((a % B64) ||| (b % B64) : Nat) : Int) := by
  rw [w_u64]
  simp only [BitVec.ofInt_natCast, BitVec.toNat_or, BitVec.toNat_ofNat]
  congr 1
  exact Nat.mod_eq_of_lt (Nat.or_lt_two_pow (n := 64) (Nat.mod_lt _ (by decide)) (Nat.mod_lt _ (by decide)))
theorem fdiv_nat (a k : Nat) : ((a : Int).fdiv (2 ^ k)) = ((a / 2 ^ k : Nat) : Int) := by
  rw [Int.fdiv_eq_ediv_of_nonneg _ (by exact_mod_cast Nat.zero_le _)]
  norm_cast
theorem mask32 (a : Nat) : a &&& 4294967295 = a % 4294967296 := Nat.and_two_pow_sub_one_eq_mod a 32

section
variable (H : AH) (ty : TypeId) (ox oy : Operand) (nk : Option NilK) (a b : Nat)
theorem u_add : aBin Try.prog .add ty ox oy nk (.int .u64 a) (.int .u64 b) H = some (.val (.int .u64 (((a + b) % B64 : Nat) : Int)) H) := by rw [bin_add, ← w_u64]; rfl
theorem u_mul : aBin Try.prog .mul ty ox oy nk (.int .u64 a) (.int .u64 b) H = some (.val (.int .u64 (((a * b) % B64 : Nat) : Int)) H) := by rw [bin_mul, ← w_u64]; rfl
theorem u_and : aBin Try.prog .and ty ox oy nk (.int .u64 a) (.int .u64 b) H = some (.val (.int .u64 (((a % B64) &&& (b % B64) : Nat) : Int)) H) := by rw [bin_and, ← and_u64]; rfl
theorem u_and32 : aBin Try.prog .and ty ox oy nk (.int .u64 a) (.int .u64 4294967295) H = some (.val (.int .u64 ((a % 4294967296 : Nat) : Int)) H) := by
  rw [show (4294967295 : Int) = ((4294967295 : Nat) : Int) from rfl, u_and, show (4294967295 : Nat) % B64 = 4294967295 from rfl, mask32, Nat.mod_mod_of_dvd _ (by decide)]
theorem u_or : aBin Try.prog .or ty ox oy nk (.int .u64 a) (.int .u64 b) H = some (.val (.int .u64 (((a % B64) ||| (b % B64) : Nat) : Int)) H) := by rw [bin_or, ← or_u64]; rfl
theorem u_shr32 : aBin Try.prog .shr ty ox oy nk (.int .u64 a) (.int .u64 32) H = some (.val (.int .u64 ((a / 4294967296 : Nat) : Int)) H) := by
  rw [bin_shr32, show min 32 IntKind.u64.bits = 32 from rfl, fdiv_nat]
theorem u_shr1 : aBin Try.prog .shr ty ox oy nk (.int .u64 a) (.int .u64 1) H = some (.val (.int .u64 ((a / 2 : Nat) : Int)) H) := by
  rw [bin_shr1, show min 1 IntKind.u64.bits = 1 from rfl, fdiv_nat]
end

/-! ## The high word of a product -/
theorem mul64_hi (x y : Nat) (hx : x < B64) (hy : y < B64) :
    ((x / 4294967296 * (y / 4294967296) % B64 + (x / 4294967296 * (y % 4294967296) % B64 + x % 4294967296 * (y % 4294967296) % B64 / 4294967296) % B64 / 4294967296) % B64 +
      ((x / 4294967296 * (y % 4294967296) % B64 + x % 4294967296 * (y % 4294967296) % B64 / 4294967296) % B64 % 4294967296 + x % 4294967296 * (y / 4294967296) % B64) % B64 / 4294967296) % B64 = x * y / B64 := by
  have ex : x = x / 4294967296 * 4294967296 + x % 4294967296 := by omega
  have ey : y = y / 4294967296 * 4294967296 + y % 4294967296 := by omega
  have ha : x / 4294967296 < 4294967296 := by unfold B64 at hx; omega
  have hc : y / 4294967296 < 4294967296 := by unfold B64 at hy; omega
  have hb : x % 4294967296 < 4294967296 := by omega
  have hd : y % 4294967296 < 4294967296 := by omega
  generalize x / 4294967296 = a at *
  generalize x % 4294967296 = b at *
  generalize y / 4294967296 = c at *
  generalize y % 4294967296 = d at *
  have e : x * y = a * c * B64 + (a * d + b * c) * 4294967296 + b * d := by rw [ex, ey]; unfold B64; grind
  rw [e]
  have h1 : a * c ≤ 4294967295 * 4294967295 := Nat.mul_le_mul (by omega) (by omega)
  have h2 : a * d ≤ 4294967295 * 4294967295 := Nat.mul_le_mul (by omega) (by omega)
  have h3 : b * c ≤ 4294967295 * 4294967295 := Nat.mul_le_mul (by omega) (by omega)
  have h4 : b * d ≤ 4294967295 * 4294967295 := Nat.mul_le_mul (by omega) (by omega)
  generalize a * c = p at *
  generalize a * d = q at *
  generalize b * c = r at *
  generalize b * d = s at *
  unfold B64
  omega

theorem c62 {env : List Lp} (x y : Nat) (hx : x < B64) (hy : y < B64) (H : AH) (Q : AEnd → AH → Prop) : C T env 62 [.int .u64 x, .int .u64 y] H Q = Q (.ret (.tuple #[.int .u64 ((x * y / B64 : Nat) : Int), .int .u64 ((x * y % B64 : Nat) : Int)])) H := by
  refine C_det ?_ Q
  rw [C_fn T62 rfl]
  simp only [a62, u_add, u_mul, u_and32, u_shr32, go_sem, Nat.reduceAdd, Nat.reduceMul, Nat.reduceEqDiff, Nat.reduceLeDiff, Nat.reduceLT, Nat.reduceSub, reduceIte, reduceCtorEq, Int.reduceToNat, Int.reduceNeg, Int.reduceLE, Int.reduceLT, Int.reduceEq, Nat.reduceOr, Nat.reduceShiftRight, Nat.reduceMod, Nat.reduceBNe, Nat.reduceBEq]
  rw [mul64_hi x y hx hy]

/-! ## Numbers of two words -/
def wd (n : Nat) : List Value := [.int .u64 ((n / B64 : Nat) : Int), .int .u64 ((n % B64 : Nat) : Int)]

theorem wd_eq {a b N : Nat} (ha : a = N / B64) (hb : b = N % B64) : AEnd.ret (.agg #[.int .u64 (a : Int), .int .u64 (b : Int)]) = AEnd.ret (.agg #[.int .u64 ((N / B64 : Nat) : Int), .int .u64 ((N % B64 : Nat) : Int)]) := by rw [ha, hb]
theorem wide_t1 (p q : Nat) : (q / 18446744073709551616 + p % 18446744073709551616) % 18446744073709551616 = (p * 18446744073709551616 + q) % 340282366920938463463374607431768211456 / 18446744073709551616 := by omega
theorem wide_t2 (p q : Nat) : q % 18446744073709551616 = (p * 18446744073709551616 + q) % 340282366920938463463374607431768211456 % 18446744073709551616 := by omega
theorem c48 {env : List Lp} (N n : Nat) (hn : n < B64) (H : AH) (Q : AEnd → AH → Prop) : C T env 48 [.agg (wd N).toArray, .int .u64 n] H Q = Q (.ret (.agg (wd (N * n % B128)).toArray)) H := by
  refine C_det ?_ Q
  rw [C_fn T48 rfl]
  simp only [a48, wd, u_add, u_mul, c62 _ _ (Nat.mod_lt N (show 0 < B64 by decide)) hn, go_sem, Nat.reduceAdd, Nat.reduceMul, Nat.reduceEqDiff, Nat.reduceLeDiff, Nat.reduceLT, Nat.reduceSub, reduceIte, reduceCtorEq, Int.reduceToNat, Int.reduceNeg, Int.reduceLE, Int.reduceLT, Int.reduceEq, Nat.reduceOr, Nat.reduceShiftRight, Nat.reduceMod, Nat.reduceBNe, Nat.reduceBEq]
  have e : N * n = N / B64 * n * 18446744073709551616 + N % B64 * n := by
    have : N = N / B64 * 18446744073709551616 + N % B64 := by simp only [B64]; omega
    generalize N / B64 = a at *
    generalize N % B64 = b at *
    rw [this]; grind
  rw [e]
  exact wd_eq (wide_t1 _ _) (wide_t2 _ _)
theorem c64 {env : List Lp} (N M : Nat) (H : AH) (Q : AEnd → AH → Prop) : C T env 64 [.agg (wd N).toArray, .agg (wd M).toArray] H Q = Q (.ret (.bool (decide (N < M)))) H := by
  refine C_det ?_ Q
  rw [C_fn T64 rfl]
  simp only [a64, wd, go_sem, bin_add, bin_sub, bin_mul, Nat.reduceAdd, Nat.reduceMul, Nat.reduceEqDiff, Nat.reduceLeDiff, Nat.reduceLT, Nat.reduceSub, reduceIte, reduceCtorEq, Int.reduceToNat, Int.reduceNeg, Int.reduceLE, Int.reduceLT, Int.reduceEq, Nat.reduceOr, Nat.reduceShiftRight, Nat.reduceMod, Nat.reduceBNe, Nat.reduceBEq]
  refine Gd_split ?_ ?_ <;> intro h1 <;> simp only [h1, go_sem, bin_add, bin_sub, bin_mul, Nat.reduceAdd, Nat.reduceMul, Nat.reduceEqDiff, Nat.reduceLeDiff, Nat.reduceLT, Nat.reduceSub, reduceIte, reduceCtorEq, Int.reduceToNat, Int.reduceNeg, Int.reduceLE, Int.reduceLT, Int.reduceEq, Nat.reduceOr, Nat.reduceShiftRight, Nat.reduceMod, Nat.reduceBNe, Nat.reduceBEq]
  · congr 2; symm; simp only [decide_eq_true_eq, Int.ofNat_lt] at h1 ⊢; unfold B64 at h1; omega
  refine Gd_split ?_ ?_ <;> intro h2 <;> simp only [h1, h2, go_sem, bin_add, bin_sub, bin_mul, Nat.reduceAdd, Nat.reduceMul, Nat.reduceEqDiff, Nat.reduceLeDiff, Nat.reduceLT, Nat.reduceSub, reduceIte, reduceCtorEq, Int.reduceToNat, Int.reduceNeg, Int.reduceLE, Int.reduceLT, Int.reduceEq, Nat.reduceOr, Nat.reduceShiftRight, Nat.reduceMod, Nat.reduceBNe, Nat.reduceBEq]
  · congr 2
    rw [decide_eq_decide]
    simp only [decide_eq_true_eq, decide_eq_false_iff_not, Int.ofNat_lt, Int.ofNat_inj] at h1 h2 ⊢; unfold B64 at h1 h2 ⊢; omega
  · congr 2; symm; simp only [decide_eq_false_iff_not, Int.ofNat_lt, Int.ofNat_inj] at h1 h2 ⊢; unfold B64 at h1 h2; omega

theorem tx67 (a b c : Nat) (hc : c ≤ 1) (H : AH) : exV tx 67 [.int .u64 (a : Int), .int .u64 (b : Int), .int .u64 (c : Int)] H = some (.val (.tuple #[.int .u64 (((a + b + c) % B64 : Nat) : Int), .int .u64 (((a + b + c) / B64 : Nat) : Int)]) H) := by
  unfold exV
  rw [show tx 67 [.int .u64 (a : Int), .int .u64 (b : Int), .int .u64 (c : Int)] = bif Nat.ble c 1 then some (.tuple #[.int .u64 (((a + b + c) % B64 : Nat) : Int), .int .u64 (((a + b + c) / B64 : Nat) : Int)]) else none from rfl, Nat.ble_eq_true_of_le hc]
  rfl
theorem tx67_0 (a b : Nat) (H : AH) : exV tx 67 [.int .u64 (a : Int), .int .u64 (b : Int), .int .u64 0] H = some (.val (.tuple #[.int .u64 (((a + b) % B64 : Nat) : Int), .int .u64 (((a + b) / B64 : Nat) : Int)]) H) := tx67 a b 0 (by omega) H
theorem tx68 (a b c : Nat) (hc : c ≤ 1) (H : AH) : exV tx 68 [.int .u64 (a : Int), .int .u64 (b : Int), .int .u64 (c : Int)] H = some (.val (.tuple #[.int .u64 (((a + B64 - b - c) % B64 : Nat) : Int), .int .u64 (((bif Nat.blt a (b + c) then 1 else 0) : Nat) : Int)]) H) := by
  unfold exV
  rw [show tx 68 [.int .u64 (a : Int), .int .u64 (b : Int), .int .u64 (c : Int)] = bif Nat.ble c 1 then some (.tuple #[.int .u64 (((a + B64 - b - c) % B64 : Nat) : Int), .int .u64 (((bif Nat.blt a (b + c) then 1 else 0) : Nat) : Int)]) else none from rfl, Nat.ble_eq_true_of_le hc]
  rfl
theorem tx68_0 (a b : Nat) (H : AH) : exV tx 68 [.int .u64 (a : Int), .int .u64 (b : Int), .int .u64 0] H = some (.val (.tuple #[.int .u64 (((a + B64 - b) % B64 : Nat) : Int), .int .u64 (((bif Nat.blt a b then 1 else 0) : Nat) : Int)]) H) := tx68 a b 0 (by omega) H
theorem c63 {env : List Lp} (N M : Nat) (H : AH) (Q : AEnd → AH → Prop) : C T env 63 [.agg (wd N).toArray, .agg (wd M).toArray] H Q = Q (.ret (.agg (wd ((N + M) % B128)).toArray)) H := by
  refine C_det ?_ Q
  rw [C_fn T63 rfl]
  simp only [a63, wd, tx67_0, tx67 _ _ ((N % B64 + M % B64) / B64) (by unfold B64; omega), go_sem, bin_add, bin_sub, bin_mul, Nat.reduceAdd, Nat.reduceMul, Nat.reduceEqDiff, Nat.reduceLeDiff, Nat.reduceLT, Nat.reduceSub, reduceIte, reduceCtorEq, Int.reduceToNat, Int.reduceNeg, Int.reduceLE, Int.reduceLT, Int.reduceEq, Nat.reduceOr, Nat.reduceShiftRight, Nat.reduceMod, Nat.reduceBNe, Nat.reduceBEq]
  refine wd_eq ?_ ?_ <;> simp only [B64, B128] at * <;> omega
theorem c65 {env : List Lp} (N M : Nat) (hN : N < B128) (hM : M ≤ N) (H : AH) (Q : AEnd → AH → Prop) : C T env 65 [.agg (wd N).toArray, .agg (wd M).toArray] H Q = Q (.ret (.agg (wd (N - M)).toArray)) H := by
  refine C_det ?_ Q
  rw [C_fn T65 rfl]
  simp only [a65, wd, tx68_0, tx68 _ _ (bif (N % B64).blt (M % B64) then 1 else 0) (by cases (N % B64).blt (M % B64) <;> simp), go_sem, bin_add, bin_sub, bin_mul, Nat.reduceAdd, Nat.reduceMul, Nat.reduceEqDiff, Nat.reduceLeDiff, Nat.reduceLT, Nat.reduceSub, reduceIte, reduceCtorEq, Int.reduceToNat, Int.reduceNeg, Int.reduceLE, Int.reduceLT, Int.reduceEq, Nat.reduceOr, Nat.reduceShiftRight, Nat.reduceMod, Nat.reduceBNe, Nat.reduceBEq]
  have : (bif (N % B64).blt (M % B64) then 1 else 0) = if N % B64 < M % B64 then 1 else 0 := by
    by_cases h : N % B64 < M % B64
    · rw [if_pos h, show (N % B64).blt (M % B64) = true by rw [Nat.blt_eq]; exact h]; rfl
    · rw [if_neg h, show (N % B64).blt (M % B64) = false from Bool.eq_false_iff.2 fun e => h (by rw [Nat.blt_eq] at e; exact e)]; rfl
  rw [this]
  refine wd_eq ?_ ?_ <;> simp only [B64, B128] at *
  · split <;> omega
  · omega

/-! ## Raw and Div -/
def rawF (n : Int) : Int := min (max n (-2147483648)) 2147483647
theorem rawF_w (n : Int) : wrapF .i32 (rawF n) = rawF n := w32_id (by unfold rawF; omega) (by unfold rawF; omega)
theorem c69 {env : List Lp} (a b c : Int) (H : AH) (Q : AEnd → AH → Prop) : C T env 69 [.int .i64 a, .int .i64 b, .int .i64 c] H Q = Q (.ret (.int .i64 (min (max a b) c))) H := by
  refine C_det ?_ Q
  rw [C_fn T69 rfl]
  simp only [a69, go_sem, bin_add, bin_sub, bin_mul, Nat.reduceAdd, Nat.reduceMul, Nat.reduceEqDiff, Nat.reduceLeDiff, Nat.reduceLT, Nat.reduceSub, reduceIte, reduceCtorEq, Int.reduceToNat, Int.reduceNeg, Int.reduceLE, Int.reduceLT, Int.reduceEq, Nat.reduceOr, Nat.reduceShiftRight, Nat.reduceMod, Nat.reduceBNe, Nat.reduceBEq]
theorem c66 {env : List Lp} (n : Int) (H : AH) (Q : AEnd → AH → Prop) : C T env 66 [.int .i64 n] H Q = Q (.ret (.int .i32 (rawF n))) H := by
  refine C_det ?_ Q
  rw [C_fn T66 rfl]
  simp only [a66, c69, go_sem, bin_add, bin_sub, bin_mul, Nat.reduceAdd, Nat.reduceMul, Nat.reduceEqDiff, Nat.reduceLeDiff, Nat.reduceLT, Nat.reduceSub, reduceIte, reduceCtorEq, Int.reduceToNat, Int.reduceNeg, Int.reduceLE, Int.reduceLT, Int.reduceEq, Nat.reduceOr, Nat.reduceShiftRight, Nat.reduceMod, Nat.reduceBNe, Nat.reduceBEq]
  rw [show min (max n (-2147483648)) 2147483647 = rawF n from rfl, rawF_w]
theorem c60 {env : List Lp} (n : Int) (H : AH) (Q : AEnd → AH → Prop) : C T env 60 [.int .i64 n] H Q = Q (.ret (.int .i32 (rawF n))) H := by
  refine C_det ?_ Q
  rw [C_fn T60 rfl]
  simp only [a60, go_sem, bin_add, bin_sub, bin_mul, Nat.reduceAdd, Nat.reduceMul, Nat.reduceEqDiff, Nat.reduceLeDiff, Nat.reduceLT, Nat.reduceSub, reduceIte, reduceCtorEq, Int.reduceToNat, Int.reduceNeg, Int.reduceLE, Int.reduceLT, Int.reduceEq, Nat.reduceOr, Nat.reduceShiftRight, Nat.reduceMod, Nat.reduceBNe, Nat.reduceBEq]
  refine Cd_split ?_ ?_ <;> intro h1 <;> simp only [h1, go_sem, bin_add, bin_sub, bin_mul, Nat.reduceAdd, Nat.reduceMul, Nat.reduceEqDiff, Nat.reduceLeDiff, Nat.reduceLT, Nat.reduceSub, reduceIte, reduceCtorEq, Int.reduceToNat, Int.reduceNeg, Int.reduceLE, Int.reduceLT, Int.reduceEq, Nat.reduceOr, Nat.reduceShiftRight, Nat.reduceMod, Nat.reduceBNe, Nat.reduceBEq]
  · simp only [decide_eq_true_eq] at h1
    rw [show rawF n = 2147483647 by unfold rawF; omega]
  refine Cd_split ?_ ?_ <;> intro h2 <;> simp only [h1, h2, go_sem, bin_add, bin_sub, bin_mul, Nat.reduceAdd, Nat.reduceMul, Nat.reduceEqDiff, Nat.reduceLeDiff, Nat.reduceLT, Nat.reduceSub, reduceIte, reduceCtorEq, Int.reduceToNat, Int.reduceNeg, Int.reduceLE, Int.reduceLT, Int.reduceEq, Nat.reduceOr, Nat.reduceShiftRight, Nat.reduceMod, Nat.reduceBNe, Nat.reduceBEq]
  · simp only [decide_eq_true_eq] at h2
    rw [show rawF n = -2147483648 by unfold rawF; omega]
  · simp only [decide_eq_false_iff_not] at h1 h2
    rw [show rawF n = n by unfold rawF; omega, w32_id (by omega) (by omega)]
/-- one over w. -/
def overF (w : Int) : Int := rawF ((8589934592 + w) / (2 * w))
theorem c53 {env : List Lp} (w : Int) (h0 : 0 < w) (h1 : w < 2147483648) (H : AH) (Q : AEnd → AH → Prop) : C T env 53 [.int .i32 65536, .int .i32 w] H Q = Q (.ret (.int .i32 (overF w))) H := by
  refine C_det ?_ Q
  rw [C_fn T53 rfl]
  simp only [a53, bin_shl16, c66, w64_id (n := w) (by omega) (by omega), show decide (w < 0) = false by simp; omega, show decide (w = 0) = false by simp; omega, show wrapF .i64 (wrapF .i64 65536 * 2 ^ min 16 IntKind.i64.bits) = 4294967296 from rfl, show wrapF .i64 (wrapF .i64 65536 * 2 ^ min 16 64) = 4294967296 from rfl, show decide ((4294967296 : Int) < 0) = false from rfl, show wrapF .i64 (2 * 4294967296) = 8589934592 from rfl, w64_id (n := 8589934592 + w) (by omega) (by omega), w64_id (n := 2 * w) (by omega) (by omega), bin_quo_w _ _ _ _ _ _ _ (8589934592 + w) (2 * w) (by omega), go_sem, bin_add, bin_sub, bin_mul, Nat.reduceAdd, Nat.reduceMul, Nat.reduceEqDiff, Nat.reduceLeDiff, Nat.reduceLT, Nat.reduceSub, reduceIte, reduceCtorEq, Int.reduceToNat, Int.reduceNeg, Int.reduceLE, Int.reduceLT, Int.reduceEq, Nat.reduceOr, Nat.reduceShiftRight, Nat.reduceMod, Nat.reduceBNe, Nat.reduceBEq]
  rw [Int.tdiv_eq_ediv_of_nonneg (by omega)]
  have hq : (8589934592 + w) / (2 * w) ≤ 8589934592 + w := Int.ediv_le_self _ (by omega)
  have hq0 : 0 ≤ (8589934592 + w) / (2 * w) := Int.ediv_nonneg (by omega) (by omega)
  rw [w64_id (by omega) (by omega)]; rfl
end
end Go.AX.Tri
/- Contracts: the number nearest to numbers, weighted. -/
namespace Go.AX.Tri
open Go.Proofs Go.AX.Mc
set_option linter.unusedSimpArgs false
set_option linter.unusedVariables false
noncomputable section

theorem u64_neg (l : Int) (h : l < 0) (h2 : -2147483648 ≤ l) : wrapF .u64 (wrapF .i64 (-(wrapF .i64 l))) = ((l.natAbs : Nat) : Int) := by
  rw [w64_id (n := l) (by omega) (by omega), w64_id (n := -l) (by omega) (by omega), show -l = (l.natAbs : Int) by omega, w_u64]
  congr 1; omega
theorem u64_pos (l : Int) (h : 0 ≤ l) (h2 : l < 2147483648) : wrapF .u64 l = ((l.natAbs : Nat) : Int) := by
  rw [show l = (l.natAbs : Int) by omega, w_u64]
  congr 1; omega

abbrev blk (l : List Value) : Option AB := some (.cells l 0 0)

theorem wd_length (N : Nat) : (wd N).length = 2 := rfl
theorem w64_succ (i : Nat) (h : i < 1000000000) : wrapF .i64 ((i : Int) + 1) = ((i + 1 : Nat) : Int) := by rw [w64_id (by omega) (by omega)]; omega
theorem wd_take (N : Nat) : (wd N).take 2 = wd N := rfl
theorem wd_drop (N : Nat) : (wd N).drop 2 = [] := rfl
theorem veq_wd (N : Nat) : ((wd N).zip (wd N)).all (fun x => veq 5 x.1 x.2) = true := by simp only [wd, List.zip_cons_cons, List.zip_nil_right, List.all_cons, List.all_nil, veq_int]; rfl
theorem wd_flat (N : Nat) : (wd N).all flat = true := rfl
theorem step50 {env : List Lp} {k : List KF} {Q : QF} (H : AH) (wcs lcs : List Value) (i N U D A : Nat) (l : Int) (hi : i < 3) (hl1 : -2147483648 ≤ l) (hl2 : l < 2147483648)
    (hN : (wcs.drop (i * 2)).take 2 = wd N) (hl : (lcs.drop (i * 1)).take 1 = [.int .i32 l]) (hL : lcs.length = 3)
    (fr : Tr Value) (G : List (Option AB))
    (t2 : tmp fr (pa 2) = .pointer (some ⟨H.now.nx, 0, none⟩)) (t3 : tmp fr (pa 3) = .pointer (some ⟨H.now.nx + 1, 0, none⟩)) (t5 : tmp fr (pa 5) = .pointer (some ⟨H.now.nx + 2, 0, none⟩))
    (t6 : tmp fr (pa 6) = .pointer (some ⟨H.now.nx + 3, 0, none⟩)) (t7 : tmp fr (pa 7) = .pointer (some ⟨H.now.nx + 4, 0, none⟩)) (t14 : tmp fr (pa 14) = .agg wcs.toArray) (t15 : tmp fr (pa 15) = .int .i64 (i : Int))
    (hQ : ∀ fr' G', tmp fr' (pa 2) = .pointer (some ⟨H.now.nx, 0, none⟩) → tmp fr' (pa 3) = .pointer (some ⟨H.now.nx + 1, 0, none⟩) → tmp fr' (pa 5) = .pointer (some ⟨H.now.nx + 2, 0, none⟩) →
      tmp fr' (pa 6) = .pointer (some ⟨H.now.nx + 3, 0, none⟩) → tmp fr' (pa 7) = .pointer (some ⟨H.now.nx + 4, 0, none⟩) → tmp fr' (pa 14) = .agg wcs.toArray → tmp fr' (pa 15) = .int .i64 ((i + 1 : Nat) : Int) →
      X T env false (.loop a50l1) k fr' [] (ext H.now (blk wcs :: blk lcs :: blk (wd (if l < 0 then U else (U + N * l.natAbs % B128) % B128)) :: blk (wd (if l < 0 then (D + N * l.natAbs % B128) % B128 else D)) :: blk (wd ((A + N) % B128)) :: G')) Q) :
    X T env false (.loop a50l1) k fr [] (ext H.now (blk wcs :: blk lcs :: blk (wd U) :: blk (wd D) :: blk (wd A) :: G)) Q := by
  have hi1 : i * 1 + 1 ≤ lcs.length := by omega
  have hi3 : (i : Int) < 3 := by omega
  rw [X_loop]
  change X _ _ _ (.seq _ _) _ _ _ _ _
  simp only [t2, t3, t5, t6, t7, t14, t15, hi, hi3, hi1, hN, hl, wd_length, wd_flat, wd_take, wd_drop, c63, blk, go_sem, bin_add, bin_sub, bin_mul, Nat.reduceAdd, Nat.reduceMul, Nat.reduceEqDiff, Nat.reduceLeDiff, Nat.reduceLT, Nat.reduceSub, reduceIte, reduceCtorEq, Int.reduceToNat, Int.reduceNeg, Int.reduceLE, Int.reduceLT, Int.reduceEq, Nat.reduceOr, Nat.reduceShiftRight, Nat.reduceMod, Nat.reduceBNe, Nat.reduceBEq]
  refine Cd_split ?_ ?_ <;> intro g
  · simp only [decide_eq_true_eq] at g
    have hb : l.natAbs < B64 := by simp only [B64]; omega
    refine X_drawE 0 (by rfl) ?_
    simp only [t2, t3, t5, t6, t7, t14, t15, hi, hi3, hi1, hN, hl, u64_neg l g hl1, c48 _ _ hb, c63, wd_length, wd_flat, wd_take, wd_drop, veq_wd, blk, go_sem, bin_add, bin_sub, bin_mul, Nat.reduceAdd, Nat.reduceMul, Nat.reduceEqDiff, Nat.reduceLeDiff, Nat.reduceLT, Nat.reduceSub, reduceIte, reduceCtorEq, Int.reduceToNat, Int.reduceNeg, Int.reduceLE, Int.reduceLT, Int.reduceEq, Nat.reduceOr, Nat.reduceShiftRight, Nat.reduceMod, Nat.reduceBNe, Nat.reduceBEq]
    simp only [g, reduceIte] at hQ
    refine hQ _ _ ?_ ?_ ?_ ?_ ?_ ?_ ?_ <;> simp only [t2, t3, t5, t6, t7, t14, t15, w64_succ i (by omega), go_sem, bin_add, bin_sub, bin_mul, Nat.reduceAdd, Nat.reduceMul, Nat.reduceEqDiff, Nat.reduceLeDiff, Nat.reduceLT, Nat.reduceSub, reduceIte, reduceCtorEq, Int.reduceToNat, Int.reduceNeg, Int.reduceLE, Int.reduceLT, Int.reduceEq, Nat.reduceOr, Nat.reduceShiftRight, Nat.reduceMod, Nat.reduceBNe, Nat.reduceBEq]
  · simp only [decide_eq_false_iff_not] at g
    have hb : l.natAbs < B64 := by simp only [B64]; omega
    refine X_drawE 0 (by rfl) ?_
    simp only [t2, t3, t5, t6, t7, t14, t15, hi, hi3, hi1, hN, hl, u64_pos l (by omega) hl2, c48 _ _ hb, c63, wd_length, wd_flat, wd_take, wd_drop, veq_wd, blk, go_sem, bin_add, bin_sub, bin_mul, Nat.reduceAdd, Nat.reduceMul, Nat.reduceEqDiff, Nat.reduceLeDiff, Nat.reduceLT, Nat.reduceSub, reduceIte, reduceCtorEq, Int.reduceToNat, Int.reduceNeg, Int.reduceLE, Int.reduceLT, Int.reduceEq, Nat.reduceOr, Nat.reduceShiftRight, Nat.reduceMod, Nat.reduceBNe, Nat.reduceBEq]
    simp only [g, reduceIte] at hQ
    refine hQ _ _ ?_ ?_ ?_ ?_ ?_ ?_ ?_ <;> simp only [t2, t3, t5, t6, t7, t14, t15, w64_succ i (by omega), go_sem, bin_add, bin_sub, bin_mul, Nat.reduceAdd, Nat.reduceMul, Nat.reduceEqDiff, Nat.reduceLeDiff, Nat.reduceLT, Nat.reduceSub, reduceIte, reduceCtorEq, Int.reduceToNat, Int.reduceNeg, Int.reduceLE, Int.reduceLT, Int.reduceEq, Nat.reduceOr, Nat.reduceShiftRight, Nat.reduceMod, Nat.reduceBNe, Nat.reduceBEq]

/-! ## Bit by bit -/
/-- the greatest number of j bits more, all times which is not above top. -/
def bitsF (top all : Nat) : Nat → Nat → Nat
  | 0, n => n
  | j + 1, n => bitsF top all j (if top < all * (n ||| 2 ^ j) % B128 then n else n ||| 2 ^ j)

def bitv (j : Nat) : Nat := 2 ^ j / 2
theorem bitv_succ (j : Nat) : bitv (j + 1) = 2 ^ j := by unfold bitv; rw [Nat.pow_succ]; omega
theorem or_lt {n m : Nat} (h : n < 8589934592) (k : m < 8589934592) : n ||| m < 8589934592 := Nat.or_lt_two_pow (n := 33) h k

theorem loop50b {env : List Lp} {k : List KF} {Q : QF} (h : AH) (top all bt bl : Nat) (ht : rd h bt 0 2 = some (wd top)) (hl : rd h bl 0 2 = some (wd all)) (v10 : Value) (N : Nat)
    (hQ : ∀ fr', tmp fr' (pa 10) = v10 → tmp fr' (pa 12) = .int .u64 (N : Int) → Kt T env false k .normal fr' [] h Q) :
    ∀ (j n : Nat), j ≤ 33 → n < 8589934592 → bitsF top all j n = N → ∀ fr, tmp fr (pa 7) = .pointer (some ⟨bl, 0, none⟩) → tmp fr (pa 11) = .pointer (some ⟨bt, 0, none⟩) → tmp fr (pa 10) = v10 →
      tmp fr (pa 12) = .int .u64 (n : Int) → tmp fr (pa 13) = .int .u64 (bitv j : Int) → X T env false (.loop a50l0) (.blk 2 :: k) fr [] h Q := by
  intro j
  induction j with
  | zero =>
    intro n _ _ hN fr t7 t11 t10 t12 t13
    rw [X_loop]
    change X _ _ _ (.seq _ _) _ _ _ _ _
    simp only [t7, t11, t12, t13, show (bitv 0 : Int) = 0 from rfl, go_sem, bin_add, bin_sub, bin_mul, Nat.reduceAdd, Nat.reduceMul, Nat.reduceEqDiff, Nat.reduceLeDiff, Nat.reduceLT, Nat.reduceSub, reduceIte, reduceCtorEq, Int.reduceToNat, Int.reduceNeg, Int.reduceLE, Int.reduceLT, Int.reduceEq, Nat.reduceOr, Nat.reduceShiftRight, Nat.reduceMod, Nat.reduceBNe, Nat.reduceBEq]
    refine hQ _ ?_ ?_ <;> simp only [t10, t12, ← hN, go_sem, bin_add, bin_sub, bin_mul, Nat.reduceAdd, Nat.reduceMul, Nat.reduceEqDiff, Nat.reduceLeDiff, Nat.reduceLT, Nat.reduceSub, reduceIte, reduceCtorEq, Int.reduceToNat, Int.reduceNeg, Int.reduceLE, Int.reduceLT, Int.reduceEq, Nat.reduceOr, Nat.reduceShiftRight, Nat.reduceMod, Nat.reduceBNe, Nat.reduceBEq]
    rfl
  | succ j ih =>
    intro n hj hn hN fr t7 t11 t10 t12 t13
    have hp : 2 ^ j < 8589934592 := Nat.pow_lt_pow_right (by omega) (show j < 33 by omega)
    have hp0 : 0 < 2 ^ j := Nat.pow_pos (by omega)
    have hor := or_lt hn hp
    have hpos : (0 : Int) < ((2 ^ j : Nat) : Int) := by exact_mod_cast hp0
    have hm1 : n % B64 = n := Nat.mod_eq_of_lt (by simp only [B64]; omega)
    have hm2 : 2 ^ j % B64 = 2 ^ j := Nat.mod_eq_of_lt (by simp only [B64]; omega)
    have hb : n ||| 2 ^ j < B64 := by simp only [B64]; omega
    rw [bitv_succ] at t13
    rw [X_loop]
    change X _ _ _ (.seq _ _) _ _ _ _ _
    simp only [t7, t11, t12, t13, hpos, go_sem, bin_add, bin_sub, bin_mul, Nat.reduceAdd, Nat.reduceMul, Nat.reduceEqDiff, Nat.reduceLeDiff, Nat.reduceLT, Nat.reduceSub, reduceIte, reduceCtorEq, Int.reduceToNat, Int.reduceNeg, Int.reduceLE, Int.reduceLT, Int.reduceEq, Nat.reduceOr, Nat.reduceShiftRight, Nat.reduceMod, Nat.reduceBNe, Nat.reduceBEq]
    refine X_draw0 (by rfl) ?_
    simp only [t7, t11, t12, t13, hpos, ht, hl, u_or, hm1, hm2, c48 _ _ hb, c64, wd_length, wd_flat, wd_take, wd_drop, veq_wd, go_sem, bin_add, bin_sub, bin_mul, Nat.reduceAdd, Nat.reduceMul, Nat.reduceEqDiff, Nat.reduceLeDiff, Nat.reduceLT, Nat.reduceSub, reduceIte, reduceCtorEq, Int.reduceToNat, Int.reduceNeg, Int.reduceLE, Int.reduceLT, Int.reduceEq, Nat.reduceOr, Nat.reduceShiftRight, Nat.reduceMod, Nat.reduceBNe, Nat.reduceBEq]
    rw [bitsF] at hN
    refine Cd_split ?_ ?_ <;> intro g
    · simp only [Bool.not_eq_true', decide_eq_false_iff_not] at g
      rw [if_neg g] at hN
      simp only [t7, t11, t12, t13, u_or, u_shr1, hm1, hm2, go_sem, bin_add, bin_sub, bin_mul, Nat.reduceAdd, Nat.reduceMul, Nat.reduceEqDiff, Nat.reduceLeDiff, Nat.reduceLT, Nat.reduceSub, reduceIte, reduceCtorEq, Int.reduceToNat, Int.reduceNeg, Int.reduceLE, Int.reduceLT, Int.reduceEq, Nat.reduceOr, Nat.reduceShiftRight, Nat.reduceMod, Nat.reduceBNe, Nat.reduceBEq]
      refine ih _ (by omega) hor hN _ ?_ ?_ ?_ ?_ ?_ <;> simp only [t7, t10, t11, t12, t13, go_sem, bin_add, bin_sub, bin_mul, Nat.reduceAdd, Nat.reduceMul, Nat.reduceEqDiff, Nat.reduceLeDiff, Nat.reduceLT, Nat.reduceSub, reduceIte, reduceCtorEq, Int.reduceToNat, Int.reduceNeg, Int.reduceLE, Int.reduceLT, Int.reduceEq, Nat.reduceOr, Nat.reduceShiftRight, Nat.reduceMod, Nat.reduceBNe, Nat.reduceBEq]
      rfl
    · simp only [Bool.not_eq_false', decide_eq_true_eq] at g
      rw [if_pos g] at hN
      simp only [t7, t11, t12, t13, u_or, u_shr1, hm1, hm2, go_sem, bin_add, bin_sub, bin_mul, Nat.reduceAdd, Nat.reduceMul, Nat.reduceEqDiff, Nat.reduceLeDiff, Nat.reduceLT, Nat.reduceSub, reduceIte, reduceCtorEq, Int.reduceToNat, Int.reduceNeg, Int.reduceLE, Int.reduceLT, Int.reduceEq, Nat.reduceOr, Nat.reduceShiftRight, Nat.reduceMod, Nat.reduceBNe, Nat.reduceBEq]
      refine ih _ (by omega) hn hN _ ?_ ?_ ?_ ?_ ?_ <;> simp only [t7, t10, t11, t12, t13, go_sem, bin_add, bin_sub, bin_mul, Nat.reduceAdd, Nat.reduceMul, Nat.reduceEqDiff, Nat.reduceLeDiff, Nat.reduceLT, Nat.reduceSub, reduceIte, reduceCtorEq, Int.reduceToNat, Int.reduceNeg, Int.reduceLE, Int.reduceLT, Int.reduceEq, Nat.reduceOr, Nat.reduceShiftRight, Nat.reduceMod, Nat.reduceBNe, Nat.reduceBEq]
      rfl
end
end Go.AX.Tri
