/- Contracts: numbers of two words; Raw, Div. -/
import Derived.Test.YthhgeodgfbhkdaaWa
set_option linter.unusedVariables false
set_option linter.unusedSimpArgs false
set_option linter.unusedSectionVars false
namespace Go.AX.Tri
open Go.Proofs Go.AX.Mc
set_option linter.unusedSimpArgs false
set_option linter.unusedVariables false
noncomputable section

/-! ## Numbers of a kind -/
abbrev B64 : Nat := 18446744073709551616
abbrev B128 : Nat := 340282366920938463463374607431768211456
theorem w_u64 (n : Nat) : wrapF .u64 (n : Int) = ((n % 18446744073709551616 : Nat) : Int) := by
  show (n : Int) % 18446744073709551616 = _
  omega
theorem and_u64 (a b : Nat) : wrapF .u64 ((BitVec.ofInt 64 (a : Int) &&& BitVec.ofInt 64 (b : Int)).toNat : Int) = (((a % B64) &&& (b % B64) : Nat) : Int) := by
  rw [w_u64]
  simp only [BitVec.ofInt_natCast, BitVec.toNat_and, BitVec.toNat_ofNat]
  congr 1
  exact Nat.mod_eq_of_lt (Nat.and_lt_two_pow (n := 64) _ (Nat.mod_lt _ (by decide)))
theorem or_u64 (a b : Nat) : wrapF .u64 ((BitVec.ofInt 64 (a : Int) ||| BitVec.ofInt 64 (b : Int)).toNat : Int) = (((a % B64) ||| (b % B64) : Nat) : Int) := by
  rw [w_u64]
  simp only [BitVec.ofInt_natCast, BitVec.toNat_or, BitVec.toNat_ofNat]
  congr 1
  exact Nat.mod_eq_of_lt (Nat.or_lt_two_pow (n := 64) (Nat.mod_lt _ (by decide)) (Nat.mod_lt _ (by decide)))
theorem fdiv_nat (a k : Nat) : ((a : Int).fdiv (2 ^ k)) = ((a / 2 ^ k : Nat) : Int) := by
  rw [Int.fdiv_eq_ediv_of_nonneg _ (by exact_mod_cast Nat.zero_le _)]
  norm_cast
theorem mask32 (a : Nat) : a &&& 4294967295 = a % 4294967296 := Nat.and_two_pow_sub_one_eq_mod a 32

section
variable (H : AH) (ty : TypeId) (ox oy : Operand) (nk : Option NilK) (a b : Nat)
theorem u_add : aBin Try.prog .add ty ox oy nk (.int .u64 a) (.int .u64 b) H = some (.val (.int .u64 (((a + b) % B64 : Nat) : Int)) H) := by rw [bin_add, ← w_u64]; rfl
theorem u_mul : aBin Try.prog .mul ty ox oy nk (.int .u64 a) (.int .u64 b) H = some (.val (.int .u64 (((a * b) % B64 : Nat) : Int)) H) := by rw [bin_mul, ← w_u64]; rfl
theorem u_and : aBin Try.prog .and ty ox oy nk (.int .u64 a) (.int .u64 b) H = some (.val (.int .u64 (((a % B64) &&& (b % B64) : Nat) : Int)) H) := by rw [bin_and, ← and_u64]; rfl
theorem u_and32 : aBin Try.prog .and ty ox oy nk (.int .u64 a) (.int .u64 4294967295) H = some (.val (.int .u64 ((a % 4294967296 : Nat) : Int)) H) := by
  rw [show (4294967295 : Int) = ((4294967295 : Nat) : Int) from rfl, u_and, show (4294967295 : Nat) % B64 = 4294967295 from rfl, mask32, Nat.mod_mod_of_dvd _ (by decide)]
theorem u_or : aBin Try.prog .or ty ox oy nk (.int .u64 a) (.int .u64 b) H = some (.val (.int .u64 (((a % B64) ||| (b % B64) : Nat) : Int)) H) := by rw [bin_or, ← or_u64]; rfl
theorem u_shr32 : aBin Try.prog .shr ty ox oy nk (.int .u64 a) (.int .u64 32) H = some (.val (.int .u64 ((a / 4294967296 : Nat) : Int)) H) := by
  rw [bin_shr32, show min 32 IntKind.u64.bits = 32 from rfl, fdiv_nat]
theorem u_shr1 : aBin Try.prog .shr ty ox oy nk (.int .u64 a) (.int .u64 1) H = some (.val (.int .u64 ((a / 2 : Nat) : Int)) H) := by
  rw [bin_shr1, show min 1 IntKind.u64.bits = 1 from rfl, fdiv_nat]
end

/-! ## The high word of a product -/
theorem mul64_hi (x y : Nat) (hx : x < B64) (hy : y < B64) :
    ((x / 4294967296 * (y / 4294967296) % B64 + (x / 4294967296 * (y % 4294967296) % B64 + x % 4294967296 * (y % 4294967296) % B64 / 4294967296) % B64 / 4294967296) % B64 +
      ((x / 4294967296 * (y % 4294967296) % B64 + x % 4294967296 * (y % 4294967296) % B64 / 4294967296) % B64 % 4294967296 + x % 4294967296 * (y / 4294967296) % B64) % B64 / 4294967296) % B64 = x * y / B64 := by
  have ex : x = x / 4294967296 * 4294967296 + x % 4294967296 := by omega
  have ey : y = y / 4294967296 * 4294967296 + y % 4294967296 := by omega
  have ha : x / 4294967296 < 4294967296 := by unfold B64 at hx; omega
  have hc : y / 4294967296 < 4294967296 := by unfold B64 at hy; omega
  have hb : x % 4294967296 < 4294967296 := by omega
  have hd : y % 4294967296 < 4294967296 := by omega
  generalize x / 4294967296 = a at *
  generalize x % 4294967296 = b at *
  generalize y / 4294967296 = c at *
  generalize y % 4294967296 = d at *
  have e : x * y = a * c * B64 + (a * d + b * c) * 4294967296 + b * d := by rw [ex, ey]; unfold B64; grind
  rw [e]
  have h1 : a * c ≤ 4294967295 * 4294967295 := Nat.mul_le_mul (by omega) (by omega)
  have h2 : a * d ≤ 4294967295 * 4294967295 := Nat.mul_le_mul (by omega) (by omega)
  have h3 : b * c ≤ 4294967295 * 4294967295 := Nat.mul_le_mul (by omega) (by omega)
  have h4 : b * d ≤ 4294967295 * 4294967295 := Nat.mul_le_mul (by omega) (by omega)
  generalize a * c = p at *
  generalize a * d = q at *
  generalize b * c = r at *
  generalize b * d = s at *
  unfold B64
  omega

theorem c62 {env : List Lp} (x y : Nat) (hx : x < B64) (hy : y < B64) (H : AH) (Q : AEnd → AH → Prop) : C T env 62 [.int .u64 x, .int .u64 y] H Q = Q (.ret (.tuple #[.int .u64 ((x * y / B64 : Nat) : Int), .int .u64 ((x * y % B64 : Nat) : Int)])) H := by
  refine C_det ?_ Q
  rw [C_fn T62 rfl]
  simp only [a62, u_add, u_mul, u_and32, u_shr32, go_sem, Nat.reduceAdd, Nat.reduceMul, Nat.reduceEqDiff, Nat.reduceLeDiff, Nat.reduceLT, Nat.reduceSub, reduceIte, reduceCtorEq, Int.reduceToNat, Int.reduceNeg, Int.reduceLE, Int.reduceLT, Int.reduceEq, Nat.reduceOr, Nat.reduceShiftRight, Nat.reduceMod, Nat.reduceBNe, Nat.reduceBEq]
  rw [mul64_hi x y hx hy]

/-! ## Numbers of two words -/
def wd (n : Nat) : List Value := [.int .u64 ((n / B64 : Nat) : Int), .int .u64 ((n % B64 : Nat) : Int)]

theorem wd_eq {a b N : Nat} (ha : a = N / B64) (hb : b = N % B64) : AEnd.ret (.agg #[.int .u64 (a : Int), .int .u64 (b : Int)]) = AEnd.ret (.agg #[.int .u64 ((N / B64 : Nat) : Int), .int .u64 ((N % B64 : Nat) : Int)]) := by rw [ha, hb]
theorem wide_t1 (p q : Nat) : (q / 18446744073709551616 + p % 18446744073709551616) % 18446744073709551616 = (p * 18446744073709551616 + q) % 340282366920938463463374607431768211456 / 18446744073709551616 := by omega
theorem wide_t2 (p q : Nat) : q % 18446744073709551616 = (p * 18446744073709551616 + q) % 340282366920938463463374607431768211456 % 18446744073709551616 := by omega
theorem c48 {env : List Lp} (N n : Nat) (hn : n < B64) (H : AH) (Q : AEnd → AH → Prop) : C T env 48 [.agg (wd N).toArray, .int .u64 n] H Q = Q (.ret (.agg (wd (N * n % B128)).toArray)) H := by
  refine C_det ?_ Q
  rw [C_fn T48 rfl]
  simp only [a48, wd, u_add, u_mul, c62 _ _ (Nat.mod_lt N (show 0 < B64 by decide)) hn, go_sem, Nat.reduceAdd, Nat.reduceMul, Nat.reduceEqDiff, Nat.reduceLeDiff, Nat.reduceLT, Nat.reduceSub, reduceIte, reduceCtorEq, Int.reduceToNat, Int.reduceNeg, Int.reduceLE, Int.reduceLT, Int.reduceEq, Nat.reduceOr, Nat.reduceShiftRight, Nat.reduceMod, Nat.reduceBNe, Nat.reduceBEq]
  have e : N * n = N / B64 * n * 18446744073709551616 + N % B64 * n := by
    have : N = N / B64 * 18446744073709551616 + N % B64 := by simp only [B64]; omega
    generalize N / B64 = a at *
    generalize N % B64 = b at *
    rw [this]; grind
  rw [e]
  exact wd_eq (wide_t1 _ _) (wide_t2 _ _)
theorem c64 {env : List Lp} (N M : Nat) (H : AH) (Q : AEnd → AH → Prop) : C T env 64 [.agg (wd N).toArray, .agg (wd M).toArray] H Q = Q (.ret (.bool (decide (N < M)))) H := by
  refine C_det ?_ Q
  rw [C_fn T64 rfl]
  simp only [a64, wd, go_sem, bin_add, bin_sub, bin_mul, Nat.reduceAdd, Nat.reduceMul, Nat.reduceEqDiff, Nat.reduceLeDiff, Nat.reduceLT, Nat.reduceSub, reduceIte, reduceCtorEq, Int.reduceToNat, Int.reduceNeg, Int.reduceLE, Int.reduceLT, Int.reduceEq, Nat.reduceOr, Nat.reduceShiftRight, Nat.reduceMod, Nat.reduceBNe, Nat.reduceBEq]
  refine Gd_split ?_ ?_ <;> intro h1 <;> simp only [h1, go_sem, bin_add, bin_sub, bin_mul, Nat.reduceAdd, Nat.reduceMul, Nat.reduceEqDiff, Nat.reduceLeDiff, Nat.reduceLT, Nat.reduceSub, reduceIte, reduceCtorEq, Int.reduceToNat, Int.reduceNeg, Int.reduceLE, Int.reduceLT, Int.reduceEq, Nat.reduceOr, Nat.reduceShiftRight, Nat.reduceMod, Nat.reduceBNe, Nat.reduceBEq]
  · congr 2; symm; simp only [decide_eq_true_eq, Int.ofNat_lt] at h1 ⊢; unfold B64 at h1; omega
  refine Gd_split ?_ ?_ <;> intro h2 <;> simp only [h1, h2, go_sem, bin_add, bin_sub, bin_mul, Nat.reduceAdd, Nat.reduceMul, Nat.reduceEqDiff, Nat.reduceLeDiff, Nat.reduceLT, Nat.reduceSub, reduceIte, reduceCtorEq, Int.reduceToNat, Int.reduceNeg, Int.reduceLE, Int.reduceLT, Int.reduceEq, Nat.reduceOr, Nat.reduceShiftRight, Nat.reduceMod, Nat.reduceBNe, Nat.reduceBEq]
  · congr 2
    rw [decide_eq_decide]
    simp only [decide_eq_true_eq, decide_eq_false_iff_not, Int.ofNat_lt, Int.ofNat_inj] at h1 h2 ⊢; unfold B64 at h1 h2 ⊢; omega
  · congr 2; symm; simp only [decide_eq_false_iff_not, Int.ofNat_lt, Int.ofNat_inj] at h1 h2 ⊢; unfold B64 at h1 h2; omega

theorem tx67 (a b c : Nat) (hc : c ≤ 1) (H : AH) : exV tx 67 [.int .u64 (a : Int), .int .u64 (b : Int), .int .u64 (c : Int)] H = some (.val (.tuple #[.int .u64 (((a + b + c) % B64 : Nat) : Int), .int .u64 (((a + b + c) / B64 : Nat) : Int)]) H) := by
  unfold exV
  rw [show tx 67 [.int .u64 (a : Int), .int .u64 (b : Int), .int .u64 (c : Int)] = bif Nat.ble c 1 then some (.tuple #[.int .u64 (((a + b + c) % B64 : Nat) : Int), .int .u64 (((a + b + c) / B64 : Nat) : Int)]) else none from rfl, Nat.ble_eq_true_of_le hc]
  rfl
theorem tx67_0 (a b : Nat) (H : AH) : exV tx 67 [.int .u64 (a : Int), .int .u64 (b : Int), .int .u64 0] H = some (.val (.tuple #[.int .u64 (((a + b) % B64 : Nat) : Int), .int .u64 (((a + b) / B64 : Nat) : Int)]) H) := tx67 a b 0 (by omega) H
theorem tx68 (a b c : Nat) (hc : c ≤ 1) (H : AH) : exV tx 68 [.int .u64 (a : Int), .int .u64 (b : Int), .int .u64 (c : Int)] H = some (.val (.tuple #[.int .u64 (((a + B64 - b - c) % B64 : Nat) : Int), .int .u64 (((bif Nat.blt a (b + c) then 1 else 0) : Nat) : Int)]) H) := by
  unfold exV
  rw [show tx 68 [.int .u64 (a : Int), .int .u64 (b : Int), .int .u64 (c : Int)] = bif Nat.ble c 1 then some (.tuple #[.int .u64 (((a + B64 - b - c) % B64 : Nat) : Int), .int .u64 (((bif Nat.blt a (b + c) then 1 else 0) : Nat) : Int)]) else none from rfl, Nat.ble_eq_true_of_le hc]
  rfl
theorem tx68_0 (a b : Nat) (H : AH) : exV tx 68 [.int .u64 (a : Int), .int .u64 (b : Int), .int .u64 0] H = some (.val (.tuple #[.int .u64 (((a + B64 - b) % B64 : Nat) : Int), .int .u64 (((bif Nat.blt a b then 1 else 0) : Nat) : Int)]) H) := tx68 a b 0 (by omega) H
theorem c63 {env : List Lp} (N M : Nat) (H : AH) (Q : AEnd → AH → Prop) : C T env 63 [.agg (wd N).toArray, .agg (wd M).toArray] H Q = Q (.ret (.agg (wd ((N + M) % B128)).toArray)) H := by
  refine C_det ?_ Q
  rw [C_fn T63 rfl]
  simp only [a63, wd, tx67_0, tx67 _ _ ((N % B64 + M % B64) / B64) (by unfold B64; omega), go_sem, bin_add, bin_sub, bin_mul, Nat.reduceAdd, Nat.reduceMul, Nat.reduceEqDiff, Nat.reduceLeDiff, Nat.reduceLT, Nat.reduceSub, reduceIte, reduceCtorEq, Int.reduceToNat, Int.reduceNeg, Int.reduceLE, Int.reduceLT, Int.reduceEq, Nat.reduceOr, Nat.reduceShiftRight, Nat.reduceMod, Nat.reduceBNe, Nat.reduceBEq]
  refine wd_eq ?_ ?_ <;> simp only [B64, B128] at * <;> omega
theorem c65 {env : List Lp} (N M : Nat) (hN : N < B128) (hM : M ≤ N) (H : AH) (Q : AEnd → AH → Prop) : C T env 65 [.agg (wd N).toArray, .agg (wd M).toArray] H Q = Q (.ret (.agg (wd (N - M)).toArray)) H := by
  refine C_det ?_ Q
  rw [C_fn T65 rfl]
  simp only [a65, wd, tx68_0, tx68 _ _ (bif (N % B64).blt (M % B64) then 1 else 0) (by cases (N % B64).blt (M % B64) <;> simp), go_sem, bin_add, bin_sub, bin_mul, Nat.reduceAdd, Nat.reduceMul, Nat.reduceEqDiff, Nat.reduceLeDiff, Nat.reduceLT, Nat.reduceSub, reduceIte, reduceCtorEq, Int.reduceToNat, Int.reduceNeg, Int.reduceLE, Int.reduceLT, Int.reduceEq, Nat.reduceOr, Nat.reduceShiftRight, Nat.reduceMod, Nat.reduceBNe, Nat.reduceBEq]
  have : (bif (N % B64).blt (M % B64) then 1 else 0) = if N % B64 < M % B64 then 1 else 0 := by
    by_cases h : N % B64 < M % B64
    · rw [if_pos h, show (N % B64).blt (M % B64) = true by rw [Nat.blt_eq]; exact h]; rfl
    · rw [if_neg h, show (N % B64).blt (M % B64) = false from Bool.eq_false_iff.2 fun e => h (by rw [Nat.blt_eq] at e; exact e)]; rfl
  rw [this]
  refine wd_eq ?_ ?_ <;> simp only [B64, B128] at *
  · split <;> omega
  · omega

/-! ## Raw and Div -/
def rawF (n : Int) : Int := min (max n (-2147483648)) 2147483647
theorem rawF_w (n : Int) : wrapF .i32 (rawF n) = rawF n := w32_id (by unfold rawF; omega) (by unfold rawF; omega)
theorem c69 {env : List Lp} (a b c : Int) (H : AH) (Q : AEnd → AH → Prop) : C T env 69 [.int .i64 a, .int .i64 b, .int .i64 c] H Q = Q (.ret (.int .i64 (min (max a b) c))) H := by
  refine C_det ?_ Q
  rw [C_fn T69 rfl]
  simp only [a69, go_sem, bin_add, bin_sub, bin_mul, Nat.reduceAdd, Nat.reduceMul, Nat.reduceEqDiff, Nat.reduceLeDiff, Nat.reduceLT, Nat.reduceSub, reduceIte, reduceCtorEq, Int.reduceToNat, Int.reduceNeg, Int.reduceLE, Int.reduceLT, Int.reduceEq, Nat.reduceOr, Nat.reduceShiftRight, Nat.reduceMod, Nat.reduceBNe, Nat.reduceBEq]
theorem c66 {env : List Lp} (n : Int) (H : AH) (Q : AEnd → AH → Prop) : C T env 66 [.int .i64 n] H Q = Q (.ret (.int .i32 (rawF n))) H := by
  refine C_det ?_ Q
  rw [C_fn T66 rfl]
  simp only [a66, c69, go_sem, bin_add, bin_sub, bin_mul, Nat.reduceAdd, Nat.reduceMul, Nat.reduceEqDiff, Nat.reduceLeDiff, Nat.reduceLT, Nat.reduceSub, reduceIte, reduceCtorEq, Int.reduceToNat, Int.reduceNeg, Int.reduceLE, Int.reduceLT, Int.reduceEq, Nat.reduceOr, Nat.reduceShiftRight, Nat.reduceMod, Nat.reduceBNe, Nat.reduceBEq]
  rw [show min (max n (-2147483648)) 2147483647 = rawF n from rfl, rawF_w]
theorem c60 {env : List Lp} (n : Int) (H : AH) (Q : AEnd → AH → Prop) : C T env 60 [.int .i64 n] H Q = Q (.ret (.int .i32 (rawF n))) H := by
  refine C_det ?_ Q
  rw [C_fn T60 rfl]
  simp only [a60, go_sem, bin_add, bin_sub, bin_mul, Nat.reduceAdd, Nat.reduceMul, Nat.reduceEqDiff, Nat.reduceLeDiff, Nat.reduceLT, Nat.reduceSub, reduceIte, reduceCtorEq, Int.reduceToNat, Int.reduceNeg, Int.reduceLE, Int.reduceLT, Int.reduceEq, Nat.reduceOr, Nat.reduceShiftRight, Nat.reduceMod, Nat.reduceBNe, Nat.reduceBEq]
  refine Cd_split ?_ ?_ <;> intro h1 <;> simp only [h1, go_sem, bin_add, bin_sub, bin_mul, Nat.reduceAdd, Nat.reduceMul, Nat.reduceEqDiff, Nat.reduceLeDiff, Nat.reduceLT, Nat.reduceSub, reduceIte, reduceCtorEq, Int.reduceToNat, Int.reduceNeg, Int.reduceLE, Int.reduceLT, Int.reduceEq, Nat.reduceOr, Nat.reduceShiftRight, Nat.reduceMod, Nat.reduceBNe, Nat.reduceBEq]
  · simp only [decide_eq_true_eq] at h1
    rw [show rawF n = 2147483647 by unfold rawF; omega]
  refine Cd_split ?_ ?_ <;> intro h2 <;> simp only [h1, h2, go_sem, bin_add, bin_sub, bin_mul, Nat.reduceAdd, Nat.reduceMul, Nat.reduceEqDiff, Nat.reduceLeDiff, Nat.reduceLT, Nat.reduceSub, reduceIte, reduceCtorEq, Int.reduceToNat, Int.reduceNeg, Int.reduceLE, Int.reduceLT, Int.reduceEq, Nat.reduceOr, Nat.reduceShiftRight, Nat.reduceMod, Nat.reduceBNe, Nat.reduceBEq]
  · simp only [decide_eq_true_eq] at h2
    rw [show rawF n = -2147483648 by unfold rawF; omega]
  · simp only [decide_eq_false_iff_not] at h1 h2
    rw [show rawF n = n by unfold rawF; omega, w32_id (by omega) (by omega)]
/-- one over w. -/
def overF (w : Int) : Int := rawF ((8589934592 + w) / (2 * w))
theorem c53 {env : List Lp} (w : Int) (h0 : 0 < w) (h1 : w < 2147483648) (H : AH) (Q : AEnd → AH → Prop) : C T env 53 [.int .i32 65536, .int .i32 w] H Q = Q (.ret (.int .i32 (overF w))) H := by
  refine C_det ?_ Q
  rw [C_fn T53 rfl]
  simp only [a53, bin_shl16, c66, w64_id (n := w) (by omega) (by omega), show decide (w < 0) = false by simp; omega, show decide (w = 0) = false by simp; omega, show wrapF .i64 (wrapF .i64 65536 * 2 ^ min 16 IntKind.i64.bits) = 4294967296 from rfl, show wrapF .i64 (wrapF .i64 65536 * 2 ^ min 16 64) = 4294967296 from rfl, show decide ((4294967296 : Int) < 0) = false from rfl, show wrapF .i64 (2 * 4294967296) = 8589934592 from rfl, w64_id (n := 8589934592 + w) (by omega) (by omega), w64_id (n := 2 * w) (by omega) (by omega), bin_quo_w _ _ _ _ _ _ _ (8589934592 + w) (2 * w) (by omega), go_sem, bin_add, bin_sub, bin_mul, Nat.reduceAdd, Nat.reduceMul, Nat.reduceEqDiff, Nat.reduceLeDiff, Nat.reduceLT, Nat.reduceSub, reduceIte, reduceCtorEq, Int.reduceToNat, Int.reduceNeg, Int.reduceLE, Int.reduceLT, Int.reduceEq, Nat.reduceOr, Nat.reduceShiftRight, Nat.reduceMod, Nat.reduceBNe, Nat.reduceBEq]
  rw [Int.tdiv_eq_ediv_of_nonneg (by omega)]
  have hq : (8589934592 + w) / (2 * w) ≤ 8589934592 + w := Int.ediv_le_self _ (by omega)
  have hq0 : 0 ≤ (8589934592 + w) / (2 * w) := Int.ediv_nonneg (by omega) (by omega)
  rw [w64_id (by omega) (by omega)]; rfl
end
end Go.AX.Tri
