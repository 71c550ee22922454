/- Contracts: great whole numbers by their digits: of a number; below. -/
import Derived.Test.YthhgeodgfbhkdaaSc
set_option linter.unusedVariables false
set_option linter.unusedSimpArgs false
set_option linter.unusedSectionVars false
namespace Go.AX.Tri
open Go.Proofs Go.AX.Mc
set_option linter.unusedSimpArgs false
set_option linter.unusedVariables false
noncomputable section

theorem and_i64 (a : Nat) (ha : a < 9223372036854775808) : wrapF .i64 ((BitVec.ofInt 64 (a : Int) &&& BitVec.ofInt 64 (65535 : Int)).toNat : Int) = ((a % 65536 : Nat) : Int) := by
  have : (BitVec.ofInt 64 (a : Int) &&& BitVec.ofInt 64 (65535 : Int)).toNat = a % 65536 := by
    rw [show (65535 : Int) = ((65535 : Nat) : Int) from rfl]
    simp only [BitVec.ofInt_natCast, BitVec.toNat_and, BitVec.toNat_ofNat]
    rw [Nat.mod_eq_of_lt (show a < 2 ^ 64 by omega), show 65535 % 2 ^ 64 = 65535 from rfl, mask16]
  rw [this]
  exact w64_id (by omega) (by omega)
section
variable (H : AH) (ty : TypeId) (ox oy : Operand) (nk : Option NilK)
theorem i_and16 {a : Nat} (ha : a < 9223372036854775808) : aBin Try.prog .and ty ox oy nk (.int .i64 a) (.int .i64 65535) H = some (.val (.int .i64 ((a % 65536 : Nat) : Int)) H) := by
  rw [bin_and]
  have := and_i64 a ha
  rw [← this]; rfl
theorem i_shr (a s : Nat) (hs : s ≤ 64) : aBin Try.prog .shr ty ox oy nk (.int .i64 a) (.int .i64 (s : Int)) H = some (.val (.int .i64 ((a / 2 ^ s : Nat) : Int)) H) := by
  rw [bin_shr0, show min s IntKind.i64.bits = s from Nat.min_eq_left hs, fdiv_nat]
end
theorem pow16 (i : Nat) : 2 ^ (16 * i) = Bs ^ i := by rw [Nat.pow_mul]

theorem loop56 {env : List Lp} {k : List KF} {Q : QF} {n : Nat} (hn : n < 9223372036854775808) {G : AH} (hlo : G.lo ≤ G.nx) {b0 : Option AB} {x2 : Value}
    (q2 : ∀ fr, tmp fr (pa 3) = .pointer (some ⟨G.nx + 1, 0, none⟩) → tmp fr (pa 2) = x2 → Kt T env false k .normal fr [] (ext G [b0, blk (dg n)]) Q) :
    ∀ (m i : Nat), i + m = 4 → ∀ fr : Tr Value, tmp fr (pa 0) = .int .i64 (n : Int) → tmp fr (pa 2) = x2 → tmp fr (pa 3) = .pointer (some ⟨G.nx + 1, 0, none⟩) → tmp fr (pa 5) = .int .i64 (i : Int) →
      X T env false (.loop a56l0) (.blk 0 :: k) fr [] (ext G [b0, blk (fnL 12 (mixF n 0 i))]) Q := by
  intro m
  induction m with
  | zero =>
    intro i hi fr t0 t2 t3 t5
    have hi' : i = 4 := by omega
    subst hi'
    rw [X_loop]
    change X _ _ _ (.seq _ _) _ _ _ _ _
    simp only [t5, show ¬ (((4 : Nat) : Int) < 4) by omega, decide_false, go_sem, bin_add, bin_sub, bin_mul, Nat.reduceAdd, Nat.reduceMul, Nat.reduceEqDiff, Nat.reduceLeDiff, Nat.reduceLT, Nat.reduceSub, reduceIte, reduceCtorEq, Int.reduceToNat, Int.reduceNeg, Int.reduceLE, Int.reduceLT, Int.reduceEq, Nat.reduceOr, Nat.reduceShiftRight, Nat.reduceMod, Nat.reduceBNe, Nat.reduceBEq]
    have e : fnL 12 (mixF n 0 4) = dg n := by
      refine fn_congr fun j hj => ?_
      unfold mixF
      by_cases h : j < 4
      · rw [if_pos h]
      · rw [if_neg h, dV_eq, dV_eq]
        have : dgN n j = 0 := by
          unfold dgN
          have h1 : Bs ^ 4 ≤ Bs ^ j := Nat.pow_le_pow_right (by decide) (by omega)
          rw [Nat.div_eq_of_lt (Nat.lt_of_lt_of_le (by unfold Bs; omega) h1), Nat.zero_mod]
        rw [this]
        unfold dgN
        rw [Nat.zero_div, Nat.zero_mod]
    rw [e]
    refine q2 _ ?_ ?_
    all_goals simp only [t2, t3, go_sem, bin_add, bin_sub, bin_mul, Nat.reduceAdd, Nat.reduceMul, Nat.reduceEqDiff, Nat.reduceLeDiff, Nat.reduceLT, Nat.reduceSub, reduceIte, reduceCtorEq, Int.reduceToNat, Int.reduceNeg, Int.reduceLE, Int.reduceLT, Int.reduceEq, Nat.reduceOr, Nat.reduceShiftRight, Nat.reduceMod, Nat.reduceBNe, Nat.reduceBEq]
  | succ m ih =>
    intro i hi fr t0 t2 t3 t5
    have hlt : (i : Int) < 4 := by omega
    have hi12 : i < 12 := by omega
    have h1 : i + 1 ≤ 12 := by omega
    have hw : wrapF .i64 (16 * (i : Int)) = ((16 * i : Nat) : Int) := by rw [w64_id (by omega) (by omega)]; omega
    have hq : n / 2 ^ (16 * i) < 9223372036854775808 := Nat.lt_of_le_of_lt (Nat.div_le_self _ _) hn
    rw [X_loop]
    change X _ _ _ (.seq _ _) _ _ _ _ _
    simp only [t0, t2, t3, t5, hlt, bin_mul (k := .i64), hw, i_shr _ _ _ _ _ _ _ (show 16 * i ≤ 64 by omega), i_and16 _ _ _ _ _ hq, w_u32, hi12, h1, hlo, Nat.mul_one, fn_length, fn_set _ hi12, go_sem, Nat.reduceAdd, Nat.reduceMul, Nat.reduceEqDiff, Nat.reduceLeDiff, Nat.reduceLT, Nat.reduceSub, reduceIte, reduceCtorEq, Int.reduceToNat, Int.reduceNeg, Int.reduceLE, Int.reduceLT, Int.reduceEq, Nat.reduceOr, Nat.reduceShiftRight, Nat.reduceMod, Nat.reduceBNe, Nat.reduceBEq]
    simp only [go_sem, bin_add, bin_sub, bin_mul, Nat.reduceAdd, Nat.reduceMul, Nat.reduceEqDiff, Nat.reduceLeDiff, Nat.reduceLT, Nat.reduceSub, reduceIte, reduceCtorEq, Int.reduceToNat, Int.reduceNeg, Int.reduceLE, Int.reduceLT, Int.reduceEq, Nat.reduceOr, Nat.reduceShiftRight, Nat.reduceMod, Nat.reduceBNe, Nat.reduceBEq]
    have hz : n / 2 ^ (16 * i) % 65536 % 4294967296 = dgN n i := by rw [pow16]; unfold dgN Bs; omega
    rw [mix_up n 0 i hz]
    refine ih (i + 1) (by omega) _ ?_ ?_ ?_ ?_
    · simp only [t0, go_sem, bin_add, bin_sub, bin_mul, Nat.reduceAdd, Nat.reduceMul, Nat.reduceEqDiff, Nat.reduceLeDiff, Nat.reduceLT, Nat.reduceSub, reduceIte, reduceCtorEq, Int.reduceToNat, Int.reduceNeg, Int.reduceLE, Int.reduceLT, Int.reduceEq, Nat.reduceOr, Nat.reduceShiftRight, Nat.reduceMod, Nat.reduceBNe, Nat.reduceBEq]
    · simp only [t2, go_sem, bin_add, bin_sub, bin_mul, Nat.reduceAdd, Nat.reduceMul, Nat.reduceEqDiff, Nat.reduceLeDiff, Nat.reduceLT, Nat.reduceSub, reduceIte, reduceCtorEq, Int.reduceToNat, Int.reduceNeg, Int.reduceLE, Int.reduceLT, Int.reduceEq, Nat.reduceOr, Nat.reduceShiftRight, Nat.reduceMod, Nat.reduceBNe, Nat.reduceBEq]
    · simp only [t3, go_sem, bin_add, bin_sub, bin_mul, Nat.reduceAdd, Nat.reduceMul, Nat.reduceEqDiff, Nat.reduceLeDiff, Nat.reduceLT, Nat.reduceSub, reduceIte, reduceCtorEq, Int.reduceToNat, Int.reduceNeg, Int.reduceLE, Int.reduceLT, Int.reduceEq, Nat.reduceOr, Nat.reduceShiftRight, Nat.reduceMod, Nat.reduceBNe, Nat.reduceBEq]
    · simp only [go_sem, bin_add, bin_sub, bin_mul, Nat.reduceAdd, Nat.reduceMul, Nat.reduceEqDiff, Nat.reduceLeDiff, Nat.reduceLT, Nat.reduceSub, reduceIte, reduceCtorEq, Int.reduceToNat, Int.reduceNeg, Int.reduceLE, Int.reduceLT, Int.reduceEq, Nat.reduceOr, Nat.reduceShiftRight, Nat.reduceMod, Nat.reduceBNe, Nat.reduceBEq]
      rw [w1 (by omega)]

theorem c56 {env : List Lp} (n : Nat) (hn : n < 9223372036854775808) (H : AH) (Q : AEnd → AH → Prop) : C T env 56 [.int .i64 (n : Int)] H Q = Q (.ret (.agg (dg n).toArray)) H := by
  refine C_det ?_ Q
  rw [C_fn T56 rfl]
  simp only [a56, zero12, go_sem, bin_add, bin_sub, bin_mul, Nat.reduceAdd, Nat.reduceMul, Nat.reduceEqDiff, Nat.reduceLeDiff, Nat.reduceLT, Nat.reduceSub, reduceIte, reduceCtorEq, Int.reduceToNat, Int.reduceNeg, Int.reduceLE, Int.reduceLT, Int.reduceEq, Nat.reduceOr, Nat.reduceShiftRight, Nat.reduceMod, Nat.reduceBNe, Nat.reduceBEq]
  have h0 : dg 0 = fnL 12 (mixF n 0 0) := by rw [mix_0]; rfl
  rw [h0]
  refine loop56 hn (G := H.now) (Nat.le_refl _) (x2 := .pointer (some ⟨H.now.nx, 0, none⟩)) ?_ 4 0 rfl _ ?_ ?_ ?_ ?_
  · intro fr t3 t2
    simp only [t2, t3, dg, fn_length, fn_take, fn_drop0, dV_flat, dV_clo, Nat.le_refl, go_sem, bin_add, bin_sub, bin_mul, Nat.reduceAdd, Nat.reduceMul, Nat.reduceEqDiff, Nat.reduceLeDiff, Nat.reduceLT, Nat.reduceSub, reduceIte, reduceCtorEq, Int.reduceToNat, Int.reduceNeg, Int.reduceLE, Int.reduceLT, Int.reduceEq, Nat.reduceOr, Nat.reduceShiftRight, Nat.reduceMod, Nat.reduceBNe, Nat.reduceBEq]
  all_goals first
    | (simp only [go_sem, bin_add, bin_sub, bin_mul, Nat.reduceAdd, Nat.reduceMul, Nat.reduceEqDiff, Nat.reduceLeDiff, Nat.reduceLT, Nat.reduceSub, reduceIte, reduceCtorEq, Int.reduceToNat, Int.reduceNeg, Int.reduceLE, Int.reduceLT, Int.reduceEq, Nat.reduceOr, Nat.reduceShiftRight, Nat.reduceMod, Nat.reduceBNe, Nat.reduceBEq]; done)
    | (simp only [go_sem, bin_add, bin_sub, bin_mul, Nat.reduceAdd, Nat.reduceMul, Nat.reduceEqDiff, Nat.reduceLeDiff, Nat.reduceLT, Nat.reduceSub, reduceIte, reduceCtorEq, Int.reduceToNat, Int.reduceNeg, Int.reduceLE, Int.reduceLT, Int.reduceEq, Nat.reduceOr, Nat.reduceShiftRight, Nat.reduceMod, Nat.reduceBNe, Nat.reduceBEq]; rfl)

theorem dg_step (a i : Nat) : a / Bs ^ i = Bs * (a / Bs ^ (i + 1)) + dgN a i := by
  unfold dgN
  rw [Nat.pow_succ, ← Nat.div_div_eq_div_mul]
  unfold Bs
  omega
theorem less_of {a b i : Nat} (h : a / Bs ^ (i + 1) = b / Bs ^ (i + 1)) (hne : dgN a i ≠ dgN b i) : decide (a < b) = decide (dgN a i < dgN b i) := by
  have e1 := dg_step a i
  have e2 := dg_step b i
  rw [h] at e1
  rw [decide_eq_decide]
  constructor
  · intro hlt
    have := Nat.div_le_div_right (c := Bs ^ i) (Nat.le_of_lt hlt)
    omega
  · intro hlt
    rcases Nat.lt_or_ge a b with k | k
    · exact k
    · have := Nat.div_le_div_right (c := Bs ^ i) k
      omega

theorem loop59 {env : List Lp} {k : List KF} {Q : QF} {a b : Nat} {G : AH} {R : List (Option AB)}
    (q1 : ∀ fr, tmp fr (pa 4) = .bool (decide (a < b)) → Kt T env false k .ret fr [] (ext G (blk (dg a) :: blk (dg b) :: R)) Q)
    (q2 : ∀ fr, decide (a < b) = false → Kt T env false k .normal fr [] (ext G (blk (dg a) :: blk (dg b) :: R)) Q) :
    ∀ (m : Nat), m ≤ 12 → a / Bs ^ m = b / Bs ^ m → ∀ fr : Tr Value, tmp fr (pa 2) = .pointer (some ⟨G.nx, 0, none⟩) → tmp fr (pa 3) = .pointer (some ⟨G.nx + 1, 0, none⟩) → tmp fr (pa 5) = .int .i64 ((m : Int) - 1) →
      X T env false (.loop a59l0) (.blk 0 :: k) fr [] (ext G (blk (dg a) :: blk (dg b) :: R)) Q := by
  intro m
  induction m with
  | zero =>
    intro hm he fr t2 t3 t5
    rw [X_loop]
    change X _ _ _ (.seq _ _) _ _ _ _ _
    simp only [t5, show decide ((0 : Int) ≤ 0 - 1) = false from rfl, go_sem, bin_add, bin_sub, bin_mul, Nat.reduceAdd, Nat.reduceMul, Nat.reduceEqDiff, Nat.reduceLeDiff, Nat.reduceLT, Nat.reduceSub, reduceIte, reduceCtorEq, Int.reduceToNat, Int.reduceNeg, Int.reduceLE, Int.reduceLT, Int.reduceEq, Nat.reduceOr, Nat.reduceShiftRight, Nat.reduceMod, Nat.reduceBNe, Nat.reduceBEq]
    refine q2 _ ?_
    rw [Nat.pow_zero, Nat.div_one, Nat.div_one] at he
    rw [he]
    simp
  | succ i ih =>
    intro hm he fr t2 t3 t5
    have t5' : tmp fr (pa 5) = .int .i64 (i : Int) := by rw [t5]; congr 1; omega
    have hi12 : i < 12 := by omega
    have h1 : i + 1 ≤ 12 := by omega
    rw [X_loop]
    change X _ _ _ (.seq _ _) _ _ _ _ _
    simp only [t2, t3, t5', show (0 : Int) ≤ (i : Int) by omega, go_sem, bin_add, bin_sub, bin_mul, Nat.reduceAdd, Nat.reduceMul, Nat.reduceEqDiff, Nat.reduceLeDiff, Nat.reduceLT, Nat.reduceSub, reduceIte, reduceCtorEq, Int.reduceToNat, Int.reduceNeg, Int.reduceLE, Int.reduceLT, Int.reduceEq, Nat.reduceOr, Nat.reduceShiftRight, Nat.reduceMod, Nat.reduceBNe, Nat.reduceBEq]
    refine X_drawE 0 (by rfl) ?_
    simp only [t2, t3, t5', hi12, h1, Nat.mul_one, fn_length, dg, fn_get _ hi12, dV_eq, go_sem, bin_add, bin_sub, bin_mul, Nat.reduceAdd, Nat.reduceMul, Nat.reduceEqDiff, Nat.reduceLeDiff, Nat.reduceLT, Nat.reduceSub, reduceIte, reduceCtorEq, Int.reduceToNat, Int.reduceNeg, Int.reduceLE, Int.reduceLT, Int.reduceEq, Nat.reduceOr, Nat.reduceShiftRight, Nat.reduceMod, Nat.reduceBNe, Nat.reduceBEq]
    refine Cd_split ?_ ?_ <;> intro g
    · simp only [g, go_sem, bin_add, bin_sub, bin_mul, Nat.reduceAdd, Nat.reduceMul, Nat.reduceEqDiff, Nat.reduceLeDiff, Nat.reduceLT, Nat.reduceSub, reduceIte, reduceCtorEq, Int.reduceToNat, Int.reduceNeg, Int.reduceLE, Int.reduceLT, Int.reduceEq, Nat.reduceOr, Nat.reduceShiftRight, Nat.reduceMod, Nat.reduceBNe, Nat.reduceBEq]
      refine X_drawE 0 (by rfl) ?_
      simp only [t2, t3, t5', hi12, h1, Nat.mul_one, fn_length, dg, fn_get _ hi12, dV_eq, go_sem, bin_add, bin_sub, bin_mul, Nat.reduceAdd, Nat.reduceMul, Nat.reduceEqDiff, Nat.reduceLeDiff, Nat.reduceLT, Nat.reduceSub, reduceIte, reduceCtorEq, Int.reduceToNat, Int.reduceNeg, Int.reduceLE, Int.reduceLT, Int.reduceEq, Nat.reduceOr, Nat.reduceShiftRight, Nat.reduceMod, Nat.reduceBNe, Nat.reduceBEq]
      refine q1 _ ?_
      simp only [go_sem, bin_add, bin_sub, bin_mul, Nat.reduceAdd, Nat.reduceMul, Nat.reduceEqDiff, Nat.reduceLeDiff, Nat.reduceLT, Nat.reduceSub, reduceIte, reduceCtorEq, Int.reduceToNat, Int.reduceNeg, Int.reduceLE, Int.reduceLT, Int.reduceEq, Nat.reduceOr, Nat.reduceShiftRight, Nat.reduceMod, Nat.reduceBNe, Nat.reduceBEq]
      rw [less_of he (by intro e; rw [e] at g; simp at g)]
      congr 1
      rw [decide_eq_decide]
      omega
    · simp only [g, t5', go_sem, bin_add, bin_sub, bin_mul, Nat.reduceAdd, Nat.reduceMul, Nat.reduceEqDiff, Nat.reduceLeDiff, Nat.reduceLT, Nat.reduceSub, reduceIte, reduceCtorEq, Int.reduceToNat, Int.reduceNeg, Int.reduceLE, Int.reduceLT, Int.reduceEq, Nat.reduceOr, Nat.reduceShiftRight, Nat.reduceMod, Nat.reduceBNe, Nat.reduceBEq]
      refine ih (by omega) ?_ _ ?_ ?_ ?_
      · rw [dg_step a i, dg_step b i, he]
        have : dgN a i = dgN b i := by simp at g; omega
        rw [this]
      · simp only [t2, go_sem, bin_add, bin_sub, bin_mul, Nat.reduceAdd, Nat.reduceMul, Nat.reduceEqDiff, Nat.reduceLeDiff, Nat.reduceLT, Nat.reduceSub, reduceIte, reduceCtorEq, Int.reduceToNat, Int.reduceNeg, Int.reduceLE, Int.reduceLT, Int.reduceEq, Nat.reduceOr, Nat.reduceShiftRight, Nat.reduceMod, Nat.reduceBNe, Nat.reduceBEq]
      · simp only [t3, go_sem, bin_add, bin_sub, bin_mul, Nat.reduceAdd, Nat.reduceMul, Nat.reduceEqDiff, Nat.reduceLeDiff, Nat.reduceLT, Nat.reduceSub, reduceIte, reduceCtorEq, Int.reduceToNat, Int.reduceNeg, Int.reduceLE, Int.reduceLT, Int.reduceEq, Nat.reduceOr, Nat.reduceShiftRight, Nat.reduceMod, Nat.reduceBNe, Nat.reduceBEq]
      · simp only [go_sem, bin_add, bin_sub, bin_mul, Nat.reduceAdd, Nat.reduceMul, Nat.reduceEqDiff, Nat.reduceLeDiff, Nat.reduceLT, Nat.reduceSub, reduceIte, reduceCtorEq, Int.reduceToNat, Int.reduceNeg, Int.reduceLE, Int.reduceLT, Int.reduceEq, Nat.reduceOr, Nat.reduceShiftRight, Nat.reduceMod, Nat.reduceBNe, Nat.reduceBEq]
        rw [w64_id (by omega) (by omega)]

theorem c59 {env : List Lp} (a b : Nat) (ha : a < Bs ^ 12) (hb : b < Bs ^ 12) (H : AH) (Q : AEnd → AH → Prop) : C T env 59 [.agg (dg a).toArray, .agg (dg b).toArray] H Q = Q (.ret (.bool (decide (a < b)))) H := by
  refine C_det ?_ Q
  rw [C_fn T59 rfl]
  simp only [a59, go_sem, bin_add, bin_sub, bin_mul, Nat.reduceAdd, Nat.reduceMul, Nat.reduceEqDiff, Nat.reduceLeDiff, Nat.reduceLT, Nat.reduceSub, reduceIte, reduceCtorEq, Int.reduceToNat, Int.reduceNeg, Int.reduceLE, Int.reduceLT, Int.reduceEq, Nat.reduceOr, Nat.reduceShiftRight, Nat.reduceMod, Nat.reduceBNe, Nat.reduceBEq]
  refine loop59 (G := H.now) ?_ ?_ 12 (by omega) (by rw [Nat.div_eq_of_lt ha, Nat.div_eq_of_lt hb]) _ ?_ ?_ ?_
  · intro fr t4
    simp only [t4, go_sem, bin_add, bin_sub, bin_mul, Nat.reduceAdd, Nat.reduceMul, Nat.reduceEqDiff, Nat.reduceLeDiff, Nat.reduceLT, Nat.reduceSub, reduceIte, reduceCtorEq, Int.reduceToNat, Int.reduceNeg, Int.reduceLE, Int.reduceLT, Int.reduceEq, Nat.reduceOr, Nat.reduceShiftRight, Nat.reduceMod, Nat.reduceBNe, Nat.reduceBEq]
  · intro fr h
    simp only [h, go_sem, bin_add, bin_sub, bin_mul, Nat.reduceAdd, Nat.reduceMul, Nat.reduceEqDiff, Nat.reduceLeDiff, Nat.reduceLT, Nat.reduceSub, reduceIte, reduceCtorEq, Int.reduceToNat, Int.reduceNeg, Int.reduceLE, Int.reduceLT, Int.reduceEq, Nat.reduceOr, Nat.reduceShiftRight, Nat.reduceMod, Nat.reduceBNe, Nat.reduceBEq]
  · simp only [go_sem, bin_add, bin_sub, bin_mul, Nat.reduceAdd, Nat.reduceMul, Nat.reduceEqDiff, Nat.reduceLeDiff, Nat.reduceLT, Nat.reduceSub, reduceIte, reduceCtorEq, Int.reduceToNat, Int.reduceNeg, Int.reduceLE, Int.reduceLT, Int.reduceEq, Nat.reduceOr, Nat.reduceShiftRight, Nat.reduceMod, Nat.reduceBNe, Nat.reduceBEq]
  · simp only [go_sem, bin_add, bin_sub, bin_mul, Nat.reduceAdd, Nat.reduceMul, Nat.reduceEqDiff, Nat.reduceLeDiff, Nat.reduceLT, Nat.reduceSub, reduceIte, reduceCtorEq, Int.reduceToNat, Int.reduceNeg, Int.reduceLE, Int.reduceLT, Int.reduceEq, Nat.reduceOr, Nat.reduceShiftRight, Nat.reduceMod, Nat.reduceBNe, Nat.reduceBEq]
  · simp only [go_sem, bin_add, bin_sub, bin_mul, Nat.reduceAdd, Nat.reduceMul, Nat.reduceEqDiff, Nat.reduceLeDiff, Nat.reduceLT, Nat.reduceSub, reduceIte, reduceCtorEq, Int.reduceToNat, Int.reduceNeg, Int.reduceLE, Int.reduceLT, Int.reduceEq, Nat.reduceOr, Nat.reduceShiftRight, Nat.reduceMod, Nat.reduceBNe, Nat.reduceBEq]; rfl
end
end Go.AX.Tri
/- Contracts: the number nearest to numbers, weighted, by digits. -/
namespace Go.AX.Tri
open Go.Proofs Go.AX.Mc
set_option linter.unusedSimpArgs false
set_option linter.unusedVariables false
noncomputable section

theorem zip_ints : ∀ l : List Value, (∀ v ∈ l, ∃ k n, v = .int k n) → ((l.zip l).all fun x => veq 5 x.1 x.2) = true
  | [], _ => rfl
  | v :: l, h => by
    obtain ⟨k, n, rfl⟩ := h v (List.mem_cons_self ..)
    rw [List.zip_cons_cons, List.all_cons, veq_int, zip_ints l fun v hv => h v (List.mem_cons_of_mem _ hv)]; rfl
theorem dg_zip (n : Nat) : (((dg n).zip (dg n)).all fun x => veq 5 x.1 x.2) = true := zip_ints _ fun v hv => by
  obtain ⟨i, _, rfl⟩ := List.mem_map.1 hv
  exact ⟨_, _, rfl⟩

/-- a weight, a number, in their lists. -/
structure WtAt (h : AH) (v v' : Value) (i : Nat) (w : Nat) (r : Int) : Prop where
  wt : ∃ b o, b < h.nx ∧ rd h b o 12 = some (dg w) ∧ ∀ H, idxS 12 v (.int .i64 (i : Int)) H = some (.val (.pointer (some ⟨b, o, none⟩)) H)
  rt : ∃ b o, b < h.nx ∧ rd h b o 1 = some [.int .i64 r] ∧ ∀ H, idxS 1 v' (.int .i64 (i : Int)) H = some (.val (.pointer (some ⟨b, o, none⟩)) H)
  bd : -4294967296 ≤ r ∧ r ≤ 4294967296

theorem step41 {env : List Lp} {K : List KF} {Q : QF} {G : AH} (hlo : G.lo ≤ G.nx) {v v' : Value} {i w : Nat} {r : Int} (hi : i < 3) (hw : WtAt G v v' i w r) (P M A : Nat) (R : List (Option AB)) (fr : Tr Value)
    (t0 : tmp fr (pa 0) = v) (t1 : tmp fr (pa 1) = v') (t5 : tmp fr (pa 5) = .pointer (some ⟨G.nx, 0, none⟩)) (t6 : tmp fr (pa 6) = .pointer (some ⟨G.nx + 1, 0, none⟩)) (t7 : tmp fr (pa 7) = .pointer (some ⟨G.nx + 2, 0, none⟩))
    (t15 : tmp fr (pa 15) = v) (t16 : tmp fr (pa 16) = .int .i64 3) (t17 : tmp fr (pa 17) = .int .i64 (i : Int))
    (hQ : ∀ fr R, tmp fr (pa 0) = v → tmp fr (pa 1) = v' → tmp fr (pa 5) = .pointer (some ⟨G.nx, 0, none⟩) → tmp fr (pa 6) = .pointer (some ⟨G.nx + 1, 0, none⟩) → tmp fr (pa 7) = .pointer (some ⟨G.nx + 2, 0, none⟩) →
      tmp fr (pa 15) = v → tmp fr (pa 16) = .int .i64 3 → tmp fr (pa 17) = .int .i64 ((i + 1 : Nat) : Int) →
      X T env false (.loop a41l1) (.blk 0 :: K) fr [] (ext G (blk (dg (P + upN w r)) :: blk (dg (M + dnN w r)) :: blk (dg (A + w)) :: R)) Q) :
    X T env false (.loop a41l1) (.blk 0 :: K) fr [] (ext G (blk (dg P) :: blk (dg M) :: blk (dg A) :: R)) Q := by
  obtain ⟨⟨bw, ow, nw, rw', iw⟩, ⟨br, or', nr, rr, ir⟩, bd⟩ := hw
  have hlt : (i : Int) < 3 := by omega
  have dl : ∀ n, (dg n).length = 12 := fun n => fn_length _ _
  have dt : ∀ n, (dg n).take 12 = dg n := fun n => fn_take _ _
  have dd : ∀ n, (dg n).drop 12 = [] := fun n => fn_drop0 _ _
  have df : ∀ n, (dg n).all flat = true := fun n => dV_flat _ _
  rw [X_loop]
  change X _ _ _ (.seq _ _) _ _ _ _ _
  obtain ⟨n, hn⟩ := Int.eq_nat_or_neg r
  by_cases hr : r < 0
  · have er : r = -(n : Int) := by omega
    have hwn : wrapF .i64 (-r) = (n : Int) := by rw [w64_id (by omega) (by omega)]; omega
    have hn48 : n < 281474976710656 := by omega
    simp only [t0, t1, t5, t6, t7, t15, t16, t17, hlt, hlo, iw, ir, nw, nr, rd_old _ _ _ _ _ nw, rd_old _ _ _ _ _ nr, rw', rr, dl, dt, dd, df, hr, zero12, Nat.le_refl, go_sem, bin_add, bin_sub, bin_mul, Nat.reduceAdd, Nat.reduceMul, Nat.reduceEqDiff, Nat.reduceLeDiff, Nat.reduceLT, Nat.reduceSub, reduceIte, reduceCtorEq, Int.reduceToNat, Int.reduceNeg, Int.reduceLE, Int.reduceLT, Int.reduceEq, Nat.reduceOr, Nat.reduceShiftRight, Nat.reduceMod, Nat.reduceBNe, Nat.reduceBEq]
    refine X_drawE 0 (by rfl) ?_
    simp only [t0, t1, t5, t6, t7, t15, t16, t17, hlo, iw, ir, nw, nr, rd_old _ _ _ _ _ nw, rd_old _ _ _ _ _ nr, rw', rr, dl, dt, dd, df, hwn, c57 _ _ hn48, c58, Nat.le_refl, go_sem, bin_add, bin_sub, bin_mul, Nat.reduceAdd, Nat.reduceMul, Nat.reduceEqDiff, Nat.reduceLeDiff, Nat.reduceLT, Nat.reduceSub, reduceIte, reduceCtorEq, Int.reduceToNat, Int.reduceNeg, Int.reduceLE, Int.reduceLT, Int.reduceEq, Nat.reduceOr, Nat.reduceShiftRight, Nat.reduceMod, Nat.reduceBNe, Nat.reduceBEq]
    simp only [dg_zip, Bool.and_self, true_and]
    have e := hQ
    unfold upN dnN at e
    simp only [hr, if_true] at e
    rw [show r.natAbs = n by omega, Nat.add_zero] at e
    refine e _ _ ?_ ?_ ?_ ?_ ?_ ?_ ?_ ?_
    all_goals simp only [t0, t1, t5, t6, t7, t15, t16, t17, w1 (show i < 9223372036854775807 by omega), go_sem, bin_add, bin_sub, bin_mul, Nat.reduceAdd, Nat.reduceMul, Nat.reduceEqDiff, Nat.reduceLeDiff, Nat.reduceLT, Nat.reduceSub, reduceIte, reduceCtorEq, Int.reduceToNat, Int.reduceNeg, Int.reduceLE, Int.reduceLT, Int.reduceEq, Nat.reduceOr, Nat.reduceShiftRight, Nat.reduceMod, Nat.reduceBNe, Nat.reduceBEq]
  · have er : r = (n : Int) := by omega
    subst er
    have hn48 : n < 281474976710656 := by omega
    simp only [t0, t1, t5, t6, t7, t15, t16, t17, hlt, hlo, iw, ir, nw, nr, rd_old _ _ _ _ _ nw, rd_old _ _ _ _ _ nr, rw', rr, dl, dt, dd, df, hr, zero12, Nat.le_refl, go_sem, bin_add, bin_sub, bin_mul, Nat.reduceAdd, Nat.reduceMul, Nat.reduceEqDiff, Nat.reduceLeDiff, Nat.reduceLT, Nat.reduceSub, reduceIte, reduceCtorEq, Int.reduceToNat, Int.reduceNeg, Int.reduceLE, Int.reduceLT, Int.reduceEq, Nat.reduceOr, Nat.reduceShiftRight, Nat.reduceMod, Nat.reduceBNe, Nat.reduceBEq]
    refine X_drawE 0 (by rfl) ?_
    simp only [t0, t1, t5, t6, t7, t15, t16, t17, hlo, iw, ir, nw, nr, rd_old _ _ _ _ _ nw, rd_old _ _ _ _ _ nr, rw', rr, dl, dt, dd, df, c57 _ _ hn48, c58, dg_zip, Nat.le_refl, go_sem, bin_add, bin_sub, bin_mul, Nat.reduceAdd, Nat.reduceMul, Nat.reduceEqDiff, Nat.reduceLeDiff, Nat.reduceLT, Nat.reduceSub, reduceIte, reduceCtorEq, Int.reduceToNat, Int.reduceNeg, Int.reduceLE, Int.reduceLT, Int.reduceEq, Nat.reduceOr, Nat.reduceShiftRight, Nat.reduceMod, Nat.reduceBNe, Nat.reduceBEq]
    have e := hQ
    unfold upN dnN at e
    simp only [hr, if_false] at e
    rw [show (n : Int).natAbs = n by omega, Nat.add_zero] at e
    refine e _ _ ?_ ?_ ?_ ?_ ?_ ?_ ?_ ?_
    all_goals simp only [t0, t1, t5, t6, t7, t15, t16, t17, w1 (show i < 9223372036854775807 by omega), go_sem, bin_add, bin_sub, bin_mul, Nat.reduceAdd, Nat.reduceMul, Nat.reduceEqDiff, Nat.reduceLeDiff, Nat.reduceLT, Nat.reduceSub, reduceIte, reduceCtorEq, Int.reduceToNat, Int.reduceNeg, Int.reduceLE, Int.reduceLT, Int.reduceEq, Nat.reduceOr, Nat.reduceShiftRight, Nat.reduceMod, Nat.reduceBNe, Nat.reduceBEq]
end
end Go.AX.Tri
