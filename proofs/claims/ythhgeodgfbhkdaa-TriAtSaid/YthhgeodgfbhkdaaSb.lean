/- Contracts: great whole numbers by their digits: sums. -/
import Derived.Test.YthhgeodgfbhkdaaZg
set_option linter.unusedVariables false
set_option linter.unusedSimpArgs false
set_option linter.unusedSectionVars false
namespace Go.AX.Tri
open Go.Proofs Go.AX.Mc
set_option linter.unusedSimpArgs false
set_option linter.unusedVariables false
noncomputable section

abbrev B32 : Nat := 4294967296
theorem w_u32 (n : Nat) : wrapF .u32 (n : Int) = ((n % 4294967296 : Nat) : Int) := by
  show (n : Int) % 4294967296 = _
  omega
theorem mask16 (a : Nat) : a &&& 65535 = a % 65536 := Nat.and_two_pow_sub_one_eq_mod a 16
theorem and_u32 (a b : Nat) : wrapF .u32 ((BitVec.ofInt 32 (a : Int) &&& BitVec.ofInt 32 (b : Int)).toNat : Int) = (((a % B32) &&& (b % B32) : Nat) : Int) := by
  rw [w_u32]
  simp only [BitVec.ofInt_natCast, BitVec.toNat_and, BitVec.toNat_ofNat]
  congr 1
  exact Nat.mod_eq_of_lt (Nat.and_lt_two_pow (n := 32) _ (Nat.mod_lt _ (by decide)))
section
variable (H : AH) (ty : TypeId) (ox oy : Operand) (nk : Option NilK) (a b : Nat)
theorem v_add : aBin Try.prog .add ty ox oy nk (.int .u32 a) (.int .u32 b) H = some (.val (.int .u32 (((a + b) % B32 : Nat) : Int)) H) := by rw [bin_add, ← w_u32]; rfl
theorem v_and : aBin Try.prog .and ty ox oy nk (.int .u32 a) (.int .u32 65535) H = some (.val (.int .u32 ((a % 65536 : Nat) : Int)) H) := by
  rw [show (65535 : Int) = ((65535 : Nat) : Int) from rfl, bin_and]
  have := and_u32 a 65535
  rw [show (65535 : Nat) % B32 = 65535 from rfl, mask16, Nat.mod_mod_of_dvd _ (by decide)] at this
  rw [← this]; rfl
theorem v_shr : aBin Try.prog .shr ty ox oy nk (.int .u32 a) (.int .u64 16) H = some (.val (.int .u32 ((a / 65536 : Nat) : Int)) H) := by
  rw [bin_shr16, show min 16 IntKind.u32.bits = 16 from rfl, fdiv_nat]
theorem u_and16 : aBin Try.prog .and ty ox oy nk (.int .u64 a) (.int .u64 65535) H = some (.val (.int .u64 ((a % 65536 : Nat) : Int)) H) := by
  rw [show (65535 : Int) = ((65535 : Nat) : Int) from rfl, u_and, show (65535 : Nat) % B64 = 65535 from rfl, mask16, Nat.mod_mod_of_dvd _ (by decide)]
theorem u_shr16 : aBin Try.prog .shr ty ox oy nk (.int .u64 a) (.int .u64 16) H = some (.val (.int .u64 ((a / 65536 : Nat) : Int)) H) := by
  rw [bin_shr16, show min 16 IntKind.u64.bits = 16 from rfl, fdiv_nat]
end

def mixF (P o m : Nat) : Nat → Value := fun j => if j < m then dV P j else dV o j
theorem mix_self (P o m : Nat) : mixF P o m m = .int .u32 ((dgN o m : Nat) : Int) := by unfold mixF; rw [if_neg (Nat.lt_irrefl _)]; rfl
theorem mix_up (P o m : Nat) {N : Nat} {v : Nat} (hv : v = dgN P m) : fnL N (upF (mixF P o m) m (.int .u32 (v : Int))) = fnL N (mixF P o (m + 1)) := by
  refine fn_congr fun i _ => ?_
  unfold upF mixF
  by_cases h : i = m
  · subst h; rw [if_pos rfl, if_pos (by omega), hv]; rfl
  · rw [if_neg h]
    by_cases k : i < m
    · rw [if_pos k, if_pos (by omega)]
    · rw [if_neg k, if_neg (by omega)]
theorem mix_0 (P o : Nat) : mixF P o 0 = dV o := by funext j; unfold mixF; rw [if_neg (by omega)]
theorem mix_all (P o : Nat) : fnL 12 (mixF P o 12) = dg P := by
  refine fn_congr fun i hi => ?_
  unfold mixF; rw [if_pos hi]
theorem dV_eq (n i : Nat) : dV n i = .int .u32 ((dgN n i : Nat) : Int) := rfl
theorem zero12 : [Value.int .u32 0, .int .u32 0, .int .u32 0, .int .u32 0, .int .u32 0, .int .u32 0, .int .u32 0, .int .u32 0, .int .u32 0, .int .u32 0, .int .u32 0, .int .u32 0] = dg 0 := by
  unfold dg
  refine Eq.trans (b := fnL 12 fun _ => .int .u32 0) rfl (fn_congr fun i _ => ?_)
  unfold dV dgN
  simp

theorem dV_flat (N n : Nat) : (fnL N (dV n)).all flat = true := by
  rw [List.all_eq_true]
  intro x hx
  obtain ⟨i, _, rfl⟩ := List.mem_map.1 hx
  rfl
theorem dV_clo (N n d : Nat) : (fnL N (dV n)).all (clo d) = true := by
  rw [List.all_eq_true]
  intro x hx
  obtain ⟨i, _, rfl⟩ := List.mem_map.1 hx
  exact clo_int _ _ _

theorem loop58 {env : List Lp} {k : List KF} {Q : QF} {a b : Nat} {G : AH} (hlo : G.lo ≤ G.nx) {R : List (Option AB)} {x4 : Value}
    (q2 : ∀ fr, tmp fr (pa 2) = .pointer (some ⟨G.nx, 0, none⟩) → tmp fr (pa 4) = x4 → Kt T env false k .normal fr [] (ext G (blk (dg (a + b)) :: blk (dg b) :: R)) Q) :
    ∀ (m i : Nat), i + m = 12 → ∀ fr : Tr Value, tmp fr (pa 2) = .pointer (some ⟨G.nx, 0, none⟩) → tmp fr (pa 3) = .pointer (some ⟨G.nx + 1, 0, none⟩) → tmp fr (pa 4) = x4 → tmp fr (pa 5) = .int .u32 ((Qf a b 1 0 i / Bs ^ (i + 0) : Nat) : Int) → tmp fr (pa 8) = .int .i64 (i : Int) →
      X T env false (.loop a58l0) (.blk 0 :: k) fr [] (ext G (blk (fnL 12 (mixF (a + b) a i)) :: blk (dg b) :: R)) Q := by
  intro m
  induction m with
  | zero =>
    intro i hi fr t2 t3 t4 t5 t8
    have hi' : i = 12 := by omega
    subst hi'
    rw [X_loop]
    change X _ _ _ (.seq _ _) _ _ _ _ _
    simp only [t8, show ¬ (((12 : Nat) : Int) < 12) by omega, decide_false, go_sem, bin_add, bin_sub, bin_mul, Nat.reduceAdd, Nat.reduceMul, Nat.reduceEqDiff, Nat.reduceLeDiff, Nat.reduceLT, Nat.reduceSub, reduceIte, reduceCtorEq, Int.reduceToNat, Int.reduceNeg, Int.reduceLE, Int.reduceLT, Int.reduceEq, Nat.reduceOr, Nat.reduceShiftRight, Nat.reduceMod, Nat.reduceBNe, Nat.reduceBEq]
    rw [mix_all]
    refine q2 _ ?_ ?_
    all_goals simp only [t2, t4, go_sem, bin_add, bin_sub, bin_mul, Nat.reduceAdd, Nat.reduceMul, Nat.reduceEqDiff, Nat.reduceLeDiff, Nat.reduceLT, Nat.reduceSub, reduceIte, reduceCtorEq, Int.reduceToNat, Int.reduceNeg, Int.reduceLE, Int.reduceLT, Int.reduceEq, Nat.reduceOr, Nat.reduceShiftRight, Nat.reduceMod, Nat.reduceBNe, Nat.reduceBEq]
  | succ m ih =>
    intro i hi fr t2 t3 t4 t5 t8
    have hlt : (i : Int) < 12 := by omega
    have hi12 : i < 12 := by omega
    have h1 : i + 1 ≤ 12 := by omega
    have d1 := dgN_lt a i
    have d2 := dgN_lt b i
    have hc := row_le a b 1 0 i
    have e1 := row_c a b 1 0 i
    have e2 := row_d a b 1 0 i
    rw [Nat.mul_one] at e1 e2
    rw [Nat.mul_one, Nat.pow_zero, Nat.mul_one] at e2
    simp only [Nat.add_zero] at hc e1 e2
    rw [X_loop]
    change X _ _ _ (.seq _ _) _ _ _ _ _
    simp only [t2, t3, t4, t5, t8, hlt, go_sem, bin_add, bin_sub, bin_mul, Nat.reduceAdd, Nat.reduceMul, Nat.reduceEqDiff, Nat.reduceLeDiff, Nat.reduceLT, Nat.reduceSub, reduceIte, reduceCtorEq, Int.reduceToNat, Int.reduceNeg, Int.reduceLE, Int.reduceLT, Int.reduceEq, Nat.reduceOr, Nat.reduceShiftRight, Nat.reduceMod, Nat.reduceBNe, Nat.reduceBEq]
    refine X_drawE 0 (by rfl) ?_
    simp only [t2, t3, t4, t5, t8, hlt, hi12, h1, Nat.mul_one, fn_length, dg, fn_get _ hi12, mix_self, dV_eq, v_add, go_sem, Nat.reduceAdd, Nat.reduceMul, Nat.reduceEqDiff, Nat.reduceLeDiff, Nat.reduceLT, Nat.reduceSub, reduceIte, reduceCtorEq, Int.reduceToNat, Int.reduceNeg, Int.reduceLE, Int.reduceLT, Int.reduceEq, Nat.reduceOr, Nat.reduceShiftRight, Nat.reduceMod, Nat.reduceBNe, Nat.reduceBEq]
    simp only [t2, t3, t4, t5, t8, hlt, hi12, h1, hlo, Nat.mul_one, fn_length, dg, fn_get _ hi12, fn_set _ hi12, mix_self, dV_eq, v_add, v_and, v_shr, go_sem, Nat.reduceAdd, Nat.reduceMul, Nat.reduceEqDiff, Nat.reduceLeDiff, Nat.reduceLT, Nat.reduceSub, reduceIte, reduceCtorEq, Int.reduceToNat, Int.reduceNeg, Int.reduceLE, Int.reduceLT, Int.reduceEq, Nat.reduceOr, Nat.reduceShiftRight, Nat.reduceMod, Nat.reduceBNe, Nat.reduceBEq]
    simp only [go_sem, bin_add, bin_sub, bin_mul, Nat.reduceAdd, Nat.reduceMul, Nat.reduceEqDiff, Nat.reduceLeDiff, Nat.reduceLT, Nat.reduceSub, reduceIte, reduceCtorEq, Int.reduceToNat, Int.reduceNeg, Int.reduceLE, Int.reduceLT, Int.reduceEq, Nat.reduceOr, Nat.reduceShiftRight, Nat.reduceMod, Nat.reduceBNe, Nat.reduceBEq]
    generalize hcv : Qf a b 1 0 i / Bs ^ i = cv at *
    have hs : ((dgN a i + dgN b i) % B32 + cv) % B32 = dgN a i + dgN b i + cv := by
      show ((dgN a i + dgN b i) % 4294967296 + cv) % 4294967296 = _
      unfold Bs at d1 d2; omega
    rw [hs, mix_up (a + b) a i (v := (dgN a i + dgN b i + cv) % 65536) e2.symm]
    refine ih (i + 1) (by omega) _ ?_ ?_ ?_ ?_ ?_
    · simp only [t2, go_sem, bin_add, bin_sub, bin_mul, Nat.reduceAdd, Nat.reduceMul, Nat.reduceEqDiff, Nat.reduceLeDiff, Nat.reduceLT, Nat.reduceSub, reduceIte, reduceCtorEq, Int.reduceToNat, Int.reduceNeg, Int.reduceLE, Int.reduceLT, Int.reduceEq, Nat.reduceOr, Nat.reduceShiftRight, Nat.reduceMod, Nat.reduceBNe, Nat.reduceBEq]
    · simp only [t3, go_sem, bin_add, bin_sub, bin_mul, Nat.reduceAdd, Nat.reduceMul, Nat.reduceEqDiff, Nat.reduceLeDiff, Nat.reduceLT, Nat.reduceSub, reduceIte, reduceCtorEq, Int.reduceToNat, Int.reduceNeg, Int.reduceLE, Int.reduceLT, Int.reduceEq, Nat.reduceOr, Nat.reduceShiftRight, Nat.reduceMod, Nat.reduceBNe, Nat.reduceBEq]
    · simp only [t4, go_sem, bin_add, bin_sub, bin_mul, Nat.reduceAdd, Nat.reduceMul, Nat.reduceEqDiff, Nat.reduceLeDiff, Nat.reduceLT, Nat.reduceSub, reduceIte, reduceCtorEq, Int.reduceToNat, Int.reduceNeg, Int.reduceLE, Int.reduceLT, Int.reduceEq, Nat.reduceOr, Nat.reduceShiftRight, Nat.reduceMod, Nat.reduceBNe, Nat.reduceBEq]
    · simp only [go_sem, bin_add, bin_sub, bin_mul, Nat.reduceAdd, Nat.reduceMul, Nat.reduceEqDiff, Nat.reduceLeDiff, Nat.reduceLT, Nat.reduceSub, reduceIte, reduceCtorEq, Int.reduceToNat, Int.reduceNeg, Int.reduceLE, Int.reduceLT, Int.reduceEq, Nat.reduceOr, Nat.reduceShiftRight, Nat.reduceMod, Nat.reduceBNe, Nat.reduceBEq]
      rw [Nat.add_zero, e1]
    · simp only [go_sem, bin_add, bin_sub, bin_mul, Nat.reduceAdd, Nat.reduceMul, Nat.reduceEqDiff, Nat.reduceLeDiff, Nat.reduceLT, Nat.reduceSub, reduceIte, reduceCtorEq, Int.reduceToNat, Int.reduceNeg, Int.reduceLE, Int.reduceLT, Int.reduceEq, Nat.reduceOr, Nat.reduceShiftRight, Nat.reduceMod, Nat.reduceBNe, Nat.reduceBEq]
      rw [w1 (by omega)]

theorem c58 {env : List Lp} (a b : Nat) (H : AH) (Q : AEnd → AH → Prop) : C T env 58 [.agg (dg a).toArray, .agg (dg b).toArray] H Q = Q (.ret (.agg (dg (a + b)).toArray)) H := by
  refine C_det ?_ Q
  rw [C_fn T58 rfl]
  simp only [a58, zero12, go_sem, bin_add, bin_sub, bin_mul, Nat.reduceAdd, Nat.reduceMul, Nat.reduceEqDiff, Nat.reduceLeDiff, Nat.reduceLT, Nat.reduceSub, reduceIte, reduceCtorEq, Int.reduceToNat, Int.reduceNeg, Int.reduceLE, Int.reduceLT, Int.reduceEq, Nat.reduceOr, Nat.reduceShiftRight, Nat.reduceMod, Nat.reduceBNe, Nat.reduceBEq]
  have h0 : dg a = fnL 12 (mixF (a + b) a 0) := by rw [mix_0]; rfl
  rw [h0]
  refine loop58 (G := H.now) (Nat.le_refl _) (x4 := .pointer (some ⟨H.now.nx + 2, 0, none⟩)) ?_ 12 0 rfl _ ?_ ?_ ?_ ?_ ?_
  · intro fr t2 t4
    simp only [t2, t4, dg, fn_length, fn_take, fn_drop0, dV_flat, dV_clo, Nat.le_refl, go_sem, bin_add, bin_sub, bin_mul, Nat.reduceAdd, Nat.reduceMul, Nat.reduceEqDiff, Nat.reduceLeDiff, Nat.reduceLT, Nat.reduceSub, reduceIte, reduceCtorEq, Int.reduceToNat, Int.reduceNeg, Int.reduceLE, Int.reduceLT, Int.reduceEq, Nat.reduceOr, Nat.reduceShiftRight, Nat.reduceMod, Nat.reduceBNe, Nat.reduceBEq]
  · simp only [go_sem, bin_add, bin_sub, bin_mul, Nat.reduceAdd, Nat.reduceMul, Nat.reduceEqDiff, Nat.reduceLeDiff, Nat.reduceLT, Nat.reduceSub, reduceIte, reduceCtorEq, Int.reduceToNat, Int.reduceNeg, Int.reduceLE, Int.reduceLT, Int.reduceEq, Nat.reduceOr, Nat.reduceShiftRight, Nat.reduceMod, Nat.reduceBNe, Nat.reduceBEq]
  · simp only [go_sem, bin_add, bin_sub, bin_mul, Nat.reduceAdd, Nat.reduceMul, Nat.reduceEqDiff, Nat.reduceLeDiff, Nat.reduceLT, Nat.reduceSub, reduceIte, reduceCtorEq, Int.reduceToNat, Int.reduceNeg, Int.reduceLE, Int.reduceLT, Int.reduceEq, Nat.reduceOr, Nat.reduceShiftRight, Nat.reduceMod, Nat.reduceBNe, Nat.reduceBEq]
  · simp only [go_sem, bin_add, bin_sub, bin_mul, Nat.reduceAdd, Nat.reduceMul, Nat.reduceEqDiff, Nat.reduceLeDiff, Nat.reduceLT, Nat.reduceSub, reduceIte, reduceCtorEq, Int.reduceToNat, Int.reduceNeg, Int.reduceLE, Int.reduceLT, Int.reduceEq, Nat.reduceOr, Nat.reduceShiftRight, Nat.reduceMod, Nat.reduceBNe, Nat.reduceBEq]
  · simp only [go_sem, bin_add, bin_sub, bin_mul, Nat.reduceAdd, Nat.reduceMul, Nat.reduceEqDiff, Nat.reduceLeDiff, Nat.reduceLT, Nat.reduceSub, reduceIte, reduceCtorEq, Int.reduceToNat, Int.reduceNeg, Int.reduceLE, Int.reduceLT, Int.reduceEq, Nat.reduceOr, Nat.reduceShiftRight, Nat.reduceMod, Nat.reduceBNe, Nat.reduceBEq]
    rw [row_0]; rfl
  · simp only [go_sem, bin_add, bin_sub, bin_mul, Nat.reduceAdd, Nat.reduceMul, Nat.reduceEqDiff, Nat.reduceLeDiff, Nat.reduceLT, Nat.reduceSub, reduceIte, reduceCtorEq, Int.reduceToNat, Int.reduceNeg, Int.reduceLE, Int.reduceLT, Int.reduceEq, Nat.reduceOr, Nat.reduceShiftRight, Nat.reduceMod, Nat.reduceBNe, Nat.reduceBEq]
end
end Go.AX.Tri
