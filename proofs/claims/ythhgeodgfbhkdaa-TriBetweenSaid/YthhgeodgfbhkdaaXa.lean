/- TriChecks, in the calculus. -/
import Derived.Test.YthhgeodgfbhkdaaWr
set_option linter.unusedVariables false
set_option linter.unusedSimpArgs false
set_option linter.unusedSectionVars false
namespace Go.AX.Tri
open Go.Proofs Go.AX.Mc
set_option linter.unusedSimpArgs false
set_option linter.unusedVariables false
noncomputable section

theorem bin_eql_b (ox oy : Operand) (a b : Bool) (H : AH) : aBin Try.prog .eql 4 ox oy none (.bool a) (.bool b) H = some (.val (.bool (a == b)) H) := by
  have h : pure? Try.prog (binOp .eql 4 (.bool a) (.bool b)) = .ok (.bool (a == b)) := by cases a <;> cases b <;> kernel_rfl
  show (bif clo 4 (.bool a) && clo 4 (.bool b) then ofPR H (pure? Try.prog (binOp .eql 4 (.bool a) (.bool b))) else none) = _
  rw [h]; rfl
theorem bin_neq_b (ox oy : Operand) (a b : Bool) (H : AH) : aBin Try.prog .neq 4 ox oy none (.bool a) (.bool b) H = some (.val (.bool (!(a == b))) H) := by
  have h : pure? Try.prog (binOp .neq 4 (.bool a) (.bool b)) = .ok (.bool (!(a == b))) := by cases a <;> cases b <;> kernel_rfl
  show (bif clo 4 (.bool a) && clo 4 (.bool b) then ofPR H (pure? Try.prog (binOp .neq 4 (.bool a) (.bool b))) else none) = _
  rw [h]; rfl

/-- a slice of corners that comes in. -/
def WsIn (H : AH) (v : Value) : Prop := v = .slice none 0 0 ∨ ∃ b o c ws, v = .slice (some ⟨b, o, none⟩) (List.length ws) c ∧ ws.length ≤ c ∧ b < H.nx ∧ WsAt H b o ws

theorem c12_0 {env : List Lp} (H : AH) (Q : AEnd → AH → Prop) : C T env 12 [.slice none 0 0] H Q = Q (.ret (.int .i64 0)) H := by
  refine C_det ?_ Q
  rw [C_fn T12 rfl]
  simp only [a12, go_sem, bin_add, bin_sub, bin_mul, Nat.reduceAdd, Nat.reduceMul, Nat.reduceEqDiff, Nat.reduceLeDiff, Nat.reduceLT, Nat.reduceSub, reduceIte, reduceCtorEq, Int.reduceToNat, Int.reduceNeg, Int.reduceLE, Int.reduceLT, Int.reduceEq, Nat.reduceOr, Nat.reduceShiftRight, Nat.reduceMod, Nat.reduceBNe, Nat.reduceBEq]
  rw [X_loop]
  change X _ _ _ (.seq _ _) _ _ _ _ _
  simp only [Int.lt_irrefl, go_sem, bin_add, bin_sub, bin_mul, Nat.reduceAdd, Nat.reduceMul, Nat.reduceEqDiff, Nat.reduceLeDiff, Nat.reduceLT, Nat.reduceSub, reduceIte, reduceCtorEq, Int.reduceToNat, Int.reduceNeg, Int.reduceLE, Int.reduceLT, Int.reduceEq, Nat.reduceOr, Nat.reduceShiftRight, Nat.reduceMod, Nat.reduceBNe, Nat.reduceBEq]
theorem c13_0 {env : List Lp} (H : AH) (Q : AEnd → AH → Prop) : C T env 13 [.slice none 0 0] H Q = Q (.ret (.bool true)) H := by
  refine C_det ?_ Q
  rw [C_fn T13 rfl]
  simp only [a13, go_sem, bin_add, bin_sub, bin_mul, Nat.reduceAdd, Nat.reduceMul, Nat.reduceEqDiff, Nat.reduceLeDiff, Nat.reduceLT, Nat.reduceSub, reduceIte, reduceCtorEq, Int.reduceToNat, Int.reduceNeg, Int.reduceLE, Int.reduceLT, Int.reduceEq, Nat.reduceOr, Nat.reduceShiftRight, Nat.reduceMod, Nat.reduceBNe, Nat.reduceBEq]
  rw [X_loop]
  change X _ _ _ (.seq _ _) _ _ _ _ _
  simp only [Int.lt_irrefl, go_sem, bin_add, bin_sub, bin_mul, Nat.reduceAdd, Nat.reduceMul, Nat.reduceEqDiff, Nat.reduceLeDiff, Nat.reduceLT, Nat.reduceSub, reduceIte, reduceCtorEq, Int.reduceToNat, Int.reduceNeg, Int.reduceLE, Int.reduceLT, Int.reduceEq, Nat.reduceOr, Nat.reduceShiftRight, Nat.reduceMod, Nat.reduceBNe, Nat.reduceBEq]

theorem law3 (H : AH) (v : Value) (hv : WsIn H v) : C T [] 3 [v] H fun x H' => x = .ret (.bool true) ∧ H' = H := by
  rw [C_fn T3 rfl]
  rcases hv with rfl | ⟨b, o, c, ws, rfl, hc, hb, hw⟩
  · simp only [a3, c11, c12_0, c13_0, slS_0, bin_eql_b, show min (0 : Int) 8 = 0 from rfl, go_sem, bin_add, bin_sub, bin_mul, Nat.reduceAdd, Nat.reduceMul, Nat.reduceEqDiff, Nat.reduceLeDiff, Nat.reduceLT, Nat.reduceSub, reduceIte, reduceCtorEq, Int.reduceToNat, Int.reduceNeg, Int.reduceLE, Int.reduceLT, Int.reduceEq, Nat.reduceOr, Nat.reduceShiftRight, Nat.reduceMod, Nat.reduceBNe, Nat.reduceBEq]
  · have hm : min ws.length 8 ≤ c := by omega
    have hl : (ws.take 8).length = min ws.length 8 := by simp; omega
    have hw8 : WsAt H.now b o (ws.take 8) := by
      intro i a hi
      have : i < 8 := by have := (List.getElem?_eq_some_iff.1 hi).1; simp at this; omega
      rw [rd_now]; exact hw i a (by rw [List.getElem?_take] at hi; simpa [this] using hi)
    have k12 := fun (Q : AEnd → AH → Prop) => c12 (env := []) b o c (ws.take 8) H.now hb hw8 (by rw [hl]; omega) Q
    have k13 := fun (Q : AEnd → AH → Prop) => c13 (env := []) b o c (ws.take 8) H.now hb hw8 (by rw [hl]; omega) Q
    rw [hl] at k12 k13
    simp only [a3, c11, min_nat, slS_s _ _ _ _ _ _ _ hm, k12, k13, bin_eql_b, go_sem, bin_add, bin_sub, bin_mul, Nat.reduceAdd, Nat.reduceMul, Nat.reduceEqDiff, Nat.reduceLeDiff, Nat.reduceLT, Nat.reduceSub, reduceIte, reduceCtorEq, Int.reduceToNat, Int.reduceNeg, Int.reduceLE, Int.reduceLT, Int.reduceEq, Nat.reduceOr, Nat.reduceShiftRight, Nat.reduceMod, Nat.reduceBNe, Nat.reduceBEq]
    cases hbad : badL (ws.take 8)
    · simp only [errF, hbad, cond_false, bin_eql_b, go_sem, bin_add, bin_sub, bin_mul, Nat.reduceAdd, Nat.reduceMul, Nat.reduceEqDiff, Nat.reduceLeDiff, Nat.reduceLT, Nat.reduceSub, reduceIte, reduceCtorEq, Int.reduceToNat, Int.reduceNeg, Int.reduceLE, Int.reduceLT, Int.reduceEq, Nat.reduceOr, Nat.reduceShiftRight, Nat.reduceMod, Nat.reduceBNe, Nat.reduceBEq]
    · simp only [errF, hbad, cond_true, bin_eql_b, go_sem, bin_add, bin_sub, bin_mul, Nat.reduceAdd, Nat.reduceMul, Nat.reduceEqDiff, Nat.reduceLeDiff, Nat.reduceLT, Nat.reduceSub, reduceIte, reduceCtorEq, Int.reduceToNat, Int.reduceNeg, Int.reduceLE, Int.reduceLT, Int.reduceEq, Nat.reduceOr, Nat.reduceShiftRight, Nat.reduceMod, Nat.reduceBNe, Nat.reduceBEq]
end
end Go.AX.Tri
