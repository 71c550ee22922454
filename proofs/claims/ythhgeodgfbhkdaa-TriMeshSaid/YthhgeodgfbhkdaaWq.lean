/- Contracts: the cells of a box. -/
import Derived.Test.YthhgeodgfbhkdaaWo
set_option linter.unusedVariables false
set_option linter.unusedSimpArgs false
set_option linter.unusedSectionVars false
namespace Go.AX.Tri
open Go.Proofs Go.AX.Mc
set_option linter.unusedSimpArgs false
set_option linter.unusedVariables false
noncomputable section

def rowL (px pw : Nat) (y : Int) (i : Nat) : List (Int × Int) := (List.range i).map fun n => (((px + n : Nat) : Int), y)
def rowsL (px py pw j : Nat) : List (Int × Int) := (List.range j).flatMap fun n => rowL px pw ((py + n : Nat) : Int) pw
def cellsL (px py pw ph : Nat) : List (Int × Int) := rowsL px py pw ph
theorem rowL_succ (px pw : Nat) (y : Int) (i : Nat) : rowL px pw y (i + 1) = rowL px pw y i ++ [(((px + i : Nat) : Int), y)] := by simp [rowL, List.range_succ]
theorem rowsL_succ (px py pw j : Nat) : rowsL px py pw (j + 1) = rowsL px py pw j ++ rowL px pw ((py + j : Nat) : Int) pw := by simp [rowsL, List.range_succ]
def pcV (px py pw ph : Nat) : List Value := [.int .i64 (px : Int), .int .i64 (py : Int), .int .i64 (pw : Int), .int .i64 (ph : Int)]

theorem rowL_length (px pw : Nat) (y : Int) (i : Nat) : (rowL px pw y i).length = i := by simp [rowL]
theorem rowsL_length (px py pw : Nat) : ∀ j, (rowsL px py pw j).length = j * pw
  | 0 => by simp [rowsL]
  | j + 1 => by rw [rowsL_succ, List.length_append, rowsL_length px py pw j, rowL_length, Nat.succ_mul]
theorem pre_len (px py pw j i : Nat) (y : Int) (hj : j < 64) (hi : i < pw) (hw : pw ≤ 64) : (rowsL px py pw j ++ rowL px pw y i).length < 4096 := by
  rw [List.length_append, rowsL_length, rowL_length]
  have : j * pw ≤ 63 * 64 := Nat.mul_le_mul (by omega) hw
  omega

section
set_option linter.unusedSectionVars false
variable {env : List Lp} {k : List KF} {Q : QF} (l pp px py pw ph : Nat) (hx : px + pw ≤ 64) (hy : py + ph ≤ 64) (J : List (Int × Int) → AH → Prop)
  (hP : ∀ pre h, J pre h → rd h pp 0 4 = some (pcV px py pw ph))
  (hR : ∀ pre (x y : Nat) h, pre.length < 4096 → px ≤ x → x < px + pw → py ≤ y → y < py + ph → J pre h → R T env l [.int .i64 (x : Int), .int .i64 (y : Int)] h fun r h' => r = .ret (.bool true) ∧ J (pre ++ [((x : Int), (y : Int))]) h')
include hx hy hP hR

theorem inner46 (j : Nat) (hj : j < ph)
    (hQ : ∀ fr h, J (rowsL px py pw (j + 1)) h → tmp fr (pa 0) = .func (.yield l) #[] #[] → tmp fr (pa 1) = .pointer (some ⟨pp, 0, none⟩) → tmp fr (pa 3) = .int .i64 ((py + j : Nat) : Int) → Kt T env false k .normal fr [] h Q) :
    ∀ (r i : Nat), i + r = pw → ∀ fr h, J (rowsL px py pw j ++ rowL px pw ((py + j : Nat) : Int) i) h → tmp fr (pa 0) = .func (.yield l) #[] #[] → tmp fr (pa 1) = .pointer (some ⟨pp, 0, none⟩) → tmp fr (pa 3) = .int .i64 ((py + j : Nat) : Int) → tmp fr (pa 4) = .int .i64 ((px + i : Nat) : Int) →
      X T env false (.loop a46l0) (.blk 2 :: k) fr [] h Q := by
  intro r
  induction r with
  | zero =>
    intro i hi fr h hJ t0 t1 t3 t4
    obtain rfl : i = pw := by omega
    have p0 : rd h pp 0 1 = some [.int .i64 (px : Int)] := by have := rd_part (hP _ _ hJ) 0 1 (by omega); exact this
    have p2 : rd h pp 2 1 = some [.int .i64 (i : Int)] := by have := rd_part (hP _ _ hJ) 2 1 (by omega); rwa [Nat.zero_add] at this
    have e : wrapF .i64 ((px : Int) + (i : Int)) = ((px + i : Nat) : Int) := by rw [w64_id (by omega) (by omega)]; omega
    rw [X_loop]
    change X _ _ _ (.seq _ _) _ _ _ _ _
    simp only [t0, t1, t3, t4, p0, p2, e, Int.lt_irrefl, go_sem, bin_add, bin_sub, bin_mul, Nat.reduceAdd, Nat.reduceMul, Nat.reduceEqDiff, Nat.reduceLeDiff, Nat.reduceLT, Nat.reduceSub, reduceIte, reduceCtorEq, Int.reduceToNat, Int.reduceNeg, Int.reduceLE, Int.reduceLT, Int.reduceEq, Nat.reduceOr, Nat.reduceShiftRight, Nat.reduceMod, Nat.reduceBNe, Nat.reduceBEq]
    rw [← rowsL_succ] at hJ
    refine hQ _ _ hJ ?_ ?_ ?_ <;> simp only [t0, t1, t3, go_sem, bin_add, bin_sub, bin_mul, Nat.reduceAdd, Nat.reduceMul, Nat.reduceEqDiff, Nat.reduceLeDiff, Nat.reduceLT, Nat.reduceSub, reduceIte, reduceCtorEq, Int.reduceToNat, Int.reduceNeg, Int.reduceLE, Int.reduceLT, Int.reduceEq, Nat.reduceOr, Nat.reduceShiftRight, Nat.reduceMod, Nat.reduceBNe, Nat.reduceBEq]
  | succ r ih =>
    intro i hi fr h hJ t0 t1 t3 t4
    have p0 : rd h pp 0 1 = some [.int .i64 (px : Int)] := by have := rd_part (hP _ _ hJ) 0 1 (by omega); exact this
    have p2 : rd h pp 2 1 = some [.int .i64 (pw : Int)] := by have := rd_part (hP _ _ hJ) 2 1 (by omega); rwa [Nat.zero_add] at this
    have e : wrapF .i64 ((px : Int) + (pw : Int)) = ((px + pw : Nat) : Int) := by rw [w64_id (by omega) (by omega)]; omega
    have hlt : ((px + i : Nat) : Int) < ((px + pw : Nat) : Int) := by omega
    rw [X_loop]
    change X _ _ _ (.seq _ _) _ _ _ _ _
    simp only [t0, t1, t3, t4, p0, p2, e, hlt, go_sem, bin_add, bin_sub, bin_mul, Nat.reduceAdd, Nat.reduceMul, Nat.reduceEqDiff, Nat.reduceLeDiff, Nat.reduceLT, Nat.reduceSub, reduceIte, reduceCtorEq, Int.reduceToNat, Int.reduceNeg, Int.reduceLE, Int.reduceLT, Int.reduceEq, Nat.reduceOr, Nat.reduceShiftRight, Nat.reduceMod, Nat.reduceBNe, Nat.reduceBEq]
    refine R_mono ?_ (hR _ (px + i) (py + j) h (pre_len px py pw j i ((py + j : Nat) : Int) (by omega) (by omega) (by omega)) (by omega) (by omega) (by omega) (by omega) hJ)
    rintro x h' ⟨rfl, hJ'⟩
    rw [List.append_assoc, ← rowL_succ] at hJ'
    simp only [t0, t1, t3, t4, go_sem, bin_add, bin_sub, bin_mul, Nat.reduceAdd, Nat.reduceMul, Nat.reduceEqDiff, Nat.reduceLeDiff, Nat.reduceLT, Nat.reduceSub, reduceIte, reduceCtorEq, Int.reduceToNat, Int.reduceNeg, Int.reduceLE, Int.reduceLT, Int.reduceEq, Nat.reduceOr, Nat.reduceShiftRight, Nat.reduceMod, Nat.reduceBNe, Nat.reduceBEq]
    refine ih (i + 1) (by omega) _ h' hJ' ?_ ?_ ?_ ?_ <;> simp only [t0, t1, t3, w64_succ (px + i) (by omega), go_sem, bin_add, bin_sub, bin_mul, Nat.reduceAdd, Nat.reduceMul, Nat.reduceEqDiff, Nat.reduceLeDiff, Nat.reduceLT, Nat.reduceSub, reduceIte, reduceCtorEq, Int.reduceToNat, Int.reduceNeg, Int.reduceLE, Int.reduceLT, Int.reduceEq, Nat.reduceOr, Nat.reduceShiftRight, Nat.reduceMod, Nat.reduceBNe, Nat.reduceBEq]
    rfl

theorem outer46 (hQ : ∀ fr h, J (cellsL px py pw ph) h → Kt T env false k .normal fr [] h Q) :
    ∀ (r j : Nat), j + r = ph → ∀ fr h, J (rowsL px py pw j) h → tmp fr (pa 0) = .func (.yield l) #[] #[] → tmp fr (pa 1) = .pointer (some ⟨pp, 0, none⟩) → tmp fr (pa 3) = .int .i64 ((py + j : Nat) : Int) →
      X T env false (.loop a46l1) (.blk 0 :: k) fr [] h Q := by
  intro r
  induction r with
  | zero =>
    intro j hj fr h hJ t0 t1 t3
    obtain rfl : j = ph := by omega
    have p1 : rd h pp 1 1 = some [.int .i64 (py : Int)] := by have := rd_part (hP _ _ hJ) 1 1 (by omega); rwa [Nat.zero_add] at this
    have p3 : rd h pp 3 1 = some [.int .i64 (j : Int)] := by have := rd_part (hP _ _ hJ) 3 1 (by omega); rwa [Nat.zero_add] at this
    have e : wrapF .i64 ((py : Int) + (j : Int)) = ((py + j : Nat) : Int) := by rw [w64_id (by omega) (by omega)]; omega
    rw [X_loop]
    change X _ _ _ (.seq _ _) _ _ _ _ _
    simp only [t0, t1, t3, p1, p3, e, Int.lt_irrefl, go_sem, bin_add, bin_sub, bin_mul, Nat.reduceAdd, Nat.reduceMul, Nat.reduceEqDiff, Nat.reduceLeDiff, Nat.reduceLT, Nat.reduceSub, reduceIte, reduceCtorEq, Int.reduceToNat, Int.reduceNeg, Int.reduceLE, Int.reduceLT, Int.reduceEq, Nat.reduceOr, Nat.reduceShiftRight, Nat.reduceMod, Nat.reduceBNe, Nat.reduceBEq]
    exact hQ _ _ hJ
  | succ r ih =>
    intro j hj fr h hJ t0 t1 t3
    have p0 : rd h pp 0 1 = some [.int .i64 (px : Int)] := by have := rd_part (hP _ _ hJ) 0 1 (by omega); exact this
    have p1 : rd h pp 1 1 = some [.int .i64 (py : Int)] := by have := rd_part (hP _ _ hJ) 1 1 (by omega); rwa [Nat.zero_add] at this
    have p3 : rd h pp 3 1 = some [.int .i64 (ph : Int)] := by have := rd_part (hP _ _ hJ) 3 1 (by omega); rwa [Nat.zero_add] at this
    have e : wrapF .i64 ((py : Int) + (ph : Int)) = ((py + ph : Nat) : Int) := by rw [w64_id (by omega) (by omega)]; omega
    have hlt : ((py + j : Nat) : Int) < ((py + ph : Nat) : Int) := by omega
    rw [X_loop]
    change X _ _ _ (.seq _ _) _ _ _ _ _
    simp only [t0, t1, t3, p0, p1, p3, e, hlt, go_sem, bin_add, bin_sub, bin_mul, Nat.reduceAdd, Nat.reduceMul, Nat.reduceEqDiff, Nat.reduceLeDiff, Nat.reduceLT, Nat.reduceSub, reduceIte, reduceCtorEq, Int.reduceToNat, Int.reduceNeg, Int.reduceLE, Int.reduceLT, Int.reduceEq, Nat.reduceOr, Nat.reduceShiftRight, Nat.reduceMod, Nat.reduceBNe, Nat.reduceBEq]
    refine inner46 l pp px py pw ph hx hy J hP hR j (by omega) ?_ pw 0 (by omega) _ h (by rw [show rowL px pw ((py + j : Nat) : Int) 0 = [] from rfl, List.append_nil]; exact hJ) ?_ ?_ ?_ ?_
    rotate_left
    · simp only [t0, go_sem, bin_add, bin_sub, bin_mul, Nat.reduceAdd, Nat.reduceMul, Nat.reduceEqDiff, Nat.reduceLeDiff, Nat.reduceLT, Nat.reduceSub, reduceIte, reduceCtorEq, Int.reduceToNat, Int.reduceNeg, Int.reduceLE, Int.reduceLT, Int.reduceEq, Nat.reduceOr, Nat.reduceShiftRight, Nat.reduceMod, Nat.reduceBNe, Nat.reduceBEq]
    · simp only [t1, go_sem, bin_add, bin_sub, bin_mul, Nat.reduceAdd, Nat.reduceMul, Nat.reduceEqDiff, Nat.reduceLeDiff, Nat.reduceLT, Nat.reduceSub, reduceIte, reduceCtorEq, Int.reduceToNat, Int.reduceNeg, Int.reduceLE, Int.reduceLT, Int.reduceEq, Nat.reduceOr, Nat.reduceShiftRight, Nat.reduceMod, Nat.reduceBNe, Nat.reduceBEq]
    · simp only [t3, go_sem, bin_add, bin_sub, bin_mul, Nat.reduceAdd, Nat.reduceMul, Nat.reduceEqDiff, Nat.reduceLeDiff, Nat.reduceLT, Nat.reduceSub, reduceIte, reduceCtorEq, Int.reduceToNat, Int.reduceNeg, Int.reduceLE, Int.reduceLT, Int.reduceEq, Nat.reduceOr, Nat.reduceShiftRight, Nat.reduceMod, Nat.reduceBNe, Nat.reduceBEq]
    · simp only [go_sem, bin_add, bin_sub, bin_mul, Nat.reduceAdd, Nat.reduceMul, Nat.reduceEqDiff, Nat.reduceLeDiff, Nat.reduceLT, Nat.reduceSub, reduceIte, reduceCtorEq, Int.reduceToNat, Int.reduceNeg, Int.reduceLE, Int.reduceLT, Int.reduceEq, Nat.reduceOr, Nat.reduceShiftRight, Nat.reduceMod, Nat.reduceBNe, Nat.reduceBEq]
    intro fr h hJ t0 t1 t3
    simp only [t0, t1, t3, go_sem, bin_add, bin_sub, bin_mul, Nat.reduceAdd, Nat.reduceMul, Nat.reduceEqDiff, Nat.reduceLeDiff, Nat.reduceLT, Nat.reduceSub, reduceIte, reduceCtorEq, Int.reduceToNat, Int.reduceNeg, Int.reduceLE, Int.reduceLT, Int.reduceEq, Nat.reduceOr, Nat.reduceShiftRight, Nat.reduceMod, Nat.reduceBNe, Nat.reduceBEq]
    refine ih (j + 1) (by omega) _ h hJ ?_ ?_ ?_ <;> simp only [t0, t1, w64_succ (py + j) (by omega), go_sem, bin_add, bin_sub, bin_mul, Nat.reduceAdd, Nat.reduceMul, Nat.reduceEqDiff, Nat.reduceLeDiff, Nat.reduceLT, Nat.reduceSub, reduceIte, reduceCtorEq, Int.reduceToNat, Int.reduceNeg, Int.reduceLE, Int.reduceLT, Int.reduceEq, Nat.reduceOr, Nat.reduceShiftRight, Nat.reduceMod, Nat.reduceBNe, Nat.reduceBEq]
    rfl

theorem c46 (H : AH) (hJ : J [] H.now) (Q : AEnd → AH → Prop) (hQ : ∀ h, J (cellsL px py pw ph) h → Q (.ret (.tuple #[])) (trim H (.tuple #[]) h)) :
    C T env 46 [.func (.yield l) #[] #[], .pointer (some ⟨pp, 0, none⟩)] H Q := by
  rw [C_fn T46 rfl]
  have p1 : rd H.now pp 1 1 = some [.int .i64 (py : Int)] := by have := rd_part (hP _ _ hJ) 1 1 (by omega); rwa [Nat.zero_add] at this
  have p1' : rd H pp 1 1 = some [.int .i64 (py : Int)] := p1
  simp only [a46, p1, p1', go_sem, bin_add, bin_sub, bin_mul, Nat.reduceAdd, Nat.reduceMul, Nat.reduceEqDiff, Nat.reduceLeDiff, Nat.reduceLT, Nat.reduceSub, reduceIte, reduceCtorEq, Int.reduceToNat, Int.reduceNeg, Int.reduceLE, Int.reduceLT, Int.reduceEq, Nat.reduceOr, Nat.reduceShiftRight, Nat.reduceMod, Nat.reduceBNe, Nat.reduceBEq]
  refine outer46 l pp px py pw ph hx hy J hP hR ?_ ph 0 (by omega) _ H.now hJ ?_ ?_ ?_
  · intro fr h hJ
    simp only [go_sem, bin_add, bin_sub, bin_mul, Nat.reduceAdd, Nat.reduceMul, Nat.reduceEqDiff, Nat.reduceLeDiff, Nat.reduceLT, Nat.reduceSub, reduceIte, reduceCtorEq, Int.reduceToNat, Int.reduceNeg, Int.reduceLE, Int.reduceLT, Int.reduceEq, Nat.reduceOr, Nat.reduceShiftRight, Nat.reduceMod, Nat.reduceBNe, Nat.reduceBEq]
    exact hQ h hJ
  all_goals simp only [go_sem, bin_add, bin_sub, bin_mul, Nat.reduceAdd, Nat.reduceMul, Nat.reduceEqDiff, Nat.reduceLeDiff, Nat.reduceLT, Nat.reduceSub, reduceIte, reduceCtorEq, Int.reduceToNat, Int.reduceNeg, Int.reduceLE, Int.reduceLT, Int.reduceEq, Nat.reduceOr, Nat.reduceShiftRight, Nat.reduceMod, Nat.reduceBNe, Nat.reduceBEq]
end
end
end Go.AX.Tri
