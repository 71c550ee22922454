/- The law TriMesh: all quadrangles. -/
import Derived.Test.YthhgeodgfbhkdaaNh
set_option linter.unusedVariables false
set_option linter.unusedSimpArgs false
set_option linter.unusedSectionVars false
namespace Go.AX.Tri
open Go.Proofs Go.AX.Mc
set_option linter.unusedSimpArgs false
set_option linter.unusedVariables false
noncomputable section

/-- all before a is counted once, up to the top. -/
def CovO (P : List (Int × Int)) (a top : Nat) : Prop := ∀ x y : Nat, x < 16 → y < 16 → P.count ((x : Int), (y : Int)) = if 256 * x + 128 < a ∧ 256 * y + 128 ≤ top then 1 else 0
/-- and from a to b, up to c. -/
def CovR (P : List (Int × Int)) (a b c top : Nat) : Prop := ∀ x y : Nat, x < 16 → y < 16 → P.count ((x : Int), (y : Int)) = (if 256 * x + 128 < a ∧ 256 * y + 128 ≤ top then 1 else 0) + if a ≤ 256 * x + 128 ∧ 256 * x + 128 < b ∧ 256 * y + 128 ≤ c then 1 else 0
theorem cov_in {P : List (Int × Int)} {a b top : Nat} (h : CovO P a top) : CovR P a b 0 top := by
  intro x y hx hy
  rw [h x y hx hy, if_neg (show ¬ (a ≤ 256 * x + 128 ∧ 256 * x + 128 < b ∧ 256 * y + 128 ≤ 0) by omega)]
  exact (Nat.add_zero _).symm
theorem cov_out {P : List (Int × Int)} {a b top : Nat} (hab : a < b) (h : CovR P a b top top) : CovO P b top := by
  intro x y hx hy
  rw [h x y hx hy]
  by_cases h1 : 256 * x + 128 < a
  · by_cases h2 : 256 * y + 128 ≤ top
    · rw [if_pos ⟨h1, h2⟩, if_neg (by omega), if_pos (by omega)]
    · rw [if_neg (by omega), if_neg (by omega), if_neg (by omega)]
  · by_cases h2 : 256 * x + 128 < b ∧ 256 * y + 128 ≤ top
    · rw [if_neg (by omega), if_pos (by omega), if_pos h2]
    · rw [if_neg (by omega), if_neg (by omega), if_neg h2]
theorem cov_step {P P' : List (Int × Int)} {a b c c' top : Nat} (hcc : c < c') (h : CovR P a b c top) (q : Quad P P' a b c c') : CovR P' a b c' top := by
  intro x y hx hy
  rw [q.2 x y hx hy, h x y hx hy, Nat.add_assoc]
  congr 1
  have q1 : inQ a b c c' x y ↔ (a ≤ 256 * x + 128 ∧ 256 * x + 128 < b ∧ c < 256 * y + 128 ∧ 256 * y + 128 ≤ c') := Iff.rfl
  by_cases h1 : a ≤ 256 * x + 128 ∧ 256 * x + 128 < b
  · by_cases h2 : 256 * y + 128 ≤ c
    · rw [if_pos ⟨h1.1, h1.2, h2⟩, if_neg (fun k => by have := q1.1 k; omega), if_pos (by omega)]
    · by_cases h3 : 256 * y + 128 ≤ c'
      · rw [if_neg (by omega), if_pos (q1.2 (by omega)), if_pos (by omega)]
      · rw [if_neg (by omega), if_neg (fun k => by have := q1.1 k; omega), if_neg (by omega)]
  · rw [if_neg (by omega), if_neg (fun k => by have := q1.1 k; omega), if_neg (by omega)]

theorem inner5 {K : List KF} {Q : QF} {M mp : Nat} {h0 : AH} {fa : Option Addr} {fc : Nat} {fl : List Bool} (okF : Sl fa) {p8 p9 p12 : Nat} {hdU hdV : Value} {us vs : List Nat} {i x0 x1 top : Nat} {x41 : Value}
    (ax : Asc us) (ay : Asc vs) (lv : vs.length ≤ 5) (e0 : us[i]? = some x0) (e1 : us[i + 1]? = some x1) (et : vs[vs.length - 1]? = some top) (hi : i < 5)
    (q2 : ∀ fr h P n, n ≤ i * 4 + 4 → P.length ≤ 512 * n → CovR P x0 x1 top top → J5 M mp h0 P h → U5 h p8 p9 hdU hdV us vs fa fl → 
      FrA (.slice fa fl.length fc) (.pointer (some ⟨p8, 0, none⟩)) (.pointer (some ⟨p9, 0, none⟩)) (.map (some mp)) (.int .i64 (n : Int)) (.pointer (some ⟨p12, 0, none⟩)) x41 (.int .i64 (i : Int)) (.int .i64 ((vs.length - 1 : Nat) : Int)) (.int .i64 ((vs.length - 1 : Nat) : Int)) fr →
      Kt T [] false K .normal fr [] (ext h []) Q) :
    ∀ (m j : Nat), j + m = vs.length - 1 → ∀ fr h P n y, n ≤ i * 4 + j → P.length ≤ 512 * n → vs[j]? = some y → CovR P x0 x1 y top → J5 M mp h0 P h → U5 h p8 p9 hdU hdV us vs fa fl → p12 < h.nx → rd h p12 0 1 = some [.int .i64 (i : Int)] →
      FrA (.slice fa fl.length fc) (.pointer (some ⟨p8, 0, none⟩)) (.pointer (some ⟨p9, 0, none⟩)) (.map (some mp)) (.int .i64 (n : Int)) (.pointer (some ⟨p12, 0, none⟩)) x41 (.int .i64 (i : Int)) (.int .i64 ((vs.length - 1 : Nat) : Int)) (.int .i64 (j : Int)) fr →
      X T [] false (.loop a5l4) (.blk 2 :: K) fr [] (ext h []) Q := by
  intro m
  induction m with
  | zero =>
    intro j hj fr h P n y hn hP ey hC J U n12 r12 F
    have hj' : j = vs.length - 1 := hj
    subst hj'
    rw [et] at ey
    cases ey
    obtain ⟨t2, t8, t9, t10, t11, t12, t41, t42, t47, t48⟩ := F
    rw [X_loop]
    change X _ _ _ (.seq _ _) _ _ _ _ _
    simp only [t47, t48, Int.lt_irrefl, decide_false, go_sem, bin_add, bin_sub, bin_mul, Nat.reduceAdd, Nat.reduceMul, Nat.reduceEqDiff, Nat.reduceLeDiff, Nat.reduceLT, Nat.reduceSub, reduceIte, reduceCtorEq, Int.reduceToNat, Int.reduceNeg, Int.reduceLE, Int.reduceLT, Int.reduceEq, Nat.reduceOr, Nat.reduceShiftRight, Nat.reduceMod, Nat.reduceBNe, Nat.reduceBEq]
    refine q2 _ h P n (by omega) hP hC J U ⟨?_, ?_, ?_, ?_, ?_, ?_, ?_, ?_, ?_, ?_⟩
    all_goals simp only [t2, t8, t9, t10, t11, t12, t41, t42, t47, t48, go_sem, bin_add, bin_sub, bin_mul, Nat.reduceAdd, Nat.reduceMul, Nat.reduceEqDiff, Nat.reduceLeDiff, Nat.reduceLT, Nat.reduceSub, reduceIte, reduceCtorEq, Int.reduceToNat, Int.reduceNeg, Int.reduceLE, Int.reduceLT, Int.reduceEq, Nat.reduceOr, Nat.reduceShiftRight, Nat.reduceMod, Nat.reduceBNe, Nat.reduceBEq]
  | succ m ih =>
    intro j hj fr h P n y hn hP ey hC J U n12 r12 F
    obtain ⟨y', ey'⟩ : ∃ y', vs[j + 1]? = some y' := ⟨vs[j + 1]'(by omega), List.getElem?_eq_getElem (by omega)⟩
    refine quad5 okF ax ay e0 e1 ey ey' hi (by omega) (by omega) (by omega) rfl (by omega) ?_ fr h J U n12 r12 F
    intro fr' h' P' J' U' n12' r12' q F'
    refine ih (j + 1) (by omega) fr' h' P' (n + 1) y' (by omega) ?_ ey' (cov_step (ay.up j _ _ ey ey') hC q) J' U' n12' r12' F'
    have := q.1
    omega

/-- the frame's part that the outer loop keeps. -/
structure FrB (x2 x8 x9 x10 x11 x41 x42 : Value) (fr : Tr Value) : Prop where
  t2 : tmp fr (pa 2) = x2
  t8 : tmp fr (pa 8) = x8
  t9 : tmp fr (pa 9) = x9
  t10 : tmp fr (pa 10) = x10
  t11 : tmp fr (pa 11) = x11
  t41 : tmp fr (pa 41) = x41
  t42 : tmp fr (pa 42) = x42
theorem outer5 {K : List KF} {Q : QF} {M mp : Nat} {h0 : AH} {fa : Option Addr} {fc : Nat} {fl : List Bool} (okF : Sl fa) {p8 p9 : Nat} {hdU hdV : Value} {us vs : List Nat} {right top : Nat}
    (ax : Asc us) (ay : Asc vs) (lu : us.length ≤ 5) (lv : vs.length ≤ 5) (er : us[us.length - 1]? = some right) (et : vs[vs.length - 1]? = some top)
    (q2 : ∀ fr h P, CovO P right top → J5 M mp h0 P h → U5 h p8 p9 hdU hdV us vs fa fl → tmp fr (pa 8) = .pointer (some ⟨p8, 0, none⟩) → tmp fr (pa 9) = .pointer (some ⟨p9, 0, none⟩) → tmp fr (pa 10) = .map (some mp) → Kt T [] false K .normal fr [] (ext h []) Q) :
    ∀ (m i : Nat), i + m = us.length - 1 → ∀ fr h P n x, n ≤ i * 4 → P.length ≤ 512 * n → us[i]? = some x → CovO P x top → J5 M mp h0 P h → U5 h p8 p9 hdU hdV us vs fa fl →
      FrB (.slice fa fl.length fc) (.pointer (some ⟨p8, 0, none⟩)) (.pointer (some ⟨p9, 0, none⟩)) (.map (some mp)) (.int .i64 (n : Int)) (.int .i64 ((us.length - 1 : Nat) : Int)) (.int .i64 (i : Int)) fr →
      X T [] false (.loop a5l5) (.blk 0 :: K) fr [] (ext h []) Q := by
  intro m
  induction m with
  | zero =>
    intro i hi fr h P n x hn hP ex hC J U F
    have hi' : i = us.length - 1 := hi
    subst hi'
    rw [er] at ex
    cases ex
    obtain ⟨t2, t8, t9, t10, t11, t41, t42⟩ := F
    rw [X_loop]
    change X _ _ _ (.seq _ _) _ _ _ _ _
    simp only [t41, t42, Int.lt_irrefl, decide_false, go_sem, bin_add, bin_sub, bin_mul, Nat.reduceAdd, Nat.reduceMul, Nat.reduceEqDiff, Nat.reduceLeDiff, Nat.reduceLT, Nat.reduceSub, reduceIte, reduceCtorEq, Int.reduceToNat, Int.reduceNeg, Int.reduceLE, Int.reduceLT, Int.reduceEq, Nat.reduceOr, Nat.reduceShiftRight, Nat.reduceMod, Nat.reduceBNe, Nat.reduceBEq]
    refine q2 _ h P hC J U ?_ ?_ ?_
    all_goals simp only [t8, t9, t10, go_sem, bin_add, bin_sub, bin_mul, Nat.reduceAdd, Nat.reduceMul, Nat.reduceEqDiff, Nat.reduceLeDiff, Nat.reduceLT, Nat.reduceSub, reduceIte, reduceCtorEq, Int.reduceToNat, Int.reduceNeg, Int.reduceLE, Int.reduceLT, Int.reduceEq, Nat.reduceOr, Nat.reduceShiftRight, Nat.reduceMod, Nat.reduceBNe, Nat.reduceBEq]
  | succ m ih =>
    intro i hi fr h P n x hn hP ex hC J U F
    obtain ⟨x', ex'⟩ : ∃ x', us[i + 1]? = some x' := ⟨us[i + 1]'(by omega), List.getElem?_eq_getElem (by omega)⟩
    obtain ⟨t2, t8, t9, t10, t11, t41, t42⟩ := F
    have hlt : ((i : Int) < ((us.length - 1 : Nat) : Int)) := by omega
    have hn0 : n ≤ i * 4 + 0 := by omega
    have hi5 : i < 5 := by omega
    have him : i + 1 + m = us.length - 1 := by omega
    have hnn : ∀ n', n' ≤ i * 4 + 4 → n' ≤ (i + 1) * 4 := fun n' h => by omega
    have hle := J.le
    have hv0 : 0 < vs.length := (List.getElem?_eq_some_iff.1 ay.z).1
    have wl : wrapF .i64 ((vs.length : Int) - 1) = ((vs.length - 1 : Nat) : Int) := by rw [w64_id (by omega) (by omega)]; omega
    have wi := w64_succ i (by omega)
    have n9 := U.n9
    have r9 := U.r9
    have lV := ints_len U.hV
    rw [X_loop]
    change X _ _ _ (.seq _ _) _ _ _ _ _
    simp only [t2, t8, t9, t10, t11, t41, t42, hlt, hle, n9, rd_old _ _ _ _ _ n9, r9, lV, wl, go_sem, bin_add, bin_sub, bin_mul, Nat.reduceAdd, Nat.reduceMul, Nat.reduceEqDiff, Nat.reduceLeDiff, Nat.reduceLT, Nat.reduceSub, reduceIte, reduceCtorEq, Int.reduceToNat, Int.reduceNeg, Int.reduceLE, Int.reduceLT, Int.reduceEq, Nat.reduceOr, Nat.reduceShiftRight, Nat.reduceMod, Nat.reduceBNe, Nat.reduceBEq]
    refine inner5 (h0 := h0) (fc := fc) (p12 := h.nx) (x41 := .int .i64 ((us.length - 1 : Nat) : Int)) okF ax ay lv ex ex' et hi5 ?_ (vs.length - 1) 0 (Nat.zero_add _) _ (Mc.ext h [blk [.int .i64 (i : Int)]]) P n 0 hn0 hP ay.z (cov_in hC) (J.ext _) (U.ext _) (by rw [ext_nx]; exact Nat.lt_succ_self _) ?_ ⟨?_, ?_, ?_, ?_, ?_, ?_, ?_, ?_, ?_, ?_⟩
    · intro fr' h' P' n' hn' hP' hC' J' U' F'
      obtain ⟨t2', t8', t9', t10', t11', t12', t41', t42', t47', t48'⟩ := F'
      simp only [t42', wi, go_sem, bin_add, bin_sub, bin_mul, Nat.reduceAdd, Nat.reduceMul, Nat.reduceEqDiff, Nat.reduceLeDiff, Nat.reduceLT, Nat.reduceSub, reduceIte, reduceCtorEq, Int.reduceToNat, Int.reduceNeg, Int.reduceLE, Int.reduceLT, Int.reduceEq, Nat.reduceOr, Nat.reduceShiftRight, Nat.reduceMod, Nat.reduceBNe, Nat.reduceBEq]
      refine ih (i + 1) him _ h' P' n' x' (hnn n' hn') hP' ex' (cov_out (ax.up i _ _ ex ex') hC') J' U' ⟨?_, ?_, ?_, ?_, ?_, ?_, ?_⟩
      all_goals simp only [t2', t8', t9', t10', t11', t41', go_sem, bin_add, bin_sub, bin_mul, Nat.reduceAdd, Nat.reduceMul, Nat.reduceEqDiff, Nat.reduceLeDiff, Nat.reduceLT, Nat.reduceSub, reduceIte, reduceCtorEq, Int.reduceToNat, Int.reduceNeg, Int.reduceLE, Int.reduceLT, Int.reduceEq, Nat.reduceOr, Nat.reduceShiftRight, Nat.reduceMod, Nat.reduceBNe, Nat.reduceBEq]
    · rw [rd_new0]; rfl
    all_goals simp only [t2, t8, t9, t10, t11, t41, t42, go_sem, bin_add, bin_sub, bin_mul, Nat.reduceAdd, Nat.reduceMul, Nat.reduceEqDiff, Nat.reduceLeDiff, Nat.reduceLT, Nat.reduceSub, reduceIte, reduceCtorEq, Int.reduceToNat, Int.reduceNeg, Int.reduceLE, Int.reduceLT, Int.reduceEq, Nat.reduceOr, Nat.reduceShiftRight, Nat.reduceMod, Nat.reduceBNe, Nat.reduceBEq]
    all_goals rfl
end
end Go.AX.Tri
/- The law TriMesh: the look at each centre. -/
namespace Go.AX.Tri
open Go.Proofs Go.AX.Mc
set_option linter.unusedSimpArgs false
set_option linter.unusedVariables false
noncomputable section

structure FrL (mp right top : Nat) (fr : Tr Value) : Prop where
  t10 : tmp fr (pa 10) = .map (some mp)
  t22 : tmp fr (pa 22) = .int .i64 (right : Int)
  t23 : tmp fr (pa 23) = .int .i64 (top : Int)

theorem look5 {K : List KF} {Q : QF} {mp right top : Nat} {h : AH} {P : List (Int × Int)} {L : CL} (hc : Cnt P L) (hg : h.get mp = some (.map (ents L 0) L.length)) (hC : CovO P right top) {x : Nat} (x1 : x < 16)
    (q2 : ∀ fr, FrL mp right top fr → tmp fr (pa 143) = .int .i64 (x : Int) → Kt T [] false K .normal fr [] (ext h []) Q) :
    ∀ (m y : Nat), y + m = 16 → ∀ fr, FrL mp right top fr → tmp fr (pa 24) = .int .i64 (x : Int) → tmp fr (pa 143) = .int .i64 (x : Int) → tmp fr (pa 146) = .int .i64 (y : Int) →
      X T [] false (.loop a5l0) (.blk 10 :: K) fr [] (ext h []) Q := by
  intro m
  induction m with
  | zero =>
    intro y hy fr F t24 t143 t146
    obtain rfl : y = 16 := hy
    obtain ⟨t10, t22, t23⟩ := F
    rw [X_loop]
    change X _ _ _ (.seq _ _) _ _ _ _ _
    simp only [t146, show ¬ (((16 : Nat) : Int) < 16) by omega, decide_false, go_sem, bin_add, bin_sub, bin_mul, Nat.reduceAdd, Nat.reduceMul, Nat.reduceEqDiff, Nat.reduceLeDiff, Nat.reduceLT, Nat.reduceSub, reduceIte, reduceCtorEq, Int.reduceToNat, Int.reduceNeg, Int.reduceLE, Int.reduceLT, Int.reduceEq, Nat.reduceOr, Nat.reduceShiftRight, Nat.reduceMod, Nat.reduceBNe, Nat.reduceBEq]
    refine q2 _ ⟨?_, ?_, ?_⟩ ?_
    all_goals simp only [t10, t22, t23, t143, go_sem, bin_add, bin_sub, bin_mul, Nat.reduceAdd, Nat.reduceMul, Nat.reduceEqDiff, Nat.reduceLeDiff, Nat.reduceLT, Nat.reduceSub, reduceIte, reduceCtorEq, Int.reduceToNat, Int.reduceNeg, Int.reduceLE, Int.reduceLT, Int.reduceEq, Nat.reduceOr, Nat.reduceShiftRight, Nat.reduceMod, Nat.reduceBNe, Nat.reduceBEq]
  | succ m ih =>
    intro y hy fr F t24 t143 t146
    obtain ⟨t10, t22, t23⟩ := F
    have hlt : (y : Int) < 16 := by omega
    have hym : y + 1 + m = 16 := by omega
    have hn := hC x y x1 (by omega)
    have lk : lkV 44 (.int .i64 0) false (.map (some mp)) (.agg [.int .i64 (x : Int), .int .i64 (y : Int)].toArray) (ext h []) = some (.val (.int .i64 (P.count ((x : Int), (y : Int)) : Int)) (ext h [])) := by
      have := lk44 (z := .int .i64 0) (x := (x : Int)) (y := (y : Int)) hg
      rw [hc.val] at this
      exact this
    rw [hn] at lk
    have p0 : (0 : Int) < 256 * (x : Int) + 128 := by omega
    have p1 : (0 : Int) < 256 * (y : Int) + 128 := by omega
    have cu : (256 * (x : Int) + 128 < (right : Int)) = (256 * x + 128 < right) := propext (by omega)
    have cv : (256 * (y : Int) + 128 < (top : Int)) = (256 * y + 128 < top) := propext (by omega)
    have du : ((right : Int) < 256 * (x : Int) + 128) = (right < 256 * x + 128) := propext (by omega)
    have dv : ((top : Int) < 256 * (y : Int) + 128) = (top < 256 * y + 128) := propext (by omega)
    have ex1 : wrapF .i64 (256 * (x : Int)) = 256 * (x : Int) := w64_id (by omega) (by omega)
    have ey1 : wrapF .i64 (256 * (y : Int)) = 256 * (y : Int) := w64_id (by omega) (by omega)
    generalize hu : 256 * (x : Int) + 128 = u at *
    generalize hv : 256 * (y : Int) + 128 = v at *
    have ex2 : wrapF .i64 (256 * (x : Int) + 128) = u := by rw [← hu]; exact w64_id (by omega) (by omega)
    have ey2 : wrapF .i64 (256 * (y : Int) + 128) = v := by rw [← hv]; exact w64_id (by omega) (by omega)
    have wn := w64_succ y (by omega)
    have z1 : ¬ ((1 : Int) < ((1 : Nat) : Int)) := by decide
    have z0 : ¬ ((1 : Int) < ((0 : Nat) : Int)) := by decide
    have e11 : (((1 : Nat) : Int) = 1) = True := eq_true rfl
    have e00 : (((0 : Nat) : Int) = 0) = True := eq_true rfl
    rw [X_loop]
    change X _ _ _ (.seq _ _) _ _ _ _ _
    have m1 : ¬ ((0 : Int) ≤ -1) := by decide
    have m2 : (¬ ((0 : Int) ≤ 0)) = False := by simp
    by_cases a1 : 256 * x + 128 < right
    · have b1 : ¬ (right < 256 * x + 128) := Nat.not_lt.2 (Nat.le_of_lt a1)
      by_cases a2 : 256 * y + 128 < top
      · have b2 : ¬ (top < 256 * y + 128) := Nat.not_lt.2 (Nat.le_of_lt a2)
        rw [if_pos ⟨a1, Nat.le_of_lt a2⟩] at lk
        simp only [t10, t22, t23, t24, t146, hlt, ex1, ex2, ey1, ey2, p0, p1, cu, cv, du, dv, a1, a2, b1, b2, m1, e_lookup, lk, z1, z0, e11, e00, wn, decide_false, decide_true, go_sem, bin_add, bin_sub, bin_mul, Nat.reduceAdd, Nat.reduceMul, Nat.reduceEqDiff, Nat.reduceLeDiff, Nat.reduceLT, Nat.reduceSub, reduceIte, reduceCtorEq, Int.reduceToNat, Int.reduceNeg, Int.reduceLE, Int.reduceLT, Int.reduceEq, Nat.reduceOr, Nat.reduceShiftRight, Nat.reduceMod, Nat.reduceBNe, Nat.reduceBEq]
        refine ih (y + 1) hym _ ⟨?_, ?_, ?_⟩ ?_ ?_ ?_ <;> simp only [t10, t22, t23, t24, t143, go_sem, bin_add, bin_sub, bin_mul, Nat.reduceAdd, Nat.reduceMul, Nat.reduceEqDiff, Nat.reduceLeDiff, Nat.reduceLT, Nat.reduceSub, reduceIte, reduceCtorEq, Int.reduceToNat, Int.reduceNeg, Int.reduceLE, Int.reduceLT, Int.reduceEq, Nat.reduceOr, Nat.reduceShiftRight, Nat.reduceMod, Nat.reduceBNe, Nat.reduceBEq]
      · by_cases b2 : top < 256 * y + 128
        · have nn : ¬ (256 * x + 128 < right ∧ 256 * y + 128 ≤ top) := fun k => absurd k.2 (Nat.not_le.2 b2)
          rw [if_neg nn] at lk
          simp only [t10, t22, t23, t24, t146, hlt, ex1, ex2, ey1, ey2, p0, p1, cu, cv, du, dv, a1, a2, b1, b2, m1, e_lookup, lk, z1, z0, e11, e00, wn, decide_false, decide_true, go_sem, bin_add, bin_sub, bin_mul, Nat.reduceAdd, Nat.reduceMul, Nat.reduceEqDiff, Nat.reduceLeDiff, Nat.reduceLT, Nat.reduceSub, reduceIte, reduceCtorEq, Int.reduceToNat, Int.reduceNeg, Int.reduceLE, Int.reduceLT, Int.reduceEq, Nat.reduceOr, Nat.reduceShiftRight, Nat.reduceMod, Nat.reduceBNe, Nat.reduceBEq]
          refine ih (y + 1) hym _ ⟨?_, ?_, ?_⟩ ?_ ?_ ?_ <;> simp only [t10, t22, t23, t24, t143, go_sem, bin_add, bin_sub, bin_mul, Nat.reduceAdd, Nat.reduceMul, Nat.reduceEqDiff, Nat.reduceLeDiff, Nat.reduceLT, Nat.reduceSub, reduceIte, reduceCtorEq, Int.reduceToNat, Int.reduceNeg, Int.reduceLE, Int.reduceLT, Int.reduceEq, Nat.reduceOr, Nat.reduceShiftRight, Nat.reduceMod, Nat.reduceBNe, Nat.reduceBEq]
        · have nn : 256 * x + 128 < right ∧ 256 * y + 128 ≤ top := ⟨a1, Nat.not_lt.1 b2⟩
          rw [if_pos nn] at lk
          simp only [t10, t22, t23, t24, t146, hlt, ex1, ex2, ey1, ey2, p0, p1, cu, cv, du, dv, a1, a2, b1, b2, m1, e_lookup, lk, z1, z0, e11, e00, wn, decide_false, decide_true, go_sem, bin_add, bin_sub, bin_mul, Nat.reduceAdd, Nat.reduceMul, Nat.reduceEqDiff, Nat.reduceLeDiff, Nat.reduceLT, Nat.reduceSub, reduceIte, reduceCtorEq, Int.reduceToNat, Int.reduceNeg, Int.reduceLE, Int.reduceLT, Int.reduceEq, Nat.reduceOr, Nat.reduceShiftRight, Nat.reduceMod, Nat.reduceBNe, Nat.reduceBEq]
          refine ih (y + 1) hym _ ⟨?_, ?_, ?_⟩ ?_ ?_ ?_ <;> simp only [t10, t22, t23, t24, t143, go_sem, bin_add, bin_sub, bin_mul, Nat.reduceAdd, Nat.reduceMul, Nat.reduceEqDiff, Nat.reduceLeDiff, Nat.reduceLT, Nat.reduceSub, reduceIte, reduceCtorEq, Int.reduceToNat, Int.reduceNeg, Int.reduceLE, Int.reduceLT, Int.reduceEq, Nat.reduceOr, Nat.reduceShiftRight, Nat.reduceMod, Nat.reduceBNe, Nat.reduceBEq]
    · have nn : ¬ (256 * x + 128 < right ∧ 256 * y + 128 ≤ top) := fun k => a1 k.1
      rw [if_neg nn] at lk
      by_cases b1 : right < 256 * x + 128
      · skip
        simp only [t10, t22, t23, t24, t146, hlt, ex1, ex2, ey1, ey2, p0, p1, cu, cv, du, dv, a1, b1, m1, e_lookup, lk, z1, z0, e11, e00, wn, decide_false, decide_true, go_sem, bin_add, bin_sub, bin_mul, Nat.reduceAdd, Nat.reduceMul, Nat.reduceEqDiff, Nat.reduceLeDiff, Nat.reduceLT, Nat.reduceSub, reduceIte, reduceCtorEq, Int.reduceToNat, Int.reduceNeg, Int.reduceLE, Int.reduceLT, Int.reduceEq, Nat.reduceOr, Nat.reduceShiftRight, Nat.reduceMod, Nat.reduceBNe, Nat.reduceBEq]
        refine ih (y + 1) hym _ ⟨?_, ?_, ?_⟩ ?_ ?_ ?_ <;> simp only [t10, t22, t23, t24, t143, go_sem, bin_add, bin_sub, bin_mul, Nat.reduceAdd, Nat.reduceMul, Nat.reduceEqDiff, Nat.reduceLeDiff, Nat.reduceLT, Nat.reduceSub, reduceIte, reduceCtorEq, Int.reduceToNat, Int.reduceNeg, Int.reduceLE, Int.reduceLT, Int.reduceEq, Nat.reduceOr, Nat.reduceShiftRight, Nat.reduceMod, Nat.reduceBNe, Nat.reduceBEq]
      · by_cases b2 : top < 256 * y + 128
        · skip
          simp only [t10, t22, t23, t24, t146, hlt, ex1, ex2, ey1, ey2, p0, p1, cu, cv, du, dv, a1, b1, b2, m1, e_lookup, lk, z1, z0, e11, e00, wn, decide_false, decide_true, go_sem, bin_add, bin_sub, bin_mul, Nat.reduceAdd, Nat.reduceMul, Nat.reduceEqDiff, Nat.reduceLeDiff, Nat.reduceLT, Nat.reduceSub, reduceIte, reduceCtorEq, Int.reduceToNat, Int.reduceNeg, Int.reduceLE, Int.reduceLT, Int.reduceEq, Nat.reduceOr, Nat.reduceShiftRight, Nat.reduceMod, Nat.reduceBNe, Nat.reduceBEq]
          refine ih (y + 1) hym _ ⟨?_, ?_, ?_⟩ ?_ ?_ ?_ <;> simp only [t10, t22, t23, t24, t143, go_sem, bin_add, bin_sub, bin_mul, Nat.reduceAdd, Nat.reduceMul, Nat.reduceEqDiff, Nat.reduceLeDiff, Nat.reduceLT, Nat.reduceSub, reduceIte, reduceCtorEq, Int.reduceToNat, Int.reduceNeg, Int.reduceLE, Int.reduceLT, Int.reduceEq, Nat.reduceOr, Nat.reduceShiftRight, Nat.reduceMod, Nat.reduceBNe, Nat.reduceBEq]
        · skip
          simp only [t10, t22, t23, t24, t146, hlt, ex1, ex2, ey1, ey2, p0, p1, cu, cv, du, dv, a1, b1, b2, m1, e_lookup, lk, z1, z0, e11, e00, wn, decide_false, decide_true, go_sem, bin_add, bin_sub, bin_mul, Nat.reduceAdd, Nat.reduceMul, Nat.reduceEqDiff, Nat.reduceLeDiff, Nat.reduceLT, Nat.reduceSub, reduceIte, reduceCtorEq, Int.reduceToNat, Int.reduceNeg, Int.reduceLE, Int.reduceLT, Int.reduceEq, Nat.reduceOr, Nat.reduceShiftRight, Nat.reduceMod, Nat.reduceBNe, Nat.reduceBEq]
          refine ih (y + 1) hym _ ⟨?_, ?_, ?_⟩ ?_ ?_ ?_ <;> simp only [t10, t22, t23, t24, t143, go_sem, bin_add, bin_sub, bin_mul, Nat.reduceAdd, Nat.reduceMul, Nat.reduceEqDiff, Nat.reduceLeDiff, Nat.reduceLT, Nat.reduceSub, reduceIte, reduceCtorEq, Int.reduceToNat, Int.reduceNeg, Int.reduceLE, Int.reduceLT, Int.reduceEq, Nat.reduceOr, Nat.reduceShiftRight, Nat.reduceMod, Nat.reduceBNe, Nat.reduceBEq]
end
end Go.AX.Tri
