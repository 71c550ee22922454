/- Contracts: the document's sides, area, turned corners, one over w. -/
import Derived.Test.YthhgeodgfbhkdaaSf
set_option linter.unusedVariables false
set_option linter.unusedSimpArgs false
set_option linter.unusedSectionVars false
namespace Go.AX.Tri
open Go.Proofs Go.AX.Mc
set_option linter.unusedSimpArgs false
set_option linter.unusedVariables false
noncomputable section

theorem c55 {env : List Lp} (p q : Wn) (x y : Int) (H : AH) (Q : AEnd → AH → Prop) : C T env 55 [p.v, q.v, .int .i64 x, .int .i64 y] H Q = Q (.ret (.int .i64 (wayF p q x y))) H := by
  refine C_det ?_ Q
  rw [C_fn T55 rfl]
  simp only [a55, Wn.v, Wn.cs, go_sem, bin_add, bin_sub, bin_mul, Nat.reduceAdd, Nat.reduceMul, Nat.reduceEqDiff, Nat.reduceLeDiff, Nat.reduceLT, Nat.reduceSub, reduceIte, reduceCtorEq, Int.reduceToNat, Int.reduceNeg, Int.reduceLE, Int.reduceLT, Int.reduceEq, Nat.reduceOr, Nat.reduceShiftRight, Nat.reduceMod, Nat.reduceBNe, Nat.reduceBEq]
  rfl
theorem c30 {env : List Lp} (a b c : Wn) (H : AH) (Q : AEnd → AH → Prop) : C T env 30 [a.v, b.v, c.v] H Q = Q (.ret (.int .i64 (wayF a b c.x c.y))) H := by
  refine C_det ?_ Q
  rw [C_fn T30 rfl]
  simp only [a30, Wn.v, Wn.cs, go_sem, bin_add, bin_sub, bin_mul, Nat.reduceAdd, Nat.reduceMul, Nat.reduceEqDiff, Nat.reduceLeDiff, Nat.reduceLT, Nat.reduceSub, reduceIte, reduceCtorEq, Int.reduceToNat, Int.reduceNeg, Int.reduceLE, Int.reduceLT, Int.reduceEq, Nat.reduceOr, Nat.reduceShiftRight, Nat.reduceMod, Nat.reduceBNe, Nat.reduceBEq]
  unfold wayF
  rw [Int.mul_comm (w64 (b.y - a.y))]

theorem c39 {env : List Lp} (p q : Wn) (x y : Int) (H : AH) (Q : AEnd → AH → Prop) : C T env 39 [p.v, q.v, .int .i64 x, .int .i64 y] H Q = Q (.ret (.bool (inF p q x y))) H := by
  refine C_det ?_ Q
  rw [C_fn T39 rfl]
  have k55 := fun (x y : Int) (H : AH) (Q : AEnd → AH → Prop) => c55 (env := env) p q x y H Q
  simp only [Wn.v, Wn.cs] at k55
  simp only [a39, Wn.v, Wn.cs, k55, go_sem, bin_add, bin_sub, bin_mul, Nat.reduceAdd, Nat.reduceMul, Nat.reduceEqDiff, Nat.reduceLeDiff, Nat.reduceLT, Nat.reduceSub, reduceIte, reduceCtorEq, Int.reduceToNat, Int.reduceNeg, Int.reduceLE, Int.reduceLT, Int.reduceEq, Nat.reduceOr, Nat.reduceShiftRight, Nat.reduceMod, Nat.reduceBNe, Nat.reduceBEq]
  unfold inF
  generalize wayF p q x y = s
  refine Gd_split ?_ ?_ <;> intro g1 <;> simp only [g1, go_sem, bin_add, bin_sub, bin_mul, Nat.reduceAdd, Nat.reduceMul, Nat.reduceEqDiff, Nat.reduceLeDiff, Nat.reduceLT, Nat.reduceSub, reduceIte, reduceCtorEq, Int.reduceToNat, Int.reduceNeg, Int.reduceLE, Int.reduceLT, Int.reduceEq, Nat.reduceOr, Nat.reduceShiftRight, Nat.reduceMod, Nat.reduceBNe, Nat.reduceBEq]
  · simp
  refine Gd_split ?_ ?_ <;> intro g2 <;> simp only [g1, g2, go_sem, bin_add, bin_sub, bin_mul, Nat.reduceAdd, Nat.reduceMul, Nat.reduceEqDiff, Nat.reduceLeDiff, Nat.reduceLT, Nat.reduceSub, reduceIte, reduceCtorEq, Int.reduceToNat, Int.reduceNeg, Int.reduceLE, Int.reduceLT, Int.reduceEq, Nat.reduceOr, Nat.reduceShiftRight, Nat.reduceMod, Nat.reduceBNe, Nat.reduceBEq]
  · refine Gd_split ?_ ?_ <;> intro g3 <;> simp only [g1, g2, g3, go_sem, bin_add, bin_sub, bin_mul, Nat.reduceAdd, Nat.reduceMul, Nat.reduceEqDiff, Nat.reduceLeDiff, Nat.reduceLT, Nat.reduceSub, reduceIte, reduceCtorEq, Int.reduceToNat, Int.reduceNeg, Int.reduceLE, Int.reduceLT, Int.reduceEq, Nat.reduceOr, Nat.reduceShiftRight, Nat.reduceMod, Nat.reduceBNe, Nat.reduceBEq]
    · simp
    refine Gd_split ?_ ?_ <;> intro g4 <;> simp only [g1, g2, g3, g4, go_sem, bin_add, bin_sub, bin_mul, Nat.reduceAdd, Nat.reduceMul, Nat.reduceEqDiff, Nat.reduceLeDiff, Nat.reduceLT, Nat.reduceSub, reduceIte, reduceCtorEq, Int.reduceToNat, Int.reduceNeg, Int.reduceLE, Int.reduceLT, Int.reduceEq, Nat.reduceOr, Nat.reduceShiftRight, Nat.reduceMod, Nat.reduceBNe, Nat.reduceBEq]
    · simp
    · simp
  · simp

theorem trim_go {H : AH} (hlo : H.lo ≤ H.nx) {v : Value} {L : List (Option AB)} {Q : AH → Prop} (h : ∀ L', Q (ext H L')) : Q (trim H v (ext H.now L)) := by
  obtain ⟨L', e⟩ := trim_or hlo v L
  rw [e]; exact h L'
theorem c38 {env : List Lp} (a b c : Wn) {H : AH} (hlo : H.lo ≤ H.nx) {Q : AEnd → AH → Prop} (hQ : ∀ L, Q (.ret (.tuple [(turnF a b c).a.v, (turnF a b c).b.v, (turnF a b c).c.v].toArray)) (ext H L)) : C T env 38 [a.v, b.v, c.v] H Q := by
  rw [C_fn T38 rfl]
  have k30 := fun (H : AH) (Q : AEnd → AH → Prop) => c30 (env := env) a b c H Q
  simp only [Wn.v, Wn.cs] at k30
  have hcl : ∀ p : Wn, p.cs.length = 6 := fun _ => rfl
  unfold turnF at hQ
  generalize hw : wayF a b c.x c.y = w at *
  simp only [a38, Wn.v, Wn.cs, k30, go_sem, bin_add, bin_sub, bin_mul, Nat.reduceAdd, Nat.reduceMul, Nat.reduceEqDiff, Nat.reduceLeDiff, Nat.reduceLT, Nat.reduceSub, reduceIte, reduceCtorEq, Int.reduceToNat, Int.reduceNeg, Int.reduceLE, Int.reduceLT, Int.reduceEq, Nat.reduceOr, Nat.reduceShiftRight, Nat.reduceMod, Nat.reduceBNe, Nat.reduceBEq]
  refine Cd_split ?_ ?_ <;> intro g <;> simp only [g, go_sem, bin_add, bin_sub, bin_mul, Nat.reduceAdd, Nat.reduceMul, Nat.reduceEqDiff, Nat.reduceLeDiff, Nat.reduceLT, Nat.reduceSub, reduceIte, reduceCtorEq, Int.reduceToNat, Int.reduceNeg, Int.reduceLE, Int.reduceLT, Int.reduceEq, Nat.reduceOr, Nat.reduceShiftRight, Nat.reduceMod, Nat.reduceBNe, Nat.reduceBEq]
  · refine X_drawE 0 (by rfl) ?_
    simp only [go_sem, bin_add, bin_sub, bin_mul, Nat.reduceAdd, Nat.reduceMul, Nat.reduceEqDiff, Nat.reduceLeDiff, Nat.reduceLT, Nat.reduceSub, reduceIte, reduceCtorEq, Int.reduceToNat, Int.reduceNeg, Int.reduceLE, Int.reduceLT, Int.reduceEq, Nat.reduceOr, Nat.reduceShiftRight, Nat.reduceMod, Nat.reduceBNe, Nat.reduceBEq]
    refine trim_go hlo ?_
    intro L'
    have := hQ L'
    simp only [g, cond_true, cond_false, Wn.v, Wn.cs] at this
    exact this
  · refine X_drawE 0 (by rfl) ?_
    simp only [go_sem, bin_add, bin_sub, bin_mul, Nat.reduceAdd, Nat.reduceMul, Nat.reduceEqDiff, Nat.reduceLeDiff, Nat.reduceLT, Nat.reduceSub, reduceIte, reduceCtorEq, Int.reduceToNat, Int.reduceNeg, Int.reduceLE, Int.reduceLT, Int.reduceEq, Nat.reduceOr, Nat.reduceShiftRight, Nat.reduceMod, Nat.reduceBNe, Nat.reduceBEq]
    refine trim_go hlo ?_
    intro L'
    have := hQ L'
    simp only [g, cond_true, cond_false, Wn.v, Wn.cs] at this
    exact this

theorem i_quo (ox oy : Operand) (nk : Option NilK) (ty : TypeId) (H : AH) {a b : Nat} (ha : a < 9223372036854775808) (hb : 0 < b) : aBin Try.prog .quo ty ox oy nk (.int .i64 (a : Int)) (.int .i64 (b : Int)) H = some (.val (.int .i64 ((a / b : Nat) : Int)) H) := by
  have := Nat.div_le_self a b
  rw [bin_quo_w _ _ _ _ _ _ _ _ _ (by omega), show (a : Int).tdiv (b : Int) = ((a / b : Nat) : Int) from rfl]
  generalize a / b = q at *
  rw [w64_id (by omega) (by omega)]
theorem i_rem (ox oy : Operand) (nk : Option NilK) (ty : TypeId) (H : AH) {a b : Nat} (ha : a < 9223372036854775808) (hb : 0 < b) : aBin Try.prog .rem ty ox oy nk (.int .i64 (a : Int)) (.int .i64 (b : Int)) H = some (.val (.int .i64 ((a % b : Nat) : Int)) H) := by
  rw [bin_rem _ _ _ _ _ _ _ _ _ (by omega), show (a : Int).tmod (b : Int) = ((a % b : Nat) : Int) from rfl]
theorem div_near {a b : Nat} (hb : 0 < b) : (2 * a + b) / (2 * b) = if b ≤ 2 * (a % b) then a / b + 1 else a / b := by
  have h := Nat.div_add_mod a b
  have hm := Nat.mod_lt a hb
  generalize a / b = q at *
  generalize a % b = r at *
  subst h
  have e : 2 * (b * q + r) + b = 2 * r + b + 2 * b * q := by grind
  rw [e, Nat.add_mul_div_left _ _ (by omega)]
  split
  · have e1 : (2 * r + b) / (2 * b) = 1 := by
      refine Nat.div_eq_of_lt_le ?_ ?_ <;> omega
    rw [e1, Nat.add_comm]
  · rw [Nat.div_eq_of_lt (by omega), Nat.zero_add]

theorem c61 {env : List Lp} (w : Int) (h0 : 0 < w) (h1 : w < 2147483648) (H : AH) (Q : AEnd → AH → Prop) : C T env 61 [.int .i32 65536, .int .i32 w] H Q = Q (.ret (.int .i32 (overF w))) H := by
  refine C_det ?_ Q
  rw [C_fn T61 rfl]
  obtain ⟨n, rfl⟩ : ∃ n : Nat, w = (n : Int) := ⟨w.toNat, by omega⟩
  have hn : 0 < n := by omega
  have e1 : wrapF .i64 (wrapF .i64 65536 * 65536) = ((4294967296 : Nat) : Int) := rfl
  have e2 : wrapF .i64 (n : Int) = (n : Int) := w64_id (by omega) (by omega)
  have e3 : decide (((4294967296 : Nat) : Int) < 0) = false := rfl
  have e4 : decide ((n : Int) < 0) = false := by simp
  have e5 : decide ((n : Int) = 0) = false := by simp; omega
  have hr := Nat.mod_lt 4294967296 hn
  have e6 : wrapF .i64 (2 * ((4294967296 % n : Nat) : Int)) = ((2 * (4294967296 % n) : Nat) : Int) := by rw [w64_id (by omega) (by omega)]; omega
  have hq := Nat.div_le_self 4294967296 n
  have e7 : wrapF .i64 (((4294967296 / n : Nat) : Int) + 1) = ((4294967296 / n + 1 : Nat) : Int) := by
    generalize 4294967296 / n = q at hq
    rw [w64_id (by omega) (by omega)]; omega
  have fin : rawF (((if n ≤ 2 * (4294967296 % n) then 4294967296 / n + 1 else 4294967296 / n : Nat)) : Int) = overF n := by
    unfold overF
    rw [← div_near hn]
    congr 1
  simp only [a61, e1, e2, e3, e4, e5, bin_neq_b, i_quo _ _ _ _ _ (show 4294967296 < 9223372036854775808 by decide) hn, i_rem _ _ _ _ _ (show 4294967296 < 9223372036854775808 by decide) hn, e6, e7, c60, go_sem, bin_add, bin_sub, bin_mul, Nat.reduceAdd, Nat.reduceMul, Nat.reduceEqDiff, Nat.reduceLeDiff, Nat.reduceLT, Nat.reduceSub, reduceIte, reduceCtorEq, Int.reduceToNat, Int.reduceNeg, Int.reduceLE, Int.reduceLT, Int.reduceEq, Nat.reduceOr, Nat.reduceShiftRight, Nat.reduceMod, Nat.reduceBNe, Nat.reduceBEq]
  refine Cd_split ?_ ?_ <;> intro g <;> simp only [g, e7, c60, go_sem, bin_add, bin_sub, bin_mul, Nat.reduceAdd, Nat.reduceMul, Nat.reduceEqDiff, Nat.reduceLeDiff, Nat.reduceLT, Nat.reduceSub, reduceIte, reduceCtorEq, Int.reduceToNat, Int.reduceNeg, Int.reduceLE, Int.reduceLT, Int.reduceEq, Nat.reduceOr, Nat.reduceShiftRight, Nat.reduceMod, Nat.reduceBNe, Nat.reduceBEq]
  · rw [← fin, if_pos (Int.ofNat_le.1 (of_decide_eq_true g))]
  · rw [← fin, if_neg (fun h => absurd (Int.ofNat_le.2 h) (of_decide_eq_false g))]

theorem c42 {env : List Lp} (p : Wn) (h0 : 0 < p.w) (h1 : p.w < 2147483648) (H : AH) (Q : AEnd → AH → Prop) : C T env 42 [p.v] H Q = Q (.ret (.int .i64 (overF p.w))) H := by
  refine C_det ?_ Q
  rw [C_fn T42 rfl]
  have e : wrapF .i64 (overF p.w) = overF p.w := by unfold overF rawF; exact w64_id (by omega) (by omega)
  simp only [a42, Wn.v, Wn.cs, c61 _ h0 h1, e, go_sem, bin_add, bin_sub, bin_mul, Nat.reduceAdd, Nat.reduceMul, Nat.reduceEqDiff, Nat.reduceLeDiff, Nat.reduceLT, Nat.reduceSub, reduceIte, reduceCtorEq, Int.reduceToNat, Int.reduceNeg, Int.reduceLE, Int.reduceLT, Int.reduceEq, Nat.reduceOr, Nat.reduceShiftRight, Nat.reduceMod, Nat.reduceBNe, Nat.reduceBEq]
end
end Go.AX.Tri
/- Contracts: the document's answer: is a cell covered? -/
namespace Go.AX.Tri
open Go.Proofs Go.AX.Mc
set_option linter.unusedSimpArgs false
set_option linter.unusedVariables false
noncomputable section

def covR (a b c : Wn) (x y : Int) : Bool :=
  allF x y && (!decide (wayF a b c.x c.y = 0) && (inF (turnF a b c).b (turnF a b c).c (ctr x) (ctr y) && (inF (turnF a b c).c (turnF a b c).a (ctr x) (ctr y) && inF (turnF a b c).a (turnF a b c).b (ctr x) (ctr y))))

theorem c25 {env : List Lp} (a b c : Wn) (x y : Int) (H : AH) (Q : AEnd → AH → Prop) : C T env 25 [a.v, b.v, c.v, .int .i64 x, .int .i64 y] H Q = Q (.ret (.bool (covR a b c x y))) H := by
  refine C_det ?_ Q
  rw [C_fn T25 rfl]
  have k30 := fun (H : AH) (Q : AEnd → AH → Prop) => c30 (env := env) a b c H Q
  have k39 := fun (p q : Wn) (x y : Int) (H : AH) (Q : AEnd → AH → Prop) => c39 (env := env) p q x y H Q
  simp only [Wn.v, Wn.cs] at k30 k39
  unfold covR allF
  simp only [a25, Wn.v, Wn.cs, go_sem, bin_add, bin_sub, bin_mul, Nat.reduceAdd, Nat.reduceMul, Nat.reduceEqDiff, Nat.reduceLeDiff, Nat.reduceLT, Nat.reduceSub, reduceIte, reduceCtorEq, Int.reduceToNat, Int.reduceNeg, Int.reduceLE, Int.reduceLT, Int.reduceEq, Nat.reduceOr, Nat.reduceShiftRight, Nat.reduceMod, Nat.reduceBNe, Nat.reduceBEq]
  refine Gd_split ?_ ?_ <;> intro g1 <;> simp only [g1, go_sem, bin_add, bin_sub, bin_mul, Nat.reduceAdd, Nat.reduceMul, Nat.reduceEqDiff, Nat.reduceLeDiff, Nat.reduceLT, Nat.reduceSub, reduceIte, reduceCtorEq, Int.reduceToNat, Int.reduceNeg, Int.reduceLE, Int.reduceLT, Int.reduceEq, Nat.reduceOr, Nat.reduceShiftRight, Nat.reduceMod, Nat.reduceBNe, Nat.reduceBEq]
  · simp at g1 ⊢; omega
  refine Gd_split ?_ ?_ <;> intro g2 <;> simp only [g1, g2, go_sem, bin_add, bin_sub, bin_mul, Nat.reduceAdd, Nat.reduceMul, Nat.reduceEqDiff, Nat.reduceLeDiff, Nat.reduceLT, Nat.reduceSub, reduceIte, reduceCtorEq, Int.reduceToNat, Int.reduceNeg, Int.reduceLE, Int.reduceLT, Int.reduceEq, Nat.reduceOr, Nat.reduceShiftRight, Nat.reduceMod, Nat.reduceBNe, Nat.reduceBEq]
  · simp at g2 ⊢; omega
  refine Gd_split ?_ ?_ <;> intro g3 <;> simp only [g1, g2, g3, go_sem, bin_add, bin_sub, bin_mul, Nat.reduceAdd, Nat.reduceMul, Nat.reduceEqDiff, Nat.reduceLeDiff, Nat.reduceLT, Nat.reduceSub, reduceIte, reduceCtorEq, Int.reduceToNat, Int.reduceNeg, Int.reduceLE, Int.reduceLT, Int.reduceEq, Nat.reduceOr, Nat.reduceShiftRight, Nat.reduceMod, Nat.reduceBNe, Nat.reduceBEq]
  · simp at g3 ⊢; omega
  refine Gd_split ?_ ?_ <;> intro g4 <;> simp only [g1, g2, g3, g4, go_sem, bin_add, bin_sub, bin_mul, Nat.reduceAdd, Nat.reduceMul, Nat.reduceEqDiff, Nat.reduceLeDiff, Nat.reduceLT, Nat.reduceSub, reduceIte, reduceCtorEq, Int.reduceToNat, Int.reduceNeg, Int.reduceLE, Int.reduceLT, Int.reduceEq, Nat.reduceOr, Nat.reduceShiftRight, Nat.reduceMod, Nat.reduceBNe, Nat.reduceBEq]
  · simp at g4 ⊢; omega
  simp only [k30, go_sem, bin_add, bin_sub, bin_mul, Nat.reduceAdd, Nat.reduceMul, Nat.reduceEqDiff, Nat.reduceLeDiff, Nat.reduceLT, Nat.reduceSub, reduceIte, reduceCtorEq, Int.reduceToNat, Int.reduceNeg, Int.reduceLE, Int.reduceLT, Int.reduceEq, Nat.reduceOr, Nat.reduceShiftRight, Nat.reduceMod, Nat.reduceBNe, Nat.reduceBEq]
  refine Cd_split ?_ ?_ <;> intro g5 <;> simp only [g5, go_sem, bin_add, bin_sub, bin_mul, Nat.reduceAdd, Nat.reduceMul, Nat.reduceEqDiff, Nat.reduceLeDiff, Nat.reduceLT, Nat.reduceSub, reduceIte, reduceCtorEq, Int.reduceToNat, Int.reduceNeg, Int.reduceLE, Int.reduceLT, Int.reduceEq, Nat.reduceOr, Nat.reduceShiftRight, Nat.reduceMod, Nat.reduceBNe, Nat.reduceBEq]
  have hall : (decide (0 ≤ x) && decide (x < 64) && decide (0 ≤ y) && decide (y < 64)) = true := by simp at g1 g2 g3 g4 ⊢; omega
  rw [hall]
  simp only [Bool.true_and, Bool.not_false]
  have k38 := fun (L : List (Option AB)) (Q : AEnd → AH → Prop) (hQ : ∀ L', Q (.ret (.tuple [(turnF a b c).a.v, (turnF a b c).b.v, (turnF a b c).c.v].toArray)) (ext (ext H.now L) L')) => c38 (env := env) a b c (H := ext H.now L) (by rw [ext_lo, ext_nx]; exact Nat.le_add_right _ _) hQ
  simp only [Wn.v, Wn.cs] at k38
  refine k38 _ _ fun L => ?_
  generalize turnF a b c = f
  simp only [ext_ext, go_sem, bin_add, bin_sub, bin_mul, Nat.reduceAdd, Nat.reduceMul, Nat.reduceEqDiff, Nat.reduceLeDiff, Nat.reduceLT, Nat.reduceSub, reduceIte, reduceCtorEq, Int.reduceToNat, Int.reduceNeg, Int.reduceLE, Int.reduceLT, Int.reduceEq, Nat.reduceOr, Nat.reduceShiftRight, Nat.reduceMod, Nat.reduceBNe, Nat.reduceBEq]
  have k39' := fun (p q : Wn) (L : List (Option AB)) (Q : AEnd → AH → Prop) => k39 p q (ctr x) (ctr y) (ext H.now L) Q
  unfold ctr at *
  simp only [k39, go_sem, bin_add, bin_sub, bin_mul, Nat.reduceAdd, Nat.reduceMul, Nat.reduceEqDiff, Nat.reduceLeDiff, Nat.reduceLT, Nat.reduceSub, reduceIte, reduceCtorEq, Int.reduceToNat, Int.reduceNeg, Int.reduceLE, Int.reduceLT, Int.reduceEq, Nat.reduceOr, Nat.reduceShiftRight, Nat.reduceMod, Nat.reduceBNe, Nat.reduceBEq]
  refine Gd_split ?_ ?_ <;> intro h1 <;> simp only [h1, k39, go_sem, bin_add, bin_sub, bin_mul, Nat.reduceAdd, Nat.reduceMul, Nat.reduceEqDiff, Nat.reduceLeDiff, Nat.reduceLT, Nat.reduceSub, reduceIte, reduceCtorEq, Int.reduceToNat, Int.reduceNeg, Int.reduceLE, Int.reduceLT, Int.reduceEq, Nat.reduceOr, Nat.reduceShiftRight, Nat.reduceMod, Nat.reduceBNe, Nat.reduceBEq]
  refine Gd_split ?_ ?_ <;> intro h2 <;> simp only [h1, h2, k39, go_sem, bin_add, bin_sub, bin_mul, Nat.reduceAdd, Nat.reduceMul, Nat.reduceEqDiff, Nat.reduceLeDiff, Nat.reduceLT, Nat.reduceSub, reduceIte, reduceCtorEq, Int.reduceToNat, Int.reduceNeg, Int.reduceLE, Int.reduceLT, Int.reduceEq, Nat.reduceOr, Nat.reduceShiftRight, Nat.reduceMod, Nat.reduceBNe, Nat.reduceBEq]

def slA (n z : Nat) (x : Value) (lo hi mx : Option Value) (H : AH) : Option ANext := val? H (aSliceA n z x lo hi mx)
theorem e_sliceA (n z : Nat) (x : Ar) (lo hi mx : Option Ar) (fr : Tr Value) (H : AH) : oSliceA n z x lo hi mx fr H = slA n z (ev fr x) (evO fr lo) (evO fr hi) (evO fr mx) H := rfl
theorem slA_3 (b : Nat) (H : AH) : slA 3 6 (.pointer (some ⟨b, 0, none⟩)) none none none H = some (.val (.slice (some ⟨b, 0, none⟩) 3 3) H) := by
  unfold slA aSliceA
  rfl

theorem c24 {env : List Lp} (a b c : Wn) (H : AH) (Q : AEnd → AH → Prop) : C T env 24 [.agg (tri18 a b c).toArray] H Q = Q (.ret (.bool (!badL [a, b, c]))) H := by
  refine C_det ?_ Q
  rw [C_fn T24 rfl]
  have k13 := fun (Q : AEnd → AH → Prop) => c13 (env := env) H.now.nx 0 3 [a, b, c] (ext H.now [blk (tri18 a b c)]) (by rw [ext_nx]; simp) (by
    intro j w hj
    rw [rd_new0]
    match j, hj with
    | 0, hj => cases hj; rfl
    | 1, hj => cases hj; rfl
    | 2, hj => cases hj; rfl
    | j + 3, hj => simp at hj) (by simp) Q
  have k13' : ∀ (Q : AEnd → AH → Prop), C T env 13 [.slice (some ⟨H.now.nx, 0, none⟩) 3 3] (ext H.now [some (.cells (tri18 a b c) 0 0)]) Q = Q (.ret (.bool (!badL [a, b, c]))) (ext H.now [some (.cells (tri18 a b c) 0 0)]) := k13
  simp only [a24, e_sliceA, slA_3, k13', go_sem, bin_add, bin_sub, bin_mul, Nat.reduceAdd, Nat.reduceMul, Nat.reduceEqDiff, Nat.reduceLeDiff, Nat.reduceLT, Nat.reduceSub, reduceIte, reduceCtorEq, Int.reduceToNat, Int.reduceNeg, Int.reduceLE, Int.reduceLT, Int.reduceEq, Nat.reduceOr, Nat.reduceShiftRight, Nat.reduceMod, Nat.reduceBNe, Nat.reduceBEq]
end
end Go.AX.Tri
/- Lists of great whole numbers, appended. -/
namespace Go.AX.Tri
open Go.Proofs Go.AX.Mc
set_option linter.unusedSimpArgs false
set_option linter.unusedVariables false
noncomputable section

/-- a list of great whole numbers in block j of those that a call has laid. -/
def Bg (N : Nat) (L : List (Option AB)) (j : Nat) (hd : Value) (l : List Nat) : Prop :=
  (l = [] ∧ hd = .slice none 0 0) ∨ (l ≠ [] ∧ L[j]? = some (some (.cells (l.flatMap dg) 1 12)) ∧ hd = .slice (some ⟨N + j, 0, some 0⟩) l.length l.length)
theorem dgs_length (l : List Nat) : (l.flatMap dg).length = l.length * 12 := by
  induction l with
  | nil => rfl
  | cons v l ih => rw [List.flatMap_cons, List.length_append, ih, show (dg v).length = 12 from fn_length _ _, List.length_cons]; omega
theorem Bg.more {N : Nat} {L : List (Option AB)} {j : Nat} {hd : Value} {l : List Nat} (h : Bg N L j hd l) (E : List (Option AB)) : Bg N (L ++ E) j hd l := by
  rcases h with h | ⟨h1, h2, h3⟩
  · exact .inl h
  · exact .inr ⟨h1, by rw [List.getElem?_append_left (List.getElem?_eq_some_iff.1 h2).1]; exact h2, h3⟩
theorem Bg.other {N : Nat} {L : List (Option AB)} {j i : Nat} {hd : Value} {l : List Nat} (h : Bg N L j hd l) (hne : j ≠ i) (x : Option AB) : Bg N (L.set i x) j hd l := by
  rcases h with h | ⟨h1, h2, h3⟩
  · exact .inl h
  · exact .inr ⟨h1, by rw [List.getElem?_set_ne (Ne.symm hne)]; exact h2, h3⟩

/-- one more: what the heap becomes. -/
def setL (L : List (Option AB)) (l : List Nat) (j : Nat) : List (Option AB) := match l with
  | [] => L
  | _ :: _ => L.set j (some .dead)
theorem setL_len (L : List (Option AB)) (l : List Nat) (j : Nat) : (setL L l j).length = L.length := by
  cases l
  · rfl
  · exact List.length_set
theorem app_bg {G : AH} (hlo : G.lo ≤ G.nx) {L : List (Option AB)} {j : Nat} {hd : Value} {l : List Nat} (h : Bg G.nx L j hd l) (hl : l.length < 1000) {n : Nat} {x : Value} (hx : aSource (ext G L) 12 x none = some (1, dg n)) :
    aAppend 12 48 hd x (ext G L) = some (.val (.slice (some ⟨G.nx + L.length, 0, some 0⟩) (l.length + 1) (l.length + 1)) (ext G (setL L l j ++ [some (.cells ((l ++ [n]).flatMap dg) 1 12)]))) := by
  rcases h with ⟨rfl, rfl⟩ | ⟨h1, h2, rfl⟩
  · rw [app_nil _ 12 48 _ 0 (dg n) hx (room_of (by omega) (by omega)) (dV_flat _ _), ext_push, ext_nx]
    simp [setL]
  · have hj := (List.getElem?_eq_some_iff.1 h2).1
    rw [app_slr _ 12 48 (G.nx + j) l.length (l.flatMap dg) _ 0 (dg n) hx (by rw [ext_get_new, h2]; rfl) (dgs_length l) (room_of (by omega) (by omega)) (dV_flat _ _)]
    rw [ext_set_new G hlo _ _ _ hj, ext_push, ext_nx]
    cases l with
    | nil => exact absurd rfl h1
    | cons a l => simp [setL]
theorem Bg.app {N : Nat} {L : List (Option AB)} {l : List Nat} {n : Nat} {m : Nat} (hm : m = L.length) : Bg N (L ++ [some (.cells ((l ++ [n]).flatMap dg) 1 12)]) m (.slice (some ⟨N + L.length, 0, some 0⟩) (l.length + 1) (l.length + 1)) (l ++ [n]) := by
  subst hm
  exact .inr ⟨by simp, by simp, by simp⟩
end
end Go.AX.Tri
