/- Contracts: the document's sides, area, turned corners, one over w. -/
import Derived.Test.YthhgeodgfbhkdaaSf
import Derived.Test.YthhgeodgfbhkdaaZd
set_option linter.unusedVariables false
set_option linter.unusedSimpArgs false
set_option linter.unusedSectionVars false
namespace Go.AX.Tri
open Go.Proofs Go.AX.Mc
set_option linter.unusedSimpArgs false
set_option linter.unusedVariables false
noncomputable section

theorem c55 {env : List Lp} (p q : Wn) (x y : Int) (H : AH) (Q : AEnd → AH → Prop) : C T env 55 [p.v, q.v, .int .i64 x, .int .i64 y] H Q = Q (.ret (.int .i64 (wayF p q x y))) H := by
  refine C_det ?_ Q
  rw [C_fn T55 rfl]
  simp only [a55, Wn.v, Wn.cs, go_sem, bin_add, bin_sub, bin_mul, Nat.reduceAdd, Nat.reduceMul, Nat.reduceEqDiff, Nat.reduceLeDiff, Nat.reduceLT, Nat.reduceSub, reduceIte, reduceCtorEq, Int.reduceToNat, Int.reduceNeg, Int.reduceLE, Int.reduceLT, Int.reduceEq, Nat.reduceOr, Nat.reduceShiftRight, Nat.reduceMod, Nat.reduceBNe, Nat.reduceBEq]
  rfl
theorem c30 {env : List Lp} (a b c : Wn) (H : AH) (Q : AEnd → AH → Prop) : C T env 30 [a.v, b.v, c.v] H Q = Q (.ret (.int .i64 (wayF a b c.x c.y))) H := by
  refine C_det ?_ Q
  rw [C_fn T30 rfl]
  simp only [a30, Wn.v, Wn.cs, go_sem, bin_add, bin_sub, bin_mul, Nat.reduceAdd, Nat.reduceMul, Nat.reduceEqDiff, Nat.reduceLeDiff, Nat.reduceLT, Nat.reduceSub, reduceIte, reduceCtorEq, Int.reduceToNat, Int.reduceNeg, Int.reduceLE, Int.reduceLT, Int.reduceEq, Nat.reduceOr, Nat.reduceShiftRight, Nat.reduceMod, Nat.reduceBNe, Nat.reduceBEq]
  unfold wayF
  rw [Int.mul_comm (w64 (b.y - a.y))]

theorem c39 {env : List Lp} (p q : Wn) (x y : Int) (H : AH) (Q : AEnd → AH → Prop) : C T env 39 [p.v, q.v, .int .i64 x, .int .i64 y] H Q = Q (.ret (.bool (inF p q x y))) H := by
  refine C_det ?_ Q
  rw [C_fn T39 rfl]
  have k55 := fun (x y : Int) (H : AH) (Q : AEnd → AH → Prop) => c55 (env := env) p q x y H Q
  simp only [Wn.v, Wn.cs] at k55
  simp only [a39, Wn.v, Wn.cs, k55, go_sem, bin_add, bin_sub, bin_mul, Nat.reduceAdd, Nat.reduceMul, Nat.reduceEqDiff, Nat.reduceLeDiff, Nat.reduceLT, Nat.reduceSub, reduceIte, reduceCtorEq, Int.reduceToNat, Int.reduceNeg, Int.reduceLE, Int.reduceLT, Int.reduceEq, Nat.reduceOr, Nat.reduceShiftRight, Nat.reduceMod, Nat.reduceBNe, Nat.reduceBEq]
  unfold inF
  generalize wayF p q x y = s
  refine Gd_split ?_ ?_ <;> intro g1 <;> simp only [g1, go_sem, bin_add, bin_sub, bin_mul, Nat.reduceAdd, Nat.reduceMul, Nat.reduceEqDiff, Nat.reduceLeDiff, Nat.reduceLT, Nat.reduceSub, reduceIte, reduceCtorEq, Int.reduceToNat, Int.reduceNeg, Int.reduceLE, Int.reduceLT, Int.reduceEq, Nat.reduceOr, Nat.reduceShiftRight, Nat.reduceMod, Nat.reduceBNe, Nat.reduceBEq]
  · simp
  refine Gd_split ?_ ?_ <;> intro g2 <;> simp only [g1, g2, go_sem, bin_add, bin_sub, bin_mul, Nat.reduceAdd, Nat.reduceMul, Nat.reduceEqDiff, Nat.reduceLeDiff, Nat.reduceLT, Nat.reduceSub, reduceIte, reduceCtorEq, Int.reduceToNat, Int.reduceNeg, Int.reduceLE, Int.reduceLT, Int.reduceEq, Nat.reduceOr, Nat.reduceShiftRight, Nat.reduceMod, Nat.reduceBNe, Nat.reduceBEq]
  · refine Gd_split ?_ ?_ <;> intro g3 <;> simp only [g1, g2, g3, go_sem, bin_add, bin_sub, bin_mul, Nat.reduceAdd, Nat.reduceMul, Nat.reduceEqDiff, Nat.reduceLeDiff, Nat.reduceLT, Nat.reduceSub, reduceIte, reduceCtorEq, Int.reduceToNat, Int.reduceNeg, Int.reduceLE, Int.reduceLT, Int.reduceEq, Nat.reduceOr, Nat.reduceShiftRight, Nat.reduceMod, Nat.reduceBNe, Nat.reduceBEq]
    · simp
    refine Gd_split ?_ ?_ <;> intro g4 <;> simp only [g1, g2, g3, g4, go_sem, bin_add, bin_sub, bin_mul, Nat.reduceAdd, Nat.reduceMul, Nat.reduceEqDiff, Nat.reduceLeDiff, Nat.reduceLT, Nat.reduceSub, reduceIte, reduceCtorEq, Int.reduceToNat, Int.reduceNeg, Int.reduceLE, Int.reduceLT, Int.reduceEq, Nat.reduceOr, Nat.reduceShiftRight, Nat.reduceMod, Nat.reduceBNe, Nat.reduceBEq]
    · simp
    · simp
  · simp

theorem trim_go {H : AH} (hlo : H.lo ≤ H.nx) {v : Value} {L : List (Option AB)} {Q : AH → Prop} (h : ∀ L', Q (ext H L')) : Q (trim H v (ext H.now L)) := by
  obtain ⟨L', e⟩ := trim_or hlo v L
  rw [e]; exact h L'
theorem c38 {env : List Lp} (a b c : Wn) {H : AH} (hlo : H.lo ≤ H.nx) {Q : AEnd → AH → Prop} (hQ : ∀ L, Q (.ret (.tuple [(turnF a b c).a.v, (turnF a b c).b.v, (turnF a b c).c.v].toArray)) (ext H L)) : C T env 38 [a.v, b.v, c.v] H Q := by
  rw [C_fn T38 rfl]
  have k30 := fun (H : AH) (Q : AEnd → AH → Prop) => c30 (env := env) a b c H Q
  simp only [Wn.v, Wn.cs] at k30
  have hcl : ∀ p : Wn, p.cs.length = 6 := fun _ => rfl
  unfold turnF at hQ
  generalize hw : wayF a b c.x c.y = w at *
  simp only [a38, Wn.v, Wn.cs, k30, go_sem, bin_add, bin_sub, bin_mul, Nat.reduceAdd, Nat.reduceMul, Nat.reduceEqDiff, Nat.reduceLeDiff, Nat.reduceLT, Nat.reduceSub, reduceIte, reduceCtorEq, Int.reduceToNat, Int.reduceNeg, Int.reduceLE, Int.reduceLT, Int.reduceEq, Nat.reduceOr, Nat.reduceShiftRight, Nat.reduceMod, Nat.reduceBNe, Nat.reduceBEq]
  refine Cd_split ?_ ?_ <;> intro g <;> simp only [g, go_sem, bin_add, bin_sub, bin_mul, Nat.reduceAdd, Nat.reduceMul, Nat.reduceEqDiff, Nat.reduceLeDiff, Nat.reduceLT, Nat.reduceSub, reduceIte, reduceCtorEq, Int.reduceToNat, Int.reduceNeg, Int.reduceLE, Int.reduceLT, Int.reduceEq, Nat.reduceOr, Nat.reduceShiftRight, Nat.reduceMod, Nat.reduceBNe, Nat.reduceBEq]
  · refine X_drawE 0 (by rfl) ?_
    simp only [go_sem, bin_add, bin_sub, bin_mul, Nat.reduceAdd, Nat.reduceMul, Nat.reduceEqDiff, Nat.reduceLeDiff, Nat.reduceLT, Nat.reduceSub, reduceIte, reduceCtorEq, Int.reduceToNat, Int.reduceNeg, Int.reduceLE, Int.reduceLT, Int.reduceEq, Nat.reduceOr, Nat.reduceShiftRight, Nat.reduceMod, Nat.reduceBNe, Nat.reduceBEq]
    refine trim_go hlo ?_
    intro L'
    have := hQ L'
    simp only [g, cond_true, cond_false, Wn.v, Wn.cs] at this
    exact this
  · refine X_drawE 0 (by rfl) ?_
    simp only [go_sem, bin_add, bin_sub, bin_mul, Nat.reduceAdd, Nat.reduceMul, Nat.reduceEqDiff, Nat.reduceLeDiff, Nat.reduceLT, Nat.reduceSub, reduceIte, reduceCtorEq, Int.reduceToNat, Int.reduceNeg, Int.reduceLE, Int.reduceLT, Int.reduceEq, Nat.reduceOr, Nat.reduceShiftRight, Nat.reduceMod, Nat.reduceBNe, Nat.reduceBEq]
    refine trim_go hlo ?_
    intro L'
    have := hQ L'
    simp only [g, cond_true, cond_false, Wn.v, Wn.cs] at this
    exact this

theorem i_quo (ox oy : Operand) (nk : Option NilK) (ty : TypeId) (H : AH) {a b : Nat} (ha : a < 9223372036854775808) (hb : 0 < b) : aBin Try.prog .quo ty ox oy nk (.int .i64 (a : Int)) (.int .i64 (b : Int)) H = some (.val (.int .i64 ((a / b : Nat) : Int)) H) := by
  have := Nat.div_le_self a b
  rw [bin_quo_w _ _ _ _ _ _ _ _ _ (by omega), show (a : Int).tdiv (b : Int) = ((a / b : Nat) : Int) from rfl]
  generalize a / b = q at *
  rw [w64_id (by omega) (by omega)]
theorem i_rem (ox oy : Operand) (nk : Option NilK) (ty : TypeId) (H : AH) {a b : Nat} (ha : a < 9223372036854775808) (hb : 0 < b) : aBin Try.prog .rem ty ox oy nk (.int .i64 (a : Int)) (.int .i64 (b : Int)) H = some (.val (.int .i64 ((a % b : Nat) : Int)) H) := by
  rw [bin_rem _ _ _ _ _ _ _ _ _ (by omega), show (a : Int).tmod (b : Int) = ((a % b : Nat) : Int) from rfl]
theorem div_near {a b : Nat} (hb : 0 < b) : (2 * a + b) / (2 * b) = if b ≤ 2 * (a % b) then a / b + 1 else a / b := by
  have h := Nat.div_add_mod a b
  have hm := Nat.mod_lt a hb
  generalize a / b = q at *
  generalize a % b = r at *
  subst h
  have e : 2 * (b * q + r) + b = 2 * r + b + 2 * b * q := by grind
  rw [e, Nat.add_mul_div_left _ _ (by omega)]
  split
  · have e1 : (2 * r + b) / (2 * b) = 1 := by
      refine Nat.div_eq_of_lt_le ?_ ?_ <;> omega
    rw [e1, Nat.add_comm]
  · rw [Nat.div_eq_of_lt (by omega), Nat.zero_add]

theorem c61 {env : List Lp} (w : Int) (h0 : 0 < w) (h1 : w < 2147483648) (H : AH) (Q : AEnd → AH → Prop) : C T env 61 [.int .i32 65536, .int .i32 w] H Q = Q (.ret (.int .i32 (overF w))) H := by
  refine C_det ?_ Q
  rw [C_fn T61 rfl]
  obtain ⟨n, rfl⟩ : ∃ n : Nat, w = (n : Int) := ⟨w.toNat, by omega⟩
  have hn : 0 < n := by omega
  have e1 : wrapF .i64 (wrapF .i64 65536 * 65536) = ((4294967296 : Nat) : Int) := rfl
  have e2 : wrapF .i64 (n : Int) = (n : Int) := w64_id (by omega) (by omega)
  have e3 : decide (((4294967296 : Nat) : Int) < 0) = false := rfl
  have e4 : decide ((n : Int) < 0) = false := by simp
  have e5 : decide ((n : Int) = 0) = false := by simp; omega
  have hr := Nat.mod_lt 4294967296 hn
  have e6 : wrapF .i64 (2 * ((4294967296 % n : Nat) : Int)) = ((2 * (4294967296 % n) : Nat) : Int) := by rw [w64_id (by omega) (by omega)]; omega
  have hq := Nat.div_le_self 4294967296 n
  have e7 : wrapF .i64 (((4294967296 / n : Nat) : Int) + 1) = ((4294967296 / n + 1 : Nat) : Int) := by
    generalize 4294967296 / n = q at hq
    rw [w64_id (by omega) (by omega)]; omega
  have fin : rawF (((if n ≤ 2 * (4294967296 % n) then 4294967296 / n + 1 else 4294967296 / n : Nat)) : Int) = overF n := by
    unfold overF
    rw [← div_near hn]
    congr 1
  simp only [a61, e1, e2, e3, e4, e5, bin_neq_b, i_quo _ _ _ _ _ (show 4294967296 < 9223372036854775808 by decide) hn, i_rem _ _ _ _ _ (show 4294967296 < 9223372036854775808 by decide) hn, e6, e7, c60, go_sem, bin_add, bin_sub, bin_mul, Nat.reduceAdd, Nat.reduceMul, Nat.reduceEqDiff, Nat.reduceLeDiff, Nat.reduceLT, Nat.reduceSub, reduceIte, reduceCtorEq, Int.reduceToNat, Int.reduceNeg, Int.reduceLE, Int.reduceLT, Int.reduceEq, Nat.reduceOr, Nat.reduceShiftRight, Nat.reduceMod, Nat.reduceBNe, Nat.reduceBEq]
  refine Cd_split ?_ ?_ <;> intro g <;> simp only [g, e7, c60, go_sem, bin_add, bin_sub, bin_mul, Nat.reduceAdd, Nat.reduceMul, Nat.reduceEqDiff, Nat.reduceLeDiff, Nat.reduceLT, Nat.reduceSub, reduceIte, reduceCtorEq, Int.reduceToNat, Int.reduceNeg, Int.reduceLE, Int.reduceLT, Int.reduceEq, Nat.reduceOr, Nat.reduceShiftRight, Nat.reduceMod, Nat.reduceBNe, Nat.reduceBEq]
  · rw [← fin, if_pos (Int.ofNat_le.1 (of_decide_eq_true g))]
  · rw [← fin, if_neg (fun h => absurd (Int.ofNat_le.2 h) (of_decide_eq_false g))]

theorem c42 {env : List Lp} (p : Wn) (h0 : 0 < p.w) (h1 : p.w < 2147483648) (H : AH) (Q : AEnd → AH → Prop) : C T env 42 [p.v] H Q = Q (.ret (.int .i64 (overF p.w))) H := by
  refine C_det ?_ Q
  rw [C_fn T42 rfl]
  have e : wrapF .i64 (overF p.w) = overF p.w := by unfold overF rawF; exact w64_id (by omega) (by omega)
  simp only [a42, Wn.v, Wn.cs, c61 _ h0 h1, e, go_sem, bin_add, bin_sub, bin_mul, Nat.reduceAdd, Nat.reduceMul, Nat.reduceEqDiff, Nat.reduceLeDiff, Nat.reduceLT, Nat.reduceSub, reduceIte, reduceCtorEq, Int.reduceToNat, Int.reduceNeg, Int.reduceLE, Int.reduceLT, Int.reduceEq, Nat.reduceOr, Nat.reduceShiftRight, Nat.reduceMod, Nat.reduceBNe, Nat.reduceBEq]
end
end Go.AX.Tri
/- Contracts: the document's answer: is a cell covered? -/
namespace Go.AX.Tri
open Go.Proofs Go.AX.Mc
set_option linter.unusedSimpArgs false
set_option linter.unusedVariables false
noncomputable section

def covR (a b c : Wn) (x y : Int) : Bool :=
  allF x y && (!decide (wayF a b c.x c.y = 0) && (inF (turnF a b c).b (turnF a b c).c (ctr x) (ctr y) && (inF (turnF a b c).c (turnF a b c).a (ctr x) (ctr y) && inF (turnF a b c).a (turnF a b c).b (ctr x) (ctr y))))

theorem c25 {env : List Lp} (a b c : Wn) (x y : Int) (H : AH) (Q : AEnd → AH → Prop) : C T env 25 [a.v, b.v, c.v, .int .i64 x, .int .i64 y] H Q = Q (.ret (.bool (covR a b c x y))) H := by
  refine C_det ?_ Q
  rw [C_fn T25 rfl]
  have k30 := fun (H : AH) (Q : AEnd → AH → Prop) => c30 (env := env) a b c H Q
  have k39 := fun (p q : Wn) (x y : Int) (H : AH) (Q : AEnd → AH → Prop) => c39 (env := env) p q x y H Q
  simp only [Wn.v, Wn.cs] at k30 k39
  unfold covR allF
  simp only [a25, Wn.v, Wn.cs, go_sem, bin_add, bin_sub, bin_mul, Nat.reduceAdd, Nat.reduceMul, Nat.reduceEqDiff, Nat.reduceLeDiff, Nat.reduceLT, Nat.reduceSub, reduceIte, reduceCtorEq, Int.reduceToNat, Int.reduceNeg, Int.reduceLE, Int.reduceLT, Int.reduceEq, Nat.reduceOr, Nat.reduceShiftRight, Nat.reduceMod, Nat.reduceBNe, Nat.reduceBEq]
  refine Gd_split ?_ ?_ <;> intro g1 <;> simp only [g1, go_sem, bin_add, bin_sub, bin_mul, Nat.reduceAdd, Nat.reduceMul, Nat.reduceEqDiff, Nat.reduceLeDiff, Nat.reduceLT, Nat.reduceSub, reduceIte, reduceCtorEq, Int.reduceToNat, Int.reduceNeg, Int.reduceLE, Int.reduceLT, Int.reduceEq, Nat.reduceOr, Nat.reduceShiftRight, Nat.reduceMod, Nat.reduceBNe, Nat.reduceBEq]
  · simp at g1 ⊢; omega
  refine Gd_split ?_ ?_ <;> intro g2 <;> simp only [g1, g2, go_sem, bin_add, bin_sub, bin_mul, Nat.reduceAdd, Nat.reduceMul, Nat.reduceEqDiff, Nat.reduceLeDiff, Nat.reduceLT, Nat.reduceSub, reduceIte, reduceCtorEq, Int.reduceToNat, Int.reduceNeg, Int.reduceLE, Int.reduceLT, Int.reduceEq, Nat.reduceOr, Nat.reduceShiftRight, Nat.reduceMod, Nat.reduceBNe, Nat.reduceBEq]
  · simp at g2 ⊢; omega
  refine Gd_split ?_ ?_ <;> intro g3 <;> simp only [g1, g2, g3, go_sem, bin_add, bin_sub, bin_mul, Nat.reduceAdd, Nat.reduceMul, Nat.reduceEqDiff, Nat.reduceLeDiff, Nat.reduceLT, Nat.reduceSub, reduceIte, reduceCtorEq, Int.reduceToNat, Int.reduceNeg, Int.reduceLE, Int.reduceLT, Int.reduceEq, Nat.reduceOr, Nat.reduceShiftRight, Nat.reduceMod, Nat.reduceBNe, Nat.reduceBEq]
  · simp at g3 ⊢; omega
  refine Gd_split ?_ ?_ <;> intro g4 <;> simp only [g1, g2, g3, g4, go_sem, bin_add, bin_sub, bin_mul, Nat.reduceAdd, Nat.reduceMul, Nat.reduceEqDiff, Nat.reduceLeDiff, Nat.reduceLT, Nat.reduceSub, reduceIte, reduceCtorEq, Int.reduceToNat, Int.reduceNeg, Int.reduceLE, Int.reduceLT, Int.reduceEq, Nat.reduceOr, Nat.reduceShiftRight, Nat.reduceMod, Nat.reduceBNe, Nat.reduceBEq]
  · simp at g4 ⊢; omega
  simp only [k30, go_sem, bin_add, bin_sub, bin_mul, Nat.reduceAdd, Nat.reduceMul, Nat.reduceEqDiff, Nat.reduceLeDiff, Nat.reduceLT, Nat.reduceSub, reduceIte, reduceCtorEq, Int.reduceToNat, Int.reduceNeg, Int.reduceLE, Int.reduceLT, Int.reduceEq, Nat.reduceOr, Nat.reduceShiftRight, Nat.reduceMod, Nat.reduceBNe, Nat.reduceBEq]
  refine Cd_split ?_ ?_ <;> intro g5 <;> simp only [g5, go_sem, bin_add, bin_sub, bin_mul, Nat.reduceAdd, Nat.reduceMul, Nat.reduceEqDiff, Nat.reduceLeDiff, Nat.reduceLT, Nat.reduceSub, reduceIte, reduceCtorEq, Int.reduceToNat, Int.reduceNeg, Int.reduceLE, Int.reduceLT, Int.reduceEq, Nat.reduceOr, Nat.reduceShiftRight, Nat.reduceMod, Nat.reduceBNe, Nat.reduceBEq]
  have hall : (decide (0 ≤ x) && decide (x < 64) && decide (0 ≤ y) && decide (y < 64)) = true := by simp at g1 g2 g3 g4 ⊢; omega
  rw [hall]
  simp only [Bool.true_and, Bool.not_false]
  have k38 := fun (L : List (Option AB)) (Q : AEnd → AH → Prop) (hQ : ∀ L', Q (.ret (.tuple [(turnF a b c).a.v, (turnF a b c).b.v, (turnF a b c).c.v].toArray)) (ext (ext H.now L) L')) => c38 (env := env) a b c (H := ext H.now L) (by rw [ext_lo, ext_nx]; exact Nat.le_add_right _ _) hQ
  simp only [Wn.v, Wn.cs] at k38
  refine k38 _ _ fun L => ?_
  generalize turnF a b c = f
  simp only [ext_ext, go_sem, bin_add, bin_sub, bin_mul, Nat.reduceAdd, Nat.reduceMul, Nat.reduceEqDiff, Nat.reduceLeDiff, Nat.reduceLT, Nat.reduceSub, reduceIte, reduceCtorEq, Int.reduceToNat, Int.reduceNeg, Int.reduceLE, Int.reduceLT, Int.reduceEq, Nat.reduceOr, Nat.reduceShiftRight, Nat.reduceMod, Nat.reduceBNe, Nat.reduceBEq]
  have k39' := fun (p q : Wn) (L : List (Option AB)) (Q : AEnd → AH → Prop) => k39 p q (ctr x) (ctr y) (ext H.now L) Q
  unfold ctr at *
  simp only [k39, go_sem, bin_add, bin_sub, bin_mul, Nat.reduceAdd, Nat.reduceMul, Nat.reduceEqDiff, Nat.reduceLeDiff, Nat.reduceLT, Nat.reduceSub, reduceIte, reduceCtorEq, Int.reduceToNat, Int.reduceNeg, Int.reduceLE, Int.reduceLT, Int.reduceEq, Nat.reduceOr, Nat.reduceShiftRight, Nat.reduceMod, Nat.reduceBNe, Nat.reduceBEq]
  refine Gd_split ?_ ?_ <;> intro h1 <;> simp only [h1, k39, go_sem, bin_add, bin_sub, bin_mul, Nat.reduceAdd, Nat.reduceMul, Nat.reduceEqDiff, Nat.reduceLeDiff, Nat.reduceLT, Nat.reduceSub, reduceIte, reduceCtorEq, Int.reduceToNat, Int.reduceNeg, Int.reduceLE, Int.reduceLT, Int.reduceEq, Nat.reduceOr, Nat.reduceShiftRight, Nat.reduceMod, Nat.reduceBNe, Nat.reduceBEq]
  refine Gd_split ?_ ?_ <;> intro h2 <;> simp only [h1, h2, k39, go_sem, bin_add, bin_sub, bin_mul, Nat.reduceAdd, Nat.reduceMul, Nat.reduceEqDiff, Nat.reduceLeDiff, Nat.reduceLT, Nat.reduceSub, reduceIte, reduceCtorEq, Int.reduceToNat, Int.reduceNeg, Int.reduceLE, Int.reduceLT, Int.reduceEq, Nat.reduceOr, Nat.reduceShiftRight, Nat.reduceMod, Nat.reduceBNe, Nat.reduceBEq]

def slA (n z : Nat) (x : Value) (lo hi mx : Option Value) (H : AH) : Option ANext := val? H (aSliceA n z x lo hi mx)
theorem e_sliceA (n z : Nat) (x : Ar) (lo hi mx : Option Ar) (fr : Tr Value) (H : AH) : oSliceA n z x lo hi mx fr H = slA n z (ev fr x) (evO fr lo) (evO fr hi) (evO fr mx) H := rfl
theorem slA_3 (b : Nat) (H : AH) : slA 3 6 (.pointer (some ⟨b, 0, none⟩)) none none none H = some (.val (.slice (some ⟨b, 0, none⟩) 3 3) H) := by
  unfold slA aSliceA
  rfl

theorem c24 {env : List Lp} (a b c : Wn) (H : AH) (Q : AEnd → AH → Prop) : C T env 24 [.agg (tri18 a b c).toArray] H Q = Q (.ret (.bool (!badL [a, b, c]))) H := by
  refine C_det ?_ Q
  rw [C_fn T24 rfl]
  have k13 := fun (Q : AEnd → AH → Prop) => c13 (env := env) H.now.nx 0 3 [a, b, c] (ext H.now [blk (tri18 a b c)]) (by rw [ext_nx]; simp) (by
    intro j w hj
    rw [rd_new0]
    match j, hj with
    | 0, hj => cases hj; rfl
    | 1, hj => cases hj; rfl
    | 2, hj => cases hj; rfl
    | j + 3, hj => simp at hj) (by simp) Q
  have k13' : ∀ (Q : AEnd → AH → Prop), C T env 13 [.slice (some ⟨H.now.nx, 0, none⟩) 3 3] (ext H.now [some (.cells (tri18 a b c) 0 0)]) Q = Q (.ret (.bool (!badL [a, b, c]))) (ext H.now [some (.cells (tri18 a b c) 0 0)]) := k13
  simp only [a24, e_sliceA, slA_3, k13', go_sem, bin_add, bin_sub, bin_mul, Nat.reduceAdd, Nat.reduceMul, Nat.reduceEqDiff, Nat.reduceLeDiff, Nat.reduceLT, Nat.reduceSub, reduceIte, reduceCtorEq, Int.reduceToNat, Int.reduceNeg, Int.reduceLE, Int.reduceLT, Int.reduceEq, Nat.reduceOr, Nat.reduceShiftRight, Nat.reduceMod, Nat.reduceBNe, Nat.reduceBEq]
end
end Go.AX.Tri
/- Plain law: what stands at a centre lies between what stands at the corners; with one w all is told alike. -/
namespace Go.AX.Tri
open Go.Proofs Go.AX.Mc
set_option linter.unusedSimpArgs false
set_option linter.unusedVariables false
noncomputable section

def liesF (x a b c : Int) : Bool := decide (min (min a b) c ≤ x) && decide (x ≤ max (max a b) c)
theorem up_dn (N : Nat) (l : Int) : (upN N l : Int) - (dnN N l : Int) = N * l := by
  unfold upN dnN
  split
  · rw [Int.natCast_mul, show ((l.natAbs : Nat) : Int) = -l by omega]
    simp [Int.mul_neg]
  · rw [Int.natCast_mul, show ((l.natAbs : Nat) : Int) = l by omega]
    simp
theorem div_le_of {S A M : Nat} (hA : 0 < A) (h : S ≤ M * A) : (2 * S + A) / (2 * A) ≤ M := by
  rw [Nat.div_le_iff_le_mul (by omega)]
  have : M * (2 * A) = 2 * (M * A) := by rw [Nat.mul_left_comm]
  omega
theorem le_div_of {S A M : Nat} (hA : 0 < A) (h : M * A ≤ S) : M ≤ (2 * S + A) / (2 * A) := by
  rw [Nat.le_div_iff_mul_le (by omega)]
  have : M * (2 * A) = 2 * (M * A) := by rw [Nat.mul_left_comm]
  omega
theorem nearU_lies {U D A : Nat} {m M : Int} (hA : 0 < A) (h1 : m * A ≤ (U : Int) - D) (h2 : (U : Int) - D ≤ M * A) (hm : -2147483648 ≤ m) (hM : M < 2147483648) : m ≤ nearU U D A ∧ nearU U D A ≤ M := by
  unfold nearU
  have key : ∀ q : Int, m ≤ q → q ≤ M → m ≤ rawF q ∧ rawF q ≤ M := by
    intro q a b
    unfold rawF
    omega
  have pos : (0 : Int) < A := by omega
  split
  · rename_i hlt
    have hD : ((D - U : Nat) : Int) = (D : Int) - U := by omega
    have m0 : m < 0 := by
      rcases Int.lt_or_le m 0 with k | k
      · exact k
      · have := Int.mul_nonneg k (Int.le_of_lt pos); omega
    have k1 : D - U ≤ (-m).toNat * A := by
      have : (((-m).toNat * A : Nat) : Int) = (-m) * A := by rw [Int.natCast_mul, Int.toNat_of_nonneg (by omega)]
      have e : (-m) * (A : Int) = -(m * A) := Int.neg_mul _ _
      omega
    have q1 := div_le_of hA k1
    have q2 : M < 0 → (-M).toNat ≤ (2 * (D - U) + A) / (2 * A) := by
      intro k
      refine le_div_of hA ?_
      have : (((-M).toNat * A : Nat) : Int) = (-M) * A := by rw [Int.natCast_mul, Int.toNat_of_nonneg (by omega)]
      have e : (-M) * (A : Int) = -(M * A) := Int.neg_mul _ _
      omega
    generalize (2 * (D - U) + A) / (2 * A) = q at q1 q2 ⊢
    exact key _ (by omega) (by omega)
  · rename_i hlt
    have hD : ((U - D : Nat) : Int) = (U : Int) - D := by omega
    have m0 : 0 ≤ M := by
      rcases Int.lt_or_le M 0 with k | k
      · have := Int.mul_neg_of_neg_of_pos k pos; omega
      · exact k
    have k1 : U - D ≤ M.toNat * A := by
      have : ((M.toNat * A : Nat) : Int) = M * A := by rw [Int.natCast_mul, Int.toNat_of_nonneg m0]
      omega
    have q1 := div_le_of hA k1
    have q2 : 0 ≤ m → m.toNat ≤ (2 * (U - D) + A) / (2 * A) := by
      intro k
      refine le_div_of hA ?_
      have : ((m.toNat * A : Nat) : Int) = m * A := by rw [Int.natCast_mul, Int.toNat_of_nonneg k]
      omega
    generalize (2 * (U - D) + A) / (2 * A) = q at q1 q2 ⊢
    exact key _ (by omega) (by omega)

theorem near_lies {n0 n1 n2 : Nat} {a b c : Int} (hA : 0 < n0 + n1 + n2) (ha : -2147483648 ≤ a ∧ a < 2147483648) (hb : -2147483648 ≤ b ∧ b < 2147483648) (hc : -2147483648 ≤ c ∧ c < 2147483648) : liesF (nearF n0 n1 n2 a b c) a b c = true := by
  have u0 := up_dn n0 a
  have u1 := up_dn n1 b
  have u2 := up_dn n2 c
  have lo : ∀ (n : Nat) (x m : Int), m ≤ x → m * n ≤ n * x := by intro n x m h; rw [Int.mul_comm]; exact Int.mul_le_mul_of_nonneg_left h (by omega)
  have hi : ∀ (n : Nat) (x m : Int), x ≤ m → n * x ≤ m * n := by intro n x m h; rw [Int.mul_comm m]; exact Int.mul_le_mul_of_nonneg_left h (by omega)
  have := nearU_lies (U := upN n0 a + upN n1 b + upN n2 c) (D := dnN n0 a + dnN n1 b + dnN n2 c) (A := n0 + n1 + n2) (m := min (min a b) c) (M := max (max a b) c) hA ?_ ?_ (by omega) (by omega)
  · unfold liesF nearF
    rw [Bool.and_eq_true, decide_eq_true_eq, decide_eq_true_eq]
    exact this
  · have l0 := lo n0 a (min (min a b) c) (by omega)
    have l1 := lo n1 b (min (min a b) c) (by omega)
    have l2 := lo n2 c (min (min a b) c) (by omega)
    have e : (min (min a b) c) * ((n0 + n1 + n2 : Nat) : Int) = (min (min a b) c) * n0 + (min (min a b) c) * n1 + (min (min a b) c) * n2 := by rw [Int.natCast_add, Int.natCast_add, Int.mul_add, Int.mul_add]
    rw [e]
    omega
  · have l0 := hi n0 a (max (max a b) c) (by omega)
    have l1 := hi n1 b (max (max a b) c) (by omega)
    have l2 := hi n2 c (max (max a b) c) (by omega)
    have e : (max (max a b) c) * ((n0 + n1 + n2 : Nat) : Int) = (max (max a b) c) * n0 + (max (max a b) c) * n1 + (max (max a b) c) * n2 := by rw [Int.natCast_add, Int.natCast_add, Int.mul_add, Int.mul_add]
    rw [e]
    omega
theorem near_scale {k n0 n1 n2 : Nat} (hk : 0 < k) (a b c : Int) : nearF (n0 * k) (n1 * k) (n2 * k) a b c = nearF n0 n1 n2 a b c := by
  have u : ∀ (n : Nat) (l : Int), upN (n * k) l = upN n l * k := by intro n l; unfold upN; split; simp; rw [Nat.mul_right_comm]
  have d : ∀ (n : Nat) (l : Int), dnN (n * k) l = dnN n l * k := by intro n l; unfold dnN; split; rw [Nat.mul_right_comm]; simp
  unfold nearF
  simp only [u, d, ← Nat.add_mul]
  generalize upN n0 a + upN n1 b + upN n2 c = U
  generalize dnN n0 a + dnN n1 b + dnN n2 c = D
  generalize n0 + n1 + n2 = A
  unfold nearU
  have hdiv : ∀ x : Nat, (2 * (x * k) + A * k) / (2 * (A * k)) = (2 * x + A) / (2 * A) := by
    intro x
    rw [← Nat.mul_assoc, ← Nat.mul_assoc, ← Nat.add_mul, Nat.mul_div_mul_right _ _ hk]
  rw [← Nat.sub_mul, ← Nat.sub_mul, hdiv, hdiv]
  have hlt : U * k < D * k ↔ U < D := Nat.mul_lt_mul_right hk
  simp only [hlt]
end
end Go.AX.Tri
/- Plain law: each fragment of a box lies between its corners. -/
namespace Go.AX.Tri
open Go.Proofs Go.AX.Mc
set_option linter.unusedSimpArgs false
set_option linter.unusedVariables false
noncomputable section

theorem lies_swap (x a b c : Int) : liesF x a c b = liesF x a b c := by
  unfold liesF
  rw [show min (min a c) b = min (min a b) c by omega, show max (max a c) b = max (max a b) c by omega]
structure Lies (a b c : Wn) (px py pw ph : Int) (g : Fg) : Prop where
  z : liesF g.z a.z b.z c.z = true
  x0 : px ≤ g.x
  x1 : g.x < px + pw
  y0 : py ≤ g.y
  y1 : g.y < py + ph
  vs : ∀ (k : Nat) v, g.vs[k]? = some v → ∀ n, liesF (v.at n) (atV a k n) (atV b k n) (atV c k n) = true
  bx : 0 ≤ px ∧ 0 ≤ pw ∧ px + pw ≤ 64 ∧ 0 ≤ py ∧ 0 ≤ ph ∧ py + ph ≤ 64
theorem cells_mem {px py pw ph : Nat} {p : Int × Int} (h : p ∈ cellsL px py pw ph) : (px : Int) ≤ p.1 ∧ p.1 < px + pw ∧ (py : Int) ≤ p.2 ∧ p.2 < py + ph := by
  unfold cellsL rowsL at h
  obtain ⟨j, hj, h⟩ := List.mem_flatMap.1 h
  unfold rowL at h
  obtain ⟨i, hi, rfl⟩ := List.mem_map.1 h
  rw [List.mem_range] at hi hj
  simp only
  omega
theorem atV_bd {h : AH} {p : Wn} (hp : WnAt h p) (k n : Nat) : -2147483648 ≤ atV p k n ∧ atV p k n < 2147483648 := by
  unfold atV
  cases e : p.vs[k]? with
  | none => simp
  | some v => exact hp.num v (List.mem_of_getElem? e) n
theorem vsF_get {f : Fc} {n0 n1 n2 m k : Nat} {v : V4} (h : (vsF f n0 n1 n2 m)[k]? = some v) : v = vecF f n0 n1 n2 k := by
  unfold vsF at h
  rw [List.getElem?_map] at h
  obtain ⟨j, hj, rfl⟩ := Option.map_eq_some_iff.1 h
  obtain ⟨h1, h2⟩ := List.getElem?_eq_some_iff.1 hj
  rw [List.getElem_range] at h2
  rw [h2]
theorem vecF_at (f : Fc) (n0 n1 n2 k n : Nat) : (vecF f n0 n1 n2 k).at n = vecN f n0 n1 n2 k (min n 3) := by
  match n with
  | 0 => rfl
  | 1 => rfl
  | 2 => rfl
  | n + 3 => rw [show min (n + 3) 3 = 3 by omega]; rfl
theorem at_min (v : V4) (n : Nat) : v.at n = v.at (min n 3) := by
  match n with
  | 0 => rfl
  | 1 => rfl
  | 2 => rfl
  | n + 3 => rw [show min (n + 3) 3 = 3 by omega]; rfl
theorem atV_min (q : Wn) (k n : Nat) : atV q k n = atV q k (min n 3) := by
  unfold atV
  cases q.vs[k]? with
  | none => rfl
  | some v => exact at_min v n
theorem fill_lies {h : AH} {a b c : Wn} {px py pw ph : Int} (ha : WnAt h a) (hb : WnAt h b) (hc : WnAt h c) {g : Fg} (hg : g ∈ fillL a b c px py pw ph) : Lies a b c px py pw ph g := by
  unfold fillL at hg
  cases hbad : badL [a, b, c]
  · rw [hbad] at hg
    cases hbx : boxF px py pw ph
    · rw [hbx] at hg; simp at hg
    · rw [hbx] at hg
      simp only [cond_true, cond_false] at hg
      have hbx' := hbx
      unfold boxF at hbx'
      rw [Bool.and_eq_true] at hbx'
      obtain ⟨x1, x2, x3⟩ := in1_spec hbx'.1
      obtain ⟨y1, y2, y3⟩ := in1_spec hbx'.2
      obtain ⟨oka, okb, okc, lb, lc⟩ := bad3 hbad
      have hok := turn_ok oka okb okc
      unfold fragsF at hg
      obtain ⟨p, hp, hf⟩ := List.mem_filterMap.1 hg
      have hm := cells_mem hp
      have hs : (sidesF (turnF a b c) p.1 p.2).2 = true := by
        cases e : (sidesF (turnF a b c) p.1 p.2).2
        · unfold fragF at hf; rw [e] at hf; cases hf
        · rfl
      obtain ⟨n0, n1, n2, e1, _, _, _, hA, _⟩ := sides_ok hok (by omega) (by omega) (by omega) (by omega) hs
      unfold fragF at hf
      rw [hs] at hf
      simp only [cond_true, Option.some.injEq] at hf
      subst hf
      rw [e1]
      have hwpos : 0 < (turnF a b c).a.w.toNat ∧ 0 < (turnF a b c).b.w.toNat ∧ 0 < (turnF a b c).c.w.toNat := by
        have w : ∀ q, (q = a ∨ q = b ∨ q = c) → 0 < q.w.toNat := by
          rintro q (rfl | rfl | rfl)
          · have := oka.w0; omega
          · have := okb.w0; omega
          · have := okc.w0; omega
        exact ⟨w _ (turn_mem _ (.inl rfl)), w _ (turn_mem _ (.inr (.inl rfl))), w _ (turn_mem _ (.inr (.inr rfl)))⟩
      have hA' : ∀ w0 w1 w2, 0 < w0 → 0 < w1 → 0 < w2 → 0 < n0 * w1 * w2 + n1 * w2 * w0 + n2 * w0 * w1 := by
        intro w0 w1 w2 k0 k1 k2
        rcases (show 0 < n0 ∨ 0 < n1 ∨ 0 < n2 by omega) with k | k | k
        · have := Nat.mul_pos (Nat.mul_pos k k1) k2; omega
        · have := Nat.mul_pos (Nat.mul_pos k k2) k0; omega
        · have := Nat.mul_pos (Nat.mul_pos k k0) k1; omega
      have hperm : ∀ (F : Wn → Int) x, liesF x (F (turnF a b c).a) (F (turnF a b c).b) (F (turnF a b c).c) = true → liesF x (F a) (F b) (F c) = true := by
        intro F x hx
        unfold turnF at hx
        cases e : decide (wayF a b c.x c.y < 0)
        · rw [e] at hx; exact hx
        · rw [e] at hx; rw [← lies_swap]; exact hx
      have hall : ∀ q, (q = (turnF a b c).a ∨ q = (turnF a b c).b ∨ q = (turnF a b c).c) → WnAt h q := by
        intro q hq
        rcases turn_mem q hq with rfl | rfl | rfl <;> assumption
      refine ⟨?_, ?_, ?_, ?_, ?_, ?_, ?_⟩
      · refine hperm (·.z) _ ?_
        exact near_lies (by simpa using hA) (hall _ (.inl rfl)).z (hall _ (.inr (.inl rfl))).z (hall _ (.inr (.inr rfl))).z
      · show px ≤ p.1; omega
      · show p.1 < px + pw; omega
      · show py ≤ p.2; omega
      · show p.2 < py + ph; omega
      · intro k v hv n
        have hv' := vsF_get hv
        refine hperm (fun q => atV q k n) _ ?_
        simp only [hv', vecF_at, atV_min _ k n]
        unfold vecN
        exact near_lies (hA' _ _ _ hwpos.1 hwpos.2.1 hwpos.2.2) (atV_bd (hall _ (.inl rfl)) _ _) (atV_bd (hall _ (.inr (.inl rfl))) _ _) (atV_bd (hall _ (.inr (.inr rfl))) _ _)
      · omega
  · rw [hbad] at hg; simp at hg
end
end Go.AX.Tri
