/- Plain law: the two triangles of a quadrangle cover it just once. -/
import Derived.Test.YthhgeodgfbhkdaaNa
set_option linter.unusedVariables false
set_option linter.unusedSimpArgs false
set_option linter.unusedSectionVars false
namespace Go.AX.Tri
open Go.Proofs Go.AX.Mc
set_option linter.unusedSimpArgs false
set_option linter.unusedVariables false
noncomputable section

theorem count_nodup {α : Type} [BEq α] [LawfulBEq α] (a : α) : ∀ {l : List α}, l.Nodup → (a ∈ l → l.count a = 1) ∧ (a ∉ l → l.count a = 0)
  | [], _ => ⟨fun h => by simp at h, fun _ => rfl⟩
  | b :: l, h => by
    rw [List.nodup_cons] at h
    obtain ⟨h1, h2⟩ := count_nodup a (l := l) h.2
    refine ⟨fun hm => ?_, fun hm => List.count_eq_zero.2 hm⟩
    by_cases e : b = a
    · subst e
      rw [List.count_cons_self, h2 h.1]
    · rw [List.count_cons_of_ne e]
      rcases List.mem_cons.1 hm with rfl | hm
      · exact absurd rfl e
      · exact h1 hm
theorem count16 (f : Fc) {x y : Nat} (hx : x < 16) (hy : y < 16) : (cells16 f).count ((x : Int), (y : Int)) = bif covF f x y then 1 else 0 := by
  have hn : (cells16 f).Nodup := List.Pairwise.filter _ (rows_nodup 0 0 16 16)
  obtain ⟨h1, h2⟩ := count_nodup ((x : Int), (y : Int)) hn
  cases hc : covF f x y
  · refine h2 fun hm => ?_
    have := (List.mem_filter.1 hm).2
    simp only [hc] at this
    cases this
  · exact h1 (List.mem_filter.2 ⟨rows_mem (Nat.zero_le _) (by omega) (Nat.zero_le _) (by omega), hc⟩)

theorem turn_pos {a b c : Wn} (ha : OkW a) (hb : OkW b) (hc : OkW c) (h : 0 < wayI a b c.x c.y) : turnF a b c = ⟨a, b, c, wayI a b c.x c.y, true⟩ := by
  have e := wayF_eq ha hb hc.x0 hc.x1 hc.y0 hc.y1
  unfold turnF
  rw [e, decide_eq_false (by omega), decide_eq_true h]; rfl
theorem turn_neg {a b c : Wn} (ha : OkW a) (hb : OkW b) (hc : OkW c) (h : wayI a b c.x c.y < 0) : ∃ A, 0 < A ∧ turnF a b c = ⟨a, c, b, A, false⟩ := by
  have e := wayF_eq ha hb hc.x0 hc.x1 hc.y0 hc.y1
  have bd := wayI_bd ha hb hc.x0 hc.x1 hc.y0 hc.y1
  refine ⟨w64 (-(wayI a b c.x c.y)), ?_, ?_⟩
  · rw [show w64 (-(wayI a b c.x c.y)) = -(wayI a b c.x c.y) from w64_id (by omega) (by omega)]; omega
  · unfold turnF
    rw [e, decide_eq_true h]; rfl

theorem mul_sgn {d k : Int} (hd : 0 < d) : (0 < d * k ↔ 0 < k) ∧ (0 ≤ d * k ↔ 0 ≤ k) := by
  rcases Int.lt_trichotomy k 0 with h | h | h
  · have := Int.mul_neg_of_pos_of_neg hd h
    omega
  · subst h; simp
  · have := Int.mul_pos hd h
    omega

/-- is a centre in the quadrangle (two of its sides belong to it)? -/
def inQ (x0 x1 y0 y1 : Nat) (x y : Nat) : Prop := x0 ≤ 256 * x + 128 ∧ 256 * x + 128 < x1 ∧ y0 < 256 * y + 128 ∧ 256 * y + 128 ≤ y1
instance (x0 x1 y0 y1 x y : Nat) : Decidable (inQ x0 x1 y0 y1 x y) := by unfold inQ; infer_instance

/-- the numbers that tell where a centre is. -/
theorem quad_num {x0 x1 y0 y1 x y : Nat} (hx : x0 < x1) (hy : y0 < y1) : ∃ T S E : Int, T = ((y1 : Int) - y0) * (256 * (x : Int) + 128 - x0) ∧ S = ((x1 : Int) - x0) * (256 * (y : Int) + 128 - y0) ∧ E = ((x1 : Int) - x0) * ((y1 : Int) - y0) ∧
    0 < E ∧ (inQ x0 x1 y0 y1 x y ↔ 0 ≤ T ∧ T < E ∧ 0 < S ∧ S ≤ E) := by
  refine ⟨_, _, _, rfl, rfl, rfl, Int.mul_pos (by omega) (by omega), ?_⟩
  have d1 : (0 : Int) < (x1 : Int) - x0 := by omega
  have d2 : (0 : Int) < (y1 : Int) - y0 := by omega
  have k1 := (mul_sgn (k := 256 * (x : Int) + 128 - x0) d2).2
  have k2 := (mul_sgn (k := (x1 : Int) - (256 * (x : Int) + 128)) d2).1
  have k3 := (mul_sgn (k := 256 * (y : Int) + 128 - y0) d1).1
  have k4 := (mul_sgn (k := (y1 : Int) - (256 * (y : Int) + 128)) d1).2
  have e1 : ((y1 : Int) - y0) * ((x1 : Int) - (256 * (x : Int) + 128)) = ((x1 : Int) - x0) * ((y1 : Int) - y0) - ((y1 : Int) - y0) * (256 * (x : Int) + 128 - x0) := by grind
  have e2 : ((x1 : Int) - x0) * ((y1 : Int) - (256 * (y : Int) + 128)) = ((x1 : Int) - x0) * ((y1 : Int) - y0) - ((x1 : Int) - x0) * (256 * (y : Int) + 128 - y0) := by grind
  rw [e1] at k2
  rw [e2] at k4
  unfold inQ
  omega

theorem quad_a {x0 x1 y0 y1 x y : Nat} (hx : x0 < x1) (hy : y0 < y1) (bx : x1 ≤ 3000) (bY : y1 ≤ 3000) (hx16 : x < 16) (hy16 : y < 16) :
    (cells16 (turnF (qC x0 y0) (qC x1 y0) (qC x1 y1)) ++ cells16 (turnF (qC x0 y0) (qC x1 y1) (qC x0 y1))).count ((x : Int), (y : Int)) = if inQ x0 x1 y0 y1 x y then 1 else 0 := by
  have o00 : OkW (qC x0 y0) := qC_ok (by omega) (by omega)
  have o10 : OkW (qC x1 y0) := qC_ok (by omega) (by omega)
  have o11 : OkW (qC x1 y1) := qC_ok (by omega) (by omega)
  have o01 : OkW (qC x0 y1) := qC_ok (by omega) (by omega)
  obtain ⟨T, S, E, hT, hS, hE, hE0, hq⟩ := quad_num (x := x) (y := y) hx hy
  have a1 : wayI (qC x0 y0) (qC x1 y0) (qC x1 y1).x (qC x1 y1).y = E := by rw [hE]; simp only [wayI, qC]; grind
  have a2 : wayI (qC x0 y0) (qC x1 y1) (qC x0 y1).x (qC x0 y1).y = E := by rw [hE]; simp only [wayI, qC]; grind
  rw [List.count_append, count16 _ hx16 hy16, count16 _ hx16 hy16, turn_pos o00 o10 o11 (by omega), turn_pos o00 o11 o01 (by omega), a1, a2]
  unfold covF
  simp only
  rw [inF_I o10 o11 (by omega) (by omega) (by omega) (by omega), inF_I o11 o00 (by omega) (by omega) (by omega) (by omega), inF_I o00 o10 (by omega) (by omega) (by omega) (by omega), inF_I o11 o01 (by omega) (by omega) (by omega) (by omega), inF_I o01 o00 (by omega) (by omega) (by omega) (by omega), inF_I o00 o11 (by omega) (by omega) (by omega) (by omega)]
  have w1 : wayI (qC x1 y0) (qC x1 y1) (256 * (x : Int) + 128) (256 * (y : Int) + 128) = E - T := by rw [hE, hT]; simp only [wayI, qC]; grind
  have w2 : wayI (qC x1 y1) (qC x0 y0) (256 * (x : Int) + 128) (256 * (y : Int) + 128) = T - S := by rw [hS, hT]; simp only [wayI, qC]; grind
  have w3 : wayI (qC x0 y0) (qC x1 y0) (256 * (x : Int) + 128) (256 * (y : Int) + 128) = S := by rw [hS]; simp only [wayI, qC]; grind
  have w4 : wayI (qC x1 y1) (qC x0 y1) (256 * (x : Int) + 128) (256 * (y : Int) + 128) = E - S := by rw [hE, hS]; simp only [wayI, qC]; grind
  have w5 : wayI (qC x0 y1) (qC x0 y0) (256 * (x : Int) + 128) (256 * (y : Int) + 128) = T := by rw [hT]; simp only [wayI, qC]; grind
  have w6 : wayI (qC x0 y0) (qC x1 y1) (256 * (x : Int) + 128) (256 * (y : Int) + 128) = S - T := by rw [hS, hT]; simp only [wayI, qC]
  rw [w1, w2, w3, w4, w5, w6]
  rw [Bool.cond_eq_ite, Bool.cond_eq_ite]
  simp only [Bool.and_eq_true, Bool.or_eq_true, decide_eq_true_eq]
  simp only [qC, true_and, Int.lt_irrefl, false_or]
  clear w1 w2 w3 w4 w5 w6 a1 a2 hT hS hE o00 o10 o11 o01
  by_cases h : inQ x0 x1 y0 y1 x y
  · rw [if_pos h]
    have := hq.1 h
    by_cases k : 0 ≤ T - S
    · rw [if_pos (by omega), if_neg (by omega)]
    · rw [if_neg (by omega), if_pos (by omega)]
  · rw [if_neg h]
    have this : ¬ (0 ≤ T ∧ T < E ∧ 0 < S ∧ S ≤ E) := fun k => h (hq.2 k)
    rw [if_neg (by omega), if_neg (by omega)]

theorem quad_b {x0 x1 y0 y1 x y : Nat} (hx : x0 < x1) (hy : y0 < y1) (bx : x1 ≤ 3000) (bY : y1 ≤ 3000) (hx16 : x < 16) (hy16 : y < 16) :
    (cells16 (turnF (qC x0 y0) (qC x1 y0) (qC x0 y1)) ++ cells16 (turnF (qC x0 y1) (qC x1 y1) (qC x1 y0))).count ((x : Int), (y : Int)) = if inQ x0 x1 y0 y1 x y then 1 else 0 := by
  have o00 : OkW (qC x0 y0) := qC_ok (by omega) (by omega)
  have o10 : OkW (qC x1 y0) := qC_ok (by omega) (by omega)
  have o11 : OkW (qC x1 y1) := qC_ok (by omega) (by omega)
  have o01 : OkW (qC x0 y1) := qC_ok (by omega) (by omega)
  obtain ⟨T, S, E, hT, hS, hE, hE0, hq⟩ := quad_num (x := x) (y := y) hx hy
  have a1 : wayI (qC x0 y0) (qC x1 y0) (qC x0 y1).x (qC x0 y1).y = E := by rw [hE]; simp only [wayI, qC]; grind
  have a2 : wayI (qC x0 y1) (qC x1 y1) (qC x1 y0).x (qC x1 y0).y = -E := by rw [hE]; simp only [wayI, qC]; grind
  obtain ⟨B, hB, e2⟩ := turn_neg o01 o11 o10 (by omega)
  rw [List.count_append, count16 _ hx16 hy16, count16 _ hx16 hy16, turn_pos o00 o10 o01 (by omega), e2, a1]
  unfold covF
  simp only
  rw [inF_I o10 o01 (by omega) (by omega) (by omega) (by omega), inF_I o01 o00 (by omega) (by omega) (by omega) (by omega), inF_I o00 o10 (by omega) (by omega) (by omega) (by omega), inF_I o10 o11 (by omega) (by omega) (by omega) (by omega), inF_I o11 o01 (by omega) (by omega) (by omega) (by omega), inF_I o01 o10 (by omega) (by omega) (by omega) (by omega)]
  have w1 : wayI (qC x1 y0) (qC x0 y1) (256 * (x : Int) + 128) (256 * (y : Int) + 128) = E - T - S := by rw [hE, hT, hS]; simp only [wayI, qC]; grind
  have w2 : wayI (qC x0 y1) (qC x0 y0) (256 * (x : Int) + 128) (256 * (y : Int) + 128) = T := by rw [hT]; simp only [wayI, qC]; grind
  have w3 : wayI (qC x0 y0) (qC x1 y0) (256 * (x : Int) + 128) (256 * (y : Int) + 128) = S := by rw [hS]; simp only [wayI, qC]; grind
  have w4 : wayI (qC x1 y0) (qC x1 y1) (256 * (x : Int) + 128) (256 * (y : Int) + 128) = E - T := by rw [hE, hT]; simp only [wayI, qC]; grind
  have w5 : wayI (qC x1 y1) (qC x0 y1) (256 * (x : Int) + 128) (256 * (y : Int) + 128) = E - S := by rw [hE, hS]; simp only [wayI, qC]; grind
  have w6 : wayI (qC x0 y1) (qC x1 y0) (256 * (x : Int) + 128) (256 * (y : Int) + 128) = S + T - E := by rw [hS, hT, hE]; simp only [wayI, qC]; grind
  rw [w1, w2, w3, w4, w5, w6]
  rw [Bool.cond_eq_ite, Bool.cond_eq_ite]
  simp only [Bool.and_eq_true, Bool.or_eq_true, decide_eq_true_eq]
  simp only [qC, true_and, Int.lt_irrefl, false_or]
  clear w1 w2 w3 w4 w5 w6 a1 a2 hT hS hE o00 o10 o11 o01 e2
  by_cases h : inQ x0 x1 y0 y1 x y
  · rw [if_pos h]
    have := hq.1 h
    by_cases k : 0 ≤ S + T - E
    · rw [if_neg (by omega), if_pos (by omega)]
    · rw [if_pos (by omega), if_neg (by omega)]
  · rw [if_neg h]
    have this : ¬ (0 ≤ T ∧ T < E ∧ 0 < S ∧ S ≤ E) := fun k => h (hq.2 k)
    rw [if_neg (by omega), if_neg (by omega)]
end
end Go.AX.Tri
