/- Plain law: what stands at a centre lies between what stands at the corners; with one w all is told alike. -/
import Derived.Test.YthhgeodgfbhkdaaZd
import Derived.Test.YthhgeodgfbhkdaaZf
import Derived.Test.YthhgeodgfbhkdaaSk
set_option linter.unusedVariables false
set_option linter.unusedSimpArgs false
set_option linter.unusedSectionVars false
namespace Go.AX.Tri
open Go.Proofs Go.AX.Mc
set_option linter.unusedSimpArgs false
set_option linter.unusedVariables false
noncomputable section

def liesF (x a b c : Int) : Bool := decide (min (min a b) c ≤ x) && decide (x ≤ max (max a b) c)
theorem up_dn (N : Nat) (l : Int) : (upN N l : Int) - (dnN N l : Int) = N * l := by
  unfold upN dnN
  split
  · rw [Int.natCast_mul, show ((l.natAbs : Nat) : Int) = -l by omega]
    simp [Int.mul_neg]
  · rw [Int.natCast_mul, show ((l.natAbs : Nat) : Int) = l by omega]
    simp
theorem div_le_of {S A M : Nat} (hA : 0 < A) (h : S ≤ M * A) : (2 * S + A) / (2 * A) ≤ M := by
  rw [Nat.div_le_iff_le_mul (by omega)]
  have : M * (2 * A) = 2 * (M * A) := by rw [Nat.mul_left_comm]
  omega
theorem le_div_of {S A M : Nat} (hA : 0 < A) (h : M * A ≤ S) : M ≤ (2 * S + A) / (2 * A) := by
  rw [Nat.le_div_iff_mul_le (by omega)]
  have : M * (2 * A) = 2 * (M * A) := by rw [Nat.mul_left_comm]
  omega
theorem nearU_lies {U D A : Nat} {m M : Int} (hA : 0 < A) (h1 : m * A ≤ (U : Int) - D) (h2 : (U : Int) - D ≤ M * A) (hm : -2147483648 ≤ m) (hM : M < 2147483648) : m ≤ nearU U D A ∧ nearU U D A ≤ M := by
  unfold nearU
  have key : ∀ q : Int, m ≤ q → q ≤ M → m ≤ rawF q ∧ rawF q ≤ M := by
    intro q a b
    unfold rawF
    omega
  have pos : (0 : Int) < A := by omega
  split
  · rename_i hlt
    have hD : ((D - U : Nat) : Int) = (D : Int) - U := by omega
    have m0 : m < 0 := by
      rcases Int.lt_or_le m 0 with k | k
      · exact k
      · have := Int.mul_nonneg k (Int.le_of_lt pos); omega
    have k1 : D - U ≤ (-m).toNat * A := by
      have : (((-m).toNat * A : Nat) : Int) = (-m) * A := by rw [Int.natCast_mul, Int.toNat_of_nonneg (by omega)]
      have e : (-m) * (A : Int) = -(m * A) := Int.neg_mul _ _
      omega
    have q1 := div_le_of hA k1
    have q2 : M < 0 → (-M).toNat ≤ (2 * (D - U) + A) / (2 * A) := by
      intro k
      refine le_div_of hA ?_
      have : (((-M).toNat * A : Nat) : Int) = (-M) * A := by rw [Int.natCast_mul, Int.toNat_of_nonneg (by omega)]
      have e : (-M) * (A : Int) = -(M * A) := Int.neg_mul _ _
      omega
    generalize (2 * (D - U) + A) / (2 * A) = q at q1 q2 ⊢
    exact key _ (by omega) (by omega)
  · rename_i hlt
    have hD : ((U - D : Nat) : Int) = (U : Int) - D := by omega
    have m0 : 0 ≤ M := by
      rcases Int.lt_or_le M 0 with k | k
      · have := Int.mul_neg_of_neg_of_pos k pos; omega
      · exact k
    have k1 : U - D ≤ M.toNat * A := by
      have : ((M.toNat * A : Nat) : Int) = M * A := by rw [Int.natCast_mul, Int.toNat_of_nonneg m0]
      omega
    have q1 := div_le_of hA k1
    have q2 : 0 ≤ m → m.toNat ≤ (2 * (U - D) + A) / (2 * A) := by
      intro k
      refine le_div_of hA ?_
      have : ((m.toNat * A : Nat) : Int) = m * A := by rw [Int.natCast_mul, Int.toNat_of_nonneg k]
      omega
    generalize (2 * (U - D) + A) / (2 * A) = q at q1 q2 ⊢
    exact key _ (by omega) (by omega)

theorem near_lies {n0 n1 n2 : Nat} {a b c : Int} (hA : 0 < n0 + n1 + n2) (ha : -2147483648 ≤ a ∧ a < 2147483648) (hb : -2147483648 ≤ b ∧ b < 2147483648) (hc : -2147483648 ≤ c ∧ c < 2147483648) : liesF (nearF n0 n1 n2 a b c) a b c = true := by
  have u0 := up_dn n0 a
  have u1 := up_dn n1 b
  have u2 := up_dn n2 c
  have lo : ∀ (n : Nat) (x m : Int), m ≤ x → m * n ≤ n * x := by intro n x m h; rw [Int.mul_comm]; exact Int.mul_le_mul_of_nonneg_left h (by omega)
  have hi : ∀ (n : Nat) (x m : Int), x ≤ m → n * x ≤ m * n := by intro n x m h; rw [Int.mul_comm m]; exact Int.mul_le_mul_of_nonneg_left h (by omega)
  have := nearU_lies (U := upN n0 a + upN n1 b + upN n2 c) (D := dnN n0 a + dnN n1 b + dnN n2 c) (A := n0 + n1 + n2) (m := min (min a b) c) (M := max (max a b) c) hA ?_ ?_ (by omega) (by omega)
  · unfold liesF nearF
    rw [Bool.and_eq_true, decide_eq_true_eq, decide_eq_true_eq]
    exact this
  · have l0 := lo n0 a (min (min a b) c) (by omega)
    have l1 := lo n1 b (min (min a b) c) (by omega)
    have l2 := lo n2 c (min (min a b) c) (by omega)
    have e : (min (min a b) c) * ((n0 + n1 + n2 : Nat) : Int) = (min (min a b) c) * n0 + (min (min a b) c) * n1 + (min (min a b) c) * n2 := by rw [Int.natCast_add, Int.natCast_add, Int.mul_add, Int.mul_add]
    rw [e]
    omega
  · have l0 := hi n0 a (max (max a b) c) (by omega)
    have l1 := hi n1 b (max (max a b) c) (by omega)
    have l2 := hi n2 c (max (max a b) c) (by omega)
    have e : (max (max a b) c) * ((n0 + n1 + n2 : Nat) : Int) = (max (max a b) c) * n0 + (max (max a b) c) * n1 + (max (max a b) c) * n2 := by rw [Int.natCast_add, Int.natCast_add, Int.mul_add, Int.mul_add]
    rw [e]
    omega
theorem near_scale {k n0 n1 n2 : Nat} (hk : 0 < k) (a b c : Int) : nearF (n0 * k) (n1 * k) (n2 * k) a b c = nearF n0 n1 n2 a b c := by
  have u : ∀ (n : Nat) (l : Int), upN (n * k) l = upN n l * k := by intro n l; unfold upN; split; simp; rw [Nat.mul_right_comm]
  have d : ∀ (n : Nat) (l : Int), dnN (n * k) l = dnN n l * k := by intro n l; unfold dnN; split; rw [Nat.mul_right_comm]; simp
  unfold nearF
  simp only [u, d, ← Nat.add_mul]
  generalize upN n0 a + upN n1 b + upN n2 c = U
  generalize dnN n0 a + dnN n1 b + dnN n2 c = D
  generalize n0 + n1 + n2 = A
  unfold nearU
  have hdiv : ∀ x : Nat, (2 * (x * k) + A * k) / (2 * (A * k)) = (2 * x + A) / (2 * A) := by
    intro x
    rw [← Nat.mul_assoc, ← Nat.mul_assoc, ← Nat.add_mul, Nat.mul_div_mul_right _ _ hk]
  rw [← Nat.sub_mul, ← Nat.sub_mul, hdiv, hdiv]
  have hlt : U * k < D * k ↔ U < D := Nat.mul_lt_mul_right hk
  simp only [hlt]
end
end Go.AX.Tri
/- Plain law: each fragment of a box lies between its corners. -/
namespace Go.AX.Tri
open Go.Proofs Go.AX.Mc
set_option linter.unusedSimpArgs false
set_option linter.unusedVariables false
noncomputable section

theorem lies_swap (x a b c : Int) : liesF x a c b = liesF x a b c := by
  unfold liesF
  rw [show min (min a c) b = min (min a b) c by omega, show max (max a c) b = max (max a b) c by omega]
structure Lies (a b c : Wn) (px py pw ph : Int) (g : Fg) : Prop where
  z : liesF g.z a.z b.z c.z = true
  x0 : px ≤ g.x
  x1 : g.x < px + pw
  y0 : py ≤ g.y
  y1 : g.y < py + ph
  vs : ∀ (k : Nat) v, g.vs[k]? = some v → ∀ n, liesF (v.at n) (atV a k n) (atV b k n) (atV c k n) = true
  bx : 0 ≤ px ∧ 0 ≤ pw ∧ px + pw ≤ 64 ∧ 0 ≤ py ∧ 0 ≤ ph ∧ py + ph ≤ 64
theorem cells_mem {px py pw ph : Nat} {p : Int × Int} (h : p ∈ cellsL px py pw ph) : (px : Int) ≤ p.1 ∧ p.1 < px + pw ∧ (py : Int) ≤ p.2 ∧ p.2 < py + ph := by
  unfold cellsL rowsL at h
  obtain ⟨j, hj, h⟩ := List.mem_flatMap.1 h
  unfold rowL at h
  obtain ⟨i, hi, rfl⟩ := List.mem_map.1 h
  rw [List.mem_range] at hi hj
  simp only
  omega
theorem atV_bd {h : AH} {p : Wn} (hp : WnAt h p) (k n : Nat) : -2147483648 ≤ atV p k n ∧ atV p k n < 2147483648 := by
  unfold atV
  cases e : p.vs[k]? with
  | none => simp
  | some v => exact hp.num v (List.mem_of_getElem? e) n
theorem vsF_get {f : Fc} {n0 n1 n2 m k : Nat} {v : V4} (h : (vsF f n0 n1 n2 m)[k]? = some v) : v = vecF f n0 n1 n2 k := by
  unfold vsF at h
  rw [List.getElem?_map] at h
  obtain ⟨j, hj, rfl⟩ := Option.map_eq_some_iff.1 h
  obtain ⟨h1, h2⟩ := List.getElem?_eq_some_iff.1 hj
  rw [List.getElem_range] at h2
  rw [h2]
theorem vecF_at (f : Fc) (n0 n1 n2 k n : Nat) : (vecF f n0 n1 n2 k).at n = vecN f n0 n1 n2 k (min n 3) := by
  match n with
  | 0 => rfl
  | 1 => rfl
  | 2 => rfl
  | n + 3 => rw [show min (n + 3) 3 = 3 by omega]; rfl
theorem at_min (v : V4) (n : Nat) : v.at n = v.at (min n 3) := by
  match n with
  | 0 => rfl
  | 1 => rfl
  | 2 => rfl
  | n + 3 => rw [show min (n + 3) 3 = 3 by omega]; rfl
theorem atV_min (q : Wn) (k n : Nat) : atV q k n = atV q k (min n 3) := by
  unfold atV
  cases q.vs[k]? with
  | none => rfl
  | some v => exact at_min v n
theorem fill_lies {h : AH} {a b c : Wn} {px py pw ph : Int} (ha : WnAt h a) (hb : WnAt h b) (hc : WnAt h c) {g : Fg} (hg : g ∈ fillL a b c px py pw ph) : Lies a b c px py pw ph g := by
  unfold fillL at hg
  cases hbad : badL [a, b, c]
  · rw [hbad] at hg
    cases hbx : boxF px py pw ph
    · rw [hbx] at hg; simp at hg
    · rw [hbx] at hg
      simp only [cond_true, cond_false] at hg
      have hbx' := hbx
      unfold boxF at hbx'
      rw [Bool.and_eq_true] at hbx'
      obtain ⟨x1, x2, x3⟩ := in1_spec hbx'.1
      obtain ⟨y1, y2, y3⟩ := in1_spec hbx'.2
      obtain ⟨oka, okb, okc, lb, lc⟩ := bad3 hbad
      have hok := turn_ok oka okb okc
      unfold fragsF at hg
      obtain ⟨p, hp, hf⟩ := List.mem_filterMap.1 hg
      have hm := cells_mem hp
      have hs : (sidesF (turnF a b c) p.1 p.2).2 = true := by
        cases e : (sidesF (turnF a b c) p.1 p.2).2
        · unfold fragF at hf; rw [e] at hf; cases hf
        · rfl
      obtain ⟨n0, n1, n2, e1, _, _, _, hA, _⟩ := sides_ok hok (by omega) (by omega) (by omega) (by omega) hs
      unfold fragF at hf
      rw [hs] at hf
      simp only [cond_true, Option.some.injEq] at hf
      subst hf
      rw [e1]
      have hwpos : 0 < (turnF a b c).a.w.toNat ∧ 0 < (turnF a b c).b.w.toNat ∧ 0 < (turnF a b c).c.w.toNat := by
        have w : ∀ q, (q = a ∨ q = b ∨ q = c) → 0 < q.w.toNat := by
          rintro q (rfl | rfl | rfl)
          · have := oka.w0; omega
          · have := okb.w0; omega
          · have := okc.w0; omega
        exact ⟨w _ (turn_mem _ (.inl rfl)), w _ (turn_mem _ (.inr (.inl rfl))), w _ (turn_mem _ (.inr (.inr rfl)))⟩
      have hA' : ∀ w0 w1 w2, 0 < w0 → 0 < w1 → 0 < w2 → 0 < n0 * w1 * w2 + n1 * w2 * w0 + n2 * w0 * w1 := by
        intro w0 w1 w2 k0 k1 k2
        rcases (show 0 < n0 ∨ 0 < n1 ∨ 0 < n2 by omega) with k | k | k
        · have := Nat.mul_pos (Nat.mul_pos k k1) k2; omega
        · have := Nat.mul_pos (Nat.mul_pos k k2) k0; omega
        · have := Nat.mul_pos (Nat.mul_pos k k0) k1; omega
      have hperm : ∀ (F : Wn → Int) x, liesF x (F (turnF a b c).a) (F (turnF a b c).b) (F (turnF a b c).c) = true → liesF x (F a) (F b) (F c) = true := by
        intro F x hx
        unfold turnF at hx
        cases e : decide (wayF a b c.x c.y < 0)
        · rw [e] at hx; exact hx
        · rw [e] at hx; rw [← lies_swap]; exact hx
      have hall : ∀ q, (q = (turnF a b c).a ∨ q = (turnF a b c).b ∨ q = (turnF a b c).c) → WnAt h q := by
        intro q hq
        rcases turn_mem q hq with rfl | rfl | rfl <;> assumption
      refine ⟨?_, ?_, ?_, ?_, ?_, ?_, ?_⟩
      · refine hperm (·.z) _ ?_
        exact near_lies (by simpa using hA) (hall _ (.inl rfl)).z (hall _ (.inr (.inl rfl))).z (hall _ (.inr (.inr rfl))).z
      · show px ≤ p.1; omega
      · show p.1 < px + pw; omega
      · show py ≤ p.2; omega
      · show p.2 < py + ph; omega
      · intro k v hv n
        have hv' := vsF_get hv
        refine hperm (fun q => atV q k n) _ ?_
        simp only [hv', vecF_at, atV_min _ k n]
        unfold vecN
        exact near_lies (hA' _ _ _ hwpos.1 hwpos.2.1 hwpos.2.2) (atV_bd (hall _ (.inl rfl)) _ _) (atV_bd (hall _ (.inr (.inl rfl))) _ _) (atV_bd (hall _ (.inr (.inr rfl))) _ _)
      · omega
  · rw [hbad] at hg; simp at hg
end
end Go.AX.Tri
/- Contracts: the law TriBetween's loops. -/
namespace Go.AX.Tri
open Go.Proofs Go.AX.Mc
set_option linter.unusedSimpArgs false
set_option linter.unusedVariables false
noncomputable section

theorem c20 {env : List Lp} (x a b c : Int) (H : AH) (Q : AEnd → AH → Prop) : C T env 20 [.int .i32 x, .int .i32 a, .int .i32 b, .int .i32 c] H Q = Q (.ret (.bool (liesF x a b c))) H := by
  refine C_det ?_ Q
  rw [C_fn T20 rfl]
  unfold liesF
  simp only [a20, go_sem, bin_add, bin_sub, bin_mul, Nat.reduceAdd, Nat.reduceMul, Nat.reduceEqDiff, Nat.reduceLeDiff, Nat.reduceLT, Nat.reduceSub, reduceIte, reduceCtorEq, Int.reduceToNat, Int.reduceNeg, Int.reduceLE, Int.reduceLT, Int.reduceEq, Nat.reduceOr, Nat.reduceShiftRight, Nat.reduceMod, Nat.reduceBNe, Nat.reduceBEq]
  refine Gd_split ?_ ?_ <;> intro h1 <;> simp only [h1, go_sem, bin_add, bin_sub, bin_mul, Nat.reduceAdd, Nat.reduceMul, Nat.reduceEqDiff, Nat.reduceLeDiff, Nat.reduceLT, Nat.reduceSub, reduceIte, reduceCtorEq, Int.reduceToNat, Int.reduceNeg, Int.reduceLE, Int.reduceLT, Int.reduceEq, Nat.reduceOr, Nat.reduceShiftRight, Nat.reduceMod, Nat.reduceBNe, Nat.reduceBEq]

theorem vec_idx {h : AH} {p : Wn} {k : Nat} {v : V4} (hv : VecAt h p.a p.vs) (hl : p.l = p.vs.length) (hk : p.vs[k]? = some v) :
    ∃ b o, b < h.nx ∧ (∀ n, n < 4 → rd h b (o + k * 4 + n) 1 = some [.int .i32 (v.at n)]) ∧ ∀ H, idxS 4 (.slice p.a p.l p.c) (.int .i64 (k : Int)) H = some (.val (.pointer (some ⟨b, o + k * 4, none⟩)) H) := by
  obtain ⟨b, o, r, ha, hr, hb, h4⟩ := hv k v hk
  have hkl : k < p.l := by rw [hl]; exact (List.getElem?_eq_some_iff.1 hk).1
  refine ⟨b, o, hb, ?_, ?_⟩
  · intro n hn
    rw [rd_part h4 n 1 (by omega)]
    rcases (show n = 0 ∨ n = 1 ∨ n = 2 ∨ n = 3 by omega) with rfl | rfl | rfl | rfl <;> rfl
  · intro H
    rw [ha]
    rcases hr with rfl | rfl
    · rw [idxS_s, if_pos ⟨Int.natCast_nonneg _, by simpa using hkl⟩]; rfl
    · rw [idxS_r, if_pos ⟨Int.natCast_nonneg _, by simpa using hkl⟩]; rfl

/-- the frame's part that the loops keep. -/
structure Fr6 (b3 b4 : Nat) (w hd : Value) (n i : Nat) (fr : Tr Value) : Prop where
  t2 : tmp fr (pa 2) = w
  t3 : tmp fr (pa 3) = .pointer (some ⟨b3, 0, none⟩)
  t4 : tmp fr (pa 4) = .pointer (some ⟨b4, 0, none⟩)
  t9 : tmp fr (pa 9) = .func (.func 20) #[] #[]
  t39 : tmp fr (pa 39) = hd
  t40 : tmp fr (pa 40) = .int .i64 n
  t41 : tmp fr (pa 41) = .int .i64 i

theorem loop6n {env : List Lp} {k0 : List KF} {Q : QF} {b3 b4 : Nat} {w hd : Value} {n0 i0 : Nat} {h : AH} {a b c : Wn} {k : Nat} {v va vb vc : V4} {x94 x95 x96 : Value}
    (k3 : b3 < h.nx) (r0 : rd h b3 5 1 = some [.slice a.a a.l a.c]) (r1 : rd h b3 11 1 = some [.slice b.a b.l b.c]) (r2 : rd h b3 17 1 = some [.slice c.a c.l c.c])
    (hva : VecAt h a.a a.vs) (hvb : VecAt h b.a b.vs) (hvc : VecAt h c.a c.vs) (la : a.l = a.vs.length) (lb : b.l = b.vs.length) (lc : c.l = c.vs.length)
    (ka : a.vs[k]? = some va) (kb : b.vs[k]? = some vb) (kc : c.vs[k]? = some vc) (hl : ∀ n, liesF (v.at n) (va.at n) (vb.at n) (vc.at n) = true)
    (q2 : ∀ fr, Fr6 b3 b4 w hd n0 i0 fr → tmp fr (pa 94) = x94 → tmp fr (pa 95) = x95 → tmp fr (pa 96) = x96 → Kt T env false k0 .normal fr [] (Mc.ext h []) Q) :
    ∀ (m n : Nat), n + m = 4 → ∀ (fr : Tr Value), Fr6 b3 b4 w hd n0 i0 fr → tmp fr (pa 94) = x94 → tmp fr (pa 95) = x95 → tmp fr (pa 96) = x96 → tmp fr (pa 12) = .int .i64 (k : Int) → tmp fr (pa 101) = .agg v.cs.toArray → tmp fr (pa 102) = .int .i64 (n : Int) →
      X T env false (.loop a6l2) (.blk 4 :: k0) fr [] (Mc.ext h []) Q := by
  intro m
  induction m with
  | zero =>
    intro n hn fr hf f94 f95 f96 t12 t101 t102
    have hn4 : n = 4 := by omega
    subst hn4
    obtain ⟨t2, t3, t4, t9, t39, t40, t41⟩ := hf
    rw [X_loop]
    change X _ _ _ (.seq _ _) _ _ _ _ _
    simp only [t102, show ¬ (((4 : Nat) : Int) < 4) by omega, decide_false, go_sem, bin_add, bin_sub, bin_mul, Nat.reduceAdd, Nat.reduceMul, Nat.reduceEqDiff, Nat.reduceLeDiff, Nat.reduceLT, Nat.reduceSub, reduceIte, reduceCtorEq, Int.reduceToNat, Int.reduceNeg, Int.reduceLE, Int.reduceLT, Int.reduceEq, Nat.reduceOr, Nat.reduceShiftRight, Nat.reduceMod, Nat.reduceBNe, Nat.reduceBEq]
    refine q2 _ ⟨?_, ?_, ?_, ?_, ?_, ?_, ?_⟩ ?_ ?_ ?_
    all_goals simp only [t2, t3, t4, t9, t39, t40, t41, f94, f95, f96, go_sem, bin_add, bin_sub, bin_mul, Nat.reduceAdd, Nat.reduceMul, Nat.reduceEqDiff, Nat.reduceLeDiff, Nat.reduceLT, Nat.reduceSub, reduceIte, reduceCtorEq, Int.reduceToNat, Int.reduceNeg, Int.reduceLE, Int.reduceLT, Int.reduceEq, Nat.reduceOr, Nat.reduceShiftRight, Nat.reduceMod, Nat.reduceBNe, Nat.reduceBEq]
  | succ m ih =>
    intro n hn fr hf f94 f95 f96 t12 t101 t102
    obtain ⟨t2, t3, t4, t9, t39, t40, t41⟩ := hf
    have hn4 : n < 4 := by omega
    have hlt : (n : Int) < 4 := by omega
    obtain ⟨ba, oa, na, ra, ia⟩ := vec_idx hva la ka
    obtain ⟨bb, ob, nb, rb, ib⟩ := vec_idx hvb lb kb
    obtain ⟨bc, oc, nc, rc, ic⟩ := vec_idx hvc lc kc
    have hix : ∀ H, idxV 4 1 false (.agg v.cs.toArray) (.int .i64 (n : Int)) H = some (.val (.int .i32 (v.at n)) H) := by
      intro H
      rw [idxV_f, if_pos ⟨Int.natCast_nonneg _, by simpa using hn4⟩]
      rcases (show n = 0 ∨ n = 1 ∨ n = 2 ∨ n = 3 by omega) with rfl | rfl | rfl | rfl <;> rfl
    rw [X_loop]
    change X _ _ _ (.seq _ _) _ _ _ _ _
    simp only [t2, t3, t4, t9, t12, t101, t102, hlt, hix, go_sem, bin_add, bin_sub, bin_mul, Nat.reduceAdd, Nat.reduceMul, Nat.reduceEqDiff, Nat.reduceLeDiff, Nat.reduceLT, Nat.reduceSub, reduceIte, reduceCtorEq, Int.reduceToNat, Int.reduceNeg, Int.reduceLE, Int.reduceLT, Int.reduceEq, Nat.reduceOr, Nat.reduceShiftRight, Nat.reduceMod, Nat.reduceBNe, Nat.reduceBEq]
    refine X_drawE 0 (by rfl) ?_
    simp only [t2, t3, t4, t9, t12, t101, t102, hlt, hn4, k3, na, nb, nc, rd_old _ _ _ _ _ k3, rd_old _ _ _ _ _ na, rd_old _ _ _ _ _ nb, rd_old _ _ _ _ _ nc, r0, r1, r2, ra n hn4, rb n hn4, rc n hn4, ia, ib, ic, c20, hl n, Nat.mul_one, go_sem, bin_add, bin_sub, bin_mul, Nat.reduceAdd, Nat.reduceMul, Nat.reduceEqDiff, Nat.reduceLeDiff, Nat.reduceLT, Nat.reduceSub, reduceIte, reduceCtorEq, Int.reduceToNat, Int.reduceNeg, Int.reduceLE, Int.reduceLT, Int.reduceEq, Nat.reduceOr, Nat.reduceShiftRight, Nat.reduceMod, Nat.reduceBNe, Nat.reduceBEq]
    refine ih (n + 1) (by omega) _ ⟨?_, ?_, ?_, ?_, ?_, ?_, ?_⟩ ?_ ?_ ?_ ?_ ?_ ?_
    all_goals simp only [t2, t3, t4, t9, t39, t40, t41, f94, f95, f96, t12, t101, t102, w1 (show n < 9223372036854775807 by omega), go_sem, bin_add, bin_sub, bin_mul, Nat.reduceAdd, Nat.reduceMul, Nat.reduceEqDiff, Nat.reduceLeDiff, Nat.reduceLT, Nat.reduceSub, reduceIte, reduceCtorEq, Int.reduceToNat, Int.reduceNeg, Int.reduceLE, Int.reduceLT, Int.reduceEq, Nat.reduceOr, Nat.reduceShiftRight, Nat.reduceMod, Nat.reduceBNe, Nat.reduceBEq]
end
end Go.AX.Tri
/- Contracts: the document's fragment (3): the loop over a vector's numbers. -/
namespace Go.AX.Tri
open Go.Proofs Go.AX.Mc
set_option linter.unusedSimpArgs false
set_option linter.unusedVariables false
noncomputable section

/-- the frame's part that the loops keep. -/
structure Fr26 (N : Nat) (hd2 : Value) (l : Nat) (fr : Tr Value) : Prop where
  t5 : tmp fr (pa 5) = .pointer (some ⟨N, 0, none⟩)
  t6 : tmp fr (pa 6) = .pointer (some ⟨N + 1, 0, none⟩)
  t7 : tmp fr (pa 7) = .pointer (some ⟨N + 2, 0, none⟩)
  t10 : tmp fr (pa 10) = .pointer (some ⟨N + 3, 0, none⟩)
  t11 : tmp fr (pa 11) = .pointer (some ⟨N + 4, 0, none⟩)
  t13 : tmp fr (pa 13) = hd2
  t71 : tmp fr (pa 71) = .int .i64 l

theorem B5.set {N : Nat} {R : List (Option AB)} {j m : Nat} {hd : Value} {l : List Nat} (B : B5 N R j hd l) (h : j ≠ m) (x : Option AB) : B5 N (R.set m x) j hd l :=
  ⟨by rw [List.getElem?_set_ne (Ne.symm h)]; exact B.1, B.2⟩

theorem step26n {env : List Lp} {K : List KF} {Q : QF} {f : Fc} {G : AH} (hlo : G.lo ≤ G.nx) {x3 x4 : Option AB} {R : List (Option AB)} {j2 m k n : Nat} {hd2 : Value} {m0 m1 m2 : Nat} {va vb vc : V4} {vl : List Value} (hn : n < 4)
    (B : B5 G.nx R j2 hd2 [m0, m1, m2]) (hjm : j2 ≠ m) (hm : R[m]? = some (some (.cells vl 0 0))) (hvl : vl.length = 4)
    (ha : VecAt G f.a.a f.a.vs) (hb : VecAt G f.b.a f.b.vs) (hc : VecAt G f.c.a f.c.vs) (la : f.a.l = f.a.vs.length) (lb : f.b.l = f.b.vs.length) (lc : f.c.l = f.c.vs.length)
    (ea : f.a.vs[k]? = some va) (eb : f.b.vs[k]? = some vb) (ec : f.c.vs[k]? = some vc)
    (b0 : -2147483648 ≤ va.at n ∧ va.at n < 2147483648) (b1 : -2147483648 ≤ vb.at n ∧ vb.at n < 2147483648) (b2 : -2147483648 ≤ vc.at n ∧ vc.at n < 2147483648)
    (h0 : m0 ≤ 4951760157141521099596496896) (h1 : m1 ≤ 4951760157141521099596496896) (h2 : m2 ≤ 4951760157141521099596496896) (hA : 0 < m0 + m1 + m2) (l : Nat) (fr : Tr Value) (hf : Fr26 G.nx hd2 l fr)
    (t14 : tmp fr (pa 14) = .int .i64 (k : Int)) (t15 : tmp fr (pa 15) = .pointer (some ⟨G.nx + (m + 1 + 1 + 1 + 1 + 1), 0, none⟩)) (t72 : tmp fr (pa 72) = .int .i64 (k : Int)) (t75 : tmp fr (pa 75) = .int .i64 (n : Int))
    (hQ : ∀ fr E, Fr26 G.nx hd2 l fr → tmp fr (pa 14) = .int .i64 (k : Int) → tmp fr (pa 15) = .pointer (some ⟨G.nx + (m + 1 + 1 + 1 + 1 + 1), 0, none⟩) → tmp fr (pa 72) = .int .i64 (k : Int) → tmp fr (pa 75) = .int .i64 ((n + 1 : Nat) : Int) →
      X T env false (.loop a26l0) (.blk 2 :: K) fr [] (ext G (blk f.a.cs :: blk f.b.cs :: blk f.c.cs :: x3 :: x4 :: (R.set m (some (.cells (vl.take n ++ .int .i32 (nearF m0 m1 m2 (va.at n) (vb.at n) (vc.at n)) :: vl.drop (n + 1)) 0 0)) ++ [E]))) Q) :
    X T env false (.loop a26l0) (.blk 2 :: K) fr [] (ext G (blk f.a.cs :: blk f.b.cs :: blk f.c.cs :: x3 :: x4 :: R)) Q := by
  obtain ⟨t5, t6, t7, t10, t11, t13, t71⟩ := hf
  have hlt : (n : Int) < 4 := by omega
  have hn1 : n + 1 ≤ 4 := by omega
  have hml : m < R.length := (List.getElem?_eq_some_iff.1 hm).1
  obtain ⟨ba, oa, na, ra, ia⟩ := vec_idx ha la ea
  obtain ⟨bb, ob, nb, rb, ib⟩ := vec_idx hb lb eb
  obtain ⟨bc, oc, nc, rc, ic⟩ := vec_idx hc lc ec
  have hset : ∀ (E : List (Option AB)) (x : Option AB), (R ++ E).set m x = R.set m x ++ E := fun E x => List.set_append_left _ _ hml
  have hget : ∀ E : List (Option AB), (R ++ E)[m]? = some (some (.cells vl 0 0)) := fun E => by rw [List.getElem?_append_left hml]; exact hm
  have w0 := w64_32 b0
  have w1' := w64_32 b1
  have w2' := w64_32 b2
  have wn : wrapF .i64 ((n : Int) + 1) = ((n + 1 : Nat) : Int) := w1 (Nat.lt_trans hn (by decide))
  have near := fun (E : List (Option AB)) (x0 x1 x2 x3 x4 : Option AB) => near5 (env := env) (x0 := x0) (x1 := x1) (x2 := x2) (x3 := x3) (x4 := x4) (H := G) (R := R ++ [some (.cells [.int .i64 (va.at n), .int .i64 (vb.at n), .int .i64 (vc.at n)] 0 0)]) (k := R.length) (B.more _) (by simp) h0 h1 h2 hA b0 b1 b2
  rw [X_loop]
  change X _ _ _ (.seq _ _) _ _ _ _ _
  simp only [t5, t6, t7, t10, t11, t13, t14, t15, t75, hlt, go_sem, bin_add, bin_sub, bin_mul, Nat.reduceAdd, Nat.reduceMul, Nat.reduceEqDiff, Nat.reduceLeDiff, Nat.reduceLT, Nat.reduceSub, reduceIte, reduceCtorEq, Int.reduceToNat, Int.reduceNeg, Int.reduceLE, Int.reduceLT, Int.reduceEq, Nat.reduceOr, Nat.reduceShiftRight, Nat.reduceMod, Nat.reduceBNe, Nat.reduceBEq]
  refine X_drawE 1 (by rfl) ?_
  simp only [Wn.cs, t5, t6, t7, t10, t11, t13, t14, t15, t75, hn, hn1, hlo, ia, ib, ic, na, nb, nc, rd_old _ _ _ _ _ na, rd_old _ _ _ _ _ nb, rd_old _ _ _ _ _ nc, ra n hn, rb n hn, rc n hn, w0, w1', w2', Nat.mul_one, go_sem, bin_add, bin_sub, bin_mul, Nat.reduceAdd, Nat.reduceMul, Nat.reduceEqDiff, Nat.reduceLeDiff, Nat.reduceLT, Nat.reduceSub, reduceIte, reduceCtorEq, Int.reduceToNat, Int.reduceNeg, Int.reduceLE, Int.reduceLT, Int.reduceEq, Nat.reduceOr, Nat.reduceShiftRight, Nat.reduceMod, Nat.reduceBNe, Nat.reduceBEq]
  rw [near5 (B.more _) (k := R.length) (by simp) h0 h1 h2 hA b0 b1 b2]
  have hz : ∀ u, vl.take n ++ (u :: vl.drop (n + 1)) = vl.take n ++ u :: vl.drop (n + 1) := fun _ => rfl
  simp only [Wn.cs, t5, t6, t7, t10, t11, t13, t14, t15, t75, hn, hn1, hlo, hget, hset, hvl, ia, ib, ic, na, nb, nc, rd_old _ _ _ _ _ na, rd_old _ _ _ _ _ nb, rd_old _ _ _ _ _ nc, ra n hn, rb n hn, rc n hn, Nat.mul_one, go_sem, bin_add, bin_sub, bin_mul, Nat.reduceAdd, Nat.reduceMul, Nat.reduceEqDiff, Nat.reduceLeDiff, Nat.reduceLT, Nat.reduceSub, reduceIte, reduceCtorEq, Int.reduceToNat, Int.reduceNeg, Int.reduceLE, Int.reduceLT, Int.reduceEq, Nat.reduceOr, Nat.reduceShiftRight, Nat.reduceMod, Nat.reduceBNe, Nat.reduceBEq]
  refine hQ _ (some (.cells [.int .i64 (va.at n), .int .i64 (vb.at n), .int .i64 (vc.at n)] 0 0)) ⟨?_, ?_, ?_, ?_, ?_, ?_, ?_⟩ ?_ ?_ ?_ ?_
  · simp only [t5, go_sem, bin_add, bin_sub, bin_mul, Nat.reduceAdd, Nat.reduceMul, Nat.reduceEqDiff, Nat.reduceLeDiff, Nat.reduceLT, Nat.reduceSub, reduceIte, reduceCtorEq, Int.reduceToNat, Int.reduceNeg, Int.reduceLE, Int.reduceLT, Int.reduceEq, Nat.reduceOr, Nat.reduceShiftRight, Nat.reduceMod, Nat.reduceBNe, Nat.reduceBEq]
  · simp only [t6, go_sem, bin_add, bin_sub, bin_mul, Nat.reduceAdd, Nat.reduceMul, Nat.reduceEqDiff, Nat.reduceLeDiff, Nat.reduceLT, Nat.reduceSub, reduceIte, reduceCtorEq, Int.reduceToNat, Int.reduceNeg, Int.reduceLE, Int.reduceLT, Int.reduceEq, Nat.reduceOr, Nat.reduceShiftRight, Nat.reduceMod, Nat.reduceBNe, Nat.reduceBEq]
  · simp only [t7, go_sem, bin_add, bin_sub, bin_mul, Nat.reduceAdd, Nat.reduceMul, Nat.reduceEqDiff, Nat.reduceLeDiff, Nat.reduceLT, Nat.reduceSub, reduceIte, reduceCtorEq, Int.reduceToNat, Int.reduceNeg, Int.reduceLE, Int.reduceLT, Int.reduceEq, Nat.reduceOr, Nat.reduceShiftRight, Nat.reduceMod, Nat.reduceBNe, Nat.reduceBEq]
  · simp only [t10, go_sem, bin_add, bin_sub, bin_mul, Nat.reduceAdd, Nat.reduceMul, Nat.reduceEqDiff, Nat.reduceLeDiff, Nat.reduceLT, Nat.reduceSub, reduceIte, reduceCtorEq, Int.reduceToNat, Int.reduceNeg, Int.reduceLE, Int.reduceLT, Int.reduceEq, Nat.reduceOr, Nat.reduceShiftRight, Nat.reduceMod, Nat.reduceBNe, Nat.reduceBEq]
  · simp only [t11, go_sem, bin_add, bin_sub, bin_mul, Nat.reduceAdd, Nat.reduceMul, Nat.reduceEqDiff, Nat.reduceLeDiff, Nat.reduceLT, Nat.reduceSub, reduceIte, reduceCtorEq, Int.reduceToNat, Int.reduceNeg, Int.reduceLE, Int.reduceLT, Int.reduceEq, Nat.reduceOr, Nat.reduceShiftRight, Nat.reduceMod, Nat.reduceBNe, Nat.reduceBEq]
  · simp only [t13, go_sem, bin_add, bin_sub, bin_mul, Nat.reduceAdd, Nat.reduceMul, Nat.reduceEqDiff, Nat.reduceLeDiff, Nat.reduceLT, Nat.reduceSub, reduceIte, reduceCtorEq, Int.reduceToNat, Int.reduceNeg, Int.reduceLE, Int.reduceLT, Int.reduceEq, Nat.reduceOr, Nat.reduceShiftRight, Nat.reduceMod, Nat.reduceBNe, Nat.reduceBEq]
  · simp only [t71, go_sem, bin_add, bin_sub, bin_mul, Nat.reduceAdd, Nat.reduceMul, Nat.reduceEqDiff, Nat.reduceLeDiff, Nat.reduceLT, Nat.reduceSub, reduceIte, reduceCtorEq, Int.reduceToNat, Int.reduceNeg, Int.reduceLE, Int.reduceLT, Int.reduceEq, Nat.reduceOr, Nat.reduceShiftRight, Nat.reduceMod, Nat.reduceBNe, Nat.reduceBEq]
  · simp only [t14, go_sem, bin_add, bin_sub, bin_mul, Nat.reduceAdd, Nat.reduceMul, Nat.reduceEqDiff, Nat.reduceLeDiff, Nat.reduceLT, Nat.reduceSub, reduceIte, reduceCtorEq, Int.reduceToNat, Int.reduceNeg, Int.reduceLE, Int.reduceLT, Int.reduceEq, Nat.reduceOr, Nat.reduceShiftRight, Nat.reduceMod, Nat.reduceBNe, Nat.reduceBEq]
  · simp only [t15, go_sem, bin_add, bin_sub, bin_mul, Nat.reduceAdd, Nat.reduceMul, Nat.reduceEqDiff, Nat.reduceLeDiff, Nat.reduceLT, Nat.reduceSub, reduceIte, reduceCtorEq, Int.reduceToNat, Int.reduceNeg, Int.reduceLE, Int.reduceLT, Int.reduceEq, Nat.reduceOr, Nat.reduceShiftRight, Nat.reduceMod, Nat.reduceBNe, Nat.reduceBEq]
  · simp only [t72, go_sem, bin_add, bin_sub, bin_mul, Nat.reduceAdd, Nat.reduceMul, Nat.reduceEqDiff, Nat.reduceLeDiff, Nat.reduceLT, Nat.reduceSub, reduceIte, reduceCtorEq, Int.reduceToNat, Int.reduceNeg, Int.reduceLE, Int.reduceLT, Int.reduceEq, Nat.reduceOr, Nat.reduceShiftRight, Nat.reduceMod, Nat.reduceBNe, Nat.reduceBEq]
  · simp only [wn, go_sem, bin_add, bin_sub, bin_mul, Nat.reduceAdd, Nat.reduceMul, Nat.reduceEqDiff, Nat.reduceLeDiff, Nat.reduceLT, Nat.reduceSub, reduceIte, reduceCtorEq, Int.reduceToNat, Int.reduceNeg, Int.reduceLE, Int.reduceLT, Int.reduceEq, Nat.reduceOr, Nat.reduceShiftRight, Nat.reduceMod, Nat.reduceBNe, Nat.reduceBEq]
end
end Go.AX.Tri
