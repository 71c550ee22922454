/- Plain law: what stands at a centre lies between what stands at the corners; with one w all is told alike. -/
import Derived.Test.YthhgeodgfbhkdaaZa
set_option linter.unusedVariables false
set_option linter.unusedSimpArgs false
set_option linter.unusedSectionVars false
namespace Go.AX.Tri
open Go.Proofs Go.AX.Mc
set_option linter.unusedSimpArgs false
set_option linter.unusedVariables false
noncomputable section

def liesF (x a b c : Int) : Bool := decide (min (min a b) c ≤ x) && decide (x ≤ max (max a b) c)
theorem up_dn (N : Nat) (l : Int) : (upN N l : Int) - (dnN N l : Int) = N * l := by
  unfold upN dnN
  split
  · rw [Int.natCast_mul, show ((l.natAbs : Nat) : Int) = -l by omega]
    simp [Int.mul_neg]
  · rw [Int.natCast_mul, show ((l.natAbs : Nat) : Int) = l by omega]
    simp
theorem div_le_of {S A M : Nat} (hA : 0 < A) (h : S ≤ M * A) : (2 * S + A) / (2 * A) ≤ M := by
  rw [Nat.div_le_iff_le_mul (by omega)]
  have : M * (2 * A) = 2 * (M * A) := by rw [Nat.mul_left_comm]
  omega
theorem le_div_of {S A M : Nat} (hA : 0 < A) (h : M * A ≤ S) : M ≤ (2 * S + A) / (2 * A) := by
  rw [Nat.le_div_iff_mul_le (by omega)]
  have : M * (2 * A) = 2 * (M * A) := by rw [Nat.mul_left_comm]
  omega
theorem nearU_lies {U D A : Nat} {m M : Int} (hA : 0 < A) (h1 : m * A ≤ (U : Int) - D) (h2 : (U : Int) - D ≤ M * A) (hm : -2147483648 ≤ m) (hM : M < 2147483648) : m ≤ nearU U D A ∧ nearU U D A ≤ M := by
  unfold nearU
  have key : ∀ q : Int, m ≤ q → q ≤ M → m ≤ rawF q ∧ rawF q ≤ M := by
    intro q a b
    unfold rawF
    omega
  have pos : (0 : Int) < A := by omega
  split
  · rename_i hlt
    have hD : ((D - U : Nat) : Int) = (D : Int) - U := by omega
    have m0 : m < 0 := by
      rcases Int.lt_or_le m 0 with k | k
      · exact k
      · have := Int.mul_nonneg k (Int.le_of_lt pos); omega
    have k1 : D - U ≤ (-m).toNat * A := by
      have : (((-m).toNat * A : Nat) : Int) = (-m) * A := by rw [Int.natCast_mul, Int.toNat_of_nonneg (by omega)]
      have e : (-m) * (A : Int) = -(m * A) := Int.neg_mul _ _
      omega
    have q1 := div_le_of hA k1
    have q2 : M < 0 → (-M).toNat ≤ (2 * (D - U) + A) / (2 * A) := by
      intro k
      refine le_div_of hA ?_
      have : (((-M).toNat * A : Nat) : Int) = (-M) * A := by rw [Int.natCast_mul, Int.toNat_of_nonneg (by omega)]
      have e : (-M) * (A : Int) = -(M * A) := Int.neg_mul _ _
      omega
    generalize (2 * (D - U) + A) / (2 * A) = q at q1 q2 ⊢
    exact key _ (by omega) (by omega)
  · rename_i hlt
    have hD : ((U - D : Nat) : Int) = (U : Int) - D := by omega
    have m0 : 0 ≤ M := by
      rcases Int.lt_or_le M 0 with k | k
      · have := Int.mul_neg_of_neg_of_pos k pos; omega
      · exact k
    have k1 : U - D ≤ M.toNat * A := by
      have : ((M.toNat * A : Nat) : Int) = M * A := by rw [Int.natCast_mul, Int.toNat_of_nonneg m0]
      omega
    have q1 := div_le_of hA k1
    have q2 : 0 ≤ m → m.toNat ≤ (2 * (U - D) + A) / (2 * A) := by
      intro k
      refine le_div_of hA ?_
      have : ((m.toNat * A : Nat) : Int) = m * A := by rw [Int.natCast_mul, Int.toNat_of_nonneg k]
      omega
    generalize (2 * (U - D) + A) / (2 * A) = q at q1 q2 ⊢
    exact key _ (by omega) (by omega)

theorem near_lies {n0 n1 n2 : Nat} {a b c : Int} (hA : 0 < n0 + n1 + n2) (ha : -2147483648 ≤ a ∧ a < 2147483648) (hb : -2147483648 ≤ b ∧ b < 2147483648) (hc : -2147483648 ≤ c ∧ c < 2147483648) : liesF (nearF n0 n1 n2 a b c) a b c = true := by
  have u0 := up_dn n0 a
  have u1 := up_dn n1 b
  have u2 := up_dn n2 c
  have lo : ∀ (n : Nat) (x m : Int), m ≤ x → m * n ≤ n * x := by intro n x m h; rw [Int.mul_comm]; exact Int.mul_le_mul_of_nonneg_left h (by omega)
  have hi : ∀ (n : Nat) (x m : Int), x ≤ m → n * x ≤ m * n := by intro n x m h; rw [Int.mul_comm m]; exact Int.mul_le_mul_of_nonneg_left h (by omega)
  have := nearU_lies (U := upN n0 a + upN n1 b + upN n2 c) (D := dnN n0 a + dnN n1 b + dnN n2 c) (A := n0 + n1 + n2) (m := min (min a b) c) (M := max (max a b) c) hA ?_ ?_ (by omega) (by omega)
  · unfold liesF nearF
    rw [Bool.and_eq_true, decide_eq_true_eq, decide_eq_true_eq]
    exact this
  · have l0 := lo n0 a (min (min a b) c) (by omega)
    have l1 := lo n1 b (min (min a b) c) (by omega)
    have l2 := lo n2 c (min (min a b) c) (by omega)
    have e : (min (min a b) c) * ((n0 + n1 + n2 : Nat) : Int) = (min (min a b) c) * n0 + (min (min a b) c) * n1 + (min (min a b) c) * n2 := by rw [Int.natCast_add, Int.natCast_add, Int.mul_add, Int.mul_add]
    rw [e]
    omega
  · have l0 := hi n0 a (max (max a b) c) (by omega)
    have l1 := hi n1 b (max (max a b) c) (by omega)
    have l2 := hi n2 c (max (max a b) c) (by omega)
    have e : (max (max a b) c) * ((n0 + n1 + n2 : Nat) : Int) = (max (max a b) c) * n0 + (max (max a b) c) * n1 + (max (max a b) c) * n2 := by rw [Int.natCast_add, Int.natCast_add, Int.mul_add, Int.mul_add]
    rw [e]
    omega
theorem near_scale {k n0 n1 n2 : Nat} (hk : 0 < k) (a b c : Int) : nearF (n0 * k) (n1 * k) (n2 * k) a b c = nearF n0 n1 n2 a b c := by
  have u : ∀ (n : Nat) (l : Int), upN (n * k) l = upN n l * k := by intro n l; unfold upN; split; simp; rw [Nat.mul_right_comm]
  have d : ∀ (n : Nat) (l : Int), dnN (n * k) l = dnN n l * k := by intro n l; unfold dnN; split; rw [Nat.mul_right_comm]; simp
  unfold nearF
  simp only [u, d, ← Nat.add_mul]
  generalize upN n0 a + upN n1 b + upN n2 c = U
  generalize dnN n0 a + dnN n1 b + dnN n2 c = D
  generalize n0 + n1 + n2 = A
  unfold nearU
  have hdiv : ∀ x : Nat, (2 * (x * k) + A * k) / (2 * (A * k)) = (2 * x + A) / (2 * A) := by
    intro x
    rw [← Nat.mul_assoc, ← Nat.mul_assoc, ← Nat.add_mul, Nat.mul_div_mul_right _ _ hk]
  rw [← Nat.sub_mul, ← Nat.sub_mul, hdiv, hdiv]
  have hlt : U * k < D * k ↔ U < D := Nat.mul_lt_mul_right hk
  simp only [hlt]
end
end Go.AX.Tri
/- Plain law: each fragment of a box lies between its corners. -/
namespace Go.AX.Tri
open Go.Proofs Go.AX.Mc
set_option linter.unusedSimpArgs false
set_option linter.unusedVariables false
noncomputable section

theorem lies_swap (x a b c : Int) : liesF x a c b = liesF x a b c := by
  unfold liesF
  rw [show min (min a c) b = min (min a b) c by omega, show max (max a c) b = max (max a b) c by omega]
structure Lies (a b c : Wn) (px py pw ph : Int) (g : Fg) : Prop where
  z : liesF g.z a.z b.z c.z = true
  x0 : px ≤ g.x
  x1 : g.x < px + pw
  y0 : py ≤ g.y
  y1 : g.y < py + ph
  vs : ∀ (k : Nat) v, g.vs[k]? = some v → ∀ n, liesF (v.at n) (atV a k n) (atV b k n) (atV c k n) = true
  bx : 0 ≤ px ∧ 0 ≤ pw ∧ px + pw ≤ 64 ∧ 0 ≤ py ∧ 0 ≤ ph ∧ py + ph ≤ 64
theorem cells_mem {px py pw ph : Nat} {p : Int × Int} (h : p ∈ cellsL px py pw ph) : (px : Int) ≤ p.1 ∧ p.1 < px + pw ∧ (py : Int) ≤ p.2 ∧ p.2 < py + ph := by
  unfold cellsL rowsL at h
  obtain ⟨j, hj, h⟩ := List.mem_flatMap.1 h
  unfold rowL at h
  obtain ⟨i, hi, rfl⟩ := List.mem_map.1 h
  rw [List.mem_range] at hi hj
  simp only
  omega
theorem atV_bd {h : AH} {p : Wn} (hp : WnAt h p) (k n : Nat) : -2147483648 ≤ atV p k n ∧ atV p k n < 2147483648 := by
  unfold atV
  cases e : p.vs[k]? with
  | none => simp
  | some v => exact hp.num v (List.mem_of_getElem? e) n
theorem vsF_get {f : Fc} {n0 n1 n2 m k : Nat} {v : V4} (h : (vsF f n0 n1 n2 m)[k]? = some v) : v = vecF f n0 n1 n2 k := by
  unfold vsF at h
  rw [List.getElem?_map] at h
  obtain ⟨j, hj, rfl⟩ := Option.map_eq_some_iff.1 h
  obtain ⟨h1, h2⟩ := List.getElem?_eq_some_iff.1 hj
  rw [List.getElem_range] at h2
  rw [h2]
theorem vecF_at (f : Fc) (n0 n1 n2 k n : Nat) : (vecF f n0 n1 n2 k).at n = vecN f n0 n1 n2 k (min n 3) := by
  match n with
  | 0 => rfl
  | 1 => rfl
  | 2 => rfl
  | n + 3 => rw [show min (n + 3) 3 = 3 by omega]; rfl
theorem at_min (v : V4) (n : Nat) : v.at n = v.at (min n 3) := by
  match n with
  | 0 => rfl
  | 1 => rfl
  | 2 => rfl
  | n + 3 => rw [show min (n + 3) 3 = 3 by omega]; rfl
theorem atV_min (q : Wn) (k n : Nat) : atV q k n = atV q k (min n 3) := by
  unfold atV
  cases q.vs[k]? with
  | none => rfl
  | some v => exact at_min v n
theorem fill_lies {h : AH} {a b c : Wn} {px py pw ph : Int} (ha : WnAt h a) (hb : WnAt h b) (hc : WnAt h c) {g : Fg} (hg : g ∈ fillL a b c px py pw ph) : Lies a b c px py pw ph g := by
  unfold fillL at hg
  cases hbad : badL [a, b, c]
  · rw [hbad] at hg
    cases hbx : boxF px py pw ph
    · rw [hbx] at hg; simp at hg
    · rw [hbx] at hg
      simp only [cond_true, cond_false] at hg
      have hbx' := hbx
      unfold boxF at hbx'
      rw [Bool.and_eq_true] at hbx'
      obtain ⟨x1, x2, x3⟩ := in1_spec hbx'.1
      obtain ⟨y1, y2, y3⟩ := in1_spec hbx'.2
      obtain ⟨oka, okb, okc, lb, lc⟩ := bad3 hbad
      have hok := turn_ok oka okb okc
      unfold fragsF at hg
      obtain ⟨p, hp, hf⟩ := List.mem_filterMap.1 hg
      have hm := cells_mem hp
      have hs : (sidesF (turnF a b c) p.1 p.2).2 = true := by
        cases e : (sidesF (turnF a b c) p.1 p.2).2
        · unfold fragF at hf; rw [e] at hf; cases hf
        · rfl
      obtain ⟨n0, n1, n2, e1, _, _, _, hA, _⟩ := sides_ok hok (by omega) (by omega) (by omega) (by omega) hs
      unfold fragF at hf
      rw [hs] at hf
      simp only [cond_true, Option.some.injEq] at hf
      subst hf
      rw [e1]
      have hwpos : 0 < (turnF a b c).a.w.toNat ∧ 0 < (turnF a b c).b.w.toNat ∧ 0 < (turnF a b c).c.w.toNat := by
        have w : ∀ q, (q = a ∨ q = b ∨ q = c) → 0 < q.w.toNat := by
          rintro q (rfl | rfl | rfl)
          · have := oka.w0; omega
          · have := okb.w0; omega
          · have := okc.w0; omega
        exact ⟨w _ (turn_mem _ (.inl rfl)), w _ (turn_mem _ (.inr (.inl rfl))), w _ (turn_mem _ (.inr (.inr rfl)))⟩
      have hA' : ∀ w0 w1 w2, 0 < w0 → 0 < w1 → 0 < w2 → 0 < n0 * w1 * w2 + n1 * w2 * w0 + n2 * w0 * w1 := by
        intro w0 w1 w2 k0 k1 k2
        rcases (show 0 < n0 ∨ 0 < n1 ∨ 0 < n2 by omega) with k | k | k
        · have := Nat.mul_pos (Nat.mul_pos k k1) k2; omega
        · have := Nat.mul_pos (Nat.mul_pos k k2) k0; omega
        · have := Nat.mul_pos (Nat.mul_pos k k0) k1; omega
      have hperm : ∀ (F : Wn → Int) x, liesF x (F (turnF a b c).a) (F (turnF a b c).b) (F (turnF a b c).c) = true → liesF x (F a) (F b) (F c) = true := by
        intro F x hx
        unfold turnF at hx
        cases e : decide (wayF a b c.x c.y < 0)
        · rw [e] at hx; exact hx
        · rw [e] at hx; rw [← lies_swap]; exact hx
      have hall : ∀ q, (q = (turnF a b c).a ∨ q = (turnF a b c).b ∨ q = (turnF a b c).c) → WnAt h q := by
        intro q hq
        rcases turn_mem q hq with rfl | rfl | rfl <;> assumption
      refine ⟨?_, ?_, ?_, ?_, ?_, ?_, ?_⟩
      · refine hperm (·.z) _ ?_
        exact near_lies (by simpa using hA) (hall _ (.inl rfl)).z (hall _ (.inr (.inl rfl))).z (hall _ (.inr (.inr rfl))).z
      · show px ≤ p.1; omega
      · show p.1 < px + pw; omega
      · show py ≤ p.2; omega
      · show p.2 < py + ph; omega
      · intro k v hv n
        have hv' := vsF_get hv
        refine hperm (fun q => atV q k n) _ ?_
        simp only [hv', vecF_at, atV_min _ k n]
        unfold vecN
        exact near_lies (hA' _ _ _ hwpos.1 hwpos.2.1 hwpos.2.2) (atV_bd (hall _ (.inl rfl)) _ _) (atV_bd (hall _ (.inr (.inl rfl))) _ _) (atV_bd (hall _ (.inr (.inr rfl))) _ _)
      · omega
  · rw [hbad] at hg; simp at hg
end
end Go.AX.Tri
