/- Contracts: tri's Covers and At. -/
import Derived.Test.YthhgeodgfbhkdaaSp
set_option linter.unusedVariables false
set_option linter.unusedSimpArgs false
set_option linter.unusedSectionVars false
namespace Go.AX.Tri
open Go.Proofs Go.AX.Mc
set_option linter.unusedSimpArgs false
set_option linter.unusedVariables false
noncomputable section

def covT (a b c : Wn) (x y : Int) : Bool := !badL [a, b, c] && (allF x y && (sidesF (turnF a b c) x y).2)

theorem c22 {env : List Lp} (a b c : Wn) (x y : Int) (H : AH) (Q : AEnd → AH → Prop) : C T env 22 [a.v, b.v, c.v, .int .i64 x, .int .i64 y] H Q = Q (.ret (.bool (covT a b c x y))) H := by
  refine C_det ?_ Q
  rw [C_fn T22 rfl]
  simp only [a22, Wn.v, Wn.cs, go_sem, bin_add, bin_sub, bin_mul, Nat.reduceAdd, Nat.reduceMul, Nat.reduceEqDiff, Nat.reduceLeDiff, Nat.reduceLT, Nat.reduceSub, reduceIte, reduceCtorEq, Int.reduceToNat, Int.reduceNeg, Int.reduceLE, Int.reduceLT, Int.reduceEq, Nat.reduceOr, Nat.reduceShiftRight, Nat.reduceMod, Nat.reduceBNe, Nat.reduceBEq]
  refine check3 a b c (i := 3) (by rfl) ?_
  unfold covT
  cases hbad : badL [a, b, c]
  · simp only [errF, hbad, cond_false, c37, eq_self, go_sem, bin_add, bin_sub, bin_mul, Nat.reduceAdd, Nat.reduceMul, Nat.reduceEqDiff, Nat.reduceLeDiff, Nat.reduceLT, Nat.reduceSub, reduceIte, reduceCtorEq, Int.reduceToNat, Int.reduceNeg, Int.reduceLE, Int.reduceLT, Int.reduceEq, Nat.reduceOr, Nat.reduceShiftRight, Nat.reduceMod, Nat.reduceBNe, Nat.reduceBEq]
    cases hall : allF x y
    · simp only [hall, go_sem, bin_add, bin_sub, bin_mul, Nat.reduceAdd, Nat.reduceMul, Nat.reduceEqDiff, Nat.reduceLeDiff, Nat.reduceLT, Nat.reduceSub, reduceIte, reduceCtorEq, Int.reduceToNat, Int.reduceNeg, Int.reduceLE, Int.reduceLT, Int.reduceEq, Nat.reduceOr, Nat.reduceShiftRight, Nat.reduceMod, Nat.reduceBNe, Nat.reduceBEq]
    simp only [hall, go_sem, bin_add, bin_sub, bin_mul, Nat.reduceAdd, Nat.reduceMul, Nat.reduceEqDiff, Nat.reduceLeDiff, Nat.reduceLT, Nat.reduceSub, reduceIte, reduceCtorEq, Int.reduceToNat, Int.reduceNeg, Int.reduceLE, Int.reduceLT, Int.reduceEq, Nat.reduceOr, Nat.reduceShiftRight, Nat.reduceMod, Nat.reduceBNe, Nat.reduceBEq]
    refine c33' a b c (by rw [ext_lo, ext_nx]; exact Nat.le_add_right _ _) fun L => ?_
    generalize turnF a b c = f
    simp only [Fc.v, fc_length, fc_flat, fc_take, ext_ext, go_sem, bin_add, bin_sub, bin_mul, Nat.reduceAdd, Nat.reduceMul, Nat.reduceEqDiff, Nat.reduceLeDiff, Nat.reduceLT, Nat.reduceSub, reduceIte, reduceCtorEq, Int.reduceToNat, Int.reduceNeg, Int.reduceLE, Int.reduceLT, Int.reduceEq, Nat.reduceOr, Nat.reduceShiftRight, Nat.reduceMod, Nat.reduceBNe, Nat.reduceBEq]
    rw [c35 f (H.now.nx + (L.length + 1 + 1 + 1 + 1)) x y _ (by rw [ext_nx]; simp) (by simp only [List.getElem?_append_right (Nat.le_refl _), Nat.sub_self, fc_length, fc_take, go_sem, bin_add, bin_sub, bin_mul, Nat.reduceAdd, Nat.reduceMul, Nat.reduceEqDiff, Nat.reduceLeDiff, Nat.reduceLT, Nat.reduceSub, reduceIte, reduceCtorEq, Int.reduceToNat, Int.reduceNeg, Int.reduceLE, Int.reduceLT, Int.reduceEq, Nat.reduceOr, Nat.reduceShiftRight, Nat.reduceMod, Nat.reduceBNe, Nat.reduceBEq])]
    simp only [s3V, go_sem, bin_add, bin_sub, bin_mul, Nat.reduceAdd, Nat.reduceMul, Nat.reduceEqDiff, Nat.reduceLeDiff, Nat.reduceLT, Nat.reduceSub, reduceIte, reduceCtorEq, Int.reduceToNat, Int.reduceNeg, Int.reduceLE, Int.reduceLT, Int.reduceEq, Nat.reduceOr, Nat.reduceShiftRight, Nat.reduceMod, Nat.reduceBNe, Nat.reduceBEq]
  · simp only [errF, hbad, cond_true, go_sem, bin_add, bin_sub, bin_mul, Nat.reduceAdd, Nat.reduceMul, Nat.reduceEqDiff, Nat.reduceLeDiff, Nat.reduceLT, Nat.reduceSub, reduceIte, reduceCtorEq, Int.reduceToNat, Int.reduceNeg, Int.reduceLE, Int.reduceLT, Int.reduceEq, Nat.reduceOr, Nat.reduceShiftRight, Nat.reduceMod, Nat.reduceBNe, Nat.reduceBEq]
end
end Go.AX.Tri
/- Contracts: tri's At. -/
namespace Go.AX.Tri
open Go.Proofs Go.AX.Mc
set_option linter.unusedSimpArgs false
set_option linter.unusedVariables false
noncomputable section

def fr0 : List Value := frV 0 0 0 0 false (.slice none 0 0)
theorem c21 {env : List Lp} (a b c : Wn) (x y : Int) {H : AH} (hlo : H.lo ≤ H.nx) (ha : WnAt H a) (hb : WnAt H b) (hc : WnAt H c) (Q : AEnd → AH → Prop)
    (h1 : badL [a, b, c] = true → Q (.ret (.tuple [.agg fr0.toArray, .int .i64 320].toArray)) H)
    (h2 : badL [a, b, c] = false → (allF x y && (sidesF (turnF a b c) x y).2) = false → Q (.ret (.tuple [.agg fr0.toArray, .int .i64 4].toArray)) H)
    (h3 : badL [a, b, c] = false → (allF x y && (sidesF (turnF a b c) x y).2) = true → ∀ n0 n1 n2 : Nat, (sidesF (turnF a b c) x y).1 = ((n0 : Int), (n1 : Int), (n2 : Int)) → ∀ L hd, VsOut H.nx L hd (vsF (turnF a b c) n0 n1 n2 (turnF a b c).a.l) →
      Q (.ret (.tuple [.agg (frV x y (nearZ (turnF a b c) n0 n1 n2) (nearW (turnF a b c) n0 n1 n2) (turnF a b c).front hd).toArray, .int .i64 0].toArray)) (ext H L)) :
    C T env 21 [a.v, b.v, c.v, .int .i64 x, .int .i64 y] H Q := by
  rw [C_fn T21 rfl]
  unfold fr0 frV at h1 h2
  simp only [a21, Wn.v, Wn.cs, go_sem, bin_add, bin_sub, bin_mul, Nat.reduceAdd, Nat.reduceMul, Nat.reduceEqDiff, Nat.reduceLeDiff, Nat.reduceLT, Nat.reduceSub, reduceIte, reduceCtorEq, Int.reduceToNat, Int.reduceNeg, Int.reduceLE, Int.reduceLT, Int.reduceEq, Nat.reduceOr, Nat.reduceShiftRight, Nat.reduceMod, Nat.reduceBNe, Nat.reduceBEq]
  refine check3 a b c (i := 4) (by rfl) ?_
  cases hbad : badL [a, b, c]
  · simp only [errF, hbad, cond_false, eq_self, go_sem, bin_add, bin_sub, bin_mul, Nat.reduceAdd, Nat.reduceMul, Nat.reduceEqDiff, Nat.reduceLeDiff, Nat.reduceLT, Nat.reduceSub, reduceIte, reduceCtorEq, Int.reduceToNat, Int.reduceNeg, Int.reduceLE, Int.reduceLT, Int.reduceEq, Nat.reduceOr, Nat.reduceShiftRight, Nat.reduceMod, Nat.reduceBNe, Nat.reduceBEq]
    refine c33' a b c (by rw [ext_lo, ext_nx]; exact Nat.le_add_right _ _) fun L => ?_
    have h2' := h2 hbad
    have h3' := h3 hbad
    clear h1 h2 h3
    have hok := turn_ok (bad3 hbad).1 (bad3 hbad).2.1 (bad3 hbad).2.2.1
    have hmem := @turn_mem a b c
    generalize turnF a b c = f at *
    simp only [Fc.v, fc_length, fc_flat, fc_take, ext_ext, go_sem, bin_add, bin_sub, bin_mul, Nat.reduceAdd, Nat.reduceMul, Nat.reduceEqDiff, Nat.reduceLeDiff, Nat.reduceLT, Nat.reduceSub, reduceIte, reduceCtorEq, Int.reduceToNat, Int.reduceNeg, Int.reduceLE, Int.reduceLT, Int.reduceEq, Nat.reduceOr, Nat.reduceShiftRight, Nat.reduceMod, Nat.reduceBNe, Nat.reduceBEq]
    rw [c35 f (H.now.nx + (L.length + 1 + 1 + 1 + 1 + 1)) x y _ (by rw [ext_nx]; simp) (by simp only [List.getElem?_append_right (Nat.le_refl _), Nat.sub_self, fc_length, fc_take, go_sem, bin_add, bin_sub, bin_mul, Nat.reduceAdd, Nat.reduceMul, Nat.reduceEqDiff, Nat.reduceLeDiff, Nat.reduceLT, Nat.reduceSub, reduceIte, reduceCtorEq, Int.reduceToNat, Int.reduceNeg, Int.reduceLE, Int.reduceLT, Int.reduceEq, Nat.reduceOr, Nat.reduceShiftRight, Nat.reduceMod, Nat.reduceBNe, Nat.reduceBEq])]
    simp only [s3V, c37, go_sem, bin_add, bin_sub, bin_mul, Nat.reduceAdd, Nat.reduceMul, Nat.reduceEqDiff, Nat.reduceLeDiff, Nat.reduceLT, Nat.reduceSub, reduceIte, reduceCtorEq, Int.reduceToNat, Int.reduceNeg, Int.reduceLE, Int.reduceLT, Int.reduceEq, Nat.reduceOr, Nat.reduceShiftRight, Nat.reduceMod, Nat.reduceBNe, Nat.reduceBEq]
    cases hall : allF x y
    · simp only [hall, go_sem, bin_add, bin_sub, bin_mul, Nat.reduceAdd, Nat.reduceMul, Nat.reduceEqDiff, Nat.reduceLeDiff, Nat.reduceLT, Nat.reduceSub, reduceIte, reduceCtorEq, Int.reduceToNat, Int.reduceNeg, Int.reduceLE, Int.reduceLT, Int.reduceEq, Nat.reduceOr, Nat.reduceShiftRight, Nat.reduceMod, Nat.reduceBNe, Nat.reduceBEq]
      exact h2' (by rw [hall]; rfl)
    · cases hs : (sidesF f x y).2
      · simp only [hall, hs, go_sem, bin_add, bin_sub, bin_mul, Nat.reduceAdd, Nat.reduceMul, Nat.reduceEqDiff, Nat.reduceLeDiff, Nat.reduceLT, Nat.reduceSub, reduceIte, reduceCtorEq, Int.reduceToNat, Int.reduceNeg, Int.reduceLE, Int.reduceLT, Int.reduceEq, Nat.reduceOr, Nat.reduceShiftRight, Nat.reduceMod, Nat.reduceBNe, Nat.reduceBEq]
        exact h2' (by rw [hall, hs]; rfl)
      · simp only [hall, hs, go_sem, bin_add, bin_sub, bin_mul, Nat.reduceAdd, Nat.reduceMul, Nat.reduceEqDiff, Nat.reduceLeDiff, Nat.reduceLT, Nat.reduceSub, reduceIte, reduceCtorEq, Int.reduceToNat, Int.reduceNeg, Int.reduceLE, Int.reduceLT, Int.reduceEq, Nat.reduceOr, Nat.reduceShiftRight, Nat.reduceMod, Nat.reduceBNe, Nat.reduceBEq]
        obtain ⟨oka, okb, okc, lb, lc⟩ := bad3 hbad
        simp only [allF, Bool.and_eq_true, decide_eq_true_eq] at hall
        obtain ⟨⟨⟨x0, x1⟩, y0⟩, y1⟩ := hall
        obtain ⟨n0, n1, n2, es, b0, b1, b2, hA, _⟩ := sides_ok hok x0 x1 y0 y1 hs
        rw [es]
        have h3'' := h3' (by rw [hs]; simp [allF, x0, x1, y0, y1]) n0 n1 n2 es
        have hl4 : f.a.l < 1000 := Nat.lt_of_le_of_lt hok.a.l4 (by decide)
        have hw : ∀ p, (p = f.a ∨ p = f.b ∨ p = f.c) → WnAt H p := by
          intro p hp
          rcases hmem p hp with rfl | rfl | rfl <;> assumption
        have hle : ∀ p, (p = f.a ∨ p = f.b ∨ p = f.c) → p.l = f.a.l := by
          have e : ∀ q, (q = a ∨ q = b ∨ q = c) → q.l = a.l := by rintro q (rfl | rfl | rfl) <;> first | rfl | assumption
          intro p hp
          rw [e p (hmem p hp), e f.a (hmem f.a (.inl rfl))]
        refine c36 ⟨by rw [ext_nx]; simp, by simp only [List.getElem?_append_right (Nat.le_refl _), Nat.sub_self, fc_length, fc_take, go_sem, bin_add, bin_sub, bin_mul, Nat.reduceAdd, Nat.reduceMul, Nat.reduceEqDiff, Nat.reduceLeDiff, Nat.reduceLT, Nat.reduceSub, reduceIte, reduceCtorEq, Int.reduceToNat, Int.reduceNeg, Int.reduceLE, Int.reduceLT, Int.reduceEq, Nat.reduceOr, Nat.reduceShiftRight, Nat.reduceMod, Nat.reduceBNe, Nat.reduceBEq], b0, b1, b2, hA, ?_, ?_, hle⟩ hl4 (by rw [ext_lo, ext_nx]; exact Nat.le_add_right _ _) x y _ ?_
        · rintro p (rfl | rfl | rfl)
          · exact hok.a.w0
          · exact hok.b.w0
          · exact hok.c.w0
        · intro p hp
          have := hw p hp
          exact ⟨this.len, this.vec.mono (by rw [ext_nx]; exact Nat.le_add_right _ _) (fun b hb o n => rd_old _ _ _ _ _ hb), this.num, this.z, this.w⟩
        intro L' hdv hV
        have hfl : flat hdv = true ∧ hdv.cells.toList = [hdv] := by rcases hV with ⟨_, rfl⟩ | ⟨_, _, _, rfl⟩ <;> exact ⟨rfl, rfl⟩
        simp only [ext_ext, frV, hfl.1, hfl.2, go_sem, bin_add, bin_sub, bin_mul, Nat.reduceAdd, Nat.reduceMul, Nat.reduceEqDiff, Nat.reduceLeDiff, Nat.reduceLT, Nat.reduceSub, reduceIte, reduceCtorEq, Int.reduceToNat, Int.reduceNeg, Int.reduceLE, Int.reduceLT, Int.reduceEq, Nat.reduceOr, Nat.reduceShiftRight, Nat.reduceMod, Nat.reduceBNe, Nat.reduceBEq]
        rcases hV with ⟨e0, rfl⟩ | ⟨e0, i, hi, rfl⟩
        · refine trim_go hlo fun L'' => ?_
          exact h3'' L'' _ (.inl ⟨e0, rfl⟩)
        · refine (congrArg (Q _) (trim_keep H _ _ ?_ hlo)).mpr ?_
          · rw [clo_tuple5]
            simp only [List.all_cons, clo_agg4, clo_sl, Bool.false_and, Bool.and_false]
          · have hnx : ∀ (Z : List (Option AB)), (ext H.now Z).nx + i = H.nx + (Z.length + i) := fun Z => by rw [ext_nx]; exact Nat.add_assoc _ _ _
            simp only [hnx] at h3'' ⊢
            refine h3'' _ _ (.inr ⟨e0, _, ?_, rfl⟩)
            have e : ∀ (A B : List (Option AB)), (A ++ B)[A.length + i]? = B[i]? := fun A B => by rw [List.getElem?_append_right (Nat.le_add_right _ _), Nat.add_sub_cancel_left]
            refine Eq.trans ?_ hi
            have e2 := fun x0 x1 x2 x3 x4 y z => e (x0 :: x1 :: x2 :: x3 :: x4 :: (L ++ [y, z])) L'
            simp only [List.cons_append, List.append_assoc, List.nil_append] at e2
            exact e2 _ _ _ _ _ _ _
  · simp only [errF, hbad, cond_true, go_sem, bin_add, bin_sub, bin_mul, Nat.reduceAdd, Nat.reduceMul, Nat.reduceEqDiff, Nat.reduceLeDiff, Nat.reduceLT, Nat.reduceSub, reduceIte, reduceCtorEq, Int.reduceToNat, Int.reduceNeg, Int.reduceLE, Int.reduceLT, Int.reduceEq, Nat.reduceOr, Nat.reduceShiftRight, Nat.reduceMod, Nat.reduceBNe, Nat.reduceBEq]
    exact h1 hbad
end
end Go.AX.Tri
/- Plain law: what the document says of a cell is what tri says. -/
namespace Go.AX.Tri
open Go.Proofs Go.AX.Mc
set_option linter.unusedSimpArgs false
set_option linter.unusedVariables false
noncomputable section

theorem cov_eq {a b c : Wn} (h : badL [a, b, c] = false) (x y : Int) : (allF x y && (sidesF (turnF a b c) x y).2) = covR a b c x y := by
  obtain ⟨ha, hb, hc, _, _⟩ := bad3 h
  have e := wayF_eq ha hb hc.x0 hc.x1 hc.y0 hc.y1
  have bd := wayI_bd ha hb hc.x0 hc.x1 hc.y0 hc.y1
  have hs : ∀ f : Fc, (sidesF f x y).2 = covF f x y := by
    intro f
    unfold sidesF covF
    cases decide (0 < f.area)
    · rfl
    cases inF f.b f.c (ctr x) (ctr y)
    · rfl
    cases inF f.c f.a (ctr x) (ctr y)
    · rfl
    rfl
  rw [hs]
  unfold covR covF
  have ha : decide (0 < (turnF a b c).area) = !decide (wayF a b c.x c.y = 0) := by
    unfold turnF
    rw [e]
    generalize wayI a b c.x c.y = A at *
    rcases Int.lt_trichotomy A 0 with k | k | k
    · rw [show decide (A < 0) = true by simp; omega]
      simp only [cond_true]
      rw [show w64 (-A) = -A from w64_id (by omega) (by omega), show decide (0 < -A) = true from decide_eq_true (by omega), show decide (A = 0) = false from decide_eq_false (by omega)]
      rfl
    · subst k; rfl
    · rw [show decide (A < 0) = false by simp; omega]
      simp only [cond_false]
      rw [show decide (0 < A) = true from decide_eq_true (by omega), show decide (A = 0) = false from decide_eq_false (by omega)]
      rfl
  rw [ha]
end
end Go.AX.Tri
/- TriAt, in the calculus. -/
namespace Go.AX.Tri
open Go.Proofs Go.AX.Mc
set_option linter.unusedSimpArgs false
set_option linter.unusedVariables false
noncomputable section

theorem Cq.box1 {H : AH} {u : Option AB} {L : List (Option AB)} {h0 : AH} {p p' : Wn} (k : Cq (Mc.ext H [u]).nx (Mc.ext (Mc.ext H [u]) L) p p') (hp : WnAt h0 p) (u' : Option AB) : WnAt (Mc.ext H (u' :: L)) p' := by
  refine ⟨k.len, ?_, (k.wn hp).num, (k.wn hp).z, (k.wn hp).w⟩
  intro i w hw
  obtain ⟨b, o, r, h1, h2, h3, h4⟩ := k.vec i w hw
  obtain ⟨b', r', h5, h6⟩ := k.own
  rw [h1] at h5
  cases h5
  refine ⟨b, 0, r, h1, h2, ?_, ?_⟩
  · rw [ext_ext, ext_nx] at h3
    rw [ext_nx]
    simpa using h3
  · rw [ext_nx] at h6
    obtain ⟨j, rfl⟩ : ∃ j, b = H.nx + (j + 1) := ⟨b - (H.nx + 1), by simp at h6; omega⟩
    rw [ext_ext, rd_new] at h4
    rw [rd_new]
    exact h4

theorem same1 {env : List Lp} {G : AH} {L : List (Option AB)} {i j k k' z z' : Nat} {d e : Fd} (h1 : L[i]? = some (some (.cells d.cs k z))) (h2 : L[j]? = some (some (.cells e.cs k' z'))) (f1 : FdAt (Mc.ext G L) d) (f2 : FdAt (Mc.ext G L) e) (Q : AEnd → AH → Prop) :
    C T env 23 [.slice (some ⟨G.nx + i, 0, none⟩) 1 1, .slice (some ⟨G.nx + j, 0, none⟩) 1 1] (Mc.ext G L) Q = Q (.ret (.bool (eqD d e))) (Mc.ext G L) := by
  have at1 : ∀ {i k z : Nat} {d : Fd}, L[i]? = some (some (.cells d.cs k z)) → FdAt (Mc.ext G L) d → FdsAt (Mc.ext G L) (some ⟨G.nx + i, 0, none⟩) [d] := by
    intro i k z d h f n d' hn
    have hl := (List.getElem?_eq_some_iff.1 h).1
    match n, hn with
    | 0, hn =>
      cases hn
      refine ⟨f, _, _, _, rfl, .inl rfl, by rw [ext_nx]; omega, ?_⟩
      rw [rd_new, h]; rfl
    | n + 1, hn => simp at hn
  have := c23 (env := env) (some ⟨G.nx + i, 0, none⟩) (some ⟨G.nx + j, 0, none⟩) 1 1 [d] [e] (Mc.ext G L) (sl_s _ _) (sl_s _ _) (show 1 < 9223372036854775808 by decide) (at1 h1 f1) (at1 h2 f2) Q
  rw [show eqDs [d] [e] = eqD d e from Bool.and_true _] at this
  exact this

def z0 : Fd := ⟨0, 0, 0, 0, false, ⟨0, 0, 0, 0⟩, none, 0, sl_none, []⟩
theorem z0_at (h : AH) : FdAt h z0 := ⟨fun k v hk => by simp [z0] at hk, by decide⟩
theorem fd_of {N : Nat} {L : List (Option AB)} {hd : Value} {vs : List V4} (hV : VsOut N L hd vs) (hs : vs.length < 9223372036854775808) :
    ∃ (a : Option Addr) (c : Nat) (ok : Sl a), hd = .slice a vs.length c ∧ ∀ (G : AH) L', G.nx = N → ∀ x y z w fr, FdAt (Mc.ext (Mc.ext G L) L') ⟨x, y, z, w, fr, ⟨0, 0, 0, 0⟩, a, c, ok, vs⟩ := by
  rcases hV with ⟨e0, rfl⟩ | ⟨_, i, hi, rfl⟩
  · exact ⟨none, 0, sl_none, by rw [e0]; rfl, fun G L' hG x y z w fr => ⟨by rw [e0]; intro k v hk; simp at hk, hs⟩⟩
  · refine ⟨some ⟨N + i, 0, some 0⟩, vs.length, sl_r _ _, rfl, fun G L' hG x y z w fr => ⟨?_, hs⟩⟩
    subst hG
    have hl := (List.getElem?_eq_some_iff.1 hi).1
    refine VecAt.mono (h := Mc.ext G L) (vec_new (.inr rfl) (by rw [ext_get_new, hi]; rfl) (by rw [ext_nx]; omega)) (by rw [ext_nx (Mc.ext G L)]; omega) fun b hb o n => rd_old _ _ _ _ _ hb

theorem turn_front (a b c : Wn) : (turnF a b c).front = decide (0 < wayF a b c.x c.y) := by
  unfold turnF
  cases h : decide (wayF a b c.x c.y < 0)
  · rfl
  · have : wayF a b c.x c.y < 0 := of_decide_eq_true h
    exact (decide_eq_false (by omega)).symm
theorem rf_of {a b c : Wn} (h : badL [a, b, c] = false) {x y : Int} (hc : (allF x y && (sidesF (turnF a b c) x y).2) = true) {n0 n1 n2 : Nat} (es : (sidesF (turnF a b c) x y).1 = ((n0 : Int), (n1 : Int), (n2 : Int)))
    (hw : ∀ p, (p = a ∨ p = b ∨ p = c) → p.w < 2147483648) :
    ∃ wa wb wc, RfHyp (turnF a b c) x y n0 n1 n2 wa wb wc := by
  have hok := turn_ok (bad3 h).1 (bad3 h).2.1 (bad3 h).2.2.1
  have hm := @turn_mem a b c
  generalize turnF a b c = f at *
  rw [Bool.and_eq_true] at hc
  obtain ⟨hall, hs⟩ := hc
  simp only [allF, Bool.and_eq_true, decide_eq_true_eq] at hall
  obtain ⟨⟨⟨x0, x1⟩, y0⟩, y1⟩ := hall
  obtain ⟨m0, m1, m2, es', b0, b1, b2, hA, q0, q1, q2⟩ := sides_ok hok x0 x1 y0 y1 hs
  rw [es] at es'
  simp only [Prod.mk.injEq] at es'
  have e0 : n0 = m0 := Int.ofNat.inj es'.1
  have e1 : n1 = m1 := Int.ofNat.inj es'.2.1
  have e2 : n2 = m2 := Int.ofNat.inj es'.2.2
  subst e0 e1 e2
  have ka := hw _ (hm f.a (.inl rfl))
  have kb := hw _ (hm f.b (.inr (.inl rfl)))
  have kc := hw _ (hm f.c (.inr (.inr rfl)))
  have wa := hok.a.w0
  have wb := hok.b.w0
  have wc := hok.c.w0
  refine ⟨f.a.w.toNat, f.b.w.toNat, f.c.w.toNat, ?_, ?_, ?_, b0, b1, b2, hA, ?_, ?_, ?_, ?_, ?_, ?_, ?_, ?_, ?_⟩
  · rw [ctr_eq x0 x1, ctr_eq y0 y1, q0]; exact wayF_eq hok.b hok.c (by omega) (by omega) (by omega) (by omega)
  · rw [ctr_eq x0 x1, ctr_eq y0 y1, q1]; exact wayF_eq hok.c hok.a (by omega) (by omega) (by omega) (by omega)
  · rw [ctr_eq x0 x1, ctr_eq y0 y1, q2]; exact wayF_eq hok.a hok.b (by omega) (by omega) (by omega) (by omega)
  all_goals omega

theorem law7 (H : AH) (a b c : Wn) (x y : Int) (pa' : Pl H a) (pb : Pl H b) (pc : Pl H c) (ha : WnAt H a) (hb : WnAt H b) (hc : WnAt H c) :
    C T [] 7 [.agg (tri18 a b c).toArray, .int .i64 x, .int .i64 y] H fun r H' => r = .ret (.bool true) ∧ H' = H := by
  rw [C_fn T7 rfl]
  simp only [a7, tri18, c11, go_sem, bin_add, bin_sub, bin_mul, Nat.reduceAdd, Nat.reduceMul, Nat.reduceEqDiff, Nat.reduceLeDiff, Nat.reduceLT, Nat.reduceSub, reduceIte, reduceCtorEq, Int.reduceToNat, Int.reduceNeg, Int.reduceLE, Int.reduceLT, Int.reduceEq, Nat.reduceOr, Nat.reduceShiftRight, Nat.reduceMod, Nat.reduceBNe, Nat.reduceBEq]
  refine c19 a b c (by rw [ext_lo, ext_nx]; exact Nat.le_add_right _ _) (pa'.now.ext _) (pb.now.ext _) (pc.now.ext _) (ha.now.ext _) (hb.now.ext _) (hc.now.ext _) _ ?_
  intro a' b' c' L ka kb kc
  have wa := ka.box1 ha (blk (tri18 a' b' c'))
  have wb := kb.box1 hb (blk (tri18 a' b' c'))
  have wc := kc.box1 hc (blk (tri18 a' b' c'))
  clear ka kb kc
  simp only [tri18, ext_ext, go_sem, bin_add, bin_sub, bin_mul, Nat.reduceAdd, Nat.reduceMul, Nat.reduceEqDiff, Nat.reduceLeDiff, Nat.reduceLT, Nat.reduceSub, reduceIte, reduceCtorEq, Int.reduceToNat, Int.reduceNeg, Int.reduceLE, Int.reduceLT, Int.reduceEq, Nat.reduceOr, Nat.reduceShiftRight, Nat.reduceMod, Nat.reduceBNe, Nat.reduceBEq]
  refine c21 a' b' c' x y (by rw [ext_lo, ext_nx]; exact Nat.le_add_right _ _) wa wb wc _ ?_ ?_ ?_
  · intro hbad
    have k22 := fun (H : AH) (Q : AEnd → AH → Prop) => c22 (env := []) a' b' c' x y H Q
    simp only [Wn.v, Wn.cs] at k22
    simp only [fr0, frV, tri18, k22, go_sem, bin_add, bin_sub, bin_mul, Nat.reduceAdd, Nat.reduceMul, Nat.reduceEqDiff, Nat.reduceLeDiff, Nat.reduceLT, Nat.reduceSub, reduceIte, reduceCtorEq, Int.reduceToNat, Int.reduceNeg, Int.reduceLE, Int.reduceLT, Int.reduceEq, Nat.reduceOr, Nat.reduceShiftRight, Nat.reduceMod, Nat.reduceBNe, Nat.reduceBEq]
    rw [same1 (i := L.length + 1 + 1) (j := L.length + 2 + 1) (d := z0) (e := z0) (k := 0) (k' := 0) (z := 0) (z' := 0) (by simp [z0, Fd.cs]) (by simp [z0, Fd.cs]) (z0_at _) (z0_at _), eqD_refl]
    have k24 := fun (H : AH) (Q : AEnd → AH → Prop) => c24 (env := []) a' b' c' H Q
    simp only [tri18] at k24
    simp only [k24, hbad, covT, eq_self, go_sem, bin_add, bin_sub, bin_mul, Nat.reduceAdd, Nat.reduceMul, Nat.reduceEqDiff, Nat.reduceLeDiff, Nat.reduceLT, Nat.reduceSub, reduceIte, reduceCtorEq, Int.reduceToNat, Int.reduceNeg, Int.reduceLE, Int.reduceLT, Int.reduceEq, Nat.reduceOr, Nat.reduceShiftRight, Nat.reduceMod, Nat.reduceBNe, Nat.reduceBEq]
  · intro hbad hcov
    have k22 := fun (H : AH) (Q : AEnd → AH → Prop) => c22 (env := []) a' b' c' x y H Q
    simp only [Wn.v, Wn.cs] at k22
    simp only [fr0, frV, tri18, k22, go_sem, bin_add, bin_sub, bin_mul, Nat.reduceAdd, Nat.reduceMul, Nat.reduceEqDiff, Nat.reduceLeDiff, Nat.reduceLT, Nat.reduceSub, reduceIte, reduceCtorEq, Int.reduceToNat, Int.reduceNeg, Int.reduceLE, Int.reduceLT, Int.reduceEq, Nat.reduceOr, Nat.reduceShiftRight, Nat.reduceMod, Nat.reduceBNe, Nat.reduceBEq]
    rw [same1 (i := L.length + 1 + 1) (j := L.length + 2 + 1) (d := z0) (e := z0) (k := 0) (k' := 0) (z := 0) (z' := 0) (by simp [z0, Fd.cs]) (by simp [z0, Fd.cs]) (z0_at _) (z0_at _), eqD_refl]
    have k24 := fun (H : AH) (Q : AEnd → AH → Prop) => c24 (env := []) a' b' c' H Q
    simp only [tri18] at k24
    have k25 := fun (H : AH) (Q : AEnd → AH → Prop) => c25 (env := []) a' b' c' x y H Q
    simp only [Wn.v, Wn.cs, ← cov_eq hbad x y, hcov] at k25
    simp only [k24, k25, hbad, covT, hcov, eq_self, go_sem, bin_add, bin_sub, bin_mul, Nat.reduceAdd, Nat.reduceMul, Nat.reduceEqDiff, Nat.reduceLeDiff, Nat.reduceLT, Nat.reduceSub, reduceIte, reduceCtorEq, Int.reduceToNat, Int.reduceNeg, Int.reduceLE, Int.reduceLT, Int.reduceEq, Nat.reduceOr, Nat.reduceShiftRight, Nat.reduceMod, Nat.reduceBNe, Nat.reduceBEq]
  · intro hbad hcov n0 n1 n2 es L2 hd hV
    have k22 := fun (H : AH) (Q : AEnd → AH → Prop) => c22 (env := []) a' b' c' x y H Q
    simp only [Wn.v, Wn.cs] at k22
    have hmem := @turn_mem a' b' c'
    have htl : ∀ p, (p = (turnF a' b' c').a ∨ p = (turnF a' b' c').b ∨ p = (turnF a' b' c').c) → p.l = (turnF a' b' c').a.l := by
      obtain ⟨_, _, _, lb, lc⟩ := bad3 hbad
      have e : ∀ q, (q = a' ∨ q = b' ∨ q = c') → q.l = a'.l := by rintro q (rfl | rfl | rfl) <;> first | rfl | assumption
      intro p hp
      rw [e p (hmem p hp), e (turnF a' b' c').a (hmem _ (.inl rfl))]
    have hl4 : (turnF a' b' c').a.l < 1000 := Nat.lt_of_le_of_lt (turn_ok (bad3 hbad).1 (bad3 hbad).2.1 (bad3 hbad).2.2.1).a.l4 (by decide)
    obtain ⟨ua, ub, uc, hrf⟩ := rf_of hbad hcov es (by rintro p (rfl | rfl | rfl) <;> first | exact wa.w.2 | exact wb.w.2 | exact wc.w.2)
    have hvl : (vsF (turnF a' b' c') n0 n1 n2 (turnF a' b' c').a.l).length < 9223372036854775808 := by
      unfold vsF; rw [List.length_map, List.length_range]; omega
    rw [turn_front]
    have hgen : ∀ X p, (p = (turnF a' b' c').a ∨ p = (turnF a' b' c').b ∨ p = (turnF a' b' c').c) → WnAt (ext H.now (blk (tri18 a' b' c') :: (L ++ X))) p := by
      intro X p hp
      rw [show blk (tri18 a' b' c') :: (L ++ X) = (blk (tri18 a' b' c') :: L) ++ X from rfl, ← ext_ext]
      rcases hmem p hp with rfl | rfl | rfl
      · exact wa.ext X
      · exact wb.ext X
      · exact wc.ext X
    have k26 := fun X => c26 (env := []) a' b' c' x y hrf (H := ext H.now (blk (tri18 a' b' c') :: (L ++ X))) (by rw [ext_lo, ext_nx]; exact Nat.le_add_right _ _) (hgen X) htl hl4
    clear hrf hgen htl hl4
    obtain ⟨fa, fc, fok, rfl, fat⟩ := fd_of hV hvl
    clear hV
    generalize vsF (turnF a' b' c') n0 n1 n2 (turnF a' b' c').a.l = fvs at *
    generalize nearZ (turnF a' b' c') n0 n1 n2 = fz at *
    generalize nearW (turnF a' b' c') n0 n1 n2 = fw at *
    generalize decide (0 < wayF a' b' c'.x c'.y) = ff at *
    simp only [Wn.v, Wn.cs, tri18] at k26
    simp only [frV, tri18, k22, ext_ext, go_sem, bin_add, bin_sub, bin_mul, Nat.reduceAdd, Nat.reduceMul, Nat.reduceEqDiff, Nat.reduceLeDiff, Nat.reduceLT, Nat.reduceSub, reduceIte, reduceCtorEq, Int.reduceToNat, Int.reduceNeg, Int.reduceLE, Int.reduceLT, Int.reduceEq, Nat.reduceOr, Nat.reduceShiftRight, Nat.reduceMod, Nat.reduceBNe, Nat.reduceBEq]
    have fat' := fun X => fat (ext H.now (blk (tri18 a' b' c') :: L)) X rfl x y fz fw ff
    simp only [ext_ext, List.cons_append, List.append_assoc] at fat'
    rw [same1 (i := L.length + (L2.length + 1) + 1) (j := L.length + (L2.length + 2) + 1) (d := ⟨x, y, fz, fw, ff, ⟨0, 0, 0, 0⟩, fa, fc, fok, fvs⟩) (e := z0) (k := 0) (k' := 0) (z := 0) (z' := 0) (by simp only [List.getElem?_cons_succ, app_get, List.getElem?_cons_zero]; rfl) (by simp only [List.getElem?_cons_succ, app_get, List.getElem?_cons_zero]; rfl) ?_ (z0_at _)]
    generalize eqD _ z0 = nn
    have k24 := fun (H : AH) (Q : AEnd → AH → Prop) => c24 (env := []) a' b' c' H Q
    simp only [tri18] at k24
    have k25 := fun (H : AH) (Q : AEnd → AH → Prop) => c25 (env := []) a' b' c' x y H Q
    simp only [Wn.v, Wn.cs, ← cov_eq hbad x y, hcov] at k25
    simp only [k24, k25, hbad, covT, hcov, eq_self, go_sem, bin_add, bin_sub, bin_mul, Nat.reduceAdd, Nat.reduceMul, Nat.reduceEqDiff, Nat.reduceLeDiff, Nat.reduceLT, Nat.reduceSub, reduceIte, reduceCtorEq, Int.reduceToNat, Int.reduceNeg, Int.reduceLE, Int.reduceLT, Int.reduceEq, Nat.reduceOr, Nat.reduceShiftRight, Nat.reduceMod, Nat.reduceBNe, Nat.reduceBEq]
    refine X_drawE 2 (by rfl) ?_
    simp only [go_sem, bin_add, bin_sub, bin_mul, Nat.reduceAdd, Nat.reduceMul, Nat.reduceEqDiff, Nat.reduceLeDiff, Nat.reduceLT, Nat.reduceSub, reduceIte, reduceCtorEq, Int.reduceToNat, Int.reduceNeg, Int.reduceLE, Int.reduceLT, Int.reduceEq, Nat.reduceOr, Nat.reduceShiftRight, Nat.reduceMod, Nat.reduceBNe, Nat.reduceBEq]
    refine k26 _ _ ?_
    clear k26
    intro L3 hd2 hV2
    obtain ⟨ga, gc, gok, rfl, gat⟩ := fd_of hV2 hvl
    simp only [frV, ext_ext, go_sem, bin_add, bin_sub, bin_mul, Nat.reduceAdd, Nat.reduceMul, Nat.reduceEqDiff, Nat.reduceLeDiff, Nat.reduceLT, Nat.reduceSub, reduceIte, reduceCtorEq, Int.reduceToNat, Int.reduceNeg, Int.reduceLE, Int.reduceLT, Int.reduceEq, Nat.reduceOr, Nat.reduceShiftRight, Nat.reduceMod, Nat.reduceBNe, Nat.reduceBEq]
    clear k22 k24 k25
    have e1 : H.now.nx + (L.length + (L2.length + 3) + 1) + 1 = H.now.nx + (L.length + (L2.length + 4) + 1) := by omega
    rw [e1, lay_cons _ _ _ _ _ _ (by simp only [List.length_cons, List.length_append]; omega), lay_cons _ _ _ _ _ _ (by simp only [List.length_set, List.length_cons, List.length_append]; omega), lay_nil]
    simp only [List.set_cons_succ, app_set, List.set_cons_zero]
    rw [same1 (i := L.length + (L2.length + 3) + 1) (j := L.length + (L2.length + 4) + 1) (d := ⟨x, y, fz, fw, ff, ⟨0, 0, 0, 0⟩, fa, fc, fok, fvs⟩) (e := ⟨x, y, fz, fw, ff, ⟨0, 0, 0, 0⟩, ga, gc, gok, fvs⟩) (k := 0) (k' := 0) (z := 0) (z' := 0) (by simp only [List.getElem?_cons_succ, app_get, List.getElem?_cons_zero]; rfl) (by simp only [List.getElem?_cons_succ, app_get, List.getElem?_cons_zero]; rfl) ?_ ?_, show eqD ⟨x, y, fz, fw, ff, ⟨0, 0, 0, 0⟩, fa, fc, fok, fvs⟩ ⟨x, y, fz, fw, ff, ⟨0, 0, 0, 0⟩, ga, gc, gok, fvs⟩ = true from eqD_g rfl rfl rfl]
    · simp only [go_sem, bin_add, bin_sub, bin_mul, Nat.reduceAdd, Nat.reduceMul, Nat.reduceEqDiff, Nat.reduceLeDiff, Nat.reduceLT, Nat.reduceSub, reduceIte, reduceCtorEq, Int.reduceToNat, Int.reduceNeg, Int.reduceLE, Int.reduceLT, Int.reduceEq, Nat.reduceOr, Nat.reduceShiftRight, Nat.reduceMod, Nat.reduceBNe, Nat.reduceBEq]
    · exact fat' _
    · have := fun x0 x1 x2 x3 x4 => gat (ext H.now (blk (tri18 a' b' c') :: (L ++ (L2 ++ [x0, x1, x2, x3, x4])))) [] (by simp only [ext_nx, List.length_cons, List.length_append, List.length_nil]) x y fz fw ff
      simp only [ext_nil, ext_ext, List.cons_append, List.append_assoc, List.nil_append] at this
      exact this _ _ _ _ _
    · exact fat' _
end
end Go.AX.Tri
