/- TriMesh, in the calculus. -/
import Derived.Test.YthhgeodgfbhkdaaNi
set_option linter.unusedVariables false
set_option linter.unusedSimpArgs false
set_option linter.unusedSectionVars false
namespace Go.AX.Tri
open Go.Proofs Go.AX.Mc
set_option linter.unusedSimpArgs false
set_option linter.unusedVariables false
noncomputable section

theorem looks5 {K : List KF} {Q : QF} {mp right top : Nat} {h : AH} {P : List (Int × Int)} {L : CL} (hc : Cnt P L) (hg : h.get mp = some (.map (ents L 0) L.length)) (hC : CovO P right top)
    (q2 : ∀ fr, Kt T [] false K .normal fr [] (ext h []) Q) :
    ∀ (m x : Nat), x + m = 16 → ∀ fr, FrL mp right top fr → tmp fr (pa 143) = .int .i64 (x : Int) → X T [] false (.loop a5l1) (.blk 8 :: K) fr [] (ext h []) Q := by
  intro m
  induction m with
  | zero =>
    intro x hx fr F t143
    obtain rfl : x = 16 := hx
    rw [X_loop]
    change X _ _ _ (.seq _ _) _ _ _ _ _
    simp only [t143, show ¬ (((16 : Nat) : Int) < 16) by omega, decide_false, go_sem, bin_add, bin_sub, bin_mul, Nat.reduceAdd, Nat.reduceMul, Nat.reduceEqDiff, Nat.reduceLeDiff, Nat.reduceLT, Nat.reduceSub, reduceIte, reduceCtorEq, Int.reduceToNat, Int.reduceNeg, Int.reduceLE, Int.reduceLT, Int.reduceEq, Nat.reduceOr, Nat.reduceShiftRight, Nat.reduceMod, Nat.reduceBNe, Nat.reduceBEq]
    exact q2 _
  | succ m ih =>
    intro x hx fr F t143
    obtain ⟨t10, t22, t23⟩ := F
    have hlt : (x : Int) < 16 := by omega
    have hxm : x + 1 + m = 16 := by omega
    have wn := w64_succ x (by omega)
    rw [X_loop]
    change X _ _ _ (.seq _ _) _ _ _ _ _
    simp only [t143, hlt, go_sem, bin_add, bin_sub, bin_mul, Nat.reduceAdd, Nat.reduceMul, Nat.reduceEqDiff, Nat.reduceLeDiff, Nat.reduceLT, Nat.reduceSub, reduceIte, reduceCtorEq, Int.reduceToNat, Int.reduceNeg, Int.reduceLE, Int.reduceLT, Int.reduceEq, Nat.reduceOr, Nat.reduceShiftRight, Nat.reduceMod, Nat.reduceBNe, Nat.reduceBEq]
    refine look5 hc hg hC (Nat.lt_of_lt_of_le (Nat.lt_succ_of_le (Nat.le_add_right x m)) (Nat.le_of_eq hx)) ?_ 16 0 rfl _ ⟨?_, ?_, ?_⟩ ?_ ?_ ?_
    · intro fr' F' t143'
      obtain ⟨t10', t22', t23'⟩ := F'
      simp only [t143', wn, go_sem, bin_add, bin_sub, bin_mul, Nat.reduceAdd, Nat.reduceMul, Nat.reduceEqDiff, Nat.reduceLeDiff, Nat.reduceLT, Nat.reduceSub, reduceIte, reduceCtorEq, Int.reduceToNat, Int.reduceNeg, Int.reduceLE, Int.reduceLT, Int.reduceEq, Nat.reduceOr, Nat.reduceShiftRight, Nat.reduceMod, Nat.reduceBNe, Nat.reduceBEq]
      refine ih (x + 1) hxm _ ⟨?_, ?_, ?_⟩ ?_
      all_goals simp only [t10', t22', t23', go_sem, bin_add, bin_sub, bin_mul, Nat.reduceAdd, Nat.reduceMul, Nat.reduceEqDiff, Nat.reduceLeDiff, Nat.reduceLT, Nat.reduceSub, reduceIte, reduceCtorEq, Int.reduceToNat, Int.reduceNeg, Int.reduceLE, Int.reduceLT, Int.reduceEq, Nat.reduceOr, Nat.reduceShiftRight, Nat.reduceMod, Nat.reduceBNe, Nat.reduceBEq]
    all_goals simp only [t10, t22, t23, t143, go_sem, bin_add, bin_sub, bin_mul, Nat.reduceAdd, Nat.reduceMul, Nat.reduceEqDiff, Nat.reduceLeDiff, Nat.reduceLT, Nat.reduceSub, reduceIte, reduceCtorEq, Int.reduceToNat, Int.reduceNeg, Int.reduceLE, Int.reduceLT, Int.reduceEq, Nat.reduceOr, Nat.reduceShiftRight, Nat.reduceMod, Nat.reduceBNe, Nat.reduceBEq]
    all_goals rfl

theorem law5 (H : AH) (ax ay af : Option Addr) (cx cy cf : Nat) (xs ys : List Int) (fl : List Bool) (okx : Sl ax) (oky : Sl ay) (okf : Sl af) (hx : IsAt H ax xs) (hy : IsAt H ay ys) (hf : BsAt H af fl) :
    C T [] 5 [.slice ax xs.length cx, .slice ay ys.length cy, .slice af fl.length cf] H fun x H' => x = .ret (.bool true) ∧ H' = H := by
  rw [C_fn T5 rfl]
  simp only [a5, c11, go_sem, bin_add, bin_sub, bin_mul, Nat.reduceAdd, Nat.reduceMul, Nat.reduceEqDiff, Nat.reduceLeDiff, Nat.reduceLT, Nat.reduceSub, reduceIte, reduceCtorEq, Int.reduceToNat, Int.reduceNeg, Int.reduceLE, Int.reduceLT, Int.reduceEq, Nat.reduceOr, Nat.reduceShiftRight, Nat.reduceMod, Nat.reduceBNe, Nat.reduceBEq]
  refine c17 (H := H.now) okx (Nat.le_refl _) (hx.mono (h' := H.now) (Nat.le_refl _) fun _ _ _ _ => rfl) _ ?_
  intro h1 hdU us e1 i1 a1 l1
  simp only [go_sem, bin_add, bin_sub, bin_mul, Nat.reduceAdd, Nat.reduceMul, Nat.reduceEqDiff, Nat.reduceLeDiff, Nat.reduceLT, Nat.reduceSub, reduceIte, reduceCtorEq, Int.reduceToNat, Int.reduceNeg, Int.reduceLE, Int.reduceLT, Int.reduceEq, Nat.reduceOr, Nat.reduceShiftRight, Nat.reduceMod, Nat.reduceBNe, Nat.reduceBEq]
  refine c17 (H := h1) oky (by rw [e1.lo]; exact e1.nx) (hy.mono (h' := h1) e1.nx fun b hb o n => e1.rd hb o n) _ ?_
  intro h2 hdV vs e2 i2 a2 l2
  have i1' : IntsAt h2 hdU us := i1.mono e2.nx fun b hb o n => e2.rd hb o n
  have lo2 : h2.lo = H.nx := by rw [e2.lo, e1.lo]; rfl
  have nx2 : H.nx ≤ h2.nx := Nat.le_trans e1.nx e2.nx
  have hle2 : h2.lo ≤ h2.nx := by rw [lo2]; exact nx2
  have lU := ints_len i1'
  have lV := ints_len i2
  have hu0 : 0 < us.length := (List.getElem?_eq_some_iff.1 a1.z).1
  have hv0 : 0 < vs.length := (List.getElem?_eq_some_iff.1 a2.z).1
  have wu : wrapF .i64 ((us.length : Int) - 1) = ((us.length - 1 : Nat) : Int) := by rw [w64_id (by omega) (by omega)]; omega
  have wv : wrapF .i64 ((vs.length : Int) - 1) = ((vs.length - 1 : Nat) : Int) := by rw [w64_id (by omega) (by omega)]; omega
  have j1 := i1'
  have j2 := i2
  obtain ⟨bU, rU, rfl, _⟩ := j1
  obtain ⟨bV, rV, rfl, _⟩ := j2
  clear i1
  obtain ⟨right, er⟩ : ∃ r, us[us.length - 1]? = some r := ⟨us[us.length - 1]'(Nat.sub_lt hu0 (Nat.succ_pos 0)), List.getElem?_eq_getElem _⟩
  obtain ⟨top, et⟩ : ∃ r, vs[vs.length - 1]? = some r := ⟨vs[vs.length - 1]'(Nat.sub_lt hv0 (Nat.succ_pos 0)), List.getElem?_eq_getElem _⟩
  rw [show h2 = Mc.ext h2 [] from rfl]
  simp only [hle2, lU, lV, wu, e_mkMap, go_sem, bin_add, bin_sub, bin_mul, Nat.reduceAdd, Nat.reduceMul, Nat.reduceEqDiff, Nat.reduceLeDiff, Nat.reduceLT, Nat.reduceSub, reduceIte, reduceCtorEq, Int.reduceToNat, Int.reduceNeg, Int.reduceLE, Int.reduceLT, Int.reduceEq, Nat.reduceOr, Nat.reduceShiftRight, Nat.reduceMod, Nat.reduceBNe, Nat.reduceBEq]
  have hu5 : us.length - 1 = us.length - 1 := rfl
  refine outer5 (h0 := Mc.ext h2 [blk [.slice (some ⟨bU, 0, rU⟩) us.length us.length], blk [.slice (some ⟨bV, 0, rV⟩) vs.length vs.length], some (.map [] 0)]) (M := H.nx) (fa := af) (fc := cf) (fl := fl) (p8 := h2.nx) (p9 := h2.nx + 1) (hdU := .slice (some ⟨bU, 0, rU⟩) us.length us.length) (hdV := .slice (some ⟨bV, 0, rV⟩) vs.length vs.length) (mp := h2.nx + 2) okf a1 a2 l1 l2 er et ?_ (us.length - 1) 0 (Nat.zero_add _) _ (Mc.ext h2 [blk [.slice (some ⟨bU, 0, rU⟩) us.length us.length], blk [.slice (some ⟨bV, 0, rV⟩) vs.length vs.length], some (.map [] 0)]) [] 0 0 (Nat.zero_le _) (Nat.zero_le _) a1.z ?_ ?_ ?_ ⟨?_, ?_, ?_, ?_, ?_, ?_, ?_⟩
  · intro fr h P hC J U t8 t9 t10
    obtain ⟨L, hc, hg⟩ := J.map
    have n8 := U.n8
    have n9 := U.n9
    have r8 := U.r8
    have r9 := U.r9
    obtain ⟨bu, nbu, rbu, ibu⟩ := ints_idx U.hU er
    obtain ⟨bv, nbv, rbv, ibv⟩ := ints_idx U.hV et
    simp only [go_sem, bin_add, bin_sub, bin_mul, Nat.reduceAdd, Nat.reduceMul, Nat.reduceEqDiff, Nat.reduceLeDiff, Nat.reduceLT, Nat.reduceSub, reduceIte, reduceCtorEq, Int.reduceToNat, Int.reduceNeg, Int.reduceLE, Int.reduceLT, Int.reduceEq, Nat.reduceOr, Nat.reduceShiftRight, Nat.reduceMod, Nat.reduceBNe, Nat.reduceBEq]
    refine X_drawE (H := h) (L := []) 0 (by rfl) ?_
    simp only [t8, t9, t10, n8, n9, nbu, nbv, r8, r9, rbu, rbv, ibu, ibv, lU, lV, wu, wv, rd_old _ _ _ _ _ nbu, rd_old _ _ _ _ _ nbv, go_sem, bin_add, bin_sub, bin_mul, Nat.reduceAdd, Nat.reduceMul, Nat.reduceEqDiff, Nat.reduceLeDiff, Nat.reduceLT, Nat.reduceSub, reduceIte, reduceCtorEq, Int.reduceToNat, Int.reduceNeg, Int.reduceLE, Int.reduceLT, Int.reduceEq, Nat.reduceOr, Nat.reduceShiftRight, Nat.reduceMod, Nat.reduceBNe, Nat.reduceBEq]
    refine looks5 hc hg hC ?_ 16 0 rfl _ ⟨?_, ?_, ?_⟩ ?_
    · intro fr'
      simp only [go_sem, bin_add, bin_sub, bin_mul, Nat.reduceAdd, Nat.reduceMul, Nat.reduceEqDiff, Nat.reduceLeDiff, Nat.reduceLT, Nat.reduceSub, reduceIte, reduceCtorEq, Int.reduceToNat, Int.reduceNeg, Int.reduceLE, Int.reduceLT, Int.reduceEq, Nat.reduceOr, Nat.reduceShiftRight, Nat.reduceMod, Nat.reduceBNe, Nat.reduceBEq]
      exact trim_clo H _ _ rfl J.lo
    all_goals simp only [t10, go_sem, bin_add, bin_sub, bin_mul, Nat.reduceAdd, Nat.reduceMul, Nat.reduceEqDiff, Nat.reduceLeDiff, Nat.reduceLT, Nat.reduceSub, reduceIte, reduceCtorEq, Int.reduceToNat, Int.reduceNeg, Int.reduceLE, Int.reduceLT, Int.reduceEq, Nat.reduceOr, Nat.reduceShiftRight, Nat.reduceMod, Nat.reduceBNe, Nat.reduceBEq]
    all_goals rfl
  · intro x y hx16 hy16
    rw [if_neg (fun k => Nat.not_lt_zero _ k.1)]; rfl
  · refine ⟨by rw [ext_lo, lo2]; exact Nat.le_refl _, by rw [ext_lo, ext_nx]; exact Nat.le_trans hle2 (Nat.le_add_right _ _), Nat.le_refl _, by rw [ext_nx]; exact Nat.lt_succ_self _, Nat.le_trans nx2 (Nat.le_add_right _ _), ⟨[], fun x y => rfl, ext_get_new h2 _ 2⟩, fun _ _ _ => rfl⟩
  · refine ⟨by rw [ext_nx]; exact Nat.lt_add_of_pos_right (show 0 < 3 by decide), by rw [ext_nx]; exact Nat.add_lt_add_left (show 1 < 3 by decide) _, by rw [rd_new0]; rfl, by rw [rd_new]; rfl, ?_, ?_, ?_⟩
    · exact i1'.mono (by rw [ext_nx]; exact Nat.le_add_right _ _) fun b hb o n => rd_old _ _ _ _ _ hb
    · exact i2.mono (by rw [ext_nx]; exact Nat.le_add_right _ _) fun b hb o n => rd_old _ _ _ _ _ hb
    · exact hf.mono (by rw [ext_nx]; exact Nat.le_trans nx2 (Nat.le_add_right _ _)) fun b hb o n => by
        rw [rd_old _ _ _ _ _ (Nat.lt_of_lt_of_le hb nx2), e2.rd (Nat.lt_of_lt_of_le hb e1.nx), e1.rd hb]; rfl
  all_goals simp only [go_sem, bin_add, bin_sub, bin_mul, Nat.reduceAdd, Nat.reduceMul, Nat.reduceEqDiff, Nat.reduceLeDiff, Nat.reduceLT, Nat.reduceSub, reduceIte, reduceCtorEq, Int.reduceToNat, Int.reduceNeg, Int.reduceLE, Int.reduceLT, Int.reduceEq, Nat.reduceOr, Nat.reduceShiftRight, Nat.reduceMod, Nat.reduceBNe, Nat.reduceBEq]
  all_goals rfl
end
end Go.AX.Tri
