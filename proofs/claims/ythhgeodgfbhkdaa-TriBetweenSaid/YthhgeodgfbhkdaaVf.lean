/- Contracts: the law TriBetween's loops (4): the corners with one w. -/
import Derived.Test.YthhgeodgfbhkdaaVc
set_option linter.unusedVariables false
set_option linter.unusedSimpArgs false
set_option linter.unusedSectionVars false
namespace Go.AX.Tri
open Go.Proofs Go.AX.Mc
set_option linter.unusedSimpArgs false
set_option linter.unusedVariables false
noncomputable section

def upd (p : Wn) (w : Int) (N : Nat) : Wn := ⟨p.x, p.y, p.z, w, p.s, some ⟨N, 0, none⟩, 1, 1, sl_s _ _, [⟨p.z, 0, 0, 0⟩]⟩
structure Up (h h' : AH) (b3 : Nat) (l : List Value) (z : Int) : Prop where
  get : h'.get b3 = some (.cells l 0 0)
  new : h'.get h.nx = some (.cells [.int .i32 z, .int .i32 0, .int .i32 0, .int .i32 0] 0 0)
  nx : h'.nx = h.nx + 1
  lo : h'.lo = h.lo
  old : ∀ b, b < h.nx → b ≠ b3 → h'.get b = h.get b
theorem set_lo {h : AH} {b : Nat} {x : AB} (hl : h.lo ≤ b) : (AH.set h b x).lo = h.lo := by
  show min h.lo b = h.lo
  omega
theorem up_of {h : AH} {b3 : Nat} {l l' : List Value} {z : Int} (hb : b3 < h.nx) (hlo : h.lo ≤ b3) :
    Up h (Mc.ext (AH.set (AH.set h b3 (.cells l' 0 0)) b3 (.cells l 0 0)) [some (.cells [.int .i32 z, .int .i32 0, .int .i32 0, .int .i32 0] 0 0)]) b3 l z := by
  have e1 : (AH.set (AH.set h b3 (.cells l' 0 0)) b3 (.cells l 0 0)).nx = h.nx := by rw [nx_set', nx_set']
  refine ⟨?_, ?_, ?_, ?_, ?_⟩
  · rw [ext_get_old _ _ _ (by rw [e1]; exact hb), AH.get_set_same]
  · have := ext_get_new (AH.set (AH.set h b3 (.cells l' 0 0)) b3 (.cells l 0 0)) [some (.cells [.int .i32 z, .int .i32 0, .int .i32 0, .int .i32 0] 0 0)] 0
    rw [Nat.add_zero, e1] at this
    exact this
  · rw [ext_nx, e1]; rfl
  · rw [ext_lo, set_lo (by rw [set_lo hlo]; exact hlo), set_lo hlo]
  · intro b hb' hne
    rw [ext_get_old _ _ _ (by rw [e1]; exact hb'), AH.get_set_ne _ _ _ hne, AH.get_set_ne _ _ _ hne]

theorem step6_0 {env : List Lp} {k0 : List KF} {Q : QF} {b3 : Nat} {w : Int} {x4 : Value} {h : AH} {a b c : Wn} (hb : b3 < h.nx) (hlo : h.lo ≤ b3) (g : h.get b3 = some (.cells (tri18 a b c) 0 0)) (fr : Tr Value)
    (t2 : tmp fr (pa 2) = .int .i32 w) (t3 : tmp fr (pa 3) = .pointer (some ⟨b3, 0, none⟩)) (t4 : tmp fr (pa 4) = x4) (t139 : tmp fr (pa 139) = .int .i64 ((0 : Nat) : Int))
    (hQ : ∀ fr h', Up h h' b3 (tri18 (upd a w h.nx) b c) a.z → tmp fr (pa 2) = .int .i32 w → tmp fr (pa 3) = .pointer (some ⟨b3, 0, none⟩) → tmp fr (pa 4) = x4 → tmp fr (pa 139) = .int .i64 ((1 : Nat) : Int) →
      X T env false (.loop a6l1) (.blk 6 :: k0) fr [] (Mc.ext h' []) Q) :
    X T env false (.loop a6l1) (.blk 6 :: k0) fr [] (Mc.ext h []) Q := by
  rw [X_loop]
  change X _ _ _ (.seq _ _) _ _ _ _ _
  have hlt : ((0 : Nat) : Int) < 3 := by omega
  have hlo2 : h.lo ≤ h.nx := by omega
  unfold tri18 at g
  have w64n : wrapF .i64 (((0 : Nat) : Int) + 1) = ((1 : Nat) : Int) := by rw [w1 (by omega)]
  simp only [t2, t3, t4, t139, hlt, hb, hlo, hlo2, g, nx_set', go_sem, bin_add, bin_sub, bin_mul, Nat.reduceAdd, Nat.reduceMul, Nat.reduceEqDiff, Nat.reduceLeDiff, Nat.reduceLT, Nat.reduceSub, reduceIte, reduceCtorEq, Int.reduceToNat, Int.reduceNeg, Int.reduceLE, Int.reduceLT, Int.reduceEq, Nat.reduceOr, Nat.reduceShiftRight, Nat.reduceMod, Nat.reduceBNe, Nat.reduceBEq]
  refine hQ _ (Mc.ext (AH.set (AH.set h b3 (.cells _ 0 0)) b3 (.cells _ 0 0)) [some _]) (up_of hb hlo) ?_ ?_ ?_ ?_
  all_goals first
    | (simp only [t2, t3, t4, go_sem, bin_add, bin_sub, bin_mul, Nat.reduceAdd, Nat.reduceMul, Nat.reduceEqDiff, Nat.reduceLeDiff, Nat.reduceLT, Nat.reduceSub, reduceIte, reduceCtorEq, Int.reduceToNat, Int.reduceNeg, Int.reduceLE, Int.reduceLT, Int.reduceEq, Nat.reduceOr, Nat.reduceShiftRight, Nat.reduceMod, Nat.reduceBNe, Nat.reduceBEq]; done)
    | (simp only [go_sem, bin_add, bin_sub, bin_mul, Nat.reduceAdd, Nat.reduceMul, Nat.reduceEqDiff, Nat.reduceLeDiff, Nat.reduceLT, Nat.reduceSub, reduceIte, reduceCtorEq, Int.reduceToNat, Int.reduceNeg, Int.reduceLE, Int.reduceLT, Int.reduceEq, Nat.reduceOr, Nat.reduceShiftRight, Nat.reduceMod, Nat.reduceBNe, Nat.reduceBEq]; exact congrArg _ w64n)

theorem step6_1 {env : List Lp} {k0 : List KF} {Q : QF} {b3 : Nat} {w : Int} {x4 : Value} {h : AH} {a b c : Wn} (hb : b3 < h.nx) (hlo : h.lo ≤ b3) (g : h.get b3 = some (.cells (tri18 a b c) 0 0)) (fr : Tr Value)
    (t2 : tmp fr (pa 2) = .int .i32 w) (t3 : tmp fr (pa 3) = .pointer (some ⟨b3, 0, none⟩)) (t4 : tmp fr (pa 4) = x4) (t139 : tmp fr (pa 139) = .int .i64 ((1 : Nat) : Int))
    (hQ : ∀ fr h', Up h h' b3 (tri18 a (upd b w h.nx) c) b.z → tmp fr (pa 2) = .int .i32 w → tmp fr (pa 3) = .pointer (some ⟨b3, 0, none⟩) → tmp fr (pa 4) = x4 → tmp fr (pa 139) = .int .i64 ((2 : Nat) : Int) →
      X T env false (.loop a6l1) (.blk 6 :: k0) fr [] (Mc.ext h' []) Q) :
    X T env false (.loop a6l1) (.blk 6 :: k0) fr [] (Mc.ext h []) Q := by
  rw [X_loop]
  change X _ _ _ (.seq _ _) _ _ _ _ _
  have hlt : ((1 : Nat) : Int) < 3 := by omega
  have hlo2 : h.lo ≤ h.nx := by omega
  unfold tri18 at g
  have w64n : wrapF .i64 (((1 : Nat) : Int) + 1) = ((2 : Nat) : Int) := by rw [w1 (by omega)]
  simp only [t2, t3, t4, t139, hlt, hb, hlo, hlo2, g, nx_set', go_sem, bin_add, bin_sub, bin_mul, Nat.reduceAdd, Nat.reduceMul, Nat.reduceEqDiff, Nat.reduceLeDiff, Nat.reduceLT, Nat.reduceSub, reduceIte, reduceCtorEq, Int.reduceToNat, Int.reduceNeg, Int.reduceLE, Int.reduceLT, Int.reduceEq, Nat.reduceOr, Nat.reduceShiftRight, Nat.reduceMod, Nat.reduceBNe, Nat.reduceBEq]
  refine hQ _ (Mc.ext (AH.set (AH.set h b3 (.cells _ 0 0)) b3 (.cells _ 0 0)) [some _]) (up_of hb hlo) ?_ ?_ ?_ ?_
  all_goals first
    | (simp only [t2, t3, t4, go_sem, bin_add, bin_sub, bin_mul, Nat.reduceAdd, Nat.reduceMul, Nat.reduceEqDiff, Nat.reduceLeDiff, Nat.reduceLT, Nat.reduceSub, reduceIte, reduceCtorEq, Int.reduceToNat, Int.reduceNeg, Int.reduceLE, Int.reduceLT, Int.reduceEq, Nat.reduceOr, Nat.reduceShiftRight, Nat.reduceMod, Nat.reduceBNe, Nat.reduceBEq]; done)
    | (simp only [go_sem, bin_add, bin_sub, bin_mul, Nat.reduceAdd, Nat.reduceMul, Nat.reduceEqDiff, Nat.reduceLeDiff, Nat.reduceLT, Nat.reduceSub, reduceIte, reduceCtorEq, Int.reduceToNat, Int.reduceNeg, Int.reduceLE, Int.reduceLT, Int.reduceEq, Nat.reduceOr, Nat.reduceShiftRight, Nat.reduceMod, Nat.reduceBNe, Nat.reduceBEq]; exact congrArg _ w64n)

theorem step6_2 {env : List Lp} {k0 : List KF} {Q : QF} {b3 : Nat} {w : Int} {x4 : Value} {h : AH} {a b c : Wn} (hb : b3 < h.nx) (hlo : h.lo ≤ b3) (g : h.get b3 = some (.cells (tri18 a b c) 0 0)) (fr : Tr Value)
    (t2 : tmp fr (pa 2) = .int .i32 w) (t3 : tmp fr (pa 3) = .pointer (some ⟨b3, 0, none⟩)) (t4 : tmp fr (pa 4) = x4) (t139 : tmp fr (pa 139) = .int .i64 ((2 : Nat) : Int))
    (hQ : ∀ fr h', Up h h' b3 (tri18 a b (upd c w h.nx)) c.z → tmp fr (pa 2) = .int .i32 w → tmp fr (pa 3) = .pointer (some ⟨b3, 0, none⟩) → tmp fr (pa 4) = x4 → tmp fr (pa 139) = .int .i64 ((3 : Nat) : Int) →
      X T env false (.loop a6l1) (.blk 6 :: k0) fr [] (Mc.ext h' []) Q) :
    X T env false (.loop a6l1) (.blk 6 :: k0) fr [] (Mc.ext h []) Q := by
  rw [X_loop]
  change X _ _ _ (.seq _ _) _ _ _ _ _
  have hlt : ((2 : Nat) : Int) < 3 := by omega
  have hlo2 : h.lo ≤ h.nx := by omega
  unfold tri18 at g
  have w64n : wrapF .i64 (((2 : Nat) : Int) + 1) = ((3 : Nat) : Int) := by rw [w1 (by omega)]
  simp only [t2, t3, t4, t139, hlt, hb, hlo, hlo2, g, nx_set', go_sem, bin_add, bin_sub, bin_mul, Nat.reduceAdd, Nat.reduceMul, Nat.reduceEqDiff, Nat.reduceLeDiff, Nat.reduceLT, Nat.reduceSub, reduceIte, reduceCtorEq, Int.reduceToNat, Int.reduceNeg, Int.reduceLE, Int.reduceLT, Int.reduceEq, Nat.reduceOr, Nat.reduceShiftRight, Nat.reduceMod, Nat.reduceBNe, Nat.reduceBEq]
  refine hQ _ (Mc.ext (AH.set (AH.set h b3 (.cells _ 0 0)) b3 (.cells _ 0 0)) [some _]) (up_of hb hlo) ?_ ?_ ?_ ?_
  all_goals first
    | (simp only [t2, t3, t4, go_sem, bin_add, bin_sub, bin_mul, Nat.reduceAdd, Nat.reduceMul, Nat.reduceEqDiff, Nat.reduceLeDiff, Nat.reduceLT, Nat.reduceSub, reduceIte, reduceCtorEq, Int.reduceToNat, Int.reduceNeg, Int.reduceLE, Int.reduceLT, Int.reduceEq, Nat.reduceOr, Nat.reduceShiftRight, Nat.reduceMod, Nat.reduceBNe, Nat.reduceBEq]; done)
    | (simp only [go_sem, bin_add, bin_sub, bin_mul, Nat.reduceAdd, Nat.reduceMul, Nat.reduceEqDiff, Nat.reduceLeDiff, Nat.reduceLT, Nat.reduceSub, reduceIte, reduceCtorEq, Int.reduceToNat, Int.reduceNeg, Int.reduceLE, Int.reduceLT, Int.reduceEq, Nat.reduceOr, Nat.reduceShiftRight, Nat.reduceMod, Nat.reduceBNe, Nat.reduceBEq]; exact congrArg _ w64n)
end
end Go.AX.Tri
/- Contracts: the law TriBetween's loops (5). -/
namespace Go.AX.Tri
open Go.Proofs Go.AX.Mc
set_option linter.unusedSimpArgs false
set_option linter.unusedVariables false
noncomputable section

theorem loop6z {env : List Lp} {k0 : List KF} {Q : QF} {x8 : Value} {H : AH} {da : Option Addr} {dc : Nat} {ds : List Fd} (hsz : ds.length < 9223372036854775808)
    (hl : ∀ d ∈ ds, ∃ v, d.vs[0]? = some v ∧ v.a = d.z)
    (q2 : ∀ fr h, Ext H h → tmp fr (pa 8) = x8 → Kt T env false k0 .normal fr [] (Mc.ext h []) Q) :
    ∀ (m i : Nat), i + m = ds.length → ∀ (fr : Tr Value) (h : AH), Ext H h → h.lo ≤ h.nx → FdsAt h da ds → tmp fr (pa 8) = x8 → tmp fr (pa 167) = .slice da ds.length dc → tmp fr (pa 168) = .int .i64 ds.length → tmp fr (pa 169) = .int .i64 (i : Int) →
      X T env false (.loop a6l0) (.blk 8 :: k0) fr [] (Mc.ext h []) Q := by
  intro m
  induction m with
  | zero =>
    intro i hi fr h he hlo hv t8 t39 t40 t41
    rw [X_loop]
    change X _ _ _ (.seq _ _) _ _ _ _ _
    simp only [t40, t41, show ¬ ((i : Int) < ds.length) by omega, decide_false, go_sem, bin_add, bin_sub, bin_mul, Nat.reduceAdd, Nat.reduceMul, Nat.reduceEqDiff, Nat.reduceLeDiff, Nat.reduceLT, Nat.reduceSub, reduceIte, reduceCtorEq, Int.reduceToNat, Int.reduceNeg, Int.reduceLE, Int.reduceLT, Int.reduceEq, Nat.reduceOr, Nat.reduceShiftRight, Nat.reduceMod, Nat.reduceBNe, Nat.reduceBEq]
    refine q2 _ h he ?_
    all_goals simp only [t8, go_sem, bin_add, bin_sub, bin_mul, Nat.reduceAdd, Nat.reduceMul, Nat.reduceEqDiff, Nat.reduceLeDiff, Nat.reduceLT, Nat.reduceSub, reduceIte, reduceCtorEq, Int.reduceToNat, Int.reduceNeg, Int.reduceLE, Int.reduceLT, Int.reduceEq, Nat.reduceOr, Nat.reduceShiftRight, Nat.reduceMod, Nat.reduceBNe, Nat.reduceBEq]
  | succ m ih =>
    intro i hi fr h he hlo hv t8 t39 t40 t41
    have hlt : (i : Int) < ds.length := by omega
    obtain ⟨d, ed⟩ : ∃ v, ds[i]? = some v := ⟨ds[i]'(by omega), List.getElem?_eq_getElem (by omega)⟩
    obtain ⟨v, ev, hz⟩ := hl d (List.mem_of_getElem? ed)
    obtain ⟨bb, oo, fd, nb, rb, ib⟩ := fd_idx (c := dc) hv ed
    obtain ⟨bv, ov, nv, rv, iv⟩ := vs_idx (c := d.c) fd.vec ev
    rw [Nat.zero_mul, Nat.add_zero] at rv
    simp only [Nat.zero_mul, Nat.add_zero] at iv
    have iv' : ∀ H, idxS 4 (.slice d.a d.vs.length d.c) (.int .i64 0) H = some (.val (.pointer (some ⟨bv, ov, none⟩)) H) := iv
    have rv1 : rd h bv ov 1 = some [.int .i32 d.z] := by
      have := rd_part rv 0 1 (by omega)
      rw [Nat.add_zero] at this
      rw [this, ← hz]; rfl
    rw [X_loop]
    change X _ _ _ (.seq _ _) _ _ _ _ _
    simp only [Fd.cs, t8, t39, t40, t41, hlt, ib, nb, rd_old _ _ _ _ _ nb, rb, hlo, go_sem, bin_add, bin_sub, bin_mul, Nat.reduceAdd, Nat.reduceMul, Nat.reduceEqDiff, Nat.reduceLeDiff, Nat.reduceLT, Nat.reduceSub, reduceIte, reduceCtorEq, Int.reduceToNat, Int.reduceNeg, Int.reduceLE, Int.reduceLT, Int.reduceEq, Nat.reduceOr, Nat.reduceShiftRight, Nat.reduceMod, Nat.reduceBNe, Nat.reduceBEq]
    refine X_drawE 0 (by rfl) ?_
    simp only [Fd.cs, t8, t39, t40, t41, iv', nv, rd_old _ _ _ _ _ nv, rv1, eq_self, go_sem, bin_add, bin_sub, bin_mul, Nat.reduceAdd, Nat.reduceMul, Nat.reduceEqDiff, Nat.reduceLeDiff, Nat.reduceLT, Nat.reduceSub, reduceIte, reduceCtorEq, Int.reduceToNat, Int.reduceNeg, Int.reduceLE, Int.reduceLT, Int.reduceEq, Nat.reduceOr, Nat.reduceShiftRight, Nat.reduceMod, Nat.reduceBNe, Nat.reduceBEq]
    have e1 : Ext h (Mc.ext h [some (.cells d.cs 0 0)]) := Ext.ext _ _
    have hlo1 : (Mc.ext h [some (.cells d.cs 0 0)]).lo ≤ (Mc.ext h [some (.cells d.cs 0 0)]).nx := by rw [ext_lo, ext_nx]; omega
    refine ih (i + 1) (by omega) _ _ (he.trans e1) hlo1 (e1.fds hv) ?_ ?_ ?_ ?_
    all_goals simp only [t8, t39, t40, t41, w1 (show i < 9223372036854775807 by omega), go_sem, bin_add, bin_sub, bin_mul, Nat.reduceAdd, Nat.reduceMul, Nat.reduceEqDiff, Nat.reduceLeDiff, Nat.reduceLT, Nat.reduceSub, reduceIte, reduceCtorEq, Int.reduceToNat, Int.reduceNeg, Int.reduceLE, Int.reduceLT, Int.reduceEq, Nat.reduceOr, Nat.reduceShiftRight, Nat.reduceMod, Nat.reduceBNe, Nat.reduceBEq]
end
end Go.AX.Tri
