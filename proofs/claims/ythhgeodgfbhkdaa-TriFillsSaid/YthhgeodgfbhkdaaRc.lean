/- Contracts: the document's Fill (2). -/
import Derived.Test.YthhgeodgfbhkdaaRb
set_option linter.unusedVariables false
set_option linter.unusedSimpArgs false
set_option linter.unusedSectionVars false
namespace Go.AX.Tri
open Go.Proofs Go.AX.Mc
set_option linter.unusedSimpArgs false
set_option linter.unusedVariables false
noncomputable section

def fl28 (f : Fc) (L : List (Int × Int)) : List Fg := L.filterMap fun c => fragF f c.1 c.2
theorem fl28_snoc (f : Fc) (L : List (Int × Int)) (x y : Int) : fl28 f (L ++ [(x, y)]) = fl28 f L ++ (fragF f x y).toList := by
  unfold fl28
  rw [List.filterMap_append]
  congr 1
theorem fl28_len (f : Fc) (L : List (Int × Int)) (h : L.length < 4096) : (fl28 f L).length < 10000 := Nat.lt_of_le_of_lt (List.length_filterMap_le _ _) (by omega)

section
variable {env : List Lp} {K : List KF} {Q : QF} {H : AH} {a b c : Wn} {px py pw ph : Nat} (hbad : badL [a, b, c] = false) (wa : WnAt H a) (wb : WnAt H b) (wc : WnAt H c) (hx : px + pw ≤ 64) (hy : py + ph ≤ 64)
include hbad wa wb wc hx hy

theorem inner28 (j : Nat) (hj : j < ph)
    (hQ : ∀ fr h hd, Inv28 H a b c px py pw ph h hd (fl28 (turnF a b c) (rowsL px py pw (j + 1))) → Fr28 H.nx hd fr → tmp fr (pa 10) = .int .i64 ((py + j : Nat) : Int) → Kt T env false K .normal fr [] (ext h []) Q) :
    ∀ (r i : Nat), i + r = pw → ∀ fr h hd, Inv28 H a b c px py pw ph h hd (fl28 (turnF a b c) (rowsL px py pw j ++ rowL px pw ((py + j : Nat) : Int) i)) → Fr28 H.nx hd fr → tmp fr (pa 10) = .int .i64 ((py + j : Nat) : Int) → tmp fr (pa 11) = .int .i64 ((px + i : Nat) : Int) →
      X T env false (.loop a28l0) (.blk 2 :: K) fr [] (ext h []) Q := by
  intro r
  induction r with
  | zero =>
    intro i hi fr h hd I F t10 t11
    obtain rfl : i = pw := by omega
    rw [← rowsL_succ] at I
    have F0 := F
    obtain ⟨t4, t5, t6, t7, t9⟩ := F
    have n3 : H.nx + 3 < h.nx := by have := I.nx; omega
    have p0 : rd h (H.nx + 3) 0 1 = some [.int .i64 (px : Int)] := by rw [rd_rdB, I.gp]; rfl
    have p2 : rd h (H.nx + 3) 2 1 = some [.int .i64 (i : Int)] := by rw [rd_rdB, I.gp]; rfl
    have e : wrapF .i64 ((px : Int) + (i : Int)) = ((px + i : Nat) : Int) := by rw [w64_id (by omega) (by omega)]; omega
    rw [X_loop]
    change X _ _ _ (.seq _ _) _ _ _ _ _
    simp only [t7, t11, n3, p0, p2, e, Int.lt_irrefl, go_sem, bin_add, bin_sub, bin_mul, Nat.reduceAdd, Nat.reduceMul, Nat.reduceEqDiff, Nat.reduceLeDiff, Nat.reduceLT, Nat.reduceSub, reduceIte, reduceCtorEq, Int.reduceToNat, Int.reduceNeg, Int.reduceLE, Int.reduceLT, Int.reduceEq, Nat.reduceOr, Nat.reduceShiftRight, Nat.reduceMod, Nat.reduceBNe, Nat.reduceBEq]
    refine hQ _ _ hd I ⟨?_, ?_, ?_, ?_, ?_⟩ ?_
    all_goals simp only [t4, t5, t6, t7, t9, t10, go_sem, bin_add, bin_sub, bin_mul, Nat.reduceAdd, Nat.reduceMul, Nat.reduceEqDiff, Nat.reduceLeDiff, Nat.reduceLT, Nat.reduceSub, reduceIte, reduceCtorEq, Int.reduceToNat, Int.reduceNeg, Int.reduceLE, Int.reduceLT, Int.reduceEq, Nat.reduceOr, Nat.reduceShiftRight, Nat.reduceMod, Nat.reduceBNe, Nat.reduceBEq]
  | succ r ih =>
    intro i hi fr h hd I F t10 t11
    refine iter28 hbad wa wb wc hx (fl28_len _ _ (pre_len px py pw j i ((py + j : Nat) : Int) (by omega) (by omega) (by omega))) I F (px + i) (py + j) (by omega) (by omega) t10 t11 ?_
    intro fr' h' hd' I' F' t10' t11'
    rw [← fl28_snoc, List.append_assoc, ← rowL_succ] at I'
    exact ih (i + 1) (by omega) fr' h' hd' I' F' t10' t11'

theorem outer28 (hQ : ∀ fr h hd, Inv28 H a b c px py pw ph h hd (fl28 (turnF a b c) (cellsL px py pw ph)) → Fr28 H.nx hd fr → Kt T env false K .normal fr [] (ext h []) Q) :
    ∀ (r j : Nat), j + r = ph → ∀ fr h hd, Inv28 H a b c px py pw ph h hd (fl28 (turnF a b c) (rowsL px py pw j)) → Fr28 H.nx hd fr → tmp fr (pa 10) = .int .i64 ((py + j : Nat) : Int) →
      X T env false (.loop a28l1) (.blk 0 :: K) fr [] (ext h []) Q := by
  intro r
  induction r with
  | zero =>
    intro j hj fr h hd I F t10
    obtain rfl : j = ph := by omega
    obtain ⟨t4, t5, t6, t7, t9⟩ := F
    have n3 : H.nx + 3 < h.nx := by have := I.nx; omega
    have p1 : rd h (H.nx + 3) 1 1 = some [.int .i64 (py : Int)] := by rw [rd_rdB, I.gp]; rfl
    have p3 : rd h (H.nx + 3) 3 1 = some [.int .i64 (j : Int)] := by rw [rd_rdB, I.gp]; rfl
    have e : wrapF .i64 ((py : Int) + (j : Int)) = ((py + j : Nat) : Int) := by rw [w64_id (by omega) (by omega)]; omega
    rw [X_loop]
    change X _ _ _ (.seq _ _) _ _ _ _ _
    simp only [t7, t10, n3, p1, p3, e, Int.lt_irrefl, go_sem, bin_add, bin_sub, bin_mul, Nat.reduceAdd, Nat.reduceMul, Nat.reduceEqDiff, Nat.reduceLeDiff, Nat.reduceLT, Nat.reduceSub, reduceIte, reduceCtorEq, Int.reduceToNat, Int.reduceNeg, Int.reduceLE, Int.reduceLT, Int.reduceEq, Nat.reduceOr, Nat.reduceShiftRight, Nat.reduceMod, Nat.reduceBNe, Nat.reduceBEq]
    refine hQ _ _ hd I ⟨?_, ?_, ?_, ?_, ?_⟩
    all_goals simp only [t4, t5, t6, t7, t9, go_sem, bin_add, bin_sub, bin_mul, Nat.reduceAdd, Nat.reduceMul, Nat.reduceEqDiff, Nat.reduceLeDiff, Nat.reduceLT, Nat.reduceSub, reduceIte, reduceCtorEq, Int.reduceToNat, Int.reduceNeg, Int.reduceLE, Int.reduceLT, Int.reduceEq, Nat.reduceOr, Nat.reduceShiftRight, Nat.reduceMod, Nat.reduceBNe, Nat.reduceBEq]
  | succ r ih =>
    intro j hj fr h hd I F t10
    obtain ⟨t4, t5, t6, t7, t9⟩ := F
    have n3 : H.nx + 3 < h.nx := by have := I.nx; omega
    have p0 : rd h (H.nx + 3) 0 1 = some [.int .i64 (px : Int)] := by rw [rd_rdB, I.gp]; rfl
    have p1 : rd h (H.nx + 3) 1 1 = some [.int .i64 (py : Int)] := by rw [rd_rdB, I.gp]; rfl
    have p3 : rd h (H.nx + 3) 3 1 = some [.int .i64 (ph : Int)] := by rw [rd_rdB, I.gp]; rfl
    have e : wrapF .i64 ((py : Int) + (ph : Int)) = ((py + ph : Nat) : Int) := by rw [w64_id (by omega) (by omega)]; omega
    have hlt : ((py + j : Nat) : Int) < ((py + ph : Nat) : Int) := by omega
    rw [X_loop]
    change X _ _ _ (.seq _ _) _ _ _ _ _
    simp only [t7, t10, n3, p0, p1, p3, e, hlt, go_sem, bin_add, bin_sub, bin_mul, Nat.reduceAdd, Nat.reduceMul, Nat.reduceEqDiff, Nat.reduceLeDiff, Nat.reduceLT, Nat.reduceSub, reduceIte, reduceCtorEq, Int.reduceToNat, Int.reduceNeg, Int.reduceLE, Int.reduceLT, Int.reduceEq, Nat.reduceOr, Nat.reduceShiftRight, Nat.reduceMod, Nat.reduceBNe, Nat.reduceBEq]
    refine inner28 hbad wa wb wc hx hy j (by omega) ?_ pw 0 (by omega) _ h hd ?_ ⟨?_, ?_, ?_, ?_, ?_⟩ ?_ ?_
    · intro fr' h' hd' I' F' t10'
      obtain ⟨t4', t5', t6', t7', t9'⟩ := F'
      simp only [t10', go_sem, bin_add, bin_sub, bin_mul, Nat.reduceAdd, Nat.reduceMul, Nat.reduceEqDiff, Nat.reduceLeDiff, Nat.reduceLT, Nat.reduceSub, reduceIte, reduceCtorEq, Int.reduceToNat, Int.reduceNeg, Int.reduceLE, Int.reduceLT, Int.reduceEq, Nat.reduceOr, Nat.reduceShiftRight, Nat.reduceMod, Nat.reduceBNe, Nat.reduceBEq]
      refine ih (j + 1) (by omega) _ h' hd' I' ⟨?_, ?_, ?_, ?_, ?_⟩ ?_
      all_goals simp only [t4', t5', t6', t7', t9', w64_succ (py + j) (by omega), go_sem, bin_add, bin_sub, bin_mul, Nat.reduceAdd, Nat.reduceMul, Nat.reduceEqDiff, Nat.reduceLeDiff, Nat.reduceLT, Nat.reduceSub, reduceIte, reduceCtorEq, Int.reduceToNat, Int.reduceNeg, Int.reduceLE, Int.reduceLT, Int.reduceEq, Nat.reduceOr, Nat.reduceShiftRight, Nat.reduceMod, Nat.reduceBNe, Nat.reduceBEq]
      all_goals rfl
    · rw [show rowL px pw ((py + j : Nat) : Int) 0 = [] from rfl, List.append_nil]; exact I
    all_goals simp only [t4, t5, t6, t7, t9, t10, Nat.add_zero, go_sem, bin_add, bin_sub, bin_mul, Nat.reduceAdd, Nat.reduceMul, Nat.reduceEqDiff, Nat.reduceLeDiff, Nat.reduceLT, Nat.reduceSub, reduceIte, reduceCtorEq, Int.reduceToNat, Int.reduceNeg, Int.reduceLE, Int.reduceLT, Int.reduceEq, Nat.reduceOr, Nat.reduceShiftRight, Nat.reduceMod, Nat.reduceBNe, Nat.reduceBEq]
end

theorem c28 {env : List Lp} {a b c : Wn} {px py pw ph : Int} {H : AH} (hlo : H.lo ≤ H.nx) (hbad : badL [a, b, c] = false) (hbox : boxF px py pw ph = true) (wa : WnAt H a) (wb : WnAt H b) (wc : WnAt H c) (Q : AEnd → AH → Prop)
    (hQ : ∀ h hd, Ext H h → FL H.nx h hd (fillL a b c px py pw ph) → Q (.ret hd) h) :
    C T env 28 [a.v, b.v, c.v, .agg [.int .i64 px, .int .i64 py, .int .i64 pw, .int .i64 ph].toArray] H Q := by
  rw [C_fn T28 rfl]
  simp only [a28, Wn.v, Wn.cs, go_sem, bin_add, bin_sub, bin_mul, Nat.reduceAdd, Nat.reduceMul, Nat.reduceEqDiff, Nat.reduceLeDiff, Nat.reduceLT, Nat.reduceSub, reduceIte, reduceCtorEq, Int.reduceToNat, Int.reduceNeg, Int.reduceLE, Int.reduceLT, Int.reduceEq, Nat.reduceOr, Nat.reduceShiftRight, Nat.reduceMod, Nat.reduceBNe, Nat.reduceBEq]
  have e0 : fillL a b c px py pw ph = fl28 (turnF a b c) (cellsL px.toNat py.toNat pw.toNat ph.toNat) := by unfold fillL; rw [hbad, hbox]; rfl
  rw [e0] at hQ
  unfold boxF at hbox
  rw [Bool.and_eq_true] at hbox
  obtain ⟨hx0, hx1, hx2⟩ : 0 ≤ px ∧ 0 ≤ pw ∧ px + pw ≤ 64 := in1_spec hbox.1
  obtain ⟨hy0, hy1, hy2⟩ : 0 ≤ py ∧ 0 ≤ ph ∧ py + ph ≤ 64 := in1_spec hbox.2
  have hp : pcV px.toNat py.toNat pw.toNat ph.toNat = [.int .i64 px, .int .i64 py, .int .i64 pw, .int .i64 ph] := by simp only [pcV, Int.toNat_of_nonneg hx0, Int.toNat_of_nonneg hx1, Int.toNat_of_nonneg hy0, Int.toNat_of_nonneg hy1]
  refine outer28 (px := px.toNat) (py := py.toNat) (pw := pw.toNat) (ph := ph.toNat) hbad wa wb wc (by omega) (by omega) ?_ ph.toNat 0 (by omega) _ (ext H.now [blk a.cs, blk b.cs, blk c.cs, blk [.int .i64 px, .int .i64 py, .int .i64 pw, .int .i64 ph]]) (.slice none 0 0) ⟨?_, ?_, ?_, ?_, ?_, ?_, ?_, ?_, ?_⟩ ⟨?_, ?_, ?_, ?_, ?_⟩ ?_
  · intro fr h hd I F
    obtain ⟨t4, t5, t6, t7, t9⟩ := F
    simp only [t9, go_sem, bin_add, bin_sub, bin_mul, Nat.reduceAdd, Nat.reduceMul, Nat.reduceEqDiff, Nat.reduceLeDiff, Nat.reduceLT, Nat.reduceSub, reduceIte, reduceCtorEq, Int.reduceToNat, Int.reduceNeg, Int.reduceLE, Int.reduceLT, Int.reduceEq, Nat.reduceOr, Nat.reduceShiftRight, Nat.reduceMod, Nat.reduceBNe, Nat.reduceBEq]
    obtain ⟨i1, i2, i3, i4, _, _, _, _, i9⟩ := I
    rcases i9 with ⟨ql0, rfl⟩ | ⟨ql0, b', cs, b1, b2, b3, b4, rfl⟩
    · rw [trim_clo H _ (ext h []) rfl i1]
      exact hQ H _ (Ext.refl H) (.inl ⟨ql0, rfl⟩)
    · generalize fl28 (turnF a b c) (cellsL px.toNat py.toNat pw.toNat ph.toNat) = l at *
      have et : trim H (.slice (some ⟨b', 0, some 0⟩) l.length l.length) (ext h []) = ⟨h.bl, h.nx, min H.lo h.lo⟩ := by
        unfold trim
        rw [clo_sl, Bool.and_false]; rfl
      rw [et]
      refine hQ _ _ ⟨?_, ?_, ?_⟩ ?_
      · show H.nx ≤ h.nx; omega
      · show min H.lo h.lo = H.lo; omega
      · intro z hz; exact i4 z hz
      · exact FL.mono (h := h) (M := H.nx + 4) (Nat.le_refl _) (by omega) (fun z cs' k _ _ _ hz _ => hz) (.inr ⟨ql0, b', cs, b1, b2, b3, b4, rfl⟩)
  · rw [ext_lo]; exact Nat.le_refl _
  · rw [ext_lo, ext_nx]; exact Nat.le_add_right _ _
  · rw [ext_nx]; exact Nat.le_refl _
  · intro b hb; exact ext_get_old H.now _ _ hb
  · exact ext_get_new H.now _ 0
  · exact ext_get_new H.now _ 1
  · exact ext_get_new H.now _ 2
  · rw [hp]; exact ext_get_new H.now _ 3
  · exact .inl ⟨rfl, rfl⟩
  all_goals simp only [Int.toNat_of_nonneg hy0, Nat.add_zero, go_sem, bin_add, bin_sub, bin_mul, Nat.reduceAdd, Nat.reduceMul, Nat.reduceEqDiff, Nat.reduceLeDiff, Nat.reduceLT, Nat.reduceSub, reduceIte, reduceCtorEq, Int.reduceToNat, Int.reduceNeg, Int.reduceLE, Int.reduceLT, Int.reduceEq, Nat.reduceOr, Nat.reduceShiftRight, Nat.reduceMod, Nat.reduceBNe, Nat.reduceBEq]
  all_goals rfl
end
end Go.AX.Tri
/- The law TriFills: the corners' vectors are held against their copies. -/
namespace Go.AX.Tri
open Go.Proofs Go.AX.Mc
set_option linter.unusedSimpArgs false
set_option linter.unusedVariables false
noncomputable section

/-- the frame's part that the loops keep. -/
structure Fr8 (x2 x3 x5 x6 x7 : Value) (fr : Tr Value) : Prop where
  t2 : tmp fr (pa 2) = x2
  t3 : tmp fr (pa 3) = x3
  t5 : tmp fr (pa 5) = x5
  t6 : tmp fr (pa 6) = x6
  t7 : tmp fr (pa 7) = x7
/-- three corners and their copies, in two blocks. -/
structure Two (h : AH) (P2 P5 : Nat) (a b c a' b' c' : Wn) : Prop where
  n2 : P2 < h.nx
  n5 : P5 < h.nx
  r2 : rd h P2 0 18 = some (tri18 a b c)
  r5 : rd h P5 0 18 = some (tri18 a' b' c')
  va : VecAt h a.a a.vs
  vb : VecAt h b.a b.vs
  vc : VecAt h c.a c.vs
  va' : VecAt h a'.a a'.vs
  vb' : VecAt h b'.a b'.vs
  vc' : VecAt h c'.a c'.vs
  la : a.l = a.vs.length
  lb : b.l = b.vs.length
  lc : c.l = c.vs.length
  la' : a'.l = a'.vs.length
  lb' : b'.l = b'.vs.length
  lc' : c'.l = c'.vs.length
  ea : a'.vs = a.vs
  eb : b'.vs = b.vs
  ec : c'.vs = c.vs
  za : a.l < 1000
  zb : b.l < 1000
  zc : c.l < 1000

theorem cmpA_in {env : List Lp} {K : List KF} {Q : QF} {h : AH} {x2 x3 x5 x6 x7 : Value} {P2 P5 i : Nat} (hi : i < 3) {p q : Wn} (hx2 : x2 = .pointer (some ⟨P2, 0, none⟩)) (hx5 : x5 = .pointer (some ⟨P5, 0, none⟩)) (n2 : P2 < h.nx) (n5 : P5 < h.nx)
    (s2 : rd h P2 (i * 6 + 5) 1 = some [.slice p.a p.l p.c]) (s5 : rd h P5 (i * 6 + 5) 1 = some [.slice q.a q.l q.c]) (hp : VecAt h p.a p.vs) (hq : VecAt h q.a q.vs) (lp : p.l = p.vs.length) (lq : q.l = q.vs.length) (ev : q.vs = p.vs) (hsz : p.l < 1000)
    (q2 : ∀ fr, Fr8 x2 x3 x5 x6 x7 fr → tmp fr (pa 32) = .int .i64 (i : Int) → Kt T env false K .normal fr [] (ext h []) Q) :
    ∀ (m k : Nat), k + m = p.l → ∀ fr, Fr8 x2 x3 x5 x6 x7 fr → tmp fr (pa 8) = .int .i64 (i : Int) → tmp fr (pa 32) = .int .i64 (i : Int) → tmp fr (pa 39) = .int .i64 (p.l : Int) → tmp fr (pa 40) = .int .i64 (k : Int) →
      X T env false (.loop a8l4) (.blk 2 :: K) fr [] (ext h []) Q := by
  intro m
  induction m with
  | zero =>
    intro k hk fr F ti toi tl tk
    have hk' : k = p.l := hk
    subst hk'
    obtain ⟨t2, t3, t5, t6, t7⟩ := F
    rw [X_loop]
    change X _ _ _ (.seq _ _) _ _ _ _ _
    simp only [tl, tk, Int.lt_irrefl, decide_false, go_sem, bin_add, bin_sub, bin_mul, Nat.reduceAdd, Nat.reduceMul, Nat.reduceEqDiff, Nat.reduceLeDiff, Nat.reduceLT, Nat.reduceSub, reduceIte, reduceCtorEq, Int.reduceToNat, Int.reduceNeg, Int.reduceLE, Int.reduceLT, Int.reduceEq, Nat.reduceOr, Nat.reduceShiftRight, Nat.reduceMod, Nat.reduceBNe, Nat.reduceBEq]
    refine q2 _ ⟨?_, ?_, ?_, ?_, ?_⟩ ?_
    all_goals simp only [t2, t3, t5, t6, t7, toi, go_sem, bin_add, bin_sub, bin_mul, Nat.reduceAdd, Nat.reduceMul, Nat.reduceEqDiff, Nat.reduceLeDiff, Nat.reduceLT, Nat.reduceSub, reduceIte, reduceCtorEq, Int.reduceToNat, Int.reduceNeg, Int.reduceLE, Int.reduceLT, Int.reduceEq, Nat.reduceOr, Nat.reduceShiftRight, Nat.reduceMod, Nat.reduceBNe, Nat.reduceBEq]
  | succ m ih =>
    intro k hk fr F ti toi tl tk
    have hlt : (k : Int) < (p.l : Int) := by omega
    have hkv : k < p.vs.length := by omega
    obtain ⟨v, e1⟩ : ∃ v, p.vs[k]? = some v := ⟨p.vs[k]'hkv, List.getElem?_eq_getElem hkv⟩
    have e2 : q.vs[k]? = some v := by rw [ev]; exact e1
    obtain ⟨b, o, nb, rb, ib⟩ := vs_idx (c := p.c) hp e1
    obtain ⟨b', o', nb', rb', ib'⟩ := vs_idx (c := q.c) hq e2
    rw [← lp] at ib
    rw [← lq] at ib'
    obtain ⟨t2, t3, t5, t6, t7⟩ := F
    have wn := w1 (i := k) (by omega)
    rw [X_loop]
    change X _ _ _ (.seq _ _) _ _ _ _ _
    simp only [tl, tk, hlt, go_sem, bin_add, bin_sub, bin_mul, Nat.reduceAdd, Nat.reduceMul, Nat.reduceEqDiff, Nat.reduceLeDiff, Nat.reduceLT, Nat.reduceSub, reduceIte, reduceCtorEq, Int.reduceToNat, Int.reduceNeg, Int.reduceLE, Int.reduceLT, Int.reduceEq, Nat.reduceOr, Nat.reduceShiftRight, Nat.reduceMod, Nat.reduceBNe, Nat.reduceBEq]
    refine X_drawE 0 (by rfl) ?_
    simp only [V4.cs, t2, t5, hx2, hx5, ti, tk, hi, n2, n5, s2, s5, nb, nb', rd_old _ _ _ _ _ nb, rd_old _ _ _ _ _ nb', rb, rb', ib, ib', bin_neqV', eqV_refl, go_sem, bin_add, bin_sub, bin_mul, Nat.reduceAdd, Nat.reduceMul, Nat.reduceEqDiff, Nat.reduceLeDiff, Nat.reduceLT, Nat.reduceSub, reduceIte, reduceCtorEq, Int.reduceToNat, Int.reduceNeg, Int.reduceLE, Int.reduceLT, Int.reduceEq, Nat.reduceOr, Nat.reduceShiftRight, Nat.reduceMod, Nat.reduceBNe, Nat.reduceBEq]
    refine ih (k + 1) (by omega) _ ⟨?_, ?_, ?_, ?_, ?_⟩ ?_ ?_ ?_ ?_
    all_goals simp only [t2, t3, t5, t6, t7, hx2, hx5, ti, toi, tl, tk, wn, go_sem, bin_add, bin_sub, bin_mul, Nat.reduceAdd, Nat.reduceMul, Nat.reduceEqDiff, Nat.reduceLeDiff, Nat.reduceLT, Nat.reduceSub, reduceIte, reduceCtorEq, Int.reduceToNat, Int.reduceNeg, Int.reduceLE, Int.reduceLT, Int.reduceEq, Nat.reduceOr, Nat.reduceShiftRight, Nat.reduceMod, Nat.reduceBNe, Nat.reduceBEq]

theorem cmpA_st {env : List Lp} {K : List KF} {Q : QF} {h : AH} {x2 x3 x5 x6 x7 : Value} {P2 P5 i : Nat} (hi : i < 3) {p q : Wn} (hx2 : x2 = .pointer (some ⟨P2, 0, none⟩)) (hx5 : x5 = .pointer (some ⟨P5, 0, none⟩)) (n2 : P2 < h.nx) (n5 : P5 < h.nx)
    (s2 : rd h P2 (i * 6 + 5) 1 = some [.slice p.a p.l p.c]) (s5 : rd h P5 (i * 6 + 5) 1 = some [.slice q.a q.l q.c]) (hp : VecAt h p.a p.vs) (hq : VecAt h q.a q.vs) (lp : p.l = p.vs.length) (lq : q.l = q.vs.length) (ev : q.vs = p.vs) (hsz : p.l < 1000)
    (q2 : ∀ fr, Fr8 x2 x3 x5 x6 x7 fr → tmp fr (pa 32) = .int .i64 ((i + 1 : Nat) : Int) → X T env false (.loop a8l5) (.blk 0 :: K) fr [] (ext h []) Q) :
    ∀ fr, Fr8 x2 x3 x5 x6 x7 fr → tmp fr (pa 32) = .int .i64 (i : Int) → X T env false (.loop a8l5) (.blk 0 :: K) fr [] (ext h []) Q := by
  intro fr F toi
  obtain ⟨t2, t3, t5, t6, t7⟩ := F
  have hlt : (i : Int) < 3 := by omega
  have sl := p.ok
  have wn := w1 (i := i) (by omega)
  rw [X_loop]
  change X _ _ _ (.seq _ _) _ _ _ _ _
  simp only [t2, hx2, toi, hlt, hi, n2, s2, sl _ _ _, go_sem, bin_add, bin_sub, bin_mul, Nat.reduceAdd, Nat.reduceMul, Nat.reduceEqDiff, Nat.reduceLeDiff, Nat.reduceLT, Nat.reduceSub, reduceIte, reduceCtorEq, Int.reduceToNat, Int.reduceNeg, Int.reduceLE, Int.reduceLT, Int.reduceEq, Nat.reduceOr, Nat.reduceShiftRight, Nat.reduceMod, Nat.reduceBNe, Nat.reduceBEq]
  refine cmpA_in (x2 := x2) (x3 := x3) (x5 := x5) (x6 := x6) (x7 := x7) hi hx2 hx5 n2 n5 s2 s5 hp hq lp lq ev hsz ?_ p.l 0 (Nat.zero_add _) _ ⟨?_, ?_, ?_, ?_, ?_⟩ ?_ ?_ ?_ ?_
  · intro fr' F' toi'
    obtain ⟨t2', t3', t5', t6', t7'⟩ := F'
    simp only [toi', go_sem, bin_add, bin_sub, bin_mul, Nat.reduceAdd, Nat.reduceMul, Nat.reduceEqDiff, Nat.reduceLeDiff, Nat.reduceLT, Nat.reduceSub, reduceIte, reduceCtorEq, Int.reduceToNat, Int.reduceNeg, Int.reduceLE, Int.reduceLT, Int.reduceEq, Nat.reduceOr, Nat.reduceShiftRight, Nat.reduceMod, Nat.reduceBNe, Nat.reduceBEq]
    refine q2 _ ⟨?_, ?_, ?_, ?_, ?_⟩ ?_
    all_goals simp only [t2', t3', t5', t6', t7', wn, go_sem, bin_add, bin_sub, bin_mul, Nat.reduceAdd, Nat.reduceMul, Nat.reduceEqDiff, Nat.reduceLeDiff, Nat.reduceLT, Nat.reduceSub, reduceIte, reduceCtorEq, Int.reduceToNat, Int.reduceNeg, Int.reduceLE, Int.reduceLT, Int.reduceEq, Nat.reduceOr, Nat.reduceShiftRight, Nat.reduceMod, Nat.reduceBNe, Nat.reduceBEq]
  all_goals simp only [t2, t3, t5, t6, t7, hx2, hx5, toi, go_sem, bin_add, bin_sub, bin_mul, Nat.reduceAdd, Nat.reduceMul, Nat.reduceEqDiff, Nat.reduceLeDiff, Nat.reduceLT, Nat.reduceSub, reduceIte, reduceCtorEq, Int.reduceToNat, Int.reduceNeg, Int.reduceLE, Int.reduceLT, Int.reduceEq, Nat.reduceOr, Nat.reduceShiftRight, Nat.reduceMod, Nat.reduceBNe, Nat.reduceBEq]
  all_goals rfl

theorem cmpA {env : List Lp} {K : List KF} {Q : QF} {h : AH} {x2 x3 x5 x6 x7 : Value} {P2 P5 : Nat} {a b c a' b' c' : Wn} (hx2 : x2 = .pointer (some ⟨P2, 0, none⟩)) (hx5 : x5 = .pointer (some ⟨P5, 0, none⟩)) (S : Two h P2 P5 a b c a' b' c')
    (q2 : ∀ fr, Fr8 x2 x3 x5 x6 x7 fr → Kt T env false K .normal fr [] (ext h []) Q) :
    ∀ fr, Fr8 x2 x3 x5 x6 x7 fr → tmp fr (pa 32) = .int .i64 0 → X T env false (.loop a8l5) (.blk 0 :: K) fr [] (ext h []) Q := by
  intro fr F toi
  obtain ⟨n2, n5, r2, r5, va, vb, vc, va', vb', vc', la, lb, lc, la', lb', lc', ea, eb, ec, za, zb, zc⟩ := S
  refine cmpA_st (i := 0) (by decide) hx2 hx5 n2 n5 (rd_part r2 5 1 (by decide)) (rd_part r5 5 1 (by decide)) va va' la la' ea za ?_ fr F toi
  clear F toi fr
  intro fr F toi
  refine cmpA_st (i := 1) (by decide) hx2 hx5 n2 n5 (rd_part r2 11 1 (by decide)) (rd_part r5 11 1 (by decide)) vb vb' lb lb' eb zb ?_ fr F toi
  clear F toi fr
  intro fr F toi
  refine cmpA_st (i := 2) (by decide) hx2 hx5 n2 n5 (rd_part r2 17 1 (by decide)) (rd_part r5 17 1 (by decide)) vc vc' lc lc' ec zc ?_ fr F toi
  clear F toi fr
  intro fr F toi
  obtain ⟨t2, t3, t5, t6, t7⟩ := F
  rw [X_loop]
  change X _ _ _ (.seq _ _) _ _ _ _ _
  simp only [toi, show ¬ (((2 + 1 : Nat) : Int) < 3) by omega, decide_false, go_sem, bin_add, bin_sub, bin_mul, Nat.reduceAdd, Nat.reduceMul, Nat.reduceEqDiff, Nat.reduceLeDiff, Nat.reduceLT, Nat.reduceSub, reduceIte, reduceCtorEq, Int.reduceToNat, Int.reduceNeg, Int.reduceLE, Int.reduceLT, Int.reduceEq, Nat.reduceOr, Nat.reduceShiftRight, Nat.reduceMod, Nat.reduceBNe, Nat.reduceBEq]
  refine q2 _ ⟨?_, ?_, ?_, ?_, ?_⟩
  all_goals simp only [t2, t3, t5, t6, t7, go_sem, bin_add, bin_sub, bin_mul, Nat.reduceAdd, Nat.reduceMul, Nat.reduceEqDiff, Nat.reduceLeDiff, Nat.reduceLT, Nat.reduceSub, reduceIte, reduceCtorEq, Int.reduceToNat, Int.reduceNeg, Int.reduceLE, Int.reduceLT, Int.reduceEq, Nat.reduceOr, Nat.reduceShiftRight, Nat.reduceMod, Nat.reduceBNe, Nat.reduceBEq]

theorem cmpB_in {env : List Lp} {K : List KF} {Q : QF} {h : AH} {x2 x3 x5 x6 x7 : Value} {P2 P5 i : Nat} (hi : i < 3) {p q : Wn} (hx2 : x2 = .pointer (some ⟨P2, 0, none⟩)) (hx5 : x5 = .pointer (some ⟨P5, 0, none⟩)) (n2 : P2 < h.nx) (n5 : P5 < h.nx)
    (s2 : rd h P2 (i * 6 + 5) 1 = some [.slice p.a p.l p.c]) (s5 : rd h P5 (i * 6 + 5) 1 = some [.slice q.a q.l q.c]) (hp : VecAt h p.a p.vs) (hq : VecAt h q.a q.vs) (lp : p.l = p.vs.length) (lq : q.l = q.vs.length) (ev : q.vs = p.vs) (hsz : p.l < 1000)
    (q2 : ∀ fr, Fr8 x2 x3 x5 x6 x7 fr → tmp fr (pa 166) = .int .i64 (i : Int) → Kt T env false K .normal fr [] (ext h []) Q) :
    ∀ (m k : Nat), k + m = p.l → ∀ fr, Fr8 x2 x3 x5 x6 x7 fr → tmp fr (pa 13) = .int .i64 (i : Int) → tmp fr (pa 166) = .int .i64 (i : Int) → tmp fr (pa 173) = .int .i64 (p.l : Int) → tmp fr (pa 174) = .int .i64 (k : Int) →
      X T env false (.loop a8l0) (.blk 11 :: K) fr [] (ext h []) Q := by
  intro m
  induction m with
  | zero =>
    intro k hk fr F ti toi tl tk
    have hk' : k = p.l := hk
    subst hk'
    obtain ⟨t2, t3, t5, t6, t7⟩ := F
    rw [X_loop]
    change X _ _ _ (.seq _ _) _ _ _ _ _
    simp only [tl, tk, Int.lt_irrefl, decide_false, go_sem, bin_add, bin_sub, bin_mul, Nat.reduceAdd, Nat.reduceMul, Nat.reduceEqDiff, Nat.reduceLeDiff, Nat.reduceLT, Nat.reduceSub, reduceIte, reduceCtorEq, Int.reduceToNat, Int.reduceNeg, Int.reduceLE, Int.reduceLT, Int.reduceEq, Nat.reduceOr, Nat.reduceShiftRight, Nat.reduceMod, Nat.reduceBNe, Nat.reduceBEq]
    refine q2 _ ⟨?_, ?_, ?_, ?_, ?_⟩ ?_
    all_goals simp only [t2, t3, t5, t6, t7, toi, go_sem, bin_add, bin_sub, bin_mul, Nat.reduceAdd, Nat.reduceMul, Nat.reduceEqDiff, Nat.reduceLeDiff, Nat.reduceLT, Nat.reduceSub, reduceIte, reduceCtorEq, Int.reduceToNat, Int.reduceNeg, Int.reduceLE, Int.reduceLT, Int.reduceEq, Nat.reduceOr, Nat.reduceShiftRight, Nat.reduceMod, Nat.reduceBNe, Nat.reduceBEq]
  | succ m ih =>
    intro k hk fr F ti toi tl tk
    have hlt : (k : Int) < (p.l : Int) := by omega
    have hkv : k < p.vs.length := by omega
    obtain ⟨v, e1⟩ : ∃ v, p.vs[k]? = some v := ⟨p.vs[k]'hkv, List.getElem?_eq_getElem hkv⟩
    have e2 : q.vs[k]? = some v := by rw [ev]; exact e1
    obtain ⟨b, o, nb, rb, ib⟩ := vs_idx (c := p.c) hp e1
    obtain ⟨b', o', nb', rb', ib'⟩ := vs_idx (c := q.c) hq e2
    rw [← lp] at ib
    rw [← lq] at ib'
    obtain ⟨t2, t3, t5, t6, t7⟩ := F
    have wn := w1 (i := k) (by omega)
    rw [X_loop]
    change X _ _ _ (.seq _ _) _ _ _ _ _
    simp only [tl, tk, hlt, go_sem, bin_add, bin_sub, bin_mul, Nat.reduceAdd, Nat.reduceMul, Nat.reduceEqDiff, Nat.reduceLeDiff, Nat.reduceLT, Nat.reduceSub, reduceIte, reduceCtorEq, Int.reduceToNat, Int.reduceNeg, Int.reduceLE, Int.reduceLT, Int.reduceEq, Nat.reduceOr, Nat.reduceShiftRight, Nat.reduceMod, Nat.reduceBNe, Nat.reduceBEq]
    refine X_drawE 0 (by rfl) ?_
    simp only [V4.cs, t2, t5, hx2, hx5, ti, tk, hi, n2, n5, s2, s5, nb, nb', rd_old _ _ _ _ _ nb, rd_old _ _ _ _ _ nb', rb, rb', ib, ib', bin_neqV', eqV_refl, go_sem, bin_add, bin_sub, bin_mul, Nat.reduceAdd, Nat.reduceMul, Nat.reduceEqDiff, Nat.reduceLeDiff, Nat.reduceLT, Nat.reduceSub, reduceIte, reduceCtorEq, Int.reduceToNat, Int.reduceNeg, Int.reduceLE, Int.reduceLT, Int.reduceEq, Nat.reduceOr, Nat.reduceShiftRight, Nat.reduceMod, Nat.reduceBNe, Nat.reduceBEq]
    refine ih (k + 1) (by omega) _ ⟨?_, ?_, ?_, ?_, ?_⟩ ?_ ?_ ?_ ?_
    all_goals simp only [t2, t3, t5, t6, t7, hx2, hx5, ti, toi, tl, tk, wn, go_sem, bin_add, bin_sub, bin_mul, Nat.reduceAdd, Nat.reduceMul, Nat.reduceEqDiff, Nat.reduceLeDiff, Nat.reduceLT, Nat.reduceSub, reduceIte, reduceCtorEq, Int.reduceToNat, Int.reduceNeg, Int.reduceLE, Int.reduceLT, Int.reduceEq, Nat.reduceOr, Nat.reduceShiftRight, Nat.reduceMod, Nat.reduceBNe, Nat.reduceBEq]

theorem cmpB_st {env : List Lp} {K : List KF} {Q : QF} {h : AH} {x2 x3 x5 x6 x7 : Value} {P2 P5 i : Nat} (hi : i < 3) {p q : Wn} (hx2 : x2 = .pointer (some ⟨P2, 0, none⟩)) (hx5 : x5 = .pointer (some ⟨P5, 0, none⟩)) (n2 : P2 < h.nx) (n5 : P5 < h.nx)
    (s2 : rd h P2 (i * 6 + 5) 1 = some [.slice p.a p.l p.c]) (s5 : rd h P5 (i * 6 + 5) 1 = some [.slice q.a q.l q.c]) (hp : VecAt h p.a p.vs) (hq : VecAt h q.a q.vs) (lp : p.l = p.vs.length) (lq : q.l = q.vs.length) (ev : q.vs = p.vs) (hsz : p.l < 1000)
    (q2 : ∀ fr, Fr8 x2 x3 x5 x6 x7 fr → tmp fr (pa 166) = .int .i64 ((i + 1 : Nat) : Int) → X T env false (.loop a8l1) (.blk 9 :: K) fr [] (ext h []) Q) :
    ∀ fr, Fr8 x2 x3 x5 x6 x7 fr → tmp fr (pa 166) = .int .i64 (i : Int) → X T env false (.loop a8l1) (.blk 9 :: K) fr [] (ext h []) Q := by
  intro fr F toi
  obtain ⟨t2, t3, t5, t6, t7⟩ := F
  have hlt : (i : Int) < 3 := by omega
  have sl := p.ok
  have wn := w1 (i := i) (by omega)
  rw [X_loop]
  change X _ _ _ (.seq _ _) _ _ _ _ _
  simp only [t2, hx2, toi, hlt, hi, n2, s2, sl _ _ _, go_sem, bin_add, bin_sub, bin_mul, Nat.reduceAdd, Nat.reduceMul, Nat.reduceEqDiff, Nat.reduceLeDiff, Nat.reduceLT, Nat.reduceSub, reduceIte, reduceCtorEq, Int.reduceToNat, Int.reduceNeg, Int.reduceLE, Int.reduceLT, Int.reduceEq, Nat.reduceOr, Nat.reduceShiftRight, Nat.reduceMod, Nat.reduceBNe, Nat.reduceBEq]
  refine cmpB_in (x2 := x2) (x3 := x3) (x5 := x5) (x6 := x6) (x7 := x7) hi hx2 hx5 n2 n5 s2 s5 hp hq lp lq ev hsz ?_ p.l 0 (Nat.zero_add _) _ ⟨?_, ?_, ?_, ?_, ?_⟩ ?_ ?_ ?_ ?_
  · intro fr' F' toi'
    obtain ⟨t2', t3', t5', t6', t7'⟩ := F'
    simp only [toi', go_sem, bin_add, bin_sub, bin_mul, Nat.reduceAdd, Nat.reduceMul, Nat.reduceEqDiff, Nat.reduceLeDiff, Nat.reduceLT, Nat.reduceSub, reduceIte, reduceCtorEq, Int.reduceToNat, Int.reduceNeg, Int.reduceLE, Int.reduceLT, Int.reduceEq, Nat.reduceOr, Nat.reduceShiftRight, Nat.reduceMod, Nat.reduceBNe, Nat.reduceBEq]
    refine q2 _ ⟨?_, ?_, ?_, ?_, ?_⟩ ?_
    all_goals simp only [t2', t3', t5', t6', t7', wn, go_sem, bin_add, bin_sub, bin_mul, Nat.reduceAdd, Nat.reduceMul, Nat.reduceEqDiff, Nat.reduceLeDiff, Nat.reduceLT, Nat.reduceSub, reduceIte, reduceCtorEq, Int.reduceToNat, Int.reduceNeg, Int.reduceLE, Int.reduceLT, Int.reduceEq, Nat.reduceOr, Nat.reduceShiftRight, Nat.reduceMod, Nat.reduceBNe, Nat.reduceBEq]
  all_goals simp only [t2, t3, t5, t6, t7, hx2, hx5, toi, go_sem, bin_add, bin_sub, bin_mul, Nat.reduceAdd, Nat.reduceMul, Nat.reduceEqDiff, Nat.reduceLeDiff, Nat.reduceLT, Nat.reduceSub, reduceIte, reduceCtorEq, Int.reduceToNat, Int.reduceNeg, Int.reduceLE, Int.reduceLT, Int.reduceEq, Nat.reduceOr, Nat.reduceShiftRight, Nat.reduceMod, Nat.reduceBNe, Nat.reduceBEq]
  all_goals rfl

theorem cmpB {env : List Lp} {K : List KF} {Q : QF} {h : AH} {x2 x3 x5 x6 x7 : Value} {P2 P5 : Nat} {a b c a' b' c' : Wn} (hx2 : x2 = .pointer (some ⟨P2, 0, none⟩)) (hx5 : x5 = .pointer (some ⟨P5, 0, none⟩)) (S : Two h P2 P5 a b c a' b' c')
    (q2 : ∀ fr, Fr8 x2 x3 x5 x6 x7 fr → Kt T env false K .normal fr [] (ext h []) Q) :
    ∀ fr, Fr8 x2 x3 x5 x6 x7 fr → tmp fr (pa 166) = .int .i64 0 → X T env false (.loop a8l1) (.blk 9 :: K) fr [] (ext h []) Q := by
  intro fr F toi
  obtain ⟨n2, n5, r2, r5, va, vb, vc, va', vb', vc', la, lb, lc, la', lb', lc', ea, eb, ec, za, zb, zc⟩ := S
  refine cmpB_st (i := 0) (by decide) hx2 hx5 n2 n5 (rd_part r2 5 1 (by decide)) (rd_part r5 5 1 (by decide)) va va' la la' ea za ?_ fr F toi
  clear F toi fr
  intro fr F toi
  refine cmpB_st (i := 1) (by decide) hx2 hx5 n2 n5 (rd_part r2 11 1 (by decide)) (rd_part r5 11 1 (by decide)) vb vb' lb lb' eb zb ?_ fr F toi
  clear F toi fr
  intro fr F toi
  refine cmpB_st (i := 2) (by decide) hx2 hx5 n2 n5 (rd_part r2 17 1 (by decide)) (rd_part r5 17 1 (by decide)) vc vc' lc lc' ec zc ?_ fr F toi
  clear F toi fr
  intro fr F toi
  obtain ⟨t2, t3, t5, t6, t7⟩ := F
  rw [X_loop]
  change X _ _ _ (.seq _ _) _ _ _ _ _
  simp only [toi, show ¬ (((2 + 1 : Nat) : Int) < 3) by omega, decide_false, go_sem, bin_add, bin_sub, bin_mul, Nat.reduceAdd, Nat.reduceMul, Nat.reduceEqDiff, Nat.reduceLeDiff, Nat.reduceLT, Nat.reduceSub, reduceIte, reduceCtorEq, Int.reduceToNat, Int.reduceNeg, Int.reduceLE, Int.reduceLT, Int.reduceEq, Nat.reduceOr, Nat.reduceShiftRight, Nat.reduceMod, Nat.reduceBNe, Nat.reduceBEq]
  refine q2 _ ⟨?_, ?_, ?_, ?_, ?_⟩
  all_goals simp only [t2, t3, t5, t6, t7, go_sem, bin_add, bin_sub, bin_mul, Nat.reduceAdd, Nat.reduceMul, Nat.reduceEqDiff, Nat.reduceLeDiff, Nat.reduceLT, Nat.reduceSub, reduceIte, reduceCtorEq, Int.reduceToNat, Int.reduceNeg, Int.reduceLE, Int.reduceLT, Int.reduceEq, Nat.reduceOr, Nat.reduceShiftRight, Nat.reduceMod, Nat.reduceBNe, Nat.reduceBEq]
end
end Go.AX.Tri
