/- TriBetween, in the calculus. -/
import Derived.Test.YthhgeodgfbhkdaaVf
set_option linter.unusedVariables false
set_option linter.unusedSimpArgs false
set_option linter.unusedSectionVars false
namespace Go.AX.Tri
open Go.Proofs Go.AX.Mc
set_option linter.unusedSimpArgs false
set_option linter.unusedVariables false
noncomputable section

/-- a corner whose one vector tells its depth. -/
structure One (w : Int) (p : Wn) : Prop where
  w : p.w = w
  l : p.l = 1
  vs : p.vs = [⟨p.z, 0, 0, 0⟩]
theorem one_w {a b c : Wn} {px py pw ph : Int} {w : Int} (hw : 0 < w) (ha : One w a) (hb : One w b) (hc : One w c) {g : Fg} (hg : g ∈ fillL a b c px py pw ph) : ∃ v, g.vs[0]? = some v ∧ v.a = g.z := by
  unfold fillL at hg
  cases hbad : badL [a, b, c]
  · rw [hbad] at hg
    cases hbx : boxF px py pw ph
    · rw [hbx] at hg; simp at hg
    · rw [hbx] at hg
      simp only [cond_true, cond_false] at hg
      unfold fragsF at hg
      obtain ⟨p, hp, hf⟩ := List.mem_filterMap.1 hg
      rw [fragF_eq] at hf
      have hall : ∀ q, (q = (turnF a b c).a ∨ q = (turnF a b c).b ∨ q = (turnF a b c).c) → One w q := by
        intro q hq
        rcases turn_mem q hq with rfl | rfl | rfl <;> assumption
      have oa := hall _ (.inl rfl)
      have ob := hall _ (.inr (.inl rfl))
      have oc := hall _ (.inr (.inr rfl))
      generalize turnF a b c = f at *
      cases hcv : covF f p.1 p.2
      · rw [hcv] at hf; cases hf
      · rw [hcv] at hf
        simp only [cond_true, Option.some.injEq] at hf
        subst hf
        refine ⟨vecF f (waysF f p.1 p.2).1.toNat (waysF f p.1 p.2).2.1.toNat (waysF f p.1 p.2).2.2.toNat 0, ?_, ?_⟩
        · show (vsF f _ _ _ f.a.l)[0]? = _
          rw [oa.l]
          rfl
        · show vecN f _ _ _ 0 0 = nearZ f _ _ _
          unfold vecN nearZ atV
          rw [oa.w, ob.w, oc.w, oa.vs, ob.vs, oc.vs]
          simp only [List.getElem?_cons_zero, V4.at]
          rw [Nat.mul_assoc, Nat.mul_assoc, Nat.mul_assoc]
          exact near_scale (Nat.mul_pos (by omega) (by omega)) _ _ _
  · rw [hbad] at hg; simp at hg

theorem tri_rd {h : AH} {b3 : Nat} {a b c : Wn} (g : h.get b3 = some (.cells (tri18 a b c) 0 0)) :
    rd h b3 0 6 = some [.int .i64 a.x, .int .i64 a.y, .int .i32 a.z, .int .i32 a.w, .int .i32 a.s, .slice a.a a.l a.c] ∧ rd h b3 6 6 = some [.int .i64 b.x, .int .i64 b.y, .int .i32 b.z, .int .i32 b.w, .int .i32 b.s, .slice b.a b.l b.c] ∧
    rd h b3 12 6 = some [.int .i64 c.x, .int .i64 c.y, .int .i32 c.z, .int .i32 c.w, .int .i32 c.s, .slice c.a c.l c.c] ∧ rd h b3 5 1 = some [.slice a.a a.l a.c] ∧ rd h b3 11 1 = some [.slice b.a b.l b.c] ∧ rd h b3 17 1 = some [.slice c.a c.l c.c] ∧
    rd h b3 2 1 = some [.int .i32 a.z] ∧ rd h b3 8 1 = some [.int .i32 b.z] ∧ rd h b3 14 1 = some [.int .i32 c.z] := by
  simp only [rd_rdB, g]
  exact ⟨rfl, rfl, rfl, rfl, rfl, rfl, rfl, rfl, rfl⟩

theorem upd_wn {h h' : AH} {p : Wn} {w : Int} {N : Nat} (hw : -2147483648 ≤ w ∧ w < 2147483648) (hp : WnAt h p) (hN : N < h'.nx) (hg : h'.get N = some (.cells [.int .i32 p.z, .int .i32 0, .int .i32 0, .int .i32 0] 0 0)) : WnAt h' (upd p w N) := by
  refine ⟨rfl, vec_new (.inl rfl) (k := 0) (z := 0) hg hN, ?_, hp.z, hw⟩
  intro v hv n
  have e : v = ⟨p.z, 0, 0, 0⟩ := by simpa [upd] using hv
  subst e
  have := hp.z
  match n with
  | 0 => exact this
  | 1 => exact ⟨by show (-2147483648 : Int) ≤ 0; decide, by show (0 : Int) < 2147483648; decide⟩
  | 2 => exact ⟨by show (-2147483648 : Int) ≤ 0; decide, by show (0 : Int) < 2147483648; decide⟩
  | n + 3 => exact ⟨by show (-2147483648 : Int) ≤ 0; decide, by show (0 : Int) < 2147483648; decide⟩

set_option maxHeartbeats 4000000 in
theorem law6 (H : AH) (a b c : Wn) (px py pw ph w : Int) (pa' : Pl H a) (pb : Pl H b) (pc : Pl H c) (ha : WnAt H a) (hb : WnAt H b) (hc : WnAt H c) (hw : -2147483648 ≤ w ∧ w < 2147483648) :
    C T [] 6 [.agg (tri18 a b c).toArray, .agg [.int .i64 px, .int .i64 py, .int .i64 pw, .int .i64 ph].toArray, .int .i32 w] H fun x H' => x = .ret (.bool true) ∧ H' = H := by
  rw [C_fn T6 rfl]
  simp only [a6, tri18, c11, go_sem, bin_add, bin_sub, bin_mul, Nat.reduceAdd, Nat.reduceMul, Nat.reduceEqDiff, Nat.reduceLeDiff, Nat.reduceLT, Nat.reduceSub, reduceIte, reduceCtorEq, Int.reduceToNat, Int.reduceNeg, Int.reduceLE, Int.reduceLT, Int.reduceEq, Nat.reduceOr, Nat.reduceShiftRight, Nat.reduceMod, Nat.reduceBNe, Nat.reduceBEq]
  refine c19 a b c (by rw [ext_lo, ext_nx]; exact Nat.le_add_right _ _) (pa'.now.ext _) (pb.now.ext _) (pc.now.ext _) (ha.now.ext _) (hb.now.ext _) (hc.now.ext _) _ ?_
  intro a' b' c' L ka kb kc
  have wa := ka.box ha (blk (tri18 a' b' c')) (blk [.int .i64 px, .int .i64 py, .int .i64 pw, .int .i64 ph])
  have wb := kb.box hb (blk (tri18 a' b' c')) (blk [.int .i64 px, .int .i64 py, .int .i64 pw, .int .i64 ph])
  have wc := kc.box hc (blk (tri18 a' b' c')) (blk [.int .i64 px, .int .i64 py, .int .i64 pw, .int .i64 ph])
  clear ka kb kc
  simp only [tri18, ext_ext, go_sem, bin_add, bin_sub, bin_mul, Nat.reduceAdd, Nat.reduceMul, Nat.reduceEqDiff, Nat.reduceLeDiff, Nat.reduceLT, Nat.reduceSub, reduceIte, reduceCtorEq, Int.reduceToNat, Int.reduceNeg, Int.reduceLE, Int.reduceLT, Int.reduceEq, Nat.reduceOr, Nat.reduceShiftRight, Nat.reduceMod, Nat.reduceBNe, Nat.reduceBEq]
  refine c15' a' b' c' px py pw ph (by rw [ext_lo, ext_nx]; exact Nat.le_add_right _ _) wa wb wc _ ?_
  intro h1 hd1 e1 f1
  change Ext (Mc.ext H.now (blk (tri18 a' b' c') :: blk [.int .i64 px, .int .i64 py, .int .i64 pw, .int .i64 ph] :: L)) h1 at e1
  have lo1 : h1.lo = H.nx := by rw [e1.lo, ext_lo]; rfl
  have nx1 : H.nx + 2 ≤ h1.nx := by have := e1.nx; rw [ext_nx] at this; simp only [List.length_cons] at this; exact Nat.le_trans (Nat.add_le_add_left (by omega) _) this
  cases hbad : badL [a', b', c']
  rotate_left
  · have he : fillE a' b' c' px py pw ph = 320 := by unfold fillE; rw [hbad]; rfl
    have hl : fillL a' b' c' px py pw ph = [] := by unfold fillL; rw [hbad]; rfl
    rw [hl] at f1
    rcases f1 with ⟨_, rfl⟩ | ⟨k, _⟩
    · simp only [he, show decide ((320 : Int) = 0) = false from rfl, eq_self, go_sem, bin_add, bin_sub, bin_mul, Nat.reduceAdd, Nat.reduceMul, Nat.reduceEqDiff, Nat.reduceLeDiff, Nat.reduceLT, Nat.reduceSub, reduceIte, reduceCtorEq, Int.reduceToNat, Int.reduceNeg, Int.reduceLE, Int.reduceLT, Int.reduceEq, Nat.reduceOr, Nat.reduceShiftRight, Nat.reduceMod, Nat.reduceBNe, Nat.reduceBEq]
      exact trim_clo H _ _ rfl (by rw [lo1]; exact Nat.le_refl _)
    · exact absurd rfl k
  cases hbx : boxF px py pw ph
  · have he : fillE a' b' c' px py pw ph = 2 := by unfold fillE; rw [hbad, hbx]; rfl
    have hl : fillL a' b' c' px py pw ph = [] := by unfold fillL; rw [hbad, hbx]; rfl
    rw [hl] at f1
    rcases f1 with ⟨_, rfl⟩ | ⟨k, _⟩
    · simp only [he, show decide ((2 : Int) = 0) = false from rfl, eq_self, go_sem, bin_add, bin_sub, bin_mul, Nat.reduceAdd, Nat.reduceMul, Nat.reduceEqDiff, Nat.reduceLeDiff, Nat.reduceLT, Nat.reduceSub, reduceIte, reduceCtorEq, Int.reduceToNat, Int.reduceNeg, Int.reduceLE, Int.reduceLT, Int.reduceEq, Nat.reduceOr, Nat.reduceShiftRight, Nat.reduceMod, Nat.reduceBNe, Nat.reduceBEq]
      exact trim_clo H _ _ rfl (by rw [lo1]; exact Nat.le_refl _)
    · exact absurd rfl k
  have he : fillE a' b' c' px py pw ph = 0 := by unfold fillE; rw [hbad, hbx]; rfl
  obtain ⟨oka, okb, okc, lb, lc⟩ := bad3 hbad
  obtain ⟨p1, q1, ds, rfl, s1, l1, m1, n1⟩ := f1.fds (fun g hg => by have := fillL_vs _ _ _ _ _ _ _ g hg; omega)
  have hdl : ds.length ≤ 4096 := by have hlen := fillL_len a' b' c' px py pw ph; rw [← m1, List.length_map] at hlen; exact hlen
  have g1 : h1.get H.now.nx = some (.cells (tri18 a' b' c') 0 0) := by
    rw [e1.get _ (by rw [ext_nx]; simp only [List.length_cons]; omega)]
    have := ext_get_new H.now (blk (tri18 a' b' c') :: blk [.int .i64 px, .int .i64 py, .int .i64 pw, .int .i64 ph] :: L) 0
    exact this
  have g2 : h1.get (H.now.nx + 1) = some (.cells [.int .i64 px, .int .i64 py, .int .i64 pw, .int .i64 ph] 0 0) := by
    rw [e1.get _ (by rw [ext_nx]; simp only [List.length_cons]; omega)]
    have := ext_get_new H.now (blk (tri18 a' b' c') :: blk [.int .i64 px, .int .i64 py, .int .i64 pw, .int .i64 ph] :: L) 1
    exact this
  obtain ⟨_, _, _, r3, r4, r5, r6, r7, r8⟩ := tri_rd g1
  have wa1 := wa.Ext e1
  have wb1 := wb.Ext e1
  have wc1 := wc.Ext e1
  have bx : Bx h1 H.now.nx a' b' c' := ⟨by show H.nx < h1.nx; omega, r3, r4, r5, r6, r7, r8, wa1.vec, wb1.vec, wc1.vec, wa1.len, wb1.len, wc1.len⟩
  have bp : Bp h1 (H.now.nx + 1) px py pw ph := by
    refine ⟨by show H.nx + 1 < h1.nx; omega, ?_, ?_, ?_, ?_⟩
    all_goals simp only [rd_rdB, g2]; rfl
  have hLies : ∀ d ∈ ds, LiesD a' b' c' px py pw ph d := by
    intro d hd
    have hg : d.g ∈ fillL a' b' c' px py pw ph := by rw [← m1]; exact List.mem_map_of_mem hd
    obtain ⟨z, x0, x1, y0, y1, vs, bx⟩ := fill_lies wa1 wb1 wc1 hg
    refine ⟨z, x0, x1, y0, y1, ?_, bx⟩
    intro k v hv
    have hk := (List.getElem?_eq_some_iff.1 hv).1
    have hvl := (fillL_vs _ _ _ _ _ _ _ _ hg).1
    change d.vs.length = a'.l at hvl
    have L : ∀ q : Wn, q.l = a'.l → q.l = q.vs.length → ∃ u, q.vs[k]? = some u := by
      intro q h1 h2
      exact ⟨q.vs[k]'(by omega), List.getElem?_eq_getElem (by omega)⟩
    obtain ⟨va, ea⟩ := L a' rfl wa1.len
    obtain ⟨vb, eb⟩ := L b' lb wb1.len
    obtain ⟨vc, ec⟩ := L c' lc wc1.len
    refine ⟨va, vb, vc, ea, eb, ec, ?_⟩
    intro n
    have := vs k v hv n
    unfold atV at this
    rw [ea, eb, ec] at this
    exact this
  simp only [he, s1 _ _ _, eq_self, go_sem, bin_add, bin_sub, bin_mul, Nat.reduceAdd, Nat.reduceMul, Nat.reduceEqDiff, Nat.reduceLeDiff, Nat.reduceLT, Nat.reduceSub, reduceIte, reduceCtorEq, Int.reduceToNat, Int.reduceNeg, Int.reduceLE, Int.reduceLT, Int.reduceEq, Nat.reduceOr, Nat.reduceShiftRight, Nat.reduceMod, Nat.reduceBNe, Nat.reduceBEq]
  refine loop6f (w := .int .i32 w) (H := h1) (b3 := H.now.nx) (b4 := H.now.nx + 1) (da := p1) (dc := q1) (by omega) hLies ?_ ds.length 0 (by omega) _ h1 (Ext.refl _) (by omega) bx bp l1 ⟨?_, ?_, ?_, ?_, ?_, ?_, ?_⟩
  · intro fr h2 e2 t2 t3 t4
    simp only [t2, t3, t4, go_sem, bin_add, bin_sub, bin_mul, Nat.reduceAdd, Nat.reduceMul, Nat.reduceEqDiff, Nat.reduceLeDiff, Nat.reduceLT, Nat.reduceSub, reduceIte, reduceCtorEq, Int.reduceToNat, Int.reduceNeg, Int.reduceLE, Int.reduceLT, Int.reduceEq, Nat.reduceOr, Nat.reduceShiftRight, Nat.reduceMod, Nat.reduceBNe, Nat.reduceBEq]
    have lo2 : h2.lo = H.nx := by rw [e2.lo, lo1]
    have nx2 : H.nx + 2 ≤ h2.nx := Nat.le_trans nx1 e2.nx
    have hw1 : -2147483648 ≤ max w 1 ∧ max w 1 < 2147483648 := by omega
    generalize hwm : max w 1 = w1' at hw1 ⊢
    have hpos : 0 < w1' := by omega
    refine step6_0 (w := w1') (b3 := H.now.nx) (x4 := .pointer (some ⟨H.now.nx + 1, 0, none⟩)) (a := a') (b := b') (c := c') (by show H.nx < _; omega) (by show _ ≤ H.nx; omega) (by rw [e2.get _ bx.nx]; exact g1) _ (by simp only [go_sem, bin_add, bin_sub, bin_mul, Nat.reduceAdd, Nat.reduceMul, Nat.reduceEqDiff, Nat.reduceLeDiff, Nat.reduceLT, Nat.reduceSub, reduceIte, reduceCtorEq, Int.reduceToNat, Int.reduceNeg, Int.reduceLE, Int.reduceLT, Int.reduceEq, Nat.reduceOr, Nat.reduceShiftRight, Nat.reduceMod, Nat.reduceBNe, Nat.reduceBEq]) (by simp only [t3, go_sem, bin_add, bin_sub, bin_mul, Nat.reduceAdd, Nat.reduceMul, Nat.reduceEqDiff, Nat.reduceLeDiff, Nat.reduceLT, Nat.reduceSub, reduceIte, reduceCtorEq, Int.reduceToNat, Int.reduceNeg, Int.reduceLE, Int.reduceLT, Int.reduceEq, Nat.reduceOr, Nat.reduceShiftRight, Nat.reduceMod, Nat.reduceBNe, Nat.reduceBEq]) (by simp only [t4, go_sem, bin_add, bin_sub, bin_mul, Nat.reduceAdd, Nat.reduceMul, Nat.reduceEqDiff, Nat.reduceLeDiff, Nat.reduceLT, Nat.reduceSub, reduceIte, reduceCtorEq, Int.reduceToNat, Int.reduceNeg, Int.reduceLE, Int.reduceLT, Int.reduceEq, Nat.reduceOr, Nat.reduceShiftRight, Nat.reduceMod, Nat.reduceBNe, Nat.reduceBEq]) (by simp only [go_sem, bin_add, bin_sub, bin_mul, Nat.reduceAdd, Nat.reduceMul, Nat.reduceEqDiff, Nat.reduceLeDiff, Nat.reduceLT, Nat.reduceSub, reduceIte, reduceCtorEq, Int.reduceToNat, Int.reduceNeg, Int.reduceLE, Int.reduceLT, Int.reduceEq, Nat.reduceOr, Nat.reduceShiftRight, Nat.reduceMod, Nat.reduceBNe, Nat.reduceBEq]) ?_
    clear t2 t3 t4 fr
    intro fr h3 u3 t2 t3 t4 t139
    have nx3 := u3.nx
    have lo3 := u3.lo
    refine step6_1 (by show H.nx < _; omega) (by show _ ≤ H.nx; omega) u3.get _ t2 t3 t4 t139 ?_
    clear t2 t3 t4 t139 fr
    intro fr h4 u4 t2 t3 t4 t139
    have nx4 := u4.nx
    have lo4 := u4.lo
    refine step6_2 (by show H.nx < _; omega) (by show _ ≤ H.nx; omega) u4.get _ t2 t3 t4 t139 ?_
    clear t2 t3 t4 t139 fr
    intro fr h5 u5 t2 t3 t4 t139
    have nx5 := u5.nx
    have lo5 := u5.lo
    obtain ⟨y0, y1, y2, _⟩ := tri_rd u5.get
    have gp : h5.get (H.now.nx + 1) = some (.cells [.int .i64 px, .int .i64 py, .int .i64 pw, .int .i64 ph] 0 0) := by
      rw [u5.old _ (by show H.nx + 1 < _; omega) (by omega), u4.old _ (by show H.nx + 1 < _; omega) (by omega), u3.old _ (by show H.nx + 1 < _; omega) (by omega), e2.get _ (by show H.nx + 1 < _; omega)]
      exact g2
    have yp : rd h5 (H.now.nx + 1) 0 4 = some [.int .i64 px, .int .i64 py, .int .i64 pw, .int .i64 ph] := by simp only [rd_rdB, gp]; rfl
    have xa : WnAt h5 (upd a' w1' h2.nx) := upd_wn hw1 wa1 (by omega) (by rw [u5.old _ (by omega) (by show _ ≠ H.nx; omega), u4.old _ (by omega) (by show _ ≠ H.nx; omega)]; exact u3.new)
    have xb : WnAt h5 (upd b' w1' h3.nx) := upd_wn hw1 wb1 (by omega) (by rw [u5.old _ (by omega) (by show _ ≠ H.nx; omega)]; exact u4.new)
    have xc : WnAt h5 (upd c' w1' h4.nx) := upd_wn hw1 wc1 (by omega) u5.new
    have hbad2 : badL [upd a' w1' h2.nx, upd b' w1' h3.nx, upd c' w1' h4.nx] = false := by
      refine bad3' ?_ ?_ ?_ rfl rfl
      · exact ⟨oka.x0, oka.x1, oka.y0, oka.y1, hpos, by show 1 ≤ 4; omega⟩
      · exact ⟨okb.x0, okb.x1, okb.y0, okb.y1, hpos, by show 1 ≤ 4; omega⟩
      · exact ⟨okc.x0, okc.x1, okc.y0, okc.y1, hpos, by show 1 ≤ 4; omega⟩
    have he2 : fillE (upd a' w1' h2.nx) (upd b' w1' h3.nx) (upd c' w1' h4.nx) px py pw ph = 0 := by unfold fillE; rw [hbad2, hbx]; rfl
    have oneg := fun g hg => one_w (a := upd a' w1' h2.nx) (b := upd b' w1' h3.nx) (c := upd c' w1' h4.nx) (px := px) (py := py) (pw := pw) (ph := ph) (g := g) hpos ⟨rfl, rfl, rfl⟩ ⟨rfl, rfl, rfl⟩ ⟨rfl, rfl, rfl⟩ hg
    clear u3 u4 u5
    generalize upd a' w1' h2.nx = a2 at *
    generalize upd b' w1' h3.nx = b2 at *
    generalize upd c' w1' h4.nx = c2 at *
    rw [X_loop]
    change X _ _ _ (.seq _ _) _ _ _ _ _
    simp only [t2, t3, t4, t139, show ¬ (((2 + 1 : Nat) : Int) < 3) by omega, y0, y1, y2, yp, ext_nil, go_sem, bin_add, bin_sub, bin_mul, Nat.reduceAdd, Nat.reduceMul, Nat.reduceEqDiff, Nat.reduceLeDiff, Nat.reduceLT, Nat.reduceSub, reduceIte, reduceCtorEq, Int.reduceToNat, Int.reduceNeg, Int.reduceLE, Int.reduceLT, Int.reduceEq, Nat.reduceOr, Nat.reduceShiftRight, Nat.reduceMod, Nat.reduceBNe, Nat.reduceBEq]
    refine c15' a2 b2 c2 px py pw ph (by omega) xa xb xc _ ?_
    intro h6 hd2 e6 f2
    have lo6 : h6.lo = H.nx := by rw [e6.lo]; omega
    have nx6 := e6.nx
    obtain ⟨p2, q2, us, rfl, s2, l2, m2, n2⟩ := f2.fds (fun g hg => by have := fillL_vs _ _ _ _ _ _ _ g hg; omega)
    have hul : us.length ≤ 4096 := by have hlen := fillL_len a2 b2 c2 px py pw ph; rw [← m2, List.length_map] at hlen; exact hlen
    simp only [he2, s2 _ _ _, eq_self, go_sem, bin_add, bin_sub, bin_mul, Nat.reduceAdd, Nat.reduceMul, Nat.reduceEqDiff, Nat.reduceLeDiff, Nat.reduceLT, Nat.reduceSub, reduceIte, reduceCtorEq, Int.reduceToNat, Int.reduceNeg, Int.reduceLE, Int.reduceLT, Int.reduceEq, Nat.reduceOr, Nat.reduceShiftRight, Nat.reduceMod, Nat.reduceBNe, Nat.reduceBEq]
    refine loop6z (x8 := .int .i64 0) (H := h6) (da := p2) (dc := q2) (ds := us) (by omega) ?_ ?_ us.length 0 (by omega) _ h6 (Ext.refl _) (by omega) l2 ?_ ?_ ?_ ?_
    · intro d hd
      exact oneg d.g (by rw [← m2]; exact List.mem_map_of_mem hd)
    · intro fr h7 e7 t8
      simp only [t8, eq_self, go_sem, bin_add, bin_sub, bin_mul, Nat.reduceAdd, Nat.reduceMul, Nat.reduceEqDiff, Nat.reduceLeDiff, Nat.reduceLT, Nat.reduceSub, reduceIte, reduceCtorEq, Int.reduceToNat, Int.reduceNeg, Int.reduceLE, Int.reduceLT, Int.reduceEq, Nat.reduceOr, Nat.reduceShiftRight, Nat.reduceMod, Nat.reduceBNe, Nat.reduceBEq]
      exact trim_clo H _ _ rfl (by show H.nx ≤ h7.lo; rw [e7.lo, lo6]; exact Nat.le_refl _)
    all_goals simp only [go_sem, bin_add, bin_sub, bin_mul, Nat.reduceAdd, Nat.reduceMul, Nat.reduceEqDiff, Nat.reduceLeDiff, Nat.reduceLT, Nat.reduceSub, reduceIte, reduceCtorEq, Int.reduceToNat, Int.reduceNeg, Int.reduceLE, Int.reduceLT, Int.reduceEq, Nat.reduceOr, Nat.reduceShiftRight, Nat.reduceMod, Nat.reduceBNe, Nat.reduceBEq]
  all_goals first
    | (simp only [go_sem, bin_add, bin_sub, bin_mul, Nat.reduceAdd, Nat.reduceMul, Nat.reduceEqDiff, Nat.reduceLeDiff, Nat.reduceLT, Nat.reduceSub, reduceIte, reduceCtorEq, Int.reduceToNat, Int.reduceNeg, Int.reduceLE, Int.reduceLT, Int.reduceEq, Nat.reduceOr, Nat.reduceShiftRight, Nat.reduceMod, Nat.reduceBNe, Nat.reduceBEq]; done)
    | (simp only [go_sem, bin_add, bin_sub, bin_mul, Nat.reduceAdd, Nat.reduceMul, Nat.reduceEqDiff, Nat.reduceLeDiff, Nat.reduceLT, Nat.reduceSub, reduceIte, reduceCtorEq, Int.reduceToNat, Int.reduceNeg, Int.reduceLE, Int.reduceLT, Int.reduceEq, Nat.reduceOr, Nat.reduceShiftRight, Nat.reduceMod, Nat.reduceBNe, Nat.reduceBEq]; rfl)
end
end Go.AX.Tri
