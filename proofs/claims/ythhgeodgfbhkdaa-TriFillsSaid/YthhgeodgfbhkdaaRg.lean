/- TriFills, in the calculus. -/
import Derived.Test.YthhgeodgfbhkdaaRe
set_option linter.unusedVariables false
set_option linter.unusedSimpArgs false
set_option linter.unusedSectionVars false
namespace Go.AX.Tri
open Go.Proofs Go.AX.Mc
set_option linter.unusedSimpArgs false
set_option linter.unusedVariables false
noncomputable section

theorem box8 {G h : AH} {T1 T2 pc : List Value} {L L2 : List (Option AB)} (e : Ext (Mc.ext G (blk T1 :: blk pc :: (L ++ (L2 ++ [blk T2])))) h) (h1 : T1.length = 18) (h2 : T2.length = 18) (h3 : pc.length = 4) :
    G.nx < h.nx ∧ G.nx + 1 < h.nx ∧ G.nx + (L.length + L2.length + 1 + 1) < h.nx ∧ rd h G.nx 0 18 = some T1 ∧ rd h (G.nx + 1) 0 4 = some pc ∧ rd h (G.nx + (L.length + L2.length + 1 + 1)) 0 18 = some T2 := by
  have hn := e.nx
  have hx : (Mc.ext G (blk T1 :: blk pc :: (L ++ (L2 ++ [blk T2])))).nx = G.nx + (L.length + L2.length + 3) := by rw [ext_nx]; simp only [List.length_cons, List.length_append, List.length_nil]; omega
  rw [hx] at hn
  have hfull : ∀ {cs : List Value} {n : Nat}, cs.length = n → rdB (some (.cells cs 0 0)) 0 n = some cs := by
    intro cs n hc
    rw [rdB_cells, if_pos (by omega), List.drop_zero, List.take_of_length_le (by omega)]
  refine ⟨by omega, by omega, by omega, ?_, ?_, ?_⟩
  · rw [e.rd (by rw [hx]; omega), rd_new0]; exact hfull h1
  · rw [e.rd (by rw [hx]; omega), rd_new]; exact hfull h3
  · rw [e.rd (by rw [hx]; omega), rd_new, List.getElem?_cons_succ, List.getElem?_cons_succ, ← List.append_assoc, ← List.length_append, app_get0]; exact hfull h2

theorem law8 (H : AH) (a b c : Wn) (px py pw ph : Int) (pa' : Pl H a) (pb : Pl H b) (pc : Pl H c) (ha : WnAt H a) (hb : WnAt H b) (hc : WnAt H c) :
    C T [] 8 [.agg (tri18 a b c).toArray, .agg [.int .i64 px, .int .i64 py, .int .i64 pw, .int .i64 ph].toArray] H fun x H' => x = .ret (.bool true) ∧ H' = H := by
  rw [C_fn T8 rfl]
  simp only [a8, tri18, c11, go_sem, bin_add, bin_sub, bin_mul, Nat.reduceAdd, Nat.reduceMul, Nat.reduceEqDiff, Nat.reduceLeDiff, Nat.reduceLT, Nat.reduceSub, reduceIte, reduceCtorEq, Int.reduceToNat, Int.reduceNeg, Int.reduceLE, Int.reduceLT, Int.reduceEq, Nat.reduceOr, Nat.reduceShiftRight, Nat.reduceMod, Nat.reduceBNe, Nat.reduceBEq]
  refine c19 a b c (by rw [ext_lo, ext_nx]; exact Nat.le_add_right _ _) (pa'.now.ext _) (pb.now.ext _) (pc.now.ext _) (ha.now.ext _) (hb.now.ext _) (hc.now.ext _) _ ?_
  intro a' b' c' L ka kb kc
  have wa := ka.box ha (blk (tri18 a' b' c')) (blk [.int .i64 px, .int .i64 py, .int .i64 pw, .int .i64 ph])
  have wb := kb.box hb (blk (tri18 a' b' c')) (blk [.int .i64 px, .int .i64 py, .int .i64 pw, .int .i64 ph])
  have wc := kc.box hc (blk (tri18 a' b' c')) (blk [.int .i64 px, .int .i64 py, .int .i64 pw, .int .i64 ph])
  have qa := ka.boxpl (blk (tri18 a' b' c')) (blk [.int .i64 px, .int .i64 py, .int .i64 pw, .int .i64 ph])
  have qb := kb.boxpl (blk (tri18 a' b' c')) (blk [.int .i64 px, .int .i64 py, .int .i64 pw, .int .i64 ph])
  have qc := kc.boxpl (blk (tri18 a' b' c')) (blk [.int .i64 px, .int .i64 py, .int .i64 pw, .int .i64 ph])
  have la := ka.l6
  have lb := kb.l6
  have lc := kc.l6
  clear ka kb kc pa' pb pc ha hb hc
  simp only [tri18, ext_ext, go_sem, bin_add, bin_sub, bin_mul, Nat.reduceAdd, Nat.reduceMul, Nat.reduceEqDiff, Nat.reduceLeDiff, Nat.reduceLT, Nat.reduceSub, reduceIte, reduceCtorEq, Int.reduceToNat, Int.reduceNeg, Int.reduceLE, Int.reduceLT, Int.reduceEq, Nat.reduceOr, Nat.reduceShiftRight, Nat.reduceMod, Nat.reduceBNe, Nat.reduceBEq]
  refine c19 a' b' c' (by rw [ext_lo, ext_nx]; exact Nat.le_add_right _ _) qa qb qc wa wb wc _ ?_
  clear qa qb qc
  intro a2 b2 c2 L2 ka kb kc
  have va := ka.wn wa
  have vb := kb.wn wb
  have vc := kc.wn wc
  have ea := ka.er wa.len la
  have eb := kb.er wb.len lb
  have ec := kc.er wc.len lc
  clear ka kb kc
  simp only [tri18, ext_ext, go_sem, bin_add, bin_sub, bin_mul, Nat.reduceAdd, Nat.reduceMul, Nat.reduceEqDiff, Nat.reduceLeDiff, Nat.reduceLT, Nat.reduceSub, reduceIte, reduceCtorEq, Int.reduceToNat, Int.reduceNeg, Int.reduceLE, Int.reduceLT, Int.reduceEq, Nat.reduceOr, Nat.reduceShiftRight, Nat.reduceMod, Nat.reduceBNe, Nat.reduceBEq]
  have m1 : ∀ {p : Wn}, WnAt (Mc.ext H.now (blk (tri18 a' b' c') :: blk [.int .i64 px, .int .i64 py, .int .i64 pw, .int .i64 ph] :: L)) p → WnAt (Mc.ext H.now (blk (tri18 a' b' c') :: blk [.int .i64 px, .int .i64 py, .int .i64 pw, .int .i64 ph] :: (L ++ (L2 ++ [blk (tri18 a2 b2 c2)])))) p := by
    intro p hp
    have := hp.ext (L2 ++ [blk (tri18 a2 b2 c2)])
    rw [ext_ext] at this
    exact this
  have m2 : ∀ {p : Wn}, WnAt (Mc.ext (Mc.ext H.now (blk (tri18 a' b' c') :: blk [.int .i64 px, .int .i64 py, .int .i64 pw, .int .i64 ph] :: L)) L2) p → WnAt (Mc.ext H.now (blk (tri18 a' b' c') :: blk [.int .i64 px, .int .i64 py, .int .i64 pw, .int .i64 ph] :: (L ++ (L2 ++ [blk (tri18 a2 b2 c2)])))) p := by
    intro p hp
    have := hp.ext [blk (tri18 a2 b2 c2)]
    rw [ext_ext, ext_ext] at this
    simp only [List.cons_append, List.append_assoc] at this
    exact this
  replace wa := m1 wa
  replace wb := m1 wb
  replace wc := m1 wc
  replace va := m2 va
  replace vb := m2 vb
  replace vc := m2 vc
  clear m1 m2
  refine c15' a' b' c' px py pw ph (by rw [ext_lo, ext_nx]; exact Nat.le_add_right _ _) wa wb wc _ ?_
  intro h3 hd3 e3 f3
  simp only [go_sem, bin_add, bin_sub, bin_mul, Nat.reduceAdd, Nat.reduceMul, Nat.reduceEqDiff, Nat.reduceLeDiff, Nat.reduceLT, Nat.reduceSub, reduceIte, reduceCtorEq, Int.reduceToNat, Int.reduceNeg, Int.reduceLE, Int.reduceLT, Int.reduceEq, Nat.reduceOr, Nat.reduceShiftRight, Nat.reduceMod, Nat.reduceBNe, Nat.reduceBEq]
  obtain ⟨n2, n3, n5, r2, r3, r5⟩ := box8 e3 rfl rfl rfl
  have ve : ∀ {p : Wn}, WnAt (Mc.ext H.now (blk (tri18 a' b' c') :: blk [.int .i64 px, .int .i64 py, .int .i64 pw, .int .i64 ph] :: (L ++ (L2 ++ [blk (tri18 a2 b2 c2)])))) p → WnAt h3 p := fun hp => hp.Ext e3
  have lo3 : h3.lo = H.nx := by rw [e3.lo, ext_lo]; rfl
  have hN : H.nx ≤ (Mc.ext H.now (blk (tri18 a' b' c') :: blk [.int .i64 px, .int .i64 py, .int .i64 pw, .int .i64 ph] :: (L ++ (L2 ++ [blk (tri18 a2 b2 c2)])))).nx := by rw [ext_nx]; exact Nat.le_add_right _ _
  have q2 : H.now.nx < (Mc.ext H.now (blk (tri18 a' b' c') :: blk [.int .i64 px, .int .i64 py, .int .i64 pw, .int .i64 ph] :: (L ++ (L2 ++ [blk (tri18 a2 b2 c2)])))).nx := by rw [ext_nx]; simp
  have q3 : H.now.nx + 1 < (Mc.ext H.now (blk (tri18 a' b' c') :: blk [.int .i64 px, .int .i64 py, .int .i64 pw, .int .i64 ph] :: (L ++ (L2 ++ [blk (tri18 a2 b2 c2)])))).nx := by rw [ext_nx]; simp
  have q5 : H.now.nx + (L.length + L2.length + 1 + 1) < (Mc.ext H.now (blk (tri18 a' b' c') :: blk [.int .i64 px, .int .i64 py, .int .i64 pw, .int .i64 ph] :: (L ++ (L2 ++ [blk (tri18 a2 b2 c2)])))).nx := by rw [ext_nx]; simp only [List.length_cons, List.length_append, List.length_nil]; omega
  generalize Mc.ext H.now (blk (tri18 a' b' c') :: blk [.int .i64 px, .int .i64 py, .int .i64 pw, .int .i64 ph] :: (L ++ (L2 ++ [blk (tri18 a2 b2 c2)]))) = Hb at *
  generalize H.now.nx + (L.length + L2.length + 1 + 1) = P5 at *
  generalize eP3 : H.now.nx + 1 = P3 at *
  generalize eP2 : H.now.nx = P2 at *
  have S3 : Two h3 P2 P5 a' b' c' a2 b2 c2 := ⟨n2, n5, r2, r5, (ve wa).vec, (ve wb).vec, (ve wc).vec, (ve va).vec, (ve vb).vec, (ve vc).vec, wa.len, wb.len, wc.len, va.len, vb.len, vc.len, er_vs ea, er_vs eb, er_vs ec, by omega, by omega, by omega⟩
  refine cmpA (h := h3) (x2 := .pointer (some ⟨P2, 0, none⟩)) (x3 := .pointer (some ⟨P3, 0, none⟩)) (x5 := .pointer (some ⟨P5, 0, none⟩)) (x6 := hd3) (x7 := .int .i64 (fillE a' b' c' px py pw ph)) rfl rfl S3 ?_ _ ⟨?_, ?_, ?_, ?_, ?_⟩ ?_
  rotate_left
  · simp only [go_sem, bin_add, bin_sub, bin_mul, Nat.reduceAdd, Nat.reduceMul, Nat.reduceEqDiff, Nat.reduceLeDiff, Nat.reduceLT, Nat.reduceSub, reduceIte, reduceCtorEq, Int.reduceToNat, Int.reduceNeg, Int.reduceLE, Int.reduceLT, Int.reduceEq, Nat.reduceOr, Nat.reduceShiftRight, Nat.reduceMod, Nat.reduceBNe, Nat.reduceBEq]
  · simp only [go_sem, bin_add, bin_sub, bin_mul, Nat.reduceAdd, Nat.reduceMul, Nat.reduceEqDiff, Nat.reduceLeDiff, Nat.reduceLT, Nat.reduceSub, reduceIte, reduceCtorEq, Int.reduceToNat, Int.reduceNeg, Int.reduceLE, Int.reduceLT, Int.reduceEq, Nat.reduceOr, Nat.reduceShiftRight, Nat.reduceMod, Nat.reduceBNe, Nat.reduceBEq]
  · simp only [go_sem, bin_add, bin_sub, bin_mul, Nat.reduceAdd, Nat.reduceMul, Nat.reduceEqDiff, Nat.reduceLeDiff, Nat.reduceLT, Nat.reduceSub, reduceIte, reduceCtorEq, Int.reduceToNat, Int.reduceNeg, Int.reduceLE, Int.reduceLT, Int.reduceEq, Nat.reduceOr, Nat.reduceShiftRight, Nat.reduceMod, Nat.reduceBNe, Nat.reduceBEq]
  · simp only [go_sem, bin_add, bin_sub, bin_mul, Nat.reduceAdd, Nat.reduceMul, Nat.reduceEqDiff, Nat.reduceLeDiff, Nat.reduceLT, Nat.reduceSub, reduceIte, reduceCtorEq, Int.reduceToNat, Int.reduceNeg, Int.reduceLE, Int.reduceLT, Int.reduceEq, Nat.reduceOr, Nat.reduceShiftRight, Nat.reduceMod, Nat.reduceBNe, Nat.reduceBEq]
  · simp only [go_sem, bin_add, bin_sub, bin_mul, Nat.reduceAdd, Nat.reduceMul, Nat.reduceEqDiff, Nat.reduceLeDiff, Nat.reduceLT, Nat.reduceSub, reduceIte, reduceCtorEq, Int.reduceToNat, Int.reduceNeg, Int.reduceLE, Int.reduceLT, Int.reduceEq, Nat.reduceOr, Nat.reduceShiftRight, Nat.reduceMod, Nat.reduceBNe, Nat.reduceBEq]
  · simp only [go_sem, bin_add, bin_sub, bin_mul, Nat.reduceAdd, Nat.reduceMul, Nat.reduceEqDiff, Nat.reduceLeDiff, Nat.reduceLT, Nat.reduceSub, reduceIte, reduceCtorEq, Int.reduceToNat, Int.reduceNeg, Int.reduceLE, Int.reduceLT, Int.reduceEq, Nat.reduceOr, Nat.reduceShiftRight, Nat.reduceMod, Nat.reduceBNe, Nat.reduceBEq]
  intro fr F
  obtain ⟨t2, t3, t5, t6, t7⟩ := F
  have k24 := fun (H : AH) (Q : AEnd → AH → Prop) => c24 (env := []) a2 b2 c2 H Q
  have k27 := fun (H : AH) (Q : AEnd → AH → Prop) => c27 (env := []) px py pw ph H Q
  have k14 := fun (H : AH) (Q : AEnd → AH → Prop) => c14 (env := []) a' b' c' H Q
  simp only [tri18] at k24 r2 r5
  simp only [Wn.v, Wn.cs] at k14
  have ebad : badL [a2, b2, c2] = badL [a', b', c'] := by rw [← bad_er a2, ← bad_er a', ea, eb, ec]
  simp only [ebad, box27_eq] at k24 k27
  have s20 := rd_part r2 0 6 (by omega)
  have s26 := rd_part r2 6 6 (by omega)
  have s2c := rd_part r2 12 6 (by omega)
  have s50 := rd_part r5 0 6 (by omega)
  have s56 := rd_part r5 6 6 (by omega)
  have s5c := rd_part r5 12 6 (by omega)
  simp only [Nat.zero_add, List.drop_zero, List.drop_succ_cons, List.take_succ_cons, List.take_zero] at s20 s26 s2c s50 s56 s5c
  simp only [t2, t3, t5, t6, t7, n2, n3, n5, r2, r3, r5, k24, go_sem, bin_add, bin_sub, bin_mul, Nat.reduceAdd, Nat.reduceMul, Nat.reduceEqDiff, Nat.reduceLeDiff, Nat.reduceLT, Nat.reduceSub, reduceIte, reduceCtorEq, Int.reduceToNat, Int.reduceNeg, Int.reduceLE, Int.reduceLT, Int.reduceEq, Nat.reduceOr, Nat.reduceShiftRight, Nat.reduceMod, Nat.reduceBNe, Nat.reduceBEq]
  cases hbad : badL [a', b', c']
  · simp only [t2, t3, t5, t6, t7, n2, n3, n5, r3, k27, go_sem, bin_add, bin_sub, bin_mul, Nat.reduceAdd, Nat.reduceMul, Nat.reduceEqDiff, Nat.reduceLeDiff, Nat.reduceLT, Nat.reduceSub, reduceIte, reduceCtorEq, Int.reduceToNat, Int.reduceNeg, Int.reduceLE, Int.reduceLT, Int.reduceEq, Nat.reduceOr, Nat.reduceShiftRight, Nat.reduceMod, Nat.reduceBNe, Nat.reduceBEq]
    cases hbox : boxF px py pw ph
    · have eE : fillE a' b' c' px py pw ph = 2 := by unfold fillE; rw [hbad, hbox]; rfl
      have eL : fillL a' b' c' px py pw ph = [] := by unfold fillL; rw [hbad, hbox]; rfl
      rw [eL] at f3
      rcases f3 with ⟨_, rfl⟩ | ⟨h0, _⟩
      rotate_left
      · exact absurd rfl h0
      simp only [t6, t7, eE, eq_self, go_sem, bin_add, bin_sub, bin_mul, Nat.reduceAdd, Nat.reduceMul, Nat.reduceEqDiff, Nat.reduceLeDiff, Nat.reduceLT, Nat.reduceSub, reduceIte, reduceCtorEq, Int.reduceToNat, Int.reduceNeg, Int.reduceLE, Int.reduceLT, Int.reduceEq, Nat.reduceOr, Nat.reduceShiftRight, Nat.reduceMod, Nat.reduceBNe, Nat.reduceBEq]
      exact trim_clo H _ _ rfl (by rw [ext_lo, lo3]; exact Nat.le_refl _)
    · have eE : fillE a' b' c' px py pw ph = 0 := by unfold fillE; rw [hbad, hbox]; rfl
      simp only [t2, t3, t5, t6, t7, n5, s50, s56, s5c, r3, n3, go_sem, bin_add, bin_sub, bin_mul, Nat.reduceAdd, Nat.reduceMul, Nat.reduceEqDiff, Nat.reduceLeDiff, Nat.reduceLT, Nat.reduceSub, reduceIte, reduceCtorEq, Int.reduceToNat, Int.reduceNeg, Int.reduceLE, Int.reduceLT, Int.reduceEq, Nat.reduceOr, Nat.reduceShiftRight, Nat.reduceMod, Nat.reduceBNe, Nat.reduceBEq]
      clear k24 k27
      have eL2 : fillL a2 b2 c2 px py pw ph = fillL a' b' c' px py pw ph := by rw [← fill_er a2, ← fill_er a', ea, eb, ec]
      have le3 : (Mc.ext h3 []).lo ≤ (Mc.ext h3 []).nx := by rw [ext_nil, lo3]; exact Nat.le_trans hN e3.nx
      refine c28 (a := a2) (b := b2) (c := c2) (px := px) (py := py) (pw := pw) (ph := ph) (H := Mc.ext h3 []) le3 (ebad.trans hbad) hbox (ve va) (ve vb) (ve vc) _ ?_
      intro h4 hd4 e4 f4
      rw [eL2] at f4
      change Ext h3 h4 at e4
      change FL h3.nx h4 hd4 (fillL a' b' c' px py pw ph) at f4
      have sz : ∀ g ∈ fillL a' b' c' px py pw ph, g.vs.length < 9223372036854775808 := fun g hg => by have := fillL_vs _ _ _ _ _ _ _ g hg; omega
      have f30 := f3
      obtain ⟨p1, q1, ds, rfl, k1, l1, m1, z1⟩ := f3.fds sz
      obtain ⟨p2, q2', es, rfl, k2, l2, m2, z2⟩ := f4.fds sz
      have hlen := fillL_len a' b' c' px py pw ph
      have hdl : ds.length ≤ 4096 := by rw [← m1, List.length_map] at hlen; exact hlen
      have d1 : FdsAt (Mc.ext h4 []) p1 ds := l1.mono e4.nx fun b hb o n => e4.rd hb o n
      have k23 := fun (Q : AEnd → AH → Prop) => c23 (env := []) p1 p2 q1 q2' ds es (Mc.ext h4 []) k1 k2 (by omega) d1 l2 Q
      have k29 := fun (Q : AEnd → AH → Prop) => c29 (env := []) p1 p2 q1 q2' ds es (Mc.ext h4 []) k1 k2 (by omega) d1 l2 Q
      rw [eqDs_g (by rw [m1, m2]) z1 z2] at k23 k29
      have k30 := fun (H : AH) (Q : AEnd → AH → Prop) => c30 (env := []) a2 b2 c2 H Q
      have eW : wayF a2 b2 c2.x c2.y = areaF a' b' c' := by
        unfold areaF
        rw [hbad]
        show wayF (er a2) (er b2) (er c2).x (er c2).y = wayF (er a') (er b') (er c').x (er c').y
        rw [ea, eb, ec]
      simp only [Wn.v, Wn.cs, eW] at k30
      have n42 := Nat.lt_of_lt_of_le n2 e4.nx
      have n43 := Nat.lt_of_lt_of_le n3 e4.nx
      have n45 := Nat.lt_of_lt_of_le n5 e4.nx
      have s20 : rd h4 P2 0 6 = _ := (e4.rd n2 0 6).trans s20
      have s26 : rd h4 P2 6 6 = _ := (e4.rd n2 6 6).trans s26
      have s2c : rd h4 P2 12 6 = _ := (e4.rd n2 12 6).trans s2c
      have s50 : rd h4 P5 0 6 = _ := (e4.rd n5 0 6).trans s50
      have s56 : rd h4 P5 6 6 = _ := (e4.rd n5 6 6).trans s56
      have s5c : rd h4 P5 12 6 = _ := (e4.rd n5 12 6).trans s5c
      simp only [go_sem, bin_add, bin_sub, bin_mul, Nat.reduceAdd, Nat.reduceMul, Nat.reduceEqDiff, Nat.reduceLeDiff, Nat.reduceLT, Nat.reduceSub, reduceIte, reduceCtorEq, Int.reduceToNat, Int.reduceNeg, Int.reduceLE, Int.reduceLT, Int.reduceEq, Nat.reduceOr, Nat.reduceShiftRight, Nat.reduceMod, Nat.reduceBNe, Nat.reduceBEq]
      refine X_drawE (H := h4) (L := []) 0 (by rfl) ?_
      simp only [t2, t5, t6, t7, eE, eq_self, k23, k29, k14, k30, n42, n45, s20, s26, s2c, s50, s56, s5c, go_sem, bin_add, bin_sub, bin_mul, Nat.reduceAdd, Nat.reduceMul, Nat.reduceEqDiff, Nat.reduceLeDiff, Nat.reduceLT, Nat.reduceSub, reduceIte, reduceCtorEq, Int.reduceToNat, Int.reduceNeg, Int.reduceLE, Int.reduceLT, Int.reduceEq, Nat.reduceOr, Nat.reduceShiftRight, Nat.reduceMod, Nat.reduceBNe, Nat.reduceBEq]
      simp only [k1 _ _ _, go_sem, bin_add, bin_sub, bin_mul, Nat.reduceAdd, Nat.reduceMul, Nat.reduceEqDiff, Nat.reduceLeDiff, Nat.reduceLT, Nat.reduceSub, reduceIte, reduceCtorEq, Int.reduceToNat, Int.reduceNeg, Int.reduceLE, Int.reduceLT, Int.reduceEq, Nat.reduceOr, Nat.reduceShiftRight, Nat.reduceMod, Nat.reduceBNe, Nat.reduceBEq]
      have hdl2 : (fillL a' b' c' px py pw ph).length = ds.length := by rw [← m1, List.length_map]
      have f31 : FL Hb.nx h4 (.slice p1 ds.length q1) (fillL a' b' c' px py pw ph) := FL.mono e4.nx (Nat.le_refl _) (fun b cs k z _ hb hg _ => by rw [e4.get b hb]; exact hg) f30
      refine wr_all (M := H.nx) (h0 := h4) (x2 := .pointer (some ⟨P2, 0, none⟩)) (x3 := .pointer (some ⟨P3, 0, none⟩)) (x5 := .pointer (some ⟨P5, 0, none⟩)) (x6 := .slice p1 ds.length q1) (x7 := .int .i64 (fillE a' b' c' px py pw ph)) hN f31
        (fun g hg => by have := fillL_vs _ _ _ _ _ _ _ g hg; omega) (by omega) (by rw [e4.lo]; exact Nat.le_of_eq lo3.symm) (by rw [e4.lo, lo3]; exact Nat.le_trans hN (Nat.le_trans e3.nx e4.nx)) ?_ _ ⟨?_, ?_, ?_, ?_, ?_⟩ ?_ ?_
      rotate_left
      · simp only [t2, go_sem, bin_add, bin_sub, bin_mul, Nat.reduceAdd, Nat.reduceMul, Nat.reduceEqDiff, Nat.reduceLeDiff, Nat.reduceLT, Nat.reduceSub, reduceIte, reduceCtorEq, Int.reduceToNat, Int.reduceNeg, Int.reduceLE, Int.reduceLT, Int.reduceEq, Nat.reduceOr, Nat.reduceShiftRight, Nat.reduceMod, Nat.reduceBNe, Nat.reduceBEq]
      · simp only [t3, go_sem, bin_add, bin_sub, bin_mul, Nat.reduceAdd, Nat.reduceMul, Nat.reduceEqDiff, Nat.reduceLeDiff, Nat.reduceLT, Nat.reduceSub, reduceIte, reduceCtorEq, Int.reduceToNat, Int.reduceNeg, Int.reduceLE, Int.reduceLT, Int.reduceEq, Nat.reduceOr, Nat.reduceShiftRight, Nat.reduceMod, Nat.reduceBNe, Nat.reduceBEq]
      · simp only [t5, go_sem, bin_add, bin_sub, bin_mul, Nat.reduceAdd, Nat.reduceMul, Nat.reduceEqDiff, Nat.reduceLeDiff, Nat.reduceLT, Nat.reduceSub, reduceIte, reduceCtorEq, Int.reduceToNat, Int.reduceNeg, Int.reduceLE, Int.reduceLT, Int.reduceEq, Nat.reduceOr, Nat.reduceShiftRight, Nat.reduceMod, Nat.reduceBNe, Nat.reduceBEq]
      · simp only [t6, go_sem, bin_add, bin_sub, bin_mul, Nat.reduceAdd, Nat.reduceMul, Nat.reduceEqDiff, Nat.reduceLeDiff, Nat.reduceLT, Nat.reduceSub, reduceIte, reduceCtorEq, Int.reduceToNat, Int.reduceNeg, Int.reduceLE, Int.reduceLT, Int.reduceEq, Nat.reduceOr, Nat.reduceShiftRight, Nat.reduceMod, Nat.reduceBNe, Nat.reduceBEq]
      · simp only [t7, go_sem, bin_add, bin_sub, bin_mul, Nat.reduceAdd, Nat.reduceMul, Nat.reduceEqDiff, Nat.reduceLeDiff, Nat.reduceLT, Nat.reduceSub, reduceIte, reduceCtorEq, Int.reduceToNat, Int.reduceNeg, Int.reduceLE, Int.reduceLT, Int.reduceEq, Nat.reduceOr, Nat.reduceShiftRight, Nat.reduceMod, Nat.reduceBNe, Nat.reduceBEq]
      · simp only [hdl2, go_sem, bin_add, bin_sub, bin_mul, Nat.reduceAdd, Nat.reduceMul, Nat.reduceEqDiff, Nat.reduceLeDiff, Nat.reduceLT, Nat.reduceSub, reduceIte, reduceCtorEq, Int.reduceToNat, Int.reduceNeg, Int.reduceLE, Int.reduceLT, Int.reduceEq, Nat.reduceOr, Nat.reduceShiftRight, Nat.reduceMod, Nat.reduceBNe, Nat.reduceBEq]
      · simp only [go_sem, bin_add, bin_sub, bin_mul, Nat.reduceAdd, Nat.reduceMul, Nat.reduceEqDiff, Nat.reduceLeDiff, Nat.reduceLT, Nat.reduceSub, reduceIte, reduceCtorEq, Int.reduceToNat, Int.reduceNeg, Int.reduceLE, Int.reduceLT, Int.reduceEq, Nat.reduceOr, Nat.reduceShiftRight, Nat.reduceMod, Nat.reduceBNe, Nat.reduceBEq]
      clear t2 t3 t5 t6 t7 fr
      intro fr h5 W F
      obtain ⟨t2, t3, t5, t6, t7⟩ := F
      simp only [go_sem, bin_add, bin_sub, bin_mul, Nat.reduceAdd, Nat.reduceMul, Nat.reduceEqDiff, Nat.reduceLeDiff, Nat.reduceLT, Nat.reduceSub, reduceIte, reduceCtorEq, Int.reduceToNat, Int.reduceNeg, Int.reduceLE, Int.reduceLT, Int.reduceEq, Nat.reduceOr, Nat.reduceShiftRight, Nat.reduceMod, Nat.reduceBNe, Nat.reduceBEq]
      have g5 : ∀ b, b < Hb.nx → h5.get b = Hb.get b := fun b hb => by rw [W.old b hb, e4.get b (Nat.lt_of_lt_of_le hb e3.nx), e3.get b hb]
      have nb5 : Hb.nx ≤ h5.nx := by rw [W.nx]; exact Nat.le_trans e3.nx e4.nx
      have v5 : ∀ {p : Wn}, WnAt Hb p → WnAt h5 p := fun hp => hp.mono nb5 fun b hb o n => by rw [rd_rdB, g5 b hb, ← rd_rdB]
      have r52 : rd h5 P2 0 18 = some (tri18 a' b' c') := by rw [rd_rdB, W.old P2 q2, ← rd_rdB, e4.rd n2]; exact r2
      have r55 : rd h5 P5 0 18 = some (tri18 a2 b2 c2) := by rw [rd_rdB, W.old P5 q5, ← rd_rdB, e4.rd (Nat.lt_of_lt_of_le q5 e3.nx)]; exact r5
      have nn2 : P2 < h5.nx := Nat.lt_of_lt_of_le q2 nb5
      have S5 : Two h5 P2 P5 a' b' c' a2 b2 c2 := ⟨nn2, Nat.lt_of_lt_of_le q5 nb5, r52, r55, (v5 wa).vec, (v5 wb).vec, (v5 wc).vec, (v5 va).vec, (v5 vb).vec, (v5 vc).vec, wa.len, wb.len, wc.len, va.len, vb.len, vc.len, er_vs ea, er_vs eb, er_vs ec, by omega, by omega, by omega⟩
      refine cmpB (h := h5) (x2 := .pointer (some ⟨P2, 0, none⟩)) (x3 := .pointer (some ⟨P3, 0, none⟩)) (x5 := .pointer (some ⟨P5, 0, none⟩)) (x6 := .slice p1 ds.length q1) (x7 := .int .i64 (fillE a' b' c' px py pw ph)) rfl rfl S5 ?_ _ ⟨?_, ?_, ?_, ?_, ?_⟩ ?_
      rotate_left
      · simp only [t2, go_sem, bin_add, bin_sub, bin_mul, Nat.reduceAdd, Nat.reduceMul, Nat.reduceEqDiff, Nat.reduceLeDiff, Nat.reduceLT, Nat.reduceSub, reduceIte, reduceCtorEq, Int.reduceToNat, Int.reduceNeg, Int.reduceLE, Int.reduceLT, Int.reduceEq, Nat.reduceOr, Nat.reduceShiftRight, Nat.reduceMod, Nat.reduceBNe, Nat.reduceBEq]
      · simp only [t3, go_sem, bin_add, bin_sub, bin_mul, Nat.reduceAdd, Nat.reduceMul, Nat.reduceEqDiff, Nat.reduceLeDiff, Nat.reduceLT, Nat.reduceSub, reduceIte, reduceCtorEq, Int.reduceToNat, Int.reduceNeg, Int.reduceLE, Int.reduceLT, Int.reduceEq, Nat.reduceOr, Nat.reduceShiftRight, Nat.reduceMod, Nat.reduceBNe, Nat.reduceBEq]
      · simp only [t5, go_sem, bin_add, bin_sub, bin_mul, Nat.reduceAdd, Nat.reduceMul, Nat.reduceEqDiff, Nat.reduceLeDiff, Nat.reduceLT, Nat.reduceSub, reduceIte, reduceCtorEq, Int.reduceToNat, Int.reduceNeg, Int.reduceLE, Int.reduceLT, Int.reduceEq, Nat.reduceOr, Nat.reduceShiftRight, Nat.reduceMod, Nat.reduceBNe, Nat.reduceBEq]
      · simp only [t6, go_sem, bin_add, bin_sub, bin_mul, Nat.reduceAdd, Nat.reduceMul, Nat.reduceEqDiff, Nat.reduceLeDiff, Nat.reduceLT, Nat.reduceSub, reduceIte, reduceCtorEq, Int.reduceToNat, Int.reduceNeg, Int.reduceLE, Int.reduceLT, Int.reduceEq, Nat.reduceOr, Nat.reduceShiftRight, Nat.reduceMod, Nat.reduceBNe, Nat.reduceBEq]
      · simp only [t7, go_sem, bin_add, bin_sub, bin_mul, Nat.reduceAdd, Nat.reduceMul, Nat.reduceEqDiff, Nat.reduceLeDiff, Nat.reduceLT, Nat.reduceSub, reduceIte, reduceCtorEq, Int.reduceToNat, Int.reduceNeg, Int.reduceLE, Int.reduceLT, Int.reduceEq, Nat.reduceOr, Nat.reduceShiftRight, Nat.reduceMod, Nat.reduceBNe, Nat.reduceBEq]
      · simp only [go_sem, bin_add, bin_sub, bin_mul, Nat.reduceAdd, Nat.reduceMul, Nat.reduceEqDiff, Nat.reduceLeDiff, Nat.reduceLT, Nat.reduceSub, reduceIte, reduceCtorEq, Int.reduceToNat, Int.reduceNeg, Int.reduceLE, Int.reduceLT, Int.reduceEq, Nat.reduceOr, Nat.reduceShiftRight, Nat.reduceMod, Nat.reduceBNe, Nat.reduceBEq]
      clear t2 t3 t5 t6 t7 fr
      intro fr F
      obtain ⟨t2, t3, t5, t6, t7⟩ := F
      have s20 := rd_part r52 0 6 (by omega)
      have s26 := rd_part r52 6 6 (by omega)
      have s2c := rd_part r52 12 6 (by omega)
      simp only [tri18, Nat.zero_add, List.drop_zero, List.drop_succ_cons, List.take_succ_cons, List.take_zero] at s20 s26 s2c
      simp only [t2, nn2, s20, s26, s2c, go_sem, bin_add, bin_sub, bin_mul, Nat.reduceAdd, Nat.reduceMul, Nat.reduceEqDiff, Nat.reduceLeDiff, Nat.reduceLT, Nat.reduceSub, reduceIte, reduceCtorEq, Int.reduceToNat, Int.reduceNeg, Int.reduceLE, Int.reduceLT, Int.reduceEq, Nat.reduceOr, Nat.reduceShiftRight, Nat.reduceMod, Nat.reduceBNe, Nat.reduceBEq]
      refine check3 a' b' c' (H := h5) (i := 0) (by rfl) ?_
      simp only [errF, hbad, cond_false, eq_self, go_sem, bin_add, bin_sub, bin_mul, Nat.reduceAdd, Nat.reduceMul, Nat.reduceEqDiff, Nat.reduceLeDiff, Nat.reduceLT, Nat.reduceSub, reduceIte, reduceCtorEq, Int.reduceToNat, Int.reduceNeg, Int.reduceLE, Int.reduceLT, Int.reduceEq, Nat.reduceOr, Nat.reduceShiftRight, Nat.reduceMod, Nat.reduceBNe, Nat.reduceBEq]
      exact trim_clo H _ _ rfl (by rw [ext_lo]; exact W.lo)
  · have eE : fillE a' b' c' px py pw ph = 320 := by unfold fillE; rw [hbad]; rfl
    have eL : fillL a' b' c' px py pw ph = [] := by unfold fillL; rw [hbad]; rfl
    have eA : areaF a' b' c' = 0 := by unfold areaF; rw [hbad]; rfl
    rw [eL] at f3
    rcases f3 with ⟨_, rfl⟩ | ⟨h0, _⟩
    rotate_left
    · exact absurd rfl h0
    simp only [t2, t6, t7, eE, eq_self, n2, s20, s26, s2c, go_sem, bin_add, bin_sub, bin_mul, Nat.reduceAdd, Nat.reduceMul, Nat.reduceEqDiff, Nat.reduceLeDiff, Nat.reduceLT, Nat.reduceSub, reduceIte, reduceCtorEq, Int.reduceToNat, Int.reduceNeg, Int.reduceLE, Int.reduceLT, Int.reduceEq, Nat.reduceOr, Nat.reduceShiftRight, Nat.reduceMod, Nat.reduceBNe, Nat.reduceBEq]
    refine check3 a' b' c' (H := h3) (i := 0) (by rfl) ?_
    simp only [errF, hbad, cond_true, eq_self, t2, n2, s20, s26, s2c, k14, eA, go_sem, bin_add, bin_sub, bin_mul, Nat.reduceAdd, Nat.reduceMul, Nat.reduceEqDiff, Nat.reduceLeDiff, Nat.reduceLT, Nat.reduceSub, reduceIte, reduceCtorEq, Int.reduceToNat, Int.reduceNeg, Int.reduceLE, Int.reduceLT, Int.reduceEq, Nat.reduceOr, Nat.reduceShiftRight, Nat.reduceMod, Nat.reduceBNe, Nat.reduceBEq]
    exact trim_clo H _ _ rfl (by rw [ext_lo, lo3]; exact Nat.le_refl _)
end
end Go.AX.Tri
