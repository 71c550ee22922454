/- TriBeside, in the calculus. -/
import Derived.Test.YthhgeodgfbhkdaaMf
import Derived.Test.YthhgeodgfbhkdaaZf
set_option linter.unusedVariables false
set_option linter.unusedSimpArgs false
set_option linter.unusedSectionVars false
namespace Go.AX.Tri
open Go.Proofs Go.AX.Mc
set_option linter.unusedSimpArgs false
set_option linter.unusedVariables false
noncomputable section

/-- a corner without its vectors. -/
def nv (p : Wn) : Wn := ⟨p.x, p.y, p.z, p.w, p.s, none, 0, 0, sl_none, []⟩
theorem WnAt.nv {h h' : AH} {p : Wn} (hp : WnAt h p) : WnAt h' (nv p) := ⟨rfl, fun k v hk => by simp [Tri.nv] at hk, fun v hv => by simp [Tri.nv] at hv, hp.z, hp.w⟩

theorem check4 {env : List Lp} (a b c d : Wn) {H : AH} {L : List (Option AB)} {i : Nat} {Q : AEnd → AH → Prop} (hL : L[i]? = some (some (.cells (a.cs ++ (b.cs ++ (c.cs ++ d.cs))) 0 0))) (hQ : Q (.ret (.int .i64 (errF [a, b, c, d]))) (Mc.ext H L)) :
    C T env 12 [.slice (some ⟨H.nx + i, 0, none⟩) 4 4] (Mc.ext H L) Q := by
  have hl := (List.getElem?_eq_some_iff.1 hL).1
  rw [show (4 : Nat) = [a, b, c, d].length from rfl, c12 (H.nx + i) 0 _ [a, b, c, d] (Mc.ext H L) (by rw [ext_nx]; omega) ?_ (by simp) Q]
  · exact hQ
  · intro j w hj
    rw [rd_new, hL]
    match j, hj with
    | 0, hj => cases hj; rfl
    | 1, hj => cases hj; rfl
    | 2, hj => cases hj; rfl
    | 3, hj => cases hj; rfl
    | j + 4, hj => simp at hj
theorem bad4 {a b c d : Wn} (h : badL [a, b, c, d] = false) : OkW a ∧ OkW b ∧ OkW c ∧ OkW d ∧ b.l = a.l ∧ c.l = a.l ∧ d.l = a.l := by
  simp only [badL, List.any_cons, List.any_nil, Bool.or_false, Bool.or_eq_false_iff] at h
  obtain ⟨h1, h2, h3, h4⟩ := h
  exact ⟨(ok_of_bad h1).1, (ok_of_bad h2).1, (ok_of_bad h3).1, (ok_of_bad h4).1, (ok_of_bad h2).2, (ok_of_bad h3).2, (ok_of_bad h4).2⟩

theorem cl_get {ds : List Fd} {x y : Int} (h : (x, y) ∈ ds.map fun d => (d.x, d.y)) : getC (cl ds) x y = some (.bool true) := by
  unfold getC
  cases hq : fnd (cl ds) x y 0 with
  | none =>
    obtain ⟨d, h1, h2⟩ := List.mem_map.1 h
    simp only [Prod.mk.injEq] at h2
    exact absurd (List.mem_map.2 ⟨d, h1, by rw [h2.1, h2.2]⟩) (fnd_iff.1 hq (.bool true))
  | some q =>
    obtain ⟨i, v⟩ := q
    obtain ⟨d, _, h2⟩ := List.mem_map.1 (List.mem_of_getElem? (fnd_some hq))
    simp only [Prod.mk.injEq] at h2
    simp only [Option.map_some, h2.2.2]
theorem frag_mem {f : Fc} {x y : Nat} (hx : x < 64) (hy : y < 64) (h : covF f x y = true) : ((x : Int), (y : Int)) ∈ (fragsF f 0 0 64 64).map fun g => (g.x, g.y) := by
  rw [frags_xy]
  exact List.mem_filter.2 ⟨rows_mem (Nat.zero_le _) (by omega) (Nat.zero_le _) (by omega), h⟩
theorem mem_frag {f : Fc} {x y : Int} (h : (x, y) ∈ (fragsF f 0 0 64 64).map fun g => (g.x, g.y)) : 0 ≤ x ∧ x < 64 ∧ 0 ≤ y ∧ y < 64 ∧ covF f x y = true := by
  rw [frags_xy] at h
  obtain ⟨h1, h2⟩ := List.mem_filter.1 h
  have := mem_rows h1
  refine ⟨by omega, by omega, by omega, by omega, h2⟩
theorem bes_of {a b c d : Wn} (hbad : badL [a, b, c, d] = false) (h1 : 0 < areaF a b c) (h2 : areaF a b d < 0) : badL [a, b, c] = false ∧ badL [a, d, b] = false ∧ Bes a b c d := by
  obtain ⟨oa, ob, oc, od, l1, l2, l3⟩ := bad4 hbad
  have b1 := bad3' oa ob oc l1 l2
  have b2 := bad3' oa ob od l1 l3
  have b3 := bad3' oa od ob l3 l1
  unfold areaF at h1 h2
  rw [b1, cond_false, wayF_eq oa ob oc.x0 oc.x1 oc.y0 oc.y1] at h1
  rw [b2, cond_false, wayF_eq oa ob od.x0 od.x1 od.y0 od.y1] at h2
  exact ⟨b1, b3, oa, ob, oc, od, h1, h2⟩
theorem bes_nodup {a b c d : Wn} (h : Bes a b c d) : ((fragsF (turnF a b c) 0 0 64 64 ++ fragsF (turnF a d b) 0 0 64 64).map fun g => (g.x, g.y)).Nodup := by
  rw [List.map_append, List.nodup_append]
  refine ⟨frags_nodup _ _ _ _ _, frags_nodup _ _ _ _ _, ?_⟩
  rintro ⟨x, y⟩ h1 ⟨x', y'⟩ h2 e
  cases e
  obtain ⟨x0, x1, y0, y1, k1⟩ := mem_frag h1
  obtain ⟨_, _, _, _, k2⟩ := mem_frag h2
  exact bes_apart h x0 x1 y0 y1 k1 k2
theorem bes_met {a b c d : Wn} (h : Bes a b c d) (la : a.l = 0) (lb : b.l = 0) {ds : List Fd} (hds : (ds.map fun d => (d.x, d.y)) = (fragsF (turnF a b c) 0 0 64 64 ++ fragsF (turnF a d b) 0 0 64 64).map fun g => (g.x, g.y)) : Met a b (cl ds) := by
  intro x y x1 y1 ar i1 i2 na nb
  refine cl_get ?_
  rw [hds, List.map_append, List.mem_append]
  have hp : OkW (pW (256 * (x : Int) + 128) (256 * (y : Int) + 128)) := by
    refine ⟨?_, ?_, ?_, ?_, ?_, ?_⟩ <;> simp only [pW] <;> omega
  have hb3 := bad3' h.oa h.ob hp (by omega) (by rw [la]; rfl)
  unfold areaF at ar
  rw [hb3, cond_false, wayF_eq h.oa h.ob hp.x0 hp.x1 hp.y0 hp.y1] at ar
  unfold insF at i1 i2
  simp only [Bool.and_eq_true, decide_eq_true_eq] at i1 i2
  rcases bes_edge h (x := (x : Int)) (y := (y : Int)) (by omega) (by omega) (by omega) (by omega) ar i1.1 i1.2 i2.1 i2.2 na nb with k | k
  · exact .inl (frag_mem x1 y1 k)
  · exact .inr (frag_mem x1 y1 k)

/-- the blocks that law 4 lays ahead of the fills. -/
def Lb4 (a b c d : Wn) : List (Option AB) := [blk (tri18 a b c), blk (nv d).cs, blk (nv a).cs, blk (nv b).cs, blk (nv c).cs, blk ((nv a).cs ++ ((nv b).cs ++ ((nv c).cs ++ (nv d).cs))), blk [.int .i64 0, .int .i64 0, .int .i64 64, .int .i64 64]]
theorem lb4 {G h : AH} {a b c d : Wn} (e : Ext (Mc.ext G (Lb4 a b c d)) h) : G.nx + 7 ≤ h.nx ∧ h.get (G.nx + 1) = some (.cells (nv d).cs 0 0) ∧ h.get (G.nx + 2) = some (.cells (nv a).cs 0 0) ∧ h.get (G.nx + 3) = some (.cells (nv b).cs 0 0) ∧ h.get (G.nx + 6) = some (.cells [.int .i64 0, .int .i64 0, .int .i64 64, .int .i64 64] 0 0) := by
  have hn := e.nx
  rw [ext_nx] at hn
  have K : ∀ k x, (Lb4 a b c d)[k]? = some (some x) → h.get (G.nx + k) = some x := by
    intro k x hk
    have hl := (List.getElem?_eq_some_iff.1 hk).1
    rw [e.get _ (by rw [ext_nx]; omega), ext_get_new, hk]; rfl
  exact ⟨hn, K 1 _ rfl, K 2 _ rfl, K 3 _ rfl, K 6 _ rfl⟩
theorem rd_all {h : AH} {b n : Nat} {cs : List Value} (g : h.get b = some (.cells cs 0 0)) (hn : cs.length = n) : rd h b 0 n = some cs := by
  rw [rd_rdB, g, rdB_cells, if_pos (by omega), List.drop_zero, List.take_of_length_le (by omega)]

theorem law4 (H : AH) (a b c d : Wn) (ha : WnAt H a) (hb : WnAt H b) (hc : WnAt H c) (hd : WnAt H d) :
    C T [] 4 [.agg (tri18 a b c).toArray, .agg d.cs.toArray] H fun x H' => x = .ret (.bool true) ∧ H' = H := by
  rw [C_fn T4 rfl]
  simp only [a4, tri18, Wn.cs, c11, go_sem, bin_add, bin_sub, bin_mul, Nat.reduceAdd, Nat.reduceMul, Nat.reduceEqDiff, Nat.reduceLeDiff, Nat.reduceLT, Nat.reduceSub, reduceIte, reduceCtorEq, Int.reduceToNat, Int.reduceNeg, Int.reduceLE, Int.reduceLT, Int.reduceEq, Nat.reduceOr, Nat.reduceShiftRight, Nat.reduceMod, Nat.reduceBNe, Nat.reduceBEq]
  refine X_drawE 3 (by rfl) ?_
  simp only [Nat.add_assoc, go_sem, bin_add, bin_sub, bin_mul, Nat.reduceAdd, Nat.reduceMul, Nat.reduceEqDiff, Nat.reduceLeDiff, Nat.reduceLT, Nat.reduceSub, reduceIte, reduceCtorEq, Int.reduceToNat, Int.reduceNeg, Int.reduceLE, Int.reduceLT, Int.reduceEq, Nat.reduceOr, Nat.reduceShiftRight, Nat.reduceMod, Nat.reduceBNe, Nat.reduceBEq]
  have k14c := fun (H : AH) (Q : AEnd → AH → Prop) => c14 (env := []) (nv a) (nv b) (nv c) H Q
  have k14d := fun (H : AH) (Q : AEnd → AH → Prop) => c14 (env := []) (nv a) (nv b) (nv d) H Q
  generalize hA1 : areaF (nv a) (nv b) (nv c) = A1 at k14c
  generalize hA2 : areaF (nv a) (nv b) (nv d) = A2 at k14d
  simp only [Wn.v, Wn.cs, nv] at k14c k14d
  refine check4 (nv a) (nv b) (nv c) (nv d) (i := 5) (by rfl) ?_
  cases hbad : badL [nv a, nv b, nv c, nv d]
  · simp only [errF, hbad, cond_false, eq_self, k14c, k14d, go_sem, bin_add, bin_sub, bin_mul, Nat.reduceAdd, Nat.reduceMul, Nat.reduceEqDiff, Nat.reduceLeDiff, Nat.reduceLT, Nat.reduceSub, reduceIte, reduceCtorEq, Int.reduceToNat, Int.reduceNeg, Int.reduceLE, Int.reduceLT, Int.reduceEq, Nat.reduceOr, Nat.reduceShiftRight, Nat.reduceMod, Nat.reduceBNe, Nat.reduceBEq]
    refine Gd_split ?_ ?_ <;> intro g1 <;> simp only [g1, k14c, k14d, go_sem, bin_add, bin_sub, bin_mul, Nat.reduceAdd, Nat.reduceMul, Nat.reduceEqDiff, Nat.reduceLeDiff, Nat.reduceLT, Nat.reduceSub, reduceIte, reduceCtorEq, Int.reduceToNat, Int.reduceNeg, Int.reduceLE, Int.reduceLT, Int.reduceEq, Nat.reduceOr, Nat.reduceShiftRight, Nat.reduceMod, Nat.reduceBNe, Nat.reduceBEq]
    refine Cd_split ?_ ?_ <;> intro g2 <;> simp only [g1, g2, k14c, k14d, go_sem, bin_add, bin_sub, bin_mul, Nat.reduceAdd, Nat.reduceMul, Nat.reduceEqDiff, Nat.reduceLeDiff, Nat.reduceLT, Nat.reduceSub, reduceIte, reduceCtorEq, Int.reduceToNat, Int.reduceNeg, Int.reduceLE, Int.reduceLT, Int.reduceEq, Nat.reduceOr, Nat.reduceShiftRight, Nat.reduceMod, Nat.reduceBNe, Nat.reduceBEq]
    have A1p : 0 < areaF (nv a) (nv b) (nv c) := by rw [hA1]; have := of_decide_eq_false g1; omega
    have A2n : areaF (nv a) (nv b) (nv d) < 0 := by rw [hA2]; have := of_decide_eq_false g2; omega
    obtain ⟨bad1, bad2, bes⟩ := bes_of hbad A1p A2n
    have box : boxF 0 0 64 64 = true := by decide
    refine c15' (nv a) (nv b) (nv c) 0 0 64 64 (H := Mc.ext H.now (Lb4 a b c d)) (by rw [ext_lo, ext_nx]; exact Nat.le_add_right _ _) ha.nv hb.nv hc.nv _ ?_
    intro h3 hd3 e3 f3
    have lo3 : h3.lo = H.nx := by rw [e3.lo, ext_lo]; rfl
    obtain ⟨n3, gd3, ga3, gb3, gx3⟩ := lb4 e3
    have ra3 := rd_all (n := 6) ga3 rfl
    have rb3 := rd_all (n := 6) gb3 rfl
    have rd3 := rd_all (n := 6) gd3 rfl
    have rx3 := rd_all (n := 4) gx3 rfl
    simp only [Wn.cs, nv] at ra3 rb3 rd3
    simp only [ra3, rb3, rd3, rx3, go_sem, bin_add, bin_sub, bin_mul, Nat.reduceAdd, Nat.reduceMul, Nat.reduceEqDiff, Nat.reduceLeDiff, Nat.reduceLT, Nat.reduceSub, reduceIte, reduceCtorEq, Int.reduceToNat, Int.reduceNeg, Int.reduceLE, Int.reduceLT, Int.reduceEq, Nat.reduceOr, Nat.reduceShiftRight, Nat.reduceMod, Nat.reduceBNe, Nat.reduceBEq]
    refine c15' (nv a) (nv d) (nv b) 0 0 64 64 (H := h3) (by rw [lo3]; exact Nat.le_trans (Nat.le_add_right _ _) n3) ha.nv hd.nv hb.nv _ ?_
    intro h4 hd4 e4 f4
    have eE1 : fillE (nv a) (nv b) (nv c) 0 0 64 64 = 0 := by unfold fillE; rw [bad1, box]; rfl
    have eE2 : fillE (nv a) (nv d) (nv b) 0 0 64 64 = 0 := by unfold fillE; rw [bad2, box]; rfl
    have eL1 : fillL (nv a) (nv b) (nv c) 0 0 64 64 = fragsF (turnF (nv a) (nv b) (nv c)) 0 0 64 64 := by unfold fillL; rw [bad1, box]; rfl
    have eL2 : fillL (nv a) (nv d) (nv b) 0 0 64 64 = fragsF (turnF (nv a) (nv d) (nv b)) 0 0 64 64 := by unfold fillL; rw [bad2, box]; rfl
    have sz1 := fillL_len (nv a) (nv b) (nv c) 0 0 64 64
    have sz2 := fillL_len (nv a) (nv d) (nv b) 0 0 64 64
    have sv1 := fillL_vs (nv a) (nv b) (nv c) 0 0 64 64
    have sv2 := fillL_vs (nv a) (nv d) (nv b) 0 0 64 64
    rw [eL1] at f3 sz1 sv1
    rw [eL2] at f4 sz2 sv2
    have f3' : FL H.nx (h4.push (.map [] 0)) hd3 _ := FL.mono (h := h3) (h' := h4.push (.map [] 0)) (M := (Mc.ext H.now (Lb4 a b c d)).nx) (by rw [AH.nx_push]; have := e4.nx; omega) (by rw [ext_nx]; exact Nat.le_add_right _ _) (fun b cs k z _ hb hg _ => by rw [push_get_old (Nat.lt_of_lt_of_le hb e4.nx), e4.get b hb]; exact hg) f3
    have f4' : FL H.nx (h4.push (.map [] 0)) hd4 _ := FL.mono (h := h4) (h' := h4.push (.map [] 0)) (M := h3.nx) (by rw [AH.nx_push]; omega) (Nat.le_trans (Nat.le_add_right _ _) n3) (fun b cs k z _ hb hg _ => by rw [push_get_old hb]; exact hg) f4
    have hN4 : H.nx + 7 ≤ h4.nx := Nat.le_trans n3 e4.nx
    obtain ⟨hd5, h5, eapp, f5, app5⟩ := app_FL f3' f4' (by rw [AH.nx_push]; omega) (by omega)
    have sv : ∀ g ∈ fragsF (turnF (nv a) (nv b) (nv c)) 0 0 64 64 ++ fragsF (turnF (nv a) (nv d) (nv b)) 0 0 64 64, g.vs.length < 9223372036854775808 := fun g hg => by
      rcases List.mem_append.1 hg with h | h
      · have := sv1 g h; omega
      · have := sv2 g h; omega
    obtain ⟨p1, q1, ds, rfl, k1, l1, m1, z1⟩ := f5.fds sv
    have hdl : ds.length < 10000 := by
      have := congrArg List.length m1
      rw [List.length_map, List.length_append] at this
      omega
    have hds : (ds.map fun d => (d.x, d.y)) = (fragsF (turnF (nv a) (nv b) (nv c)) 0 0 64 64 ++ fragsF (turnF (nv a) (nv d) (nv b)) 0 0 64 64).map fun g => (g.x, g.y) := by
      rw [← m1, List.map_map]; rfl
    simp only [eE1, eE2, eq_self, e_mkMap, eapp, k1 _ _ _, go_sem, bin_add, bin_sub, bin_mul, Nat.reduceAdd, Nat.reduceMul, Nat.reduceEqDiff, Nat.reduceLeDiff, Nat.reduceLT, Nat.reduceSub, reduceIte, reduceCtorEq, Int.reduceToNat, Int.reduceNeg, Int.reduceLE, Int.reduceLT, Int.reduceEq, Nat.reduceOr, Nat.reduceShiftRight, Nat.reduceMod, Nat.reduceBNe, Nat.reduceBEq]
    have G4 : ∀ k cs, h3.get (H.nx + k) = some (.cells cs 0 0) → H.nx + k < h3.nx → h5.get (H.nx + k) = some (.cells cs 0 0) := by
      intro k cs hg hk
      have e1 : (h4.push (.map [] 0)).get (H.nx + k) = some (.cells cs 0 0) := by rw [push_get_old (Nat.lt_of_lt_of_le hk e4.nx), e4.get _ hk]; exact hg
      rw [app5.old _ (by rw [AH.nx_push]; have := e4.nx; omega) (fun cs' h => by rw [e1] at h; simp at h)]
      exact e1
    have n3' : H.nx + 7 ≤ h3.nx := n3
    have n5 : h4.nx + 1 ≤ h5.nx := by have := app5.nx; rw [AH.nx_push] at this; exact this
    have J : J4 H.nx h4.nx (H.nx + 2) (H.nx + 3) (nv a) (nv b) (cl (ds.take 0)) h5 := by
      refine ⟨app5.lo _ (Nat.le_refl _) ?_, app5.le ?_, by omega, by omega, ?_, by omega, by omega, rd_all (G4 2 _ ga3 (by omega)) rfl, rd_all (G4 3 _ gb3 (by omega)) rfl⟩
      · show H.nx ≤ h4.lo; rw [e4.lo, lo3]; exact Nat.le_refl _
      · rw [AH.nx_push]; show h4.lo ≤ _; rw [e4.lo, lo3]; omega
      · rw [app5.old h4.nx (by rw [AH.nx_push]; omega) (fun cs h => by rw [AH.get_push_same] at h; simp at h), AH.get_push_same]
        rfl
    refine loop4 (dc := q1) hdl (by rw [hds]; exact bes_nodup bes) ?_ ds.length 0 (Nat.zero_add _) _ h5 J l1 ⟨?_, ?_, ?_⟩ ?_ ?_ ?_
    · intro fr h J' F'
      obtain ⟨t5, t6, t13⟩ := F'
      simp only [go_sem, bin_add, bin_sub, bin_mul, Nat.reduceAdd, Nat.reduceMul, Nat.reduceEqDiff, Nat.reduceLeDiff, Nat.reduceLT, Nat.reduceSub, reduceIte, reduceCtorEq, Int.reduceToNat, Int.reduceNeg, Int.reduceLE, Int.reduceLT, Int.reduceEq, Nat.reduceOr, Nat.reduceShiftRight, Nat.reduceMod, Nat.reduceBNe, Nat.reduceBEq]
      refine outer4 (bes_met bes rfl rfl hds) ?_ 64 0 (by omega) _ h J' ⟨?_, ?_, ?_⟩ ?_
      · intro fr' h' hlo'
        simp only [go_sem, bin_add, bin_sub, bin_mul, Nat.reduceAdd, Nat.reduceMul, Nat.reduceEqDiff, Nat.reduceLeDiff, Nat.reduceLT, Nat.reduceSub, reduceIte, reduceCtorEq, Int.reduceToNat, Int.reduceNeg, Int.reduceLE, Int.reduceLT, Int.reduceEq, Nat.reduceOr, Nat.reduceShiftRight, Nat.reduceMod, Nat.reduceBNe, Nat.reduceBEq]
        exact trim_clo H _ _ rfl hlo'
      all_goals simp only [t5, t6, t13, go_sem, bin_add, bin_sub, bin_mul, Nat.reduceAdd, Nat.reduceMul, Nat.reduceEqDiff, Nat.reduceLeDiff, Nat.reduceLT, Nat.reduceSub, reduceIte, reduceCtorEq, Int.reduceToNat, Int.reduceNeg, Int.reduceLE, Int.reduceLT, Int.reduceEq, Nat.reduceOr, Nat.reduceShiftRight, Nat.reduceMod, Nat.reduceBNe, Nat.reduceBEq]
      all_goals rfl
    all_goals simp only [go_sem, bin_add, bin_sub, bin_mul, Nat.reduceAdd, Nat.reduceMul, Nat.reduceEqDiff, Nat.reduceLeDiff, Nat.reduceLT, Nat.reduceSub, reduceIte, reduceCtorEq, Int.reduceToNat, Int.reduceNeg, Int.reduceLE, Int.reduceLT, Int.reduceEq, Nat.reduceOr, Nat.reduceShiftRight, Nat.reduceMod, Nat.reduceBNe, Nat.reduceBEq]
    all_goals rfl
  · simp only [errF, hbad, cond_true, eq_self, go_sem, bin_add, bin_sub, bin_mul, Nat.reduceAdd, Nat.reduceMul, Nat.reduceEqDiff, Nat.reduceLeDiff, Nat.reduceLT, Nat.reduceSub, reduceIte, reduceCtorEq, Int.reduceToNat, Int.reduceNeg, Int.reduceLE, Int.reduceLT, Int.reduceEq, Nat.reduceOr, Nat.reduceShiftRight, Nat.reduceMod, Nat.reduceBNe, Nat.reduceBEq]
end
end Go.AX.Tri
