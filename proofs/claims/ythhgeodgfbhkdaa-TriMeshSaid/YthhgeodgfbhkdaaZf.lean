/- TriTurns, in the calculus. -/
import Derived.Test.YthhgeodgfbhkdaaZd
set_option linter.unusedVariables false
set_option linter.unusedSimpArgs false
set_option linter.unusedSectionVars false
namespace Go.AX.Tri
open Go.Proofs Go.AX.Mc
set_option linter.unusedSimpArgs false
set_option linter.unusedVariables false
noncomputable section

theorem Pl.ext {h : AH} {p : Wn} (hp : Pl h p) (L : List (Option AB)) : Pl (ext h L) p := by
  rcases hp with hp | ⟨b, o, h1, h2, h3, h4⟩ | ⟨b, h1, h2, h3, h4, h5⟩
  · exact .inl hp
  · exact .inr (.inl ⟨b, o, h1, h2, by rw [ext_nx]; omega, by rw [rd_old _ _ _ _ _ h3]; exact h4⟩)
  · exact .inr (.inr ⟨b, h1, h2, h3, by rw [ext_nx]; omega, by rw [rd_old _ _ _ _ _ h4]; exact h5⟩)
theorem WnAt.mono {h h' : AH} {p : Wn} (hp : WnAt h p) (hn : h.nx ≤ h'.nx) (hr : ∀ b, b < h.nx → ∀ o n, rd h' b o n = rd h b o n) : WnAt h' p := ⟨hp.len, hp.vec.mono hn hr, hp.num, hp.z, hp.w⟩
theorem WnAt.ext {h : AH} {p : Wn} (hp : WnAt h p) (L : List (Option AB)) : WnAt (ext h L) p := hp.mono (by rw [ext_nx]; omega) fun b hb o n => rd_old _ _ _ _ _ hb
theorem WnAt.now {h : AH} {p : Wn} (hp : WnAt h p) : WnAt h.now p := hp.mono (Nat.le_refl _) fun _ _ _ _ => rfl
theorem WnAt.Ext {h h' : AH} {p : Wn} (hp : WnAt h p) (e : Ext h h') : WnAt h' p := hp.mono e.nx fun b hb o n => e.rd hb o n
theorem Cq.wn {N : Nat} {h h0 : AH} {p p' : Wn} (k : Cq N h p p') (hp : WnAt h0 p) : WnAt h p' :=
  ⟨k.len, k.vec, fun v hv => by rw [k.vs] at hv; exact hp.num v (List.mem_of_mem_take hv), by rw [k.z]; exact hp.z, by rw [k.w]; exact hp.w⟩

theorem Cq.box {H : AH} {u v : Option AB} {L : List (Option AB)} {h0 : AH} {p p' : Wn} (k : Cq (ext H [u, v]).nx (ext (ext H [u, v]) L) p p') (hp : WnAt h0 p) (u' v' : Option AB) : WnAt (ext H (u' :: v' :: L)) p' := by
  refine ⟨k.len, ?_, (k.wn hp).num, (k.wn hp).z, (k.wn hp).w⟩
  intro i w hw
  obtain ⟨b, o, r, h1, h2, h3, h4⟩ := k.vec i w hw
  obtain ⟨b', r', h5, h6⟩ := k.own
  rw [h1] at h5
  cases h5
  refine ⟨b, 0, r, h1, h2, ?_, ?_⟩
  · rw [ext_ext, ext_nx] at h3
    rw [ext_nx]
    simpa using h3
  · rw [ext_nx] at h6
    obtain ⟨j, rfl⟩ : ∃ j, b = H.nx + (j + 2) := ⟨b - (H.nx + 2), by simp at h6; omega⟩
    rw [ext_ext, rd_new] at h4
    rw [rd_new]
    exact h4

theorem box_rd {G h : AH} {a b c : Wn} {px py pw ph : Int} {L : List (Option AB)} (e : Ext (Mc.ext G (blk (tri18 a b c) :: blk [.int .i64 px, .int .i64 py, .int .i64 pw, .int .i64 ph] :: L)) h) :
    rd h G.nx 0 6 = some [.int .i64 a.x, .int .i64 a.y, .int .i32 a.z, .int .i32 a.w, .int .i32 a.s, .slice a.a a.l a.c] ∧ rd h G.nx 6 6 = some [.int .i64 b.x, .int .i64 b.y, .int .i32 b.z, .int .i32 b.w, .int .i32 b.s, .slice b.a b.l b.c] ∧
    rd h G.nx 12 6 = some [.int .i64 c.x, .int .i64 c.y, .int .i32 c.z, .int .i32 c.w, .int .i32 c.s, .slice c.a c.l c.c] ∧ rd h (G.nx + 1) 0 4 = some [.int .i64 px, .int .i64 py, .int .i64 pw, .int .i64 ph] := by
  have n : ∀ k, k < 2 → G.nx + k < (Mc.ext G (blk (tri18 a b c) :: blk [.int .i64 px, .int .i64 py, .int .i64 pw, .int .i64 ph] :: L)).nx := by
    intro k hk; rw [ext_nx]; simp only [List.length_cons]; omega
  have n0 := n 0 (by omega)
  rw [Nat.add_zero] at n0
  refine ⟨?_, ?_, ?_, ?_⟩
  · rw [e.rd n0, rd_new0]; rfl
  · rw [e.rd n0, rd_new0]; rfl
  · rw [e.rd n0, rd_new0]; rfl
  · rw [e.rd (n 1 (by omega)), rd_new]; rfl

theorem loop10v {env : List Lp} {k : List KF} {Q : QF} (a a' : Option Addr) (c c' b6 b7 : Nat) (vs : List V4) (hsz : vs.length < 9223372036854775808) (h : AH) (hv : VecAt h a vs) (hw : VecAt h a' vs)
    (k6 : b6 < h.nx) (k7 : b7 < h.nx) (e6 : rd h b6 9 1 = some [.slice a vs.length c]) (e7 : rd h b7 9 1 = some [.slice a' vs.length c']) (x0 x1 x15 x16 : Value)
    (q2 : ∀ fr, tmp fr (pa 5) = x0 → tmp fr (pa 9) = x1 → tmp fr (pa 74) = x15 → tmp fr (pa 75) = x16 → Kt T env false k .normal fr [] (Mc.ext h []) Q) :
    ∀ (m i : Nat), i + m = vs.length → ∀ (fr : Tr Value), tmp fr (pa 5) = x0 → tmp fr (pa 9) = x1 → tmp fr (pa 74) = x15 → tmp fr (pa 75) = x16 →
      tmp fr (pa 12) = .pointer (some ⟨b6, 0, none⟩) → tmp fr (pa 13) = .pointer (some ⟨b7, 0, none⟩) → tmp fr (pa 130) = .int .i64 vs.length → tmp fr (pa 131) = .int .i64 i →
      X T env false (.loop a10l0) (.blk 2 :: k) fr [] (Mc.ext h []) Q := by
  intro m
  induction m with
  | zero =>
    intro i hi fr f0 f1 f15 f16 t6 t7 t12 t13
    rw [X_loop]
    change X _ _ _ (.seq _ _) _ _ _ _ _
    simp only [t6, t7, t12, t13, show ¬ ((i : Int) < vs.length) by omega, decide_false, go_sem, bin_add, bin_sub, bin_mul, Nat.reduceAdd, Nat.reduceMul, Nat.reduceEqDiff, Nat.reduceLeDiff, Nat.reduceLT, Nat.reduceSub, reduceIte, reduceCtorEq, Int.reduceToNat, Int.reduceNeg, Int.reduceLE, Int.reduceLT, Int.reduceEq, Nat.reduceOr, Nat.reduceShiftRight, Nat.reduceMod, Nat.reduceBNe, Nat.reduceBEq]
    refine q2 _ ?_ ?_ ?_ ?_
    all_goals simp only [f0, f1, f15, f16, go_sem, bin_add, bin_sub, bin_mul, Nat.reduceAdd, Nat.reduceMul, Nat.reduceEqDiff, Nat.reduceLeDiff, Nat.reduceLT, Nat.reduceSub, reduceIte, reduceCtorEq, Int.reduceToNat, Int.reduceNeg, Int.reduceLE, Int.reduceLT, Int.reduceEq, Nat.reduceOr, Nat.reduceShiftRight, Nat.reduceMod, Nat.reduceBNe, Nat.reduceBEq]
  | succ m ih =>
    intro i hi fr f0 f1 f15 f16 t6 t7 t12 t13
    have hlt : (i : Int) < vs.length := by omega
    have h0 : i < vs.length := by omega
    obtain ⟨v, ev⟩ : ∃ v, vs[i]? = some v := ⟨vs[i]'(by omega), List.getElem?_eq_getElem (by omega)⟩
    obtain ⟨b, o, r, ha, hr, hb, r1⟩ := hv i v ev
    obtain ⟨b', o', r', ha', hr', hb', r2⟩ := hw i v ev
    rw [X_loop]
    change X _ _ _ (.seq _ _) _ _ _ _ _
    rw [ha] at e6
    rw [ha'] at e7
    rcases hr with rfl | rfl <;> rcases hr' with rfl | rfl
    all_goals
      simp only [t6, t7, t12, t13, hlt, go_sem, bin_add, bin_sub, bin_mul, Nat.reduceAdd, Nat.reduceMul, Nat.reduceEqDiff, Nat.reduceLeDiff, Nat.reduceLT, Nat.reduceSub, reduceIte, reduceCtorEq, Int.reduceToNat, Int.reduceNeg, Int.reduceLE, Int.reduceLT, Int.reduceEq, Nat.reduceOr, Nat.reduceShiftRight, Nat.reduceMod, Nat.reduceBNe, Nat.reduceBEq]
      refine X_drawE 0 (by rfl) ?_
      simp only [V4.cs, t6, t7, t13, k6, k7, e6, e7, h0, rd_old _ _ _ _ _ hb, rd_old _ _ _ _ _ hb', rd_old _ _ _ _ _ k6, rd_old _ _ _ _ _ k7, r1, r2, bin_neqV', eqV_refl, go_sem, bin_add, bin_sub, bin_mul, Nat.reduceAdd, Nat.reduceMul, Nat.reduceEqDiff, Nat.reduceLeDiff, Nat.reduceLT, Nat.reduceSub, reduceIte, reduceCtorEq, Int.reduceToNat, Int.reduceNeg, Int.reduceLE, Int.reduceLT, Int.reduceEq, Nat.reduceOr, Nat.reduceShiftRight, Nat.reduceMod, Nat.reduceBNe, Nat.reduceBEq]
      refine ih (i + 1) (by omega) _ ?_ ?_ ?_ ?_ ?_ ?_ ?_ ?_
      · simp only [f0, go_sem, bin_add, bin_sub, bin_mul, Nat.reduceAdd, Nat.reduceMul, Nat.reduceEqDiff, Nat.reduceLeDiff, Nat.reduceLT, Nat.reduceSub, reduceIte, reduceCtorEq, Int.reduceToNat, Int.reduceNeg, Int.reduceLE, Int.reduceLT, Int.reduceEq, Nat.reduceOr, Nat.reduceShiftRight, Nat.reduceMod, Nat.reduceBNe, Nat.reduceBEq]
      · simp only [f1, go_sem, bin_add, bin_sub, bin_mul, Nat.reduceAdd, Nat.reduceMul, Nat.reduceEqDiff, Nat.reduceLeDiff, Nat.reduceLT, Nat.reduceSub, reduceIte, reduceCtorEq, Int.reduceToNat, Int.reduceNeg, Int.reduceLE, Int.reduceLT, Int.reduceEq, Nat.reduceOr, Nat.reduceShiftRight, Nat.reduceMod, Nat.reduceBNe, Nat.reduceBEq]
      · simp only [f15, go_sem, bin_add, bin_sub, bin_mul, Nat.reduceAdd, Nat.reduceMul, Nat.reduceEqDiff, Nat.reduceLeDiff, Nat.reduceLT, Nat.reduceSub, reduceIte, reduceCtorEq, Int.reduceToNat, Int.reduceNeg, Int.reduceLE, Int.reduceLT, Int.reduceEq, Nat.reduceOr, Nat.reduceShiftRight, Nat.reduceMod, Nat.reduceBNe, Nat.reduceBEq]
      · simp only [f16, go_sem, bin_add, bin_sub, bin_mul, Nat.reduceAdd, Nat.reduceMul, Nat.reduceEqDiff, Nat.reduceLeDiff, Nat.reduceLT, Nat.reduceSub, reduceIte, reduceCtorEq, Int.reduceToNat, Int.reduceNeg, Int.reduceLE, Int.reduceLT, Int.reduceEq, Nat.reduceOr, Nat.reduceShiftRight, Nat.reduceMod, Nat.reduceBNe, Nat.reduceBEq]
      · simp only [t6, go_sem, bin_add, bin_sub, bin_mul, Nat.reduceAdd, Nat.reduceMul, Nat.reduceEqDiff, Nat.reduceLeDiff, Nat.reduceLT, Nat.reduceSub, reduceIte, reduceCtorEq, Int.reduceToNat, Int.reduceNeg, Int.reduceLE, Int.reduceLT, Int.reduceEq, Nat.reduceOr, Nat.reduceShiftRight, Nat.reduceMod, Nat.reduceBNe, Nat.reduceBEq]
      · simp only [t7, go_sem, bin_add, bin_sub, bin_mul, Nat.reduceAdd, Nat.reduceMul, Nat.reduceEqDiff, Nat.reduceLeDiff, Nat.reduceLT, Nat.reduceSub, reduceIte, reduceCtorEq, Int.reduceToNat, Int.reduceNeg, Int.reduceLE, Int.reduceLT, Int.reduceEq, Nat.reduceOr, Nat.reduceShiftRight, Nat.reduceMod, Nat.reduceBNe, Nat.reduceBEq]
      · simp only [t12, go_sem, bin_add, bin_sub, bin_mul, Nat.reduceAdd, Nat.reduceMul, Nat.reduceEqDiff, Nat.reduceLeDiff, Nat.reduceLT, Nat.reduceSub, reduceIte, reduceCtorEq, Int.reduceToNat, Int.reduceNeg, Int.reduceLE, Int.reduceLT, Int.reduceEq, Nat.reduceOr, Nat.reduceShiftRight, Nat.reduceMod, Nat.reduceBNe, Nat.reduceBEq]
      · simp only [go_sem, bin_add, bin_sub, bin_mul, Nat.reduceAdd, Nat.reduceMul, Nat.reduceEqDiff, Nat.reduceLeDiff, Nat.reduceLT, Nat.reduceSub, reduceIte, reduceCtorEq, Int.reduceToNat, Int.reduceNeg, Int.reduceLE, Int.reduceLT, Int.reduceEq, Nat.reduceOr, Nat.reduceShiftRight, Nat.reduceMod, Nat.reduceBNe, Nat.reduceBEq, t13]
        rw [w1 (by omega)]

theorem beq_not (b : Bool) : (b == !b) = false := by cases b <;> rfl
set_option maxHeartbeats 4000000 in
theorem loop10 {env : List Lp} {k : List KF} {Q : QF} (a a' : Option Addr) (c c' : Nat) (ds es : List Fd) (hl : ds.length = es.length) (hsz : ds.length < 9223372036854775808) (H : AH)
    (hp : ∀ (i : Nat) d e, ds[i]? = some d → es[i]? = some e → e.x = d.x ∧ e.y = d.y ∧ e.z = d.z ∧ e.iw = d.iw ∧ e.fr = !d.fr ∧ e.vs = d.vs)
    (q2 : ∀ fr h, H.nx ≤ h.lo → Kt T env false k .normal fr [] (Mc.ext h []) Q) :
    ∀ (m i : Nat), i + m = ds.length → ∀ (fr : Tr Value) (h : AH), H.nx ≤ h.lo → h.lo ≤ h.nx → FdsAt h a ds → FdsAt h a' es →
      tmp fr (pa 5) = .slice a ds.length c → tmp fr (pa 9) = .slice a' es.length c' → tmp fr (pa 74) = .int .i64 ds.length → tmp fr (pa 75) = .int .i64 i →
      X T env false (.loop a10l1) (.blk 0 :: k) fr [] (Mc.ext h []) Q := by
  intro m
  induction m with
  | zero =>
    intro i hi fr h hh hlo hv hw t0 t1 t12 t13
    rw [X_loop]
    change X _ _ _ (.seq _ _) _ _ _ _ _
    simp only [t0, t1, t12, t13, show ¬ ((i : Int) < ds.length) by omega, decide_false, go_sem, bin_add, bin_sub, bin_mul, Nat.reduceAdd, Nat.reduceMul, Nat.reduceEqDiff, Nat.reduceLeDiff, Nat.reduceLT, Nat.reduceSub, reduceIte, reduceCtorEq, Int.reduceToNat, Int.reduceNeg, Int.reduceLE, Int.reduceLT, Int.reduceEq, Nat.reduceOr, Nat.reduceShiftRight, Nat.reduceMod, Nat.reduceBNe, Nat.reduceBEq]
    exact q2 _ _ hh
  | succ m ih =>
    intro i hi fr h hh hlo hv hw t0 t1 t12 t13
    have hlt : (i : Int) < ds.length := by omega
    have h0 : i < ds.length := by omega
    have h1 : i < es.length := by omega
    obtain ⟨v, ev⟩ : ∃ v, ds[i]? = some v := ⟨ds[i]'(by omega), List.getElem?_eq_getElem (by omega)⟩
    obtain ⟨w, ew⟩ : ∃ v, es[i]? = some v := ⟨es[i]'(by omega), List.getElem?_eq_getElem (by omega)⟩
    obtain ⟨fv, b, o, r, ha, hr, hb, r1⟩ := hv i v ev
    obtain ⟨fw, b', o', r', ha', hr', hb', r2⟩ := hw i w ew
    obtain ⟨w1', w2, w3, w4, w5, w6⟩ := hp i v w ev ew
    have hwv := fw.vec
    unfold Fd.cs at r2
    rw [w1', w2, w3, w4, w5, w6] at r2
    rw [w6] at hwv
    rw [X_loop]
    change X _ _ _ (.seq _ _) _ _ _ _ _
    rw [ha] at t0
    rw [ha'] at t1
    have sv := v.ok
    have sw := w.ok
    rcases hr with rfl | rfl <;> rcases hr' with rfl | rfl
    all_goals
      simp only [t0, t1, t12, t13, hlt, go_sem, bin_add, bin_sub, bin_mul, Nat.reduceAdd, Nat.reduceMul, Nat.reduceEqDiff, Nat.reduceLeDiff, Nat.reduceLT, Nat.reduceSub, reduceIte, reduceCtorEq, Int.reduceToNat, Int.reduceNeg, Int.reduceLE, Int.reduceLT, Int.reduceEq, Nat.reduceOr, Nat.reduceShiftRight, Nat.reduceMod, Nat.reduceBNe, Nat.reduceBEq]
      refine X_drawE 2 (by rfl) ?_
      simp only [Fd.cs, t0, t1, t12, t13, hlt, h0, h1, hlo, rd_old _ _ _ _ _ hb, rd_old _ _ _ _ _ hb', r1, r2, sv _ _ _, sw _ _ _, eq_self, bin_eql_b, beq_not, go_sem, bin_add, bin_sub, bin_mul, Nat.reduceAdd, Nat.reduceMul, Nat.reduceEqDiff, Nat.reduceLeDiff, Nat.reduceLT, Nat.reduceSub, reduceIte, reduceCtorEq, Int.reduceToNat, Int.reduceNeg, Int.reduceLE, Int.reduceLT, Int.reduceEq, Nat.reduceOr, Nat.reduceShiftRight, Nat.reduceMod, Nat.reduceBNe, Nat.reduceBEq]
      refine loop10v v.a w.a v.c w.c h.nx (h.nx + 1) v.vs fv.sz (Mc.ext h [some _, some _]) (fv.ext _).vec (hwv.mono (by rw [ext_nx]; omega) fun b hb o n => rd_old _ _ _ _ _ hb) (by rw [ext_nx]; simp) (by rw [ext_nx]; simp) ?_ ?_ (.slice a ds.length c) (.slice a' es.length c') (.int .i64 ds.length) (.int .i64 i) ?_ v.vs.length 0 (by omega) _ ?_ ?_ ?_ ?_ ?_ ?_ ?_ ?_
      · simp only [go_sem, bin_add, bin_sub, bin_mul, Nat.reduceAdd, Nat.reduceMul, Nat.reduceEqDiff, Nat.reduceLeDiff, Nat.reduceLT, Nat.reduceSub, reduceIte, reduceCtorEq, Int.reduceToNat, Int.reduceNeg, Int.reduceLE, Int.reduceLT, Int.reduceEq, Nat.reduceOr, Nat.reduceShiftRight, Nat.reduceMod, Nat.reduceBNe, Nat.reduceBEq]
      · simp only [go_sem, bin_add, bin_sub, bin_mul, Nat.reduceAdd, Nat.reduceMul, Nat.reduceEqDiff, Nat.reduceLeDiff, Nat.reduceLT, Nat.reduceSub, reduceIte, reduceCtorEq, Int.reduceToNat, Int.reduceNeg, Int.reduceLE, Int.reduceLT, Int.reduceEq, Nat.reduceOr, Nat.reduceShiftRight, Nat.reduceMod, Nat.reduceBNe, Nat.reduceBEq]
      · intro fr' f0 f1 f15 f16
        simp only [f16, go_sem, bin_add, bin_sub, bin_mul, Nat.reduceAdd, Nat.reduceMul, Nat.reduceEqDiff, Nat.reduceLeDiff, Nat.reduceLT, Nat.reduceSub, reduceIte, reduceCtorEq, Int.reduceToNat, Int.reduceNeg, Int.reduceLE, Int.reduceLT, Int.reduceEq, Nat.reduceOr, Nat.reduceShiftRight, Nat.reduceMod, Nat.reduceBNe, Nat.reduceBEq]
        refine ih (i + 1) (by omega) _ (Mc.ext h [some _, some _]) (by rw [ext_lo]; exact hh) (by rw [ext_lo, ext_nx]; omega) (hv.ext _) (hw.ext _) ?_ ?_ ?_ ?_
        · simp only [f0, go_sem, bin_add, bin_sub, bin_mul, Nat.reduceAdd, Nat.reduceMul, Nat.reduceEqDiff, Nat.reduceLeDiff, Nat.reduceLT, Nat.reduceSub, reduceIte, reduceCtorEq, Int.reduceToNat, Int.reduceNeg, Int.reduceLE, Int.reduceLT, Int.reduceEq, Nat.reduceOr, Nat.reduceShiftRight, Nat.reduceMod, Nat.reduceBNe, Nat.reduceBEq]
        · simp only [f1, go_sem, bin_add, bin_sub, bin_mul, Nat.reduceAdd, Nat.reduceMul, Nat.reduceEqDiff, Nat.reduceLeDiff, Nat.reduceLT, Nat.reduceSub, reduceIte, reduceCtorEq, Int.reduceToNat, Int.reduceNeg, Int.reduceLE, Int.reduceLT, Int.reduceEq, Nat.reduceOr, Nat.reduceShiftRight, Nat.reduceMod, Nat.reduceBNe, Nat.reduceBEq]
        · simp only [f15, go_sem, bin_add, bin_sub, bin_mul, Nat.reduceAdd, Nat.reduceMul, Nat.reduceEqDiff, Nat.reduceLeDiff, Nat.reduceLT, Nat.reduceSub, reduceIte, reduceCtorEq, Int.reduceToNat, Int.reduceNeg, Int.reduceLE, Int.reduceLT, Int.reduceEq, Nat.reduceOr, Nat.reduceShiftRight, Nat.reduceMod, Nat.reduceBNe, Nat.reduceBEq]
        · simp only [f16, go_sem, bin_add, bin_sub, bin_mul, Nat.reduceAdd, Nat.reduceMul, Nat.reduceEqDiff, Nat.reduceLeDiff, Nat.reduceLT, Nat.reduceSub, reduceIte, reduceCtorEq, Int.reduceToNat, Int.reduceNeg, Int.reduceLE, Int.reduceLT, Int.reduceEq, Nat.reduceOr, Nat.reduceShiftRight, Nat.reduceMod, Nat.reduceBNe, Nat.reduceBEq]
          rw [w1 (by omega)]
      · simp only [t0, ha, go_sem, bin_add, bin_sub, bin_mul, Nat.reduceAdd, Nat.reduceMul, Nat.reduceEqDiff, Nat.reduceLeDiff, Nat.reduceLT, Nat.reduceSub, reduceIte, reduceCtorEq, Int.reduceToNat, Int.reduceNeg, Int.reduceLE, Int.reduceLT, Int.reduceEq, Nat.reduceOr, Nat.reduceShiftRight, Nat.reduceMod, Nat.reduceBNe, Nat.reduceBEq]
      · simp only [t1, ha', go_sem, bin_add, bin_sub, bin_mul, Nat.reduceAdd, Nat.reduceMul, Nat.reduceEqDiff, Nat.reduceLeDiff, Nat.reduceLT, Nat.reduceSub, reduceIte, reduceCtorEq, Int.reduceToNat, Int.reduceNeg, Int.reduceLE, Int.reduceLT, Int.reduceEq, Nat.reduceOr, Nat.reduceShiftRight, Nat.reduceMod, Nat.reduceBNe, Nat.reduceBEq]
      · simp only [t12, go_sem, bin_add, bin_sub, bin_mul, Nat.reduceAdd, Nat.reduceMul, Nat.reduceEqDiff, Nat.reduceLeDiff, Nat.reduceLT, Nat.reduceSub, reduceIte, reduceCtorEq, Int.reduceToNat, Int.reduceNeg, Int.reduceLE, Int.reduceLT, Int.reduceEq, Nat.reduceOr, Nat.reduceShiftRight, Nat.reduceMod, Nat.reduceBNe, Nat.reduceBEq]
      · simp only [t13, go_sem, bin_add, bin_sub, bin_mul, Nat.reduceAdd, Nat.reduceMul, Nat.reduceEqDiff, Nat.reduceLeDiff, Nat.reduceLT, Nat.reduceSub, reduceIte, reduceCtorEq, Int.reduceToNat, Int.reduceNeg, Int.reduceLE, Int.reduceLT, Int.reduceEq, Nat.reduceOr, Nat.reduceShiftRight, Nat.reduceMod, Nat.reduceBNe, Nat.reduceBEq]
      all_goals simp only [go_sem, bin_add, bin_sub, bin_mul, Nat.reduceAdd, Nat.reduceMul, Nat.reduceEqDiff, Nat.reduceLeDiff, Nat.reduceLT, Nat.reduceSub, reduceIte, reduceCtorEq, Int.reduceToNat, Int.reduceNeg, Int.reduceLE, Int.reduceLT, Int.reduceEq, Nat.reduceOr, Nat.reduceShiftRight, Nat.reduceMod, Nat.reduceBNe, Nat.reduceBEq]

theorem law10 (H : AH) (a b c : Wn) (px py pw ph : Int) (pa' : Pl H a) (pb : Pl H b) (pc : Pl H c) (ha : WnAt H a) (hb : WnAt H b) (hc : WnAt H c) :
    C T [] 10 [.agg (tri18 a b c).toArray, .agg [.int .i64 px, .int .i64 py, .int .i64 pw, .int .i64 ph].toArray] H fun x H' => x = .ret (.bool true) ∧ H' = H := by
  rw [C_fn T10 rfl]
  simp only [a10, tri18, c11, go_sem, bin_add, bin_sub, bin_mul, Nat.reduceAdd, Nat.reduceMul, Nat.reduceEqDiff, Nat.reduceLeDiff, Nat.reduceLT, Nat.reduceSub, reduceIte, reduceCtorEq, Int.reduceToNat, Int.reduceNeg, Int.reduceLE, Int.reduceLT, Int.reduceEq, Nat.reduceOr, Nat.reduceShiftRight, Nat.reduceMod, Nat.reduceBNe, Nat.reduceBEq]
  refine c19 a b c (by rw [ext_lo, ext_nx]; exact Nat.le_add_right _ _) (pa'.now.ext _) (pb.now.ext _) (pc.now.ext _) (ha.now.ext _) (hb.now.ext _) (hc.now.ext _) _ ?_
  intro a' b' c' L ka kb kc
  have wa := ka.box ha (blk (tri18 a' b' c')) (blk [.int .i64 px, .int .i64 py, .int .i64 pw, .int .i64 ph])
  have wb := kb.box hb (blk (tri18 a' b' c')) (blk [.int .i64 px, .int .i64 py, .int .i64 pw, .int .i64 ph])
  have wc := kc.box hc (blk (tri18 a' b' c')) (blk [.int .i64 px, .int .i64 py, .int .i64 pw, .int .i64 ph])
  clear ka kb kc
  simp only [tri18, ext_ext, go_sem, bin_add, bin_sub, bin_mul, Nat.reduceAdd, Nat.reduceMul, Nat.reduceEqDiff, Nat.reduceLeDiff, Nat.reduceLT, Nat.reduceSub, reduceIte, reduceCtorEq, Int.reduceToNat, Int.reduceNeg, Int.reduceLE, Int.reduceLT, Int.reduceEq, Nat.reduceOr, Nat.reduceShiftRight, Nat.reduceMod, Nat.reduceBNe, Nat.reduceBEq]
  refine c15' a' b' c' px py pw ph (by rw [ext_lo, ext_nx]; exact Nat.le_add_right _ _) wa wb wc _ ?_
  intro h1 hd1 e1 f1
  change Ext (Mc.ext H.now (blk (tri18 a' b' c') :: blk [.int .i64 px, .int .i64 py, .int .i64 pw, .int .i64 ph] :: L)) h1 at e1
  have lo0 : h1.lo = H.nx := by rw [e1.lo, ext_lo]; rfl
  obtain ⟨s0, s1, s2, sp⟩ := box_rd e1
  simp only [s0, s1, s2, sp, go_sem, bin_add, bin_sub, bin_mul, Nat.reduceAdd, Nat.reduceMul, Nat.reduceEqDiff, Nat.reduceLeDiff, Nat.reduceLT, Nat.reduceSub, reduceIte, reduceCtorEq, Int.reduceToNat, Int.reduceNeg, Int.reduceLE, Int.reduceLT, Int.reduceEq, Nat.reduceOr, Nat.reduceShiftRight, Nat.reduceMod, Nat.reduceBNe, Nat.reduceBEq]
  refine c15' b' c' a' px py pw ph (by rw [lo0]; have := e1.nx; rw [ext_nx] at this; exact Nat.le_trans (Nat.le_add_right _ _) this) (wb.Ext e1) (wc.Ext e1) (wa.Ext e1) _ ?_
  intro h2 hd2 e2 f2
  obtain ⟨s0, s1, s2, sp⟩ := box_rd (e1.trans e2)
  simp only [s0, s1, s2, sp, go_sem, bin_add, bin_sub, bin_mul, Nat.reduceAdd, Nat.reduceMul, Nat.reduceEqDiff, Nat.reduceLeDiff, Nat.reduceLT, Nat.reduceSub, reduceIte, reduceCtorEq, Int.reduceToNat, Int.reduceNeg, Int.reduceLE, Int.reduceLT, Int.reduceEq, Nat.reduceOr, Nat.reduceShiftRight, Nat.reduceMod, Nat.reduceBNe, Nat.reduceBEq]
  refine c15' b' a' c' px py pw ph (by rw [e2.lo, lo0]; have := e1.nx; rw [ext_nx] at this; exact Nat.le_trans (Nat.le_add_right _ _) (Nat.le_trans this e2.nx)) (wb.Ext (e1.trans e2)) (wa.Ext (e1.trans e2)) (wc.Ext (e1.trans e2)) _ ?_
  intro h3 hd3 e3 f3
  rw [fillE_rot a' b' c', fillE_swap a' b' c']
  rw [fillL_rot a' b' c'] at f2
  rw [fillL_swap a' b' c'] at f3
  have sz : ∀ g ∈ fillL a' b' c' px py pw ph, g.vs.length < 9223372036854775808 := fun g hg => by have := fillL_vs _ _ _ _ _ _ _ g hg; omega
  obtain ⟨p1, q1, ds, rfl, k1, l1, m1, n1⟩ := f1.fds sz
  obtain ⟨p2, q2, es, rfl, k2, l2, m2, n2⟩ := f2.fds sz
  obtain ⟨p3, q3, us, rfl, k3, l3, m3, n3⟩ := f3.fds (fun g hg => by
    obtain ⟨g', hg', rfl⟩ := List.mem_map.1 hg
    exact sz g' hg')
  have hlen := fillL_len a' b' c' px py pw ph
  have hdl : ds.length ≤ 4096 := by rw [← m1, List.length_map] at hlen; exact hlen
  have hul : us.length = ds.length := by have := congrArg List.length m3; rw [← m1] at this; simpa using this
  have d1 : FdsAt h3 p1 ds := l1.mono (e2.trans e3).nx fun b hb o n => (e2.trans e3).rd hb o n
  have d2 : FdsAt h3 p2 es := l2.mono e3.nx fun b hb o n => e3.rd hb o n
  have k29 := fun (Q : AEnd → AH → Prop) => c29 (env := []) p1 p2 q1 q2 ds es h3 k1 k2 (by omega) d1 d2 Q
  rw [eqDs_g (by rw [m1, m2]) n1 n2] at k29
  rw [hul]
  simp only [k29, k1 _ _ _, k2 _ _ _, k3 _ _ _, eq_self, go_sem, bin_add, bin_sub, bin_mul, Nat.reduceAdd, Nat.reduceMul, Nat.reduceEqDiff, Nat.reduceLeDiff, Nat.reduceLT, Nat.reduceSub, reduceIte, reduceCtorEq, Int.reduceToNat, Int.reduceNeg, Int.reduceLE, Int.reduceLT, Int.reduceEq, Nat.reduceOr, Nat.reduceShiftRight, Nat.reduceMod, Nat.reduceBNe, Nat.reduceBEq]
  have hpair : ∀ (i : Nat) d e, ds[i]? = some d → us[i]? = some e → e.x = d.x ∧ e.y = d.y ∧ e.z = d.z ∧ e.iw = d.iw ∧ e.fr = !d.fr ∧ e.vs = d.vs := by
    intro i d e hd he
    have := congrArg (fun l => l[i]?) m3
    simp only [← m1, List.getElem?_map, hd, he, Option.map_some, Option.some.injEq] at this
    simp only [Fd.g, Fg.flip, Fg.mk.injEq] at this
    exact this
  refine loop10 p1 p3 q1 q3 ds us hul.symm (by omega) H hpair ?_ ds.length 0 (by omega) _ h3 (by rw [e3.lo, e2.lo, lo0]; exact Nat.le_refl _) (by rw [e3.lo, e2.lo, lo0]; have := e1.nx; rw [ext_nx] at this; exact Nat.le_trans (Nat.le_add_right _ _) (Nat.le_trans this (e2.trans e3).nx)) d1 l3 ?_ ?_ ?_ ?_
  · intro fr h hh
    simp only [go_sem, bin_add, bin_sub, bin_mul, Nat.reduceAdd, Nat.reduceMul, Nat.reduceEqDiff, Nat.reduceLeDiff, Nat.reduceLT, Nat.reduceSub, reduceIte, reduceCtorEq, Int.reduceToNat, Int.reduceNeg, Int.reduceLE, Int.reduceLT, Int.reduceEq, Nat.reduceOr, Nat.reduceShiftRight, Nat.reduceMod, Nat.reduceBNe, Nat.reduceBEq]
    exact trim_clo H _ _ rfl hh
  all_goals simp only [hul, go_sem, bin_add, bin_sub, bin_mul, Nat.reduceAdd, Nat.reduceMul, Nat.reduceEqDiff, Nat.reduceLeDiff, Nat.reduceLT, Nat.reduceSub, reduceIte, reduceCtorEq, Int.reduceToNat, Int.reduceNeg, Int.reduceLE, Int.reduceLT, Int.reduceEq, Nat.reduceOr, Nat.reduceShiftRight, Nat.reduceMod, Nat.reduceBNe, Nat.reduceBEq]
end
end Go.AX.Tri
