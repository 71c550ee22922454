/- Contracts: the law TriBetween's loops. -/
import Derived.Test.YthhgeodgfbhkdaaSh
import Derived.Test.YthhgeodgfbhkdaaZd
set_option linter.unusedVariables false
set_option linter.unusedSimpArgs false
set_option linter.unusedSectionVars false
namespace Go.AX.Tri
open Go.Proofs Go.AX.Mc
set_option linter.unusedSimpArgs false
set_option linter.unusedVariables false
noncomputable section

theorem c20 {env : List Lp} (x a b c : Int) (H : AH) (Q : AEnd → AH → Prop) : C T env 20 [.int .i32 x, .int .i32 a, .int .i32 b, .int .i32 c] H Q = Q (.ret (.bool (liesF x a b c))) H := by
  refine C_det ?_ Q
  rw [C_fn T20 rfl]
  unfold liesF
  simp only [a20, go_sem, bin_add, bin_sub, bin_mul, Nat.reduceAdd, Nat.reduceMul, Nat.reduceEqDiff, Nat.reduceLeDiff, Nat.reduceLT, Nat.reduceSub, reduceIte, reduceCtorEq, Int.reduceToNat, Int.reduceNeg, Int.reduceLE, Int.reduceLT, Int.reduceEq, Nat.reduceOr, Nat.reduceShiftRight, Nat.reduceMod, Nat.reduceBNe, Nat.reduceBEq]
  refine Gd_split ?_ ?_ <;> intro h1 <;> simp only [h1, go_sem, bin_add, bin_sub, bin_mul, Nat.reduceAdd, Nat.reduceMul, Nat.reduceEqDiff, Nat.reduceLeDiff, Nat.reduceLT, Nat.reduceSub, reduceIte, reduceCtorEq, Int.reduceToNat, Int.reduceNeg, Int.reduceLE, Int.reduceLT, Int.reduceEq, Nat.reduceOr, Nat.reduceShiftRight, Nat.reduceMod, Nat.reduceBNe, Nat.reduceBEq]

theorem vec_idx {h : AH} {p : Wn} {k : Nat} {v : V4} (hv : VecAt h p.a p.vs) (hl : p.l = p.vs.length) (hk : p.vs[k]? = some v) :
    ∃ b o, b < h.nx ∧ (∀ n, n < 4 → rd h b (o + k * 4 + n) 1 = some [.int .i32 (v.at n)]) ∧ ∀ H, idxS 4 (.slice p.a p.l p.c) (.int .i64 (k : Int)) H = some (.val (.pointer (some ⟨b, o + k * 4, none⟩)) H) := by
  obtain ⟨b, o, r, ha, hr, hb, h4⟩ := hv k v hk
  have hkl : k < p.l := by rw [hl]; exact (List.getElem?_eq_some_iff.1 hk).1
  refine ⟨b, o, hb, ?_, ?_⟩
  · intro n hn
    rw [rd_part h4 n 1 (by omega)]
    rcases (show n = 0 ∨ n = 1 ∨ n = 2 ∨ n = 3 by omega) with rfl | rfl | rfl | rfl <;> rfl
  · intro H
    rw [ha]
    rcases hr with rfl | rfl
    · rw [idxS_s, if_pos ⟨Int.natCast_nonneg _, by simpa using hkl⟩]; rfl
    · rw [idxS_r, if_pos ⟨Int.natCast_nonneg _, by simpa using hkl⟩]; rfl

/-- the frame's part that the loops keep. -/
structure Fr6 (b3 b4 : Nat) (w hd : Value) (n i : Nat) (fr : Tr Value) : Prop where
  t2 : tmp fr (pa 2) = w
  t3 : tmp fr (pa 3) = .pointer (some ⟨b3, 0, none⟩)
  t4 : tmp fr (pa 4) = .pointer (some ⟨b4, 0, none⟩)
  t9 : tmp fr (pa 9) = .func (.func 20) #[] #[]
  t39 : tmp fr (pa 39) = hd
  t40 : tmp fr (pa 40) = .int .i64 n
  t41 : tmp fr (pa 41) = .int .i64 i

theorem loop6n {env : List Lp} {k0 : List KF} {Q : QF} {b3 b4 : Nat} {w hd : Value} {n0 i0 : Nat} {h : AH} {a b c : Wn} {k : Nat} {v va vb vc : V4} {x94 x95 x96 : Value}
    (k3 : b3 < h.nx) (r0 : rd h b3 5 1 = some [.slice a.a a.l a.c]) (r1 : rd h b3 11 1 = some [.slice b.a b.l b.c]) (r2 : rd h b3 17 1 = some [.slice c.a c.l c.c])
    (hva : VecAt h a.a a.vs) (hvb : VecAt h b.a b.vs) (hvc : VecAt h c.a c.vs) (la : a.l = a.vs.length) (lb : b.l = b.vs.length) (lc : c.l = c.vs.length)
    (ka : a.vs[k]? = some va) (kb : b.vs[k]? = some vb) (kc : c.vs[k]? = some vc) (hl : ∀ n, liesF (v.at n) (va.at n) (vb.at n) (vc.at n) = true)
    (q2 : ∀ fr, Fr6 b3 b4 w hd n0 i0 fr → tmp fr (pa 94) = x94 → tmp fr (pa 95) = x95 → tmp fr (pa 96) = x96 → Kt T env false k0 .normal fr [] (Mc.ext h []) Q) :
    ∀ (m n : Nat), n + m = 4 → ∀ (fr : Tr Value), Fr6 b3 b4 w hd n0 i0 fr → tmp fr (pa 94) = x94 → tmp fr (pa 95) = x95 → tmp fr (pa 96) = x96 → tmp fr (pa 12) = .int .i64 (k : Int) → tmp fr (pa 101) = .agg v.cs.toArray → tmp fr (pa 102) = .int .i64 (n : Int) →
      X T env false (.loop a6l2) (.blk 4 :: k0) fr [] (Mc.ext h []) Q := by
  intro m
  induction m with
  | zero =>
    intro n hn fr hf f94 f95 f96 t12 t101 t102
    have hn4 : n = 4 := by omega
    subst hn4
    obtain ⟨t2, t3, t4, t9, t39, t40, t41⟩ := hf
    rw [X_loop]
    change X _ _ _ (.seq _ _) _ _ _ _ _
    simp only [t102, show ¬ (((4 : Nat) : Int) < 4) by omega, decide_false, go_sem, bin_add, bin_sub, bin_mul, Nat.reduceAdd, Nat.reduceMul, Nat.reduceEqDiff, Nat.reduceLeDiff, Nat.reduceLT, Nat.reduceSub, reduceIte, reduceCtorEq, Int.reduceToNat, Int.reduceNeg, Int.reduceLE, Int.reduceLT, Int.reduceEq, Nat.reduceOr, Nat.reduceShiftRight, Nat.reduceMod, Nat.reduceBNe, Nat.reduceBEq]
    refine q2 _ ⟨?_, ?_, ?_, ?_, ?_, ?_, ?_⟩ ?_ ?_ ?_
    all_goals simp only [t2, t3, t4, t9, t39, t40, t41, f94, f95, f96, go_sem, bin_add, bin_sub, bin_mul, Nat.reduceAdd, Nat.reduceMul, Nat.reduceEqDiff, Nat.reduceLeDiff, Nat.reduceLT, Nat.reduceSub, reduceIte, reduceCtorEq, Int.reduceToNat, Int.reduceNeg, Int.reduceLE, Int.reduceLT, Int.reduceEq, Nat.reduceOr, Nat.reduceShiftRight, Nat.reduceMod, Nat.reduceBNe, Nat.reduceBEq]
  | succ m ih =>
    intro n hn fr hf f94 f95 f96 t12 t101 t102
    obtain ⟨t2, t3, t4, t9, t39, t40, t41⟩ := hf
    have hn4 : n < 4 := by omega
    have hlt : (n : Int) < 4 := by omega
    obtain ⟨ba, oa, na, ra, ia⟩ := vec_idx hva la ka
    obtain ⟨bb, ob, nb, rb, ib⟩ := vec_idx hvb lb kb
    obtain ⟨bc, oc, nc, rc, ic⟩ := vec_idx hvc lc kc
    have hix : ∀ H, idxV 4 1 false (.agg v.cs.toArray) (.int .i64 (n : Int)) H = some (.val (.int .i32 (v.at n)) H) := by
      intro H
      rw [idxV_f, if_pos ⟨Int.natCast_nonneg _, by simpa using hn4⟩]
      rcases (show n = 0 ∨ n = 1 ∨ n = 2 ∨ n = 3 by omega) with rfl | rfl | rfl | rfl <;> rfl
    rw [X_loop]
    change X _ _ _ (.seq _ _) _ _ _ _ _
    simp only [t2, t3, t4, t9, t12, t101, t102, hlt, hix, go_sem, bin_add, bin_sub, bin_mul, Nat.reduceAdd, Nat.reduceMul, Nat.reduceEqDiff, Nat.reduceLeDiff, Nat.reduceLT, Nat.reduceSub, reduceIte, reduceCtorEq, Int.reduceToNat, Int.reduceNeg, Int.reduceLE, Int.reduceLT, Int.reduceEq, Nat.reduceOr, Nat.reduceShiftRight, Nat.reduceMod, Nat.reduceBNe, Nat.reduceBEq]
    refine X_drawE 0 (by rfl) ?_
    simp only [t2, t3, t4, t9, t12, t101, t102, hlt, hn4, k3, na, nb, nc, rd_old _ _ _ _ _ k3, rd_old _ _ _ _ _ na, rd_old _ _ _ _ _ nb, rd_old _ _ _ _ _ nc, r0, r1, r2, ra n hn4, rb n hn4, rc n hn4, ia, ib, ic, c20, hl n, Nat.mul_one, go_sem, bin_add, bin_sub, bin_mul, Nat.reduceAdd, Nat.reduceMul, Nat.reduceEqDiff, Nat.reduceLeDiff, Nat.reduceLT, Nat.reduceSub, reduceIte, reduceCtorEq, Int.reduceToNat, Int.reduceNeg, Int.reduceLE, Int.reduceLT, Int.reduceEq, Nat.reduceOr, Nat.reduceShiftRight, Nat.reduceMod, Nat.reduceBNe, Nat.reduceBEq]
    refine ih (n + 1) (by omega) _ ⟨?_, ?_, ?_, ?_, ?_, ?_, ?_⟩ ?_ ?_ ?_ ?_ ?_ ?_
    all_goals simp only [t2, t3, t4, t9, t39, t40, t41, f94, f95, f96, t12, t101, t102, w1 (show n < 9223372036854775807 by omega), go_sem, bin_add, bin_sub, bin_mul, Nat.reduceAdd, Nat.reduceMul, Nat.reduceEqDiff, Nat.reduceLeDiff, Nat.reduceLT, Nat.reduceSub, reduceIte, reduceCtorEq, Int.reduceToNat, Int.reduceNeg, Int.reduceLE, Int.reduceLT, Int.reduceEq, Nat.reduceOr, Nat.reduceShiftRight, Nat.reduceMod, Nat.reduceBNe, Nat.reduceBEq]
end
end Go.AX.Tri
/- Contracts: the law TriBetween's loops (2). -/
namespace Go.AX.Tri
open Go.Proofs Go.AX.Mc
set_option linter.unusedSimpArgs false
set_option linter.unusedVariables false
noncomputable section

/-- the box of three corners. -/
structure Bx (h : AH) (b3 : Nat) (a b c : Wn) : Prop where
  nx : b3 < h.nx
  r0 : rd h b3 5 1 = some [.slice a.a a.l a.c]
  r1 : rd h b3 11 1 = some [.slice b.a b.l b.c]
  r2 : rd h b3 17 1 = some [.slice c.a c.l c.c]
  z0 : rd h b3 2 1 = some [.int .i32 a.z]
  z1 : rd h b3 8 1 = some [.int .i32 b.z]
  z2 : rd h b3 14 1 = some [.int .i32 c.z]
  va : VecAt h a.a a.vs
  vb : VecAt h b.a b.vs
  vc : VecAt h c.a c.vs
  la : a.l = a.vs.length
  lb : b.l = b.vs.length
  lc : c.l = c.vs.length
theorem _root_.Go.AX.Mc.Ext.vec {h h' : AH} (e : Ext h h') {a : Option Addr} {vs : List V4} (v : VecAt h a vs) : VecAt h' a vs := v.mono e.nx fun b hb o n => e.rd hb o n
theorem _root_.Go.AX.Mc.Ext.fds {h h' : AH} (e : Ext h h') {a : Option Addr} {ds : List Fd} (v : FdsAt h a ds) : FdsAt h' a ds := v.mono e.nx fun b hb o n => e.rd hb o n
theorem Bx.ext {h h' : AH} {b3 : Nat} {a b c : Wn} (x : Bx h b3 a b c) (e : Ext h h') : Bx h' b3 a b c :=
  ⟨Nat.lt_of_lt_of_le x.nx e.nx, by rw [e.rd x.nx]; exact x.r0, by rw [e.rd x.nx]; exact x.r1, by rw [e.rd x.nx]; exact x.r2, by rw [e.rd x.nx]; exact x.z0, by rw [e.rd x.nx]; exact x.z1, by rw [e.rd x.nx]; exact x.z2,
    e.vec x.va, e.vec x.vb, e.vec x.vc, x.la, x.lb, x.lc⟩

theorem vs_idx {h : AH} {a : Option Addr} {c : Nat} {vs : List V4} {k : Nat} {v : V4} (hv : VecAt h a vs) (hk : vs[k]? = some v) :
    ∃ b o, b < h.nx ∧ rd h b (o + k * 4) 4 = some v.cs ∧ ∀ H, idxS 4 (.slice a vs.length c) (.int .i64 (k : Int)) H = some (.val (.pointer (some ⟨b, o + k * 4, none⟩)) H) := by
  obtain ⟨b, o, r, ha, hr, hb, h4⟩ := hv k v hk
  have hkl : k < vs.length := (List.getElem?_eq_some_iff.1 hk).1
  refine ⟨b, o, hb, h4, ?_⟩
  intro H
  rw [ha]
  rcases hr with rfl | rfl
  · rw [idxS_s, if_pos ⟨Int.natCast_nonneg _, by simpa using hkl⟩]; rfl
  · rw [idxS_r, if_pos ⟨Int.natCast_nonneg _, by simpa using hkl⟩]; rfl
theorem fd_idx {h : AH} {a : Option Addr} {c : Nat} {ds : List Fd} {k : Nat} {d : Fd} (hv : FdsAt h a ds) (hk : ds[k]? = some d) :
    ∃ b o, FdAt h d ∧ b < h.nx ∧ rd h b (o + k * 10) 10 = some d.cs ∧ ∀ H, idxS 10 (.slice a ds.length c) (.int .i64 (k : Int)) H = some (.val (.pointer (some ⟨b, o + k * 10, none⟩)) H) := by
  obtain ⟨hd, b, o, r, ha, hr, hb, h4⟩ := hv k d hk
  have hkl : k < ds.length := (List.getElem?_eq_some_iff.1 hk).1
  refine ⟨b, o, hd, hb, h4, ?_⟩
  intro H
  rw [ha]
  rcases hr with rfl | rfl
  · rw [idxS_s, if_pos ⟨Int.natCast_nonneg _, by simpa using hkl⟩]; rfl
  · rw [idxS_r, if_pos ⟨Int.natCast_nonneg _, by simpa using hkl⟩]; rfl

theorem loop6v {env : List Lp} {k0 : List KF} {Q : QF} {b3 b4 : Nat} {w hd : Value} {n0 i0 : Nat} {H : AH} {a b c : Wn} {da : Option Addr} {dc : Nat} {vs : List V4} (hsz : vs.length < 9223372036854775808)
    (hl : ∀ (k : Nat) v, vs[k]? = some v → ∃ va vb vc, a.vs[k]? = some va ∧ b.vs[k]? = some vb ∧ c.vs[k]? = some vc ∧ ∀ n, liesF (v.at n) (va.at n) (vb.at n) (vc.at n) = true)
    (q2 : ∀ fr h, Ext H h → Fr6 b3 b4 w hd n0 i0 fr → Kt T env false k0 .normal fr [] (Mc.ext h []) Q) :
    ∀ (m k : Nat), k + m = vs.length → ∀ (fr : Tr Value) (h : AH), Ext H h → h.lo ≤ h.nx → Bx h b3 a b c → VecAt h da vs → Fr6 b3 b4 w hd n0 i0 fr → tmp fr (pa 94) = .slice da vs.length dc → tmp fr (pa 95) = .int .i64 vs.length → tmp fr (pa 96) = .int .i64 (k : Int) →
      X T env false (.loop a6l3) (.blk 2 :: k0) fr [] (Mc.ext h []) Q := by
  intro m
  induction m with
  | zero =>
    intro k hk fr h he hlo hb hv hf t94 t95 t96
    obtain ⟨t2, t3, t4, t9, t39, t40, t41⟩ := hf
    rw [X_loop]
    change X _ _ _ (.seq _ _) _ _ _ _ _
    simp only [t95, t96, show ¬ ((k : Int) < vs.length) by omega, decide_false, go_sem, bin_add, bin_sub, bin_mul, Nat.reduceAdd, Nat.reduceMul, Nat.reduceEqDiff, Nat.reduceLeDiff, Nat.reduceLT, Nat.reduceSub, reduceIte, reduceCtorEq, Int.reduceToNat, Int.reduceNeg, Int.reduceLE, Int.reduceLT, Int.reduceEq, Nat.reduceOr, Nat.reduceShiftRight, Nat.reduceMod, Nat.reduceBNe, Nat.reduceBEq]
    refine q2 _ h he ⟨?_, ?_, ?_, ?_, ?_, ?_, ?_⟩
    all_goals simp only [t2, t3, t4, t9, t39, t40, t41, go_sem, bin_add, bin_sub, bin_mul, Nat.reduceAdd, Nat.reduceMul, Nat.reduceEqDiff, Nat.reduceLeDiff, Nat.reduceLT, Nat.reduceSub, reduceIte, reduceCtorEq, Int.reduceToNat, Int.reduceNeg, Int.reduceLE, Int.reduceLT, Int.reduceEq, Nat.reduceOr, Nat.reduceShiftRight, Nat.reduceMod, Nat.reduceBNe, Nat.reduceBEq]
  | succ m ih =>
    intro k hk fr h he hlo hb hv hf t94 t95 t96
    obtain ⟨t2, t3, t4, t9, t39, t40, t41⟩ := hf
    have hlt : (k : Int) < vs.length := by omega
    have hk0 : k < vs.length := by omega
    obtain ⟨v, ev⟩ : ∃ v, vs[k]? = some v := ⟨vs[k]'(by omega), List.getElem?_eq_getElem (by omega)⟩
    obtain ⟨va, vb, vc, ka, kb, kc, kl⟩ := hl k v ev
    obtain ⟨bb, oo, nb, rb, ib⟩ := vs_idx (c := dc) hv ev
    rw [X_loop]
    change X _ _ _ (.seq _ _) _ _ _ _ _
    simp only [V4.cs, t2, t3, t4, t9, t94, t95, t96, hlt, ib, nb, rd_old _ _ _ _ _ nb, rb, hlo, go_sem, bin_add, bin_sub, bin_mul, Nat.reduceAdd, Nat.reduceMul, Nat.reduceEqDiff, Nat.reduceLeDiff, Nat.reduceLT, Nat.reduceSub, reduceIte, reduceCtorEq, Int.reduceToNat, Int.reduceNeg, Int.reduceLE, Int.reduceLT, Int.reduceEq, Nat.reduceOr, Nat.reduceShiftRight, Nat.reduceMod, Nat.reduceBNe, Nat.reduceBEq]
    have e1 : Ext h (Mc.ext h [some (.cells [.int .i32 v.a, .int .i32 v.b, .int .i32 v.c, .int .i32 v.d] 0 0)]) := Ext.ext _ _
    have hb1 := hb.ext e1
    refine loop6n (h := Mc.ext h [some (.cells [.int .i32 v.a, .int .i32 v.b, .int .i32 v.c, .int .i32 v.d] 0 0)]) (k := k) (v := v) (i0 := i0) (n0 := n0) (w := w) (hd := hd) (b4 := b4) (x94 := .slice da vs.length dc) (x95 := .int .i64 vs.length) (x96 := .int .i64 (k : Int)) hb1.nx hb1.r0 hb1.r1 hb1.r2 hb1.va hb1.vb hb1.vc hb1.la hb1.lb hb1.lc ka kb kc kl ?_ 4 0 rfl _ ⟨?_, ?_, ?_, ?_, ?_, ?_, ?_⟩ ?_ ?_ ?_ ?_ ?_ ?_
    · intro fr' hf' f94 f95 f96
      obtain ⟨s2, s3, s4, s9, s39, s40, s41⟩ := hf'
      simp only [f96, go_sem, bin_add, bin_sub, bin_mul, Nat.reduceAdd, Nat.reduceMul, Nat.reduceEqDiff, Nat.reduceLeDiff, Nat.reduceLT, Nat.reduceSub, reduceIte, reduceCtorEq, Int.reduceToNat, Int.reduceNeg, Int.reduceLE, Int.reduceLT, Int.reduceEq, Nat.reduceOr, Nat.reduceShiftRight, Nat.reduceMod, Nat.reduceBNe, Nat.reduceBEq]
      refine ih (k + 1) (by omega) _ _ (he.trans e1) (by rw [ext_lo, ext_nx]; omega) hb1 (e1.vec hv) ⟨?_, ?_, ?_, ?_, ?_, ?_, ?_⟩ ?_ ?_ ?_
      all_goals simp only [s2, s3, s4, s9, s39, s40, s41, f94, f95, f96, w1 (show k < 9223372036854775807 by omega), go_sem, bin_add, bin_sub, bin_mul, Nat.reduceAdd, Nat.reduceMul, Nat.reduceEqDiff, Nat.reduceLeDiff, Nat.reduceLT, Nat.reduceSub, reduceIte, reduceCtorEq, Int.reduceToNat, Int.reduceNeg, Int.reduceLE, Int.reduceLT, Int.reduceEq, Nat.reduceOr, Nat.reduceShiftRight, Nat.reduceMod, Nat.reduceBNe, Nat.reduceBEq]
    all_goals first
      | (simp only [t2, t3, t4, t9, t39, t40, t41, t94, t95, t96, go_sem, bin_add, bin_sub, bin_mul, Nat.reduceAdd, Nat.reduceMul, Nat.reduceEqDiff, Nat.reduceLeDiff, Nat.reduceLT, Nat.reduceSub, reduceIte, reduceCtorEq, Int.reduceToNat, Int.reduceNeg, Int.reduceLE, Int.reduceLT, Int.reduceEq, Nat.reduceOr, Nat.reduceShiftRight, Nat.reduceMod, Nat.reduceBNe, Nat.reduceBEq]; done)
      | (simp only [t2, t3, t4, t9, t39, t40, t41, t94, t95, t96, go_sem, bin_add, bin_sub, bin_mul, Nat.reduceAdd, Nat.reduceMul, Nat.reduceEqDiff, Nat.reduceLeDiff, Nat.reduceLT, Nat.reduceSub, reduceIte, reduceCtorEq, Int.reduceToNat, Int.reduceNeg, Int.reduceLE, Int.reduceLT, Int.reduceEq, Nat.reduceOr, Nat.reduceShiftRight, Nat.reduceMod, Nat.reduceBNe, Nat.reduceBEq]; rfl)
end
end Go.AX.Tri
/- Contracts: a box that lies in all cells; the copies' copies. -/
namespace Go.AX.Tri
open Go.Proofs Go.AX.Mc
set_option linter.unusedSimpArgs false
set_option linter.unusedVariables false
noncomputable section

def box27 (px py pw ph : Int) : Bool := decide (px ≥ 0) && (decide (py ≥ 0) && (decide (pw ≥ 0) && (decide (ph ≥ 0) && (decide (px ≤ 64) && (decide (py ≤ 64) && (decide (pw ≤ w64 (64 - px)) && decide (ph ≤ w64 (64 - py))))))))
theorem c27 {env : List Lp} (px py pw ph : Int) (H : AH) (Q : AEnd → AH → Prop) :
    C T env 27 [.agg [.int .i64 px, .int .i64 py, .int .i64 pw, .int .i64 ph].toArray] H Q = Q (.ret (.bool (box27 px py pw ph))) H := by
  refine C_det ?_ Q
  rw [C_fn T27 rfl]
  simp only [a27, go_sem, bin_add, bin_sub, bin_mul, Nat.reduceAdd, Nat.reduceMul, Nat.reduceEqDiff, Nat.reduceLeDiff, Nat.reduceLT, Nat.reduceSub, reduceIte, reduceCtorEq, Int.reduceToNat, Int.reduceNeg, Int.reduceLE, Int.reduceLT, Int.reduceEq, Nat.reduceOr, Nat.reduceShiftRight, Nat.reduceMod, Nat.reduceBNe, Nat.reduceBEq]
  refine Gd_split ?_ ?_ <;> intro g1 <;> simp only [g1, go_sem, bin_add, bin_sub, bin_mul, Nat.reduceAdd, Nat.reduceMul, Nat.reduceEqDiff, Nat.reduceLeDiff, Nat.reduceLT, Nat.reduceSub, reduceIte, reduceCtorEq, Int.reduceToNat, Int.reduceNeg, Int.reduceLE, Int.reduceLT, Int.reduceEq, Nat.reduceOr, Nat.reduceShiftRight, Nat.reduceMod, Nat.reduceBNe, Nat.reduceBEq]
  refine Gd_split ?_ ?_ <;> intro g2 <;> simp only [g1, g2, go_sem, bin_add, bin_sub, bin_mul, Nat.reduceAdd, Nat.reduceMul, Nat.reduceEqDiff, Nat.reduceLeDiff, Nat.reduceLT, Nat.reduceSub, reduceIte, reduceCtorEq, Int.reduceToNat, Int.reduceNeg, Int.reduceLE, Int.reduceLT, Int.reduceEq, Nat.reduceOr, Nat.reduceShiftRight, Nat.reduceMod, Nat.reduceBNe, Nat.reduceBEq]
  refine Gd_split ?_ ?_ <;> intro g3 <;> simp only [g1, g2, g3, go_sem, bin_add, bin_sub, bin_mul, Nat.reduceAdd, Nat.reduceMul, Nat.reduceEqDiff, Nat.reduceLeDiff, Nat.reduceLT, Nat.reduceSub, reduceIte, reduceCtorEq, Int.reduceToNat, Int.reduceNeg, Int.reduceLE, Int.reduceLT, Int.reduceEq, Nat.reduceOr, Nat.reduceShiftRight, Nat.reduceMod, Nat.reduceBNe, Nat.reduceBEq]
  refine Gd_split ?_ ?_ <;> intro g4 <;> simp only [g1, g2, g3, g4, go_sem, bin_add, bin_sub, bin_mul, Nat.reduceAdd, Nat.reduceMul, Nat.reduceEqDiff, Nat.reduceLeDiff, Nat.reduceLT, Nat.reduceSub, reduceIte, reduceCtorEq, Int.reduceToNat, Int.reduceNeg, Int.reduceLE, Int.reduceLT, Int.reduceEq, Nat.reduceOr, Nat.reduceShiftRight, Nat.reduceMod, Nat.reduceBNe, Nat.reduceBEq]
  refine Gd_split ?_ ?_ <;> intro g5 <;> simp only [g1, g2, g3, g4, g5, go_sem, bin_add, bin_sub, bin_mul, Nat.reduceAdd, Nat.reduceMul, Nat.reduceEqDiff, Nat.reduceLeDiff, Nat.reduceLT, Nat.reduceSub, reduceIte, reduceCtorEq, Int.reduceToNat, Int.reduceNeg, Int.reduceLE, Int.reduceLT, Int.reduceEq, Nat.reduceOr, Nat.reduceShiftRight, Nat.reduceMod, Nat.reduceBNe, Nat.reduceBEq]
  refine Gd_split ?_ ?_ <;> intro g6 <;> simp only [g1, g2, g3, g4, g5, g6, go_sem, bin_add, bin_sub, bin_mul, Nat.reduceAdd, Nat.reduceMul, Nat.reduceEqDiff, Nat.reduceLeDiff, Nat.reduceLT, Nat.reduceSub, reduceIte, reduceCtorEq, Int.reduceToNat, Int.reduceNeg, Int.reduceLE, Int.reduceLT, Int.reduceEq, Nat.reduceOr, Nat.reduceShiftRight, Nat.reduceMod, Nat.reduceBNe, Nat.reduceBEq]
  refine Gd_split ?_ ?_ <;> intro g7 <;> simp only [g1, g2, g3, g4, g5, g6, g7, go_sem, bin_add, bin_sub, bin_mul, Nat.reduceAdd, Nat.reduceMul, Nat.reduceEqDiff, Nat.reduceLeDiff, Nat.reduceLT, Nat.reduceSub, reduceIte, reduceCtorEq, Int.reduceToNat, Int.reduceNeg, Int.reduceLE, Int.reduceLT, Int.reduceEq, Nat.reduceOr, Nat.reduceShiftRight, Nat.reduceMod, Nat.reduceBNe, Nat.reduceBEq]
  all_goals simp only [box27, *, Bool.true_and, Bool.false_and]
theorem box27_eq (px py pw ph : Int) : box27 px py pw ph = boxF px py pw ph := by
  unfold box27 boxF in1
  cases decide (px ≥ 0) <;> cases decide (py ≥ 0) <;> cases decide (pw ≥ 0) <;> cases decide (ph ≥ 0) <;> cases decide (px ≤ 64) <;> cases decide (py ≤ 64) <;> cases decide (pw ≤ w64 (64 - px)) <;> cases decide (ph ≤ w64 (64 - py)) <;> rfl
end
end Go.AX.Tri
/- Lists of great whole numbers, appended. -/
namespace Go.AX.Tri
open Go.Proofs Go.AX.Mc
set_option linter.unusedSimpArgs false
set_option linter.unusedVariables false
noncomputable section

/-- a list of great whole numbers in block j of those that a call has laid. -/
def Bg (N : Nat) (L : List (Option AB)) (j : Nat) (hd : Value) (l : List Nat) : Prop :=
  (l = [] ∧ hd = .slice none 0 0) ∨ (l ≠ [] ∧ L[j]? = some (some (.cells (l.flatMap dg) 1 12)) ∧ hd = .slice (some ⟨N + j, 0, some 0⟩) l.length l.length)
theorem dgs_length (l : List Nat) : (l.flatMap dg).length = l.length * 12 := by
  induction l with
  | nil => rfl
  | cons v l ih => rw [List.flatMap_cons, List.length_append, ih, show (dg v).length = 12 from fn_length _ _, List.length_cons]; omega
theorem Bg.more {N : Nat} {L : List (Option AB)} {j : Nat} {hd : Value} {l : List Nat} (h : Bg N L j hd l) (E : List (Option AB)) : Bg N (L ++ E) j hd l := by
  rcases h with h | ⟨h1, h2, h3⟩
  · exact .inl h
  · exact .inr ⟨h1, by rw [List.getElem?_append_left (List.getElem?_eq_some_iff.1 h2).1]; exact h2, h3⟩
theorem Bg.other {N : Nat} {L : List (Option AB)} {j i : Nat} {hd : Value} {l : List Nat} (h : Bg N L j hd l) (hne : j ≠ i) (x : Option AB) : Bg N (L.set i x) j hd l := by
  rcases h with h | ⟨h1, h2, h3⟩
  · exact .inl h
  · exact .inr ⟨h1, by rw [List.getElem?_set_ne (Ne.symm hne)]; exact h2, h3⟩

/-- one more: what the heap becomes. -/
def setL (L : List (Option AB)) (l : List Nat) (j : Nat) : List (Option AB) := match l with
  | [] => L
  | _ :: _ => L.set j (some .dead)
theorem setL_len (L : List (Option AB)) (l : List Nat) (j : Nat) : (setL L l j).length = L.length := by
  cases l
  · rfl
  · exact List.length_set
theorem app_bg {G : AH} (hlo : G.lo ≤ G.nx) {L : List (Option AB)} {j : Nat} {hd : Value} {l : List Nat} (h : Bg G.nx L j hd l) (hl : l.length < 1000) {n : Nat} {x : Value} (hx : aSource (ext G L) 12 x none = some (1, dg n)) :
    aAppend 12 48 hd x (ext G L) = some (.val (.slice (some ⟨G.nx + L.length, 0, some 0⟩) (l.length + 1) (l.length + 1)) (ext G (setL L l j ++ [some (.cells ((l ++ [n]).flatMap dg) 1 12)]))) := by
  rcases h with ⟨rfl, rfl⟩ | ⟨h1, h2, rfl⟩
  · rw [app_nil _ 12 48 _ 0 (dg n) hx (room_of (by omega) (by omega)) (dV_flat _ _), ext_push, ext_nx]
    simp [setL]
  · have hj := (List.getElem?_eq_some_iff.1 h2).1
    rw [app_slr _ 12 48 (G.nx + j) l.length (l.flatMap dg) _ 0 (dg n) hx (by rw [ext_get_new, h2]; rfl) (dgs_length l) (room_of (by omega) (by omega)) (dV_flat _ _)]
    rw [ext_set_new G hlo _ _ _ hj, ext_push, ext_nx]
    cases l with
    | nil => exact absurd rfl h1
    | cons a l => simp [setL]
theorem Bg.app {N : Nat} {L : List (Option AB)} {l : List Nat} {n : Nat} {m : Nat} (hm : m = L.length) : Bg N (L ++ [some (.cells ((l ++ [n]).flatMap dg) 1 12)]) m (.slice (some ⟨N + L.length, 0, some 0⟩) (l.length + 1) (l.length + 1)) (l ++ [n]) := by
  subst hm
  exact .inr ⟨by simp, by simp, by simp⟩
end
end Go.AX.Tri
