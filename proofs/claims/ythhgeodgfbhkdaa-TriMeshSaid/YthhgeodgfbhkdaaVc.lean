/- Contracts: the law TriBetween's loops. -/
import Derived.Test.YthhgeodgfbhkdaaMd
import Derived.Test.YthhgeodgfbhkdaaZf
set_option linter.unusedVariables false
set_option linter.unusedSimpArgs false
set_option linter.unusedSectionVars false
namespace Go.AX.Tri
open Go.Proofs Go.AX.Mc
set_option linter.unusedSimpArgs false
set_option linter.unusedVariables false
noncomputable section

theorem c20 {env : List Lp} (x a b c : Int) (H : AH) (Q : AEnd → AH → Prop) : C T env 20 [.int .i32 x, .int .i32 a, .int .i32 b, .int .i32 c] H Q = Q (.ret (.bool (liesF x a b c))) H := by
  refine C_det ?_ Q
  rw [C_fn T20 rfl]
  unfold liesF
  simp only [a20, go_sem, bin_add, bin_sub, bin_mul, Nat.reduceAdd, Nat.reduceMul, Nat.reduceEqDiff, Nat.reduceLeDiff, Nat.reduceLT, Nat.reduceSub, reduceIte, reduceCtorEq, Int.reduceToNat, Int.reduceNeg, Int.reduceLE, Int.reduceLT, Int.reduceEq, Nat.reduceOr, Nat.reduceShiftRight, Nat.reduceMod, Nat.reduceBNe, Nat.reduceBEq]
  refine Gd_split ?_ ?_ <;> intro h1 <;> simp only [h1, go_sem, bin_add, bin_sub, bin_mul, Nat.reduceAdd, Nat.reduceMul, Nat.reduceEqDiff, Nat.reduceLeDiff, Nat.reduceLT, Nat.reduceSub, reduceIte, reduceCtorEq, Int.reduceToNat, Int.reduceNeg, Int.reduceLE, Int.reduceLT, Int.reduceEq, Nat.reduceOr, Nat.reduceShiftRight, Nat.reduceMod, Nat.reduceBNe, Nat.reduceBEq]

theorem vec_idx {h : AH} {p : Wn} {k : Nat} {v : V4} (hv : VecAt h p.a p.vs) (hl : p.l = p.vs.length) (hk : p.vs[k]? = some v) :
    ∃ b o, b < h.nx ∧ (∀ n, n < 4 → rd h b (o + k * 4 + n) 1 = some [.int .i32 (v.at n)]) ∧ ∀ H, idxS 4 (.slice p.a p.l p.c) (.int .i64 (k : Int)) H = some (.val (.pointer (some ⟨b, o + k * 4, none⟩)) H) := by
  obtain ⟨b, o, r, ha, hr, hb, h4⟩ := hv k v hk
  have hkl : k < p.l := by rw [hl]; exact (List.getElem?_eq_some_iff.1 hk).1
  refine ⟨b, o, hb, ?_, ?_⟩
  · intro n hn
    rw [rd_part h4 n 1 (by omega)]
    rcases (show n = 0 ∨ n = 1 ∨ n = 2 ∨ n = 3 by omega) with rfl | rfl | rfl | rfl <;> rfl
  · intro H
    rw [ha]
    rcases hr with rfl | rfl
    · rw [idxS_s, if_pos ⟨Int.natCast_nonneg _, by simpa using hkl⟩]; rfl
    · rw [idxS_r, if_pos ⟨Int.natCast_nonneg _, by simpa using hkl⟩]; rfl

/-- the frame's part that the loops keep. -/
structure Fr6 (b3 b4 : Nat) (w hd : Value) (n i : Nat) (fr : Tr Value) : Prop where
  t2 : tmp fr (pa 2) = w
  t3 : tmp fr (pa 3) = .pointer (some ⟨b3, 0, none⟩)
  t4 : tmp fr (pa 4) = .pointer (some ⟨b4, 0, none⟩)
  t9 : tmp fr (pa 9) = .func (.func 20) #[] #[]
  t39 : tmp fr (pa 39) = hd
  t40 : tmp fr (pa 40) = .int .i64 n
  t41 : tmp fr (pa 41) = .int .i64 i

theorem loop6n {env : List Lp} {k0 : List KF} {Q : QF} {b3 b4 : Nat} {w hd : Value} {n0 i0 : Nat} {h : AH} {a b c : Wn} {k : Nat} {v va vb vc : V4} {x94 x95 x96 : Value}
    (k3 : b3 < h.nx) (r0 : rd h b3 5 1 = some [.slice a.a a.l a.c]) (r1 : rd h b3 11 1 = some [.slice b.a b.l b.c]) (r2 : rd h b3 17 1 = some [.slice c.a c.l c.c])
    (hva : VecAt h a.a a.vs) (hvb : VecAt h b.a b.vs) (hvc : VecAt h c.a c.vs) (la : a.l = a.vs.length) (lb : b.l = b.vs.length) (lc : c.l = c.vs.length)
    (ka : a.vs[k]? = some va) (kb : b.vs[k]? = some vb) (kc : c.vs[k]? = some vc) (hl : ∀ n, liesF (v.at n) (va.at n) (vb.at n) (vc.at n) = true)
    (q2 : ∀ fr, Fr6 b3 b4 w hd n0 i0 fr → tmp fr (pa 94) = x94 → tmp fr (pa 95) = x95 → tmp fr (pa 96) = x96 → Kt T env false k0 .normal fr [] (Mc.ext h []) Q) :
    ∀ (m n : Nat), n + m = 4 → ∀ (fr : Tr Value), Fr6 b3 b4 w hd n0 i0 fr → tmp fr (pa 94) = x94 → tmp fr (pa 95) = x95 → tmp fr (pa 96) = x96 → tmp fr (pa 12) = .int .i64 (k : Int) → tmp fr (pa 101) = .agg v.cs.toArray → tmp fr (pa 102) = .int .i64 (n : Int) →
      X T env false (.loop a6l2) (.blk 4 :: k0) fr [] (Mc.ext h []) Q := by
  intro m
  induction m with
  | zero =>
    intro n hn fr hf f94 f95 f96 t12 t101 t102
    have hn4 : n = 4 := by omega
    subst hn4
    obtain ⟨t2, t3, t4, t9, t39, t40, t41⟩ := hf
    rw [X_loop]
    change X _ _ _ (.seq _ _) _ _ _ _ _
    simp only [t102, show ¬ (((4 : Nat) : Int) < 4) by omega, decide_false, go_sem, bin_add, bin_sub, bin_mul, Nat.reduceAdd, Nat.reduceMul, Nat.reduceEqDiff, Nat.reduceLeDiff, Nat.reduceLT, Nat.reduceSub, reduceIte, reduceCtorEq, Int.reduceToNat, Int.reduceNeg, Int.reduceLE, Int.reduceLT, Int.reduceEq, Nat.reduceOr, Nat.reduceShiftRight, Nat.reduceMod, Nat.reduceBNe, Nat.reduceBEq]
    refine q2 _ ⟨?_, ?_, ?_, ?_, ?_, ?_, ?_⟩ ?_ ?_ ?_
    all_goals simp only [t2, t3, t4, t9, t39, t40, t41, f94, f95, f96, go_sem, bin_add, bin_sub, bin_mul, Nat.reduceAdd, Nat.reduceMul, Nat.reduceEqDiff, Nat.reduceLeDiff, Nat.reduceLT, Nat.reduceSub, reduceIte, reduceCtorEq, Int.reduceToNat, Int.reduceNeg, Int.reduceLE, Int.reduceLT, Int.reduceEq, Nat.reduceOr, Nat.reduceShiftRight, Nat.reduceMod, Nat.reduceBNe, Nat.reduceBEq]
  | succ m ih =>
    intro n hn fr hf f94 f95 f96 t12 t101 t102
    obtain ⟨t2, t3, t4, t9, t39, t40, t41⟩ := hf
    have hn4 : n < 4 := by omega
    have hlt : (n : Int) < 4 := by omega
    obtain ⟨ba, oa, na, ra, ia⟩ := vec_idx hva la ka
    obtain ⟨bb, ob, nb, rb, ib⟩ := vec_idx hvb lb kb
    obtain ⟨bc, oc, nc, rc, ic⟩ := vec_idx hvc lc kc
    have hix : ∀ H, idxV 4 1 false (.agg v.cs.toArray) (.int .i64 (n : Int)) H = some (.val (.int .i32 (v.at n)) H) := by
      intro H
      rw [idxV_f, if_pos ⟨Int.natCast_nonneg _, by simpa using hn4⟩]
      rcases (show n = 0 ∨ n = 1 ∨ n = 2 ∨ n = 3 by omega) with rfl | rfl | rfl | rfl <;> rfl
    rw [X_loop]
    change X _ _ _ (.seq _ _) _ _ _ _ _
    simp only [t2, t3, t4, t9, t12, t101, t102, hlt, hix, go_sem, bin_add, bin_sub, bin_mul, Nat.reduceAdd, Nat.reduceMul, Nat.reduceEqDiff, Nat.reduceLeDiff, Nat.reduceLT, Nat.reduceSub, reduceIte, reduceCtorEq, Int.reduceToNat, Int.reduceNeg, Int.reduceLE, Int.reduceLT, Int.reduceEq, Nat.reduceOr, Nat.reduceShiftRight, Nat.reduceMod, Nat.reduceBNe, Nat.reduceBEq]
    refine X_drawE 0 (by rfl) ?_
    simp only [t2, t3, t4, t9, t12, t101, t102, hlt, hn4, k3, na, nb, nc, rd_old _ _ _ _ _ k3, rd_old _ _ _ _ _ na, rd_old _ _ _ _ _ nb, rd_old _ _ _ _ _ nc, r0, r1, r2, ra n hn4, rb n hn4, rc n hn4, ia, ib, ic, c20, hl n, Nat.mul_one, go_sem, bin_add, bin_sub, bin_mul, Nat.reduceAdd, Nat.reduceMul, Nat.reduceEqDiff, Nat.reduceLeDiff, Nat.reduceLT, Nat.reduceSub, reduceIte, reduceCtorEq, Int.reduceToNat, Int.reduceNeg, Int.reduceLE, Int.reduceLT, Int.reduceEq, Nat.reduceOr, Nat.reduceShiftRight, Nat.reduceMod, Nat.reduceBNe, Nat.reduceBEq]
    refine ih (n + 1) (by omega) _ ⟨?_, ?_, ?_, ?_, ?_, ?_, ?_⟩ ?_ ?_ ?_ ?_ ?_ ?_
    all_goals simp only [t2, t3, t4, t9, t39, t40, t41, f94, f95, f96, t12, t101, t102, w1 (show n < 9223372036854775807 by omega), go_sem, bin_add, bin_sub, bin_mul, Nat.reduceAdd, Nat.reduceMul, Nat.reduceEqDiff, Nat.reduceLeDiff, Nat.reduceLT, Nat.reduceSub, reduceIte, reduceCtorEq, Int.reduceToNat, Int.reduceNeg, Int.reduceLE, Int.reduceLT, Int.reduceEq, Nat.reduceOr, Nat.reduceShiftRight, Nat.reduceMod, Nat.reduceBNe, Nat.reduceBEq]
end
end Go.AX.Tri
/- Contracts: the law TriBetween's loops (2). -/
namespace Go.AX.Tri
open Go.Proofs Go.AX.Mc
set_option linter.unusedSimpArgs false
set_option linter.unusedVariables false
noncomputable section

/-- the box of three corners. -/
structure Bx (h : AH) (b3 : Nat) (a b c : Wn) : Prop where
  nx : b3 < h.nx
  r0 : rd h b3 5 1 = some [.slice a.a a.l a.c]
  r1 : rd h b3 11 1 = some [.slice b.a b.l b.c]
  r2 : rd h b3 17 1 = some [.slice c.a c.l c.c]
  z0 : rd h b3 2 1 = some [.int .i32 a.z]
  z1 : rd h b3 8 1 = some [.int .i32 b.z]
  z2 : rd h b3 14 1 = some [.int .i32 c.z]
  va : VecAt h a.a a.vs
  vb : VecAt h b.a b.vs
  vc : VecAt h c.a c.vs
  la : a.l = a.vs.length
  lb : b.l = b.vs.length
  lc : c.l = c.vs.length
theorem _root_.Go.AX.Mc.Ext.vec {h h' : AH} (e : Ext h h') {a : Option Addr} {vs : List V4} (v : VecAt h a vs) : VecAt h' a vs := v.mono e.nx fun b hb o n => e.rd hb o n
theorem _root_.Go.AX.Mc.Ext.fds {h h' : AH} (e : Ext h h') {a : Option Addr} {ds : List Fd} (v : FdsAt h a ds) : FdsAt h' a ds := v.mono e.nx fun b hb o n => e.rd hb o n
theorem Bx.ext {h h' : AH} {b3 : Nat} {a b c : Wn} (x : Bx h b3 a b c) (e : Ext h h') : Bx h' b3 a b c :=
  ⟨Nat.lt_of_lt_of_le x.nx e.nx, by rw [e.rd x.nx]; exact x.r0, by rw [e.rd x.nx]; exact x.r1, by rw [e.rd x.nx]; exact x.r2, by rw [e.rd x.nx]; exact x.z0, by rw [e.rd x.nx]; exact x.z1, by rw [e.rd x.nx]; exact x.z2,
    e.vec x.va, e.vec x.vb, e.vec x.vc, x.la, x.lb, x.lc⟩

theorem vs_idx {h : AH} {a : Option Addr} {c : Nat} {vs : List V4} {k : Nat} {v : V4} (hv : VecAt h a vs) (hk : vs[k]? = some v) :
    ∃ b o, b < h.nx ∧ rd h b (o + k * 4) 4 = some v.cs ∧ ∀ H, idxS 4 (.slice a vs.length c) (.int .i64 (k : Int)) H = some (.val (.pointer (some ⟨b, o + k * 4, none⟩)) H) := by
  obtain ⟨b, o, r, ha, hr, hb, h4⟩ := hv k v hk
  have hkl : k < vs.length := (List.getElem?_eq_some_iff.1 hk).1
  refine ⟨b, o, hb, h4, ?_⟩
  intro H
  rw [ha]
  rcases hr with rfl | rfl
  · rw [idxS_s, if_pos ⟨Int.natCast_nonneg _, by simpa using hkl⟩]; rfl
  · rw [idxS_r, if_pos ⟨Int.natCast_nonneg _, by simpa using hkl⟩]; rfl
theorem fd_idx {h : AH} {a : Option Addr} {c : Nat} {ds : List Fd} {k : Nat} {d : Fd} (hv : FdsAt h a ds) (hk : ds[k]? = some d) :
    ∃ b o, FdAt h d ∧ b < h.nx ∧ rd h b (o + k * 10) 10 = some d.cs ∧ ∀ H, idxS 10 (.slice a ds.length c) (.int .i64 (k : Int)) H = some (.val (.pointer (some ⟨b, o + k * 10, none⟩)) H) := by
  obtain ⟨hd, b, o, r, ha, hr, hb, h4⟩ := hv k d hk
  have hkl : k < ds.length := (List.getElem?_eq_some_iff.1 hk).1
  refine ⟨b, o, hd, hb, h4, ?_⟩
  intro H
  rw [ha]
  rcases hr with rfl | rfl
  · rw [idxS_s, if_pos ⟨Int.natCast_nonneg _, by simpa using hkl⟩]; rfl
  · rw [idxS_r, if_pos ⟨Int.natCast_nonneg _, by simpa using hkl⟩]; rfl

theorem loop6v {env : List Lp} {k0 : List KF} {Q : QF} {b3 b4 : Nat} {w hd : Value} {n0 i0 : Nat} {H : AH} {a b c : Wn} {da : Option Addr} {dc : Nat} {vs : List V4} (hsz : vs.length < 9223372036854775808)
    (hl : ∀ (k : Nat) v, vs[k]? = some v → ∃ va vb vc, a.vs[k]? = some va ∧ b.vs[k]? = some vb ∧ c.vs[k]? = some vc ∧ ∀ n, liesF (v.at n) (va.at n) (vb.at n) (vc.at n) = true)
    (q2 : ∀ fr h, Ext H h → Fr6 b3 b4 w hd n0 i0 fr → Kt T env false k0 .normal fr [] (Mc.ext h []) Q) :
    ∀ (m k : Nat), k + m = vs.length → ∀ (fr : Tr Value) (h : AH), Ext H h → h.lo ≤ h.nx → Bx h b3 a b c → VecAt h da vs → Fr6 b3 b4 w hd n0 i0 fr → tmp fr (pa 94) = .slice da vs.length dc → tmp fr (pa 95) = .int .i64 vs.length → tmp fr (pa 96) = .int .i64 (k : Int) →
      X T env false (.loop a6l3) (.blk 2 :: k0) fr [] (Mc.ext h []) Q := by
  intro m
  induction m with
  | zero =>
    intro k hk fr h he hlo hb hv hf t94 t95 t96
    obtain ⟨t2, t3, t4, t9, t39, t40, t41⟩ := hf
    rw [X_loop]
    change X _ _ _ (.seq _ _) _ _ _ _ _
    simp only [t95, t96, show ¬ ((k : Int) < vs.length) by omega, decide_false, go_sem, bin_add, bin_sub, bin_mul, Nat.reduceAdd, Nat.reduceMul, Nat.reduceEqDiff, Nat.reduceLeDiff, Nat.reduceLT, Nat.reduceSub, reduceIte, reduceCtorEq, Int.reduceToNat, Int.reduceNeg, Int.reduceLE, Int.reduceLT, Int.reduceEq, Nat.reduceOr, Nat.reduceShiftRight, Nat.reduceMod, Nat.reduceBNe, Nat.reduceBEq]
    refine q2 _ h he ⟨?_, ?_, ?_, ?_, ?_, ?_, ?_⟩
    all_goals simp only [t2, t3, t4, t9, t39, t40, t41, go_sem, bin_add, bin_sub, bin_mul, Nat.reduceAdd, Nat.reduceMul, Nat.reduceEqDiff, Nat.reduceLeDiff, Nat.reduceLT, Nat.reduceSub, reduceIte, reduceCtorEq, Int.reduceToNat, Int.reduceNeg, Int.reduceLE, Int.reduceLT, Int.reduceEq, Nat.reduceOr, Nat.reduceShiftRight, Nat.reduceMod, Nat.reduceBNe, Nat.reduceBEq]
  | succ m ih =>
    intro k hk fr h he hlo hb hv hf t94 t95 t96
    obtain ⟨t2, t3, t4, t9, t39, t40, t41⟩ := hf
    have hlt : (k : Int) < vs.length := by omega
    have hk0 : k < vs.length := by omega
    obtain ⟨v, ev⟩ : ∃ v, vs[k]? = some v := ⟨vs[k]'(by omega), List.getElem?_eq_getElem (by omega)⟩
    obtain ⟨va, vb, vc, ka, kb, kc, kl⟩ := hl k v ev
    obtain ⟨bb, oo, nb, rb, ib⟩ := vs_idx (c := dc) hv ev
    rw [X_loop]
    change X _ _ _ (.seq _ _) _ _ _ _ _
    simp only [V4.cs, t2, t3, t4, t9, t94, t95, t96, hlt, ib, nb, rd_old _ _ _ _ _ nb, rb, hlo, go_sem, bin_add, bin_sub, bin_mul, Nat.reduceAdd, Nat.reduceMul, Nat.reduceEqDiff, Nat.reduceLeDiff, Nat.reduceLT, Nat.reduceSub, reduceIte, reduceCtorEq, Int.reduceToNat, Int.reduceNeg, Int.reduceLE, Int.reduceLT, Int.reduceEq, Nat.reduceOr, Nat.reduceShiftRight, Nat.reduceMod, Nat.reduceBNe, Nat.reduceBEq]
    have e1 : Ext h (Mc.ext h [some (.cells [.int .i32 v.a, .int .i32 v.b, .int .i32 v.c, .int .i32 v.d] 0 0)]) := Ext.ext _ _
    have hb1 := hb.ext e1
    refine loop6n (h := Mc.ext h [some (.cells [.int .i32 v.a, .int .i32 v.b, .int .i32 v.c, .int .i32 v.d] 0 0)]) (k := k) (v := v) (i0 := i0) (n0 := n0) (w := w) (hd := hd) (b4 := b4) (x94 := .slice da vs.length dc) (x95 := .int .i64 vs.length) (x96 := .int .i64 (k : Int)) hb1.nx hb1.r0 hb1.r1 hb1.r2 hb1.va hb1.vb hb1.vc hb1.la hb1.lb hb1.lc ka kb kc kl ?_ 4 0 rfl _ ⟨?_, ?_, ?_, ?_, ?_, ?_, ?_⟩ ?_ ?_ ?_ ?_ ?_ ?_
    · intro fr' hf' f94 f95 f96
      obtain ⟨s2, s3, s4, s9, s39, s40, s41⟩ := hf'
      simp only [f96, go_sem, bin_add, bin_sub, bin_mul, Nat.reduceAdd, Nat.reduceMul, Nat.reduceEqDiff, Nat.reduceLeDiff, Nat.reduceLT, Nat.reduceSub, reduceIte, reduceCtorEq, Int.reduceToNat, Int.reduceNeg, Int.reduceLE, Int.reduceLT, Int.reduceEq, Nat.reduceOr, Nat.reduceShiftRight, Nat.reduceMod, Nat.reduceBNe, Nat.reduceBEq]
      refine ih (k + 1) (by omega) _ _ (he.trans e1) (by rw [ext_lo, ext_nx]; omega) hb1 (e1.vec hv) ⟨?_, ?_, ?_, ?_, ?_, ?_, ?_⟩ ?_ ?_ ?_
      all_goals simp only [s2, s3, s4, s9, s39, s40, s41, f94, f95, f96, w1 (show k < 9223372036854775807 by omega), go_sem, bin_add, bin_sub, bin_mul, Nat.reduceAdd, Nat.reduceMul, Nat.reduceEqDiff, Nat.reduceLeDiff, Nat.reduceLT, Nat.reduceSub, reduceIte, reduceCtorEq, Int.reduceToNat, Int.reduceNeg, Int.reduceLE, Int.reduceLT, Int.reduceEq, Nat.reduceOr, Nat.reduceShiftRight, Nat.reduceMod, Nat.reduceBNe, Nat.reduceBEq]
    all_goals first
      | (simp only [t2, t3, t4, t9, t39, t40, t41, t94, t95, t96, go_sem, bin_add, bin_sub, bin_mul, Nat.reduceAdd, Nat.reduceMul, Nat.reduceEqDiff, Nat.reduceLeDiff, Nat.reduceLT, Nat.reduceSub, reduceIte, reduceCtorEq, Int.reduceToNat, Int.reduceNeg, Int.reduceLE, Int.reduceLT, Int.reduceEq, Nat.reduceOr, Nat.reduceShiftRight, Nat.reduceMod, Nat.reduceBNe, Nat.reduceBEq]; done)
      | (simp only [t2, t3, t4, t9, t39, t40, t41, t94, t95, t96, go_sem, bin_add, bin_sub, bin_mul, Nat.reduceAdd, Nat.reduceMul, Nat.reduceEqDiff, Nat.reduceLeDiff, Nat.reduceLT, Nat.reduceSub, reduceIte, reduceCtorEq, Int.reduceToNat, Int.reduceNeg, Int.reduceLE, Int.reduceLT, Int.reduceEq, Nat.reduceOr, Nat.reduceShiftRight, Nat.reduceMod, Nat.reduceBNe, Nat.reduceBEq]; rfl)
end
end Go.AX.Tri
/- The law TriBeside: between two numbers; the first list's loop. -/
namespace Go.AX.Tri
open Go.Proofs Go.AX.Mc
set_option linter.unusedSimpArgs false
set_option linter.unusedVariables false
noncomputable section

def insF (a b x : Int) : Bool := decide (min a b ≤ x) && decide (x ≤ max a b)
theorem c16 {env : List Lp} (a b x : Int) (H : AH) (Q : AEnd → AH → Prop) : C T env 16 [.int .i64 a, .int .i64 b, .int .i64 x] H Q = Q (.ret (.bool (insF a b x))) H := by
  refine C_det ?_ Q
  rw [C_fn T16 rfl]
  simp only [a16, go_sem, bin_add, bin_sub, bin_mul, Nat.reduceAdd, Nat.reduceMul, Nat.reduceEqDiff, Nat.reduceLeDiff, Nat.reduceLT, Nat.reduceSub, reduceIte, reduceCtorEq, Int.reduceToNat, Int.reduceNeg, Int.reduceLE, Int.reduceLT, Int.reduceEq, Nat.reduceOr, Nat.reduceShiftRight, Nat.reduceMod, Nat.reduceBNe, Nat.reduceBEq]
  refine Gd_split ?_ ?_ <;> intro g1 <;> simp only [g1, go_sem, bin_add, bin_sub, bin_mul, Nat.reduceAdd, Nat.reduceMul, Nat.reduceEqDiff, Nat.reduceLeDiff, Nat.reduceLT, Nat.reduceSub, reduceIte, reduceCtorEq, Int.reduceToNat, Int.reduceNeg, Int.reduceLE, Int.reduceLT, Int.reduceEq, Nat.reduceOr, Nat.reduceShiftRight, Nat.reduceMod, Nat.reduceBNe, Nat.reduceBEq]
  all_goals simp only [insF, *, Bool.true_and, Bool.false_and]

structure Fr4 (pA pB mp : Nat) (fr : Tr Value) : Prop where
  t5 : tmp fr (pa 5) = .pointer (some ⟨pA, 0, none⟩)
  t6 : tmp fr (pa 6) = .pointer (some ⟨pB, 0, none⟩)
  t13 : tmp fr (pa 13) = .map (some mp)
structure J4 (M mp pA pB : Nat) (a b : Wn) (L : CL) (h : AH) : Prop where
  lo : M ≤ h.lo
  le : h.lo ≤ h.nx
  m : mp < h.nx
  mM : M ≤ mp
  g : h.get mp = some (.map (ents L 0) L.length)
  na : pA < h.nx
  nb : pB < h.nx
  ra : rd h pA 0 6 = some a.cs
  rb : rd h pB 0 6 = some b.cs
theorem rd_map {h : AH} {mp : Nat} {es es' : List MapEntry} {k k' : Nat} (g : h.get mp = some (.map es k)) (b o n : Nat) : rd (AH.set h mp (.map es' k')) b o n = rd h b o n := by
  by_cases e : b = mp
  · subst e
    rw [rd_rdB, rd_rdB, AH.get_set_same, g]; rfl
  · exact rd_sne _ _ _ _ _ _ e
theorem J4.ext {M mp pA pB : Nat} {a b : Wn} {L : CL} {h : AH} (J : J4 M mp pA pB a b L h) (X : List (Option AB)) : J4 M mp pA pB a b L (Mc.ext h X) := by
  obtain ⟨j1, j2, j3, j4, j5, j6, j7, j8, j9⟩ := J
  refine ⟨by rw [ext_lo]; exact j1, by rw [ext_lo, ext_nx]; omega, by rw [ext_nx]; omega, j4, by rw [ext_get_old _ _ _ j3]; exact j5, by rw [ext_nx]; omega, by rw [ext_nx]; omega, by rw [rd_old _ _ _ _ _ j6]; exact j8, by rw [rd_old _ _ _ _ _ j7]; exact j9⟩
theorem J4.put {M mp pA pB : Nat} {a b : Wn} {L L' : CL} {h : AH} (J : J4 M mp pA pB a b L h) : J4 M mp pA pB a b L' (AH.set h mp (.map (ents L' 0) L'.length)) := by
  obtain ⟨j1, j2, j3, j4, j5, j6, j7, j8, j9⟩ := J
  refine ⟨?_, ?_, by rw [AH.nx_set]; exact j3, j4, AH.get_set_same _ _ _, by rw [AH.nx_set]; exact j6, by rw [AH.nx_set]; exact j7, by rw [rd_map j5]; exact j8, by rw [rd_map j5]; exact j9⟩
  · show M ≤ min h.lo mp; omega
  · rw [AH.nx_set]; show min h.lo mp ≤ _; omega

def cl (ds : List Fd) : CL := ds.map fun d => (d.x, d.y, .bool true)
theorem cl_none {ds : List Fd} {d : Fd} {i : Nat} (hnd : (ds.map fun d => (d.x, d.y)).Nodup) (hd : ds[i]? = some d) : getC (cl (ds.take i)) d.x d.y = none := by
  unfold getC
  rw [Option.map_eq_none_iff, fnd_iff]
  intro v hv
  obtain ⟨d', h1, h2⟩ := List.mem_map.1 hv
  simp only [Prod.mk.injEq] at h2
  have h3 : (ds.take (i + 1)).map (fun d => (d.x, d.y)) = (ds.take i).map (fun d => (d.x, d.y)) ++ [(d.x, d.y)] := by
    rw [List.take_add_one, hd, List.map_append]; rfl
  have h4 : ((ds.take (i + 1)).map fun d => (d.x, d.y)).Nodup := List.Nodup.sublist (List.Sublist.map _ (List.take_sublist _ _)) hnd
  rw [h3, List.nodup_append] at h4
  exact h4.2.2 (d'.x, d'.y) (List.mem_map.2 ⟨d', h1, rfl⟩) (d.x, d.y) (by simp) (by rw [h2.1, h2.2.1])

theorem loop4 {env : List Lp} {K : List KF} {Q : QF} {M mp pA pB : Nat} {a b : Wn} {da : Option Addr} {dc : Nat} {ds : List Fd} (hsz : ds.length < 10000) (hnd : (ds.map fun d => (d.x, d.y)).Nodup)
    (q2 : ∀ fr h, J4 M mp pA pB a b (cl ds) h → Fr4 pA pB mp fr → Kt T env false K .normal fr [] (ext h []) Q) :
    ∀ (m i : Nat), i + m = ds.length → ∀ fr h, J4 M mp pA pB a b (cl (ds.take i)) h → FdsAt h da ds → Fr4 pA pB mp fr → tmp fr (pa 78) = .slice da ds.length dc → tmp fr (pa 79) = .int .i64 ds.length → tmp fr (pa 80) = .int .i64 (i : Int) →
      X T env false (.loop a4l2) (.blk 0 :: K) fr [] (ext h []) Q := by
  intro m
  induction m with
  | zero =>
    intro i hi fr h J hv F t78 t79 t80
    have hi' : i = ds.length := hi
    subst hi'
    rw [List.take_length] at J
    obtain ⟨t5, t6, t13⟩ := F
    rw [X_loop]
    change X _ _ _ (.seq _ _) _ _ _ _ _
    simp only [t79, t80, Int.lt_irrefl, decide_false, go_sem, bin_add, bin_sub, bin_mul, Nat.reduceAdd, Nat.reduceMul, Nat.reduceEqDiff, Nat.reduceLeDiff, Nat.reduceLT, Nat.reduceSub, reduceIte, reduceCtorEq, Int.reduceToNat, Int.reduceNeg, Int.reduceLE, Int.reduceLT, Int.reduceEq, Nat.reduceOr, Nat.reduceShiftRight, Nat.reduceMod, Nat.reduceBNe, Nat.reduceBEq]
    refine q2 _ h J ⟨?_, ?_, ?_⟩
    all_goals simp only [t5, t6, t13, go_sem, bin_add, bin_sub, bin_mul, Nat.reduceAdd, Nat.reduceMul, Nat.reduceEqDiff, Nat.reduceLeDiff, Nat.reduceLT, Nat.reduceSub, reduceIte, reduceCtorEq, Int.reduceToNat, Int.reduceNeg, Int.reduceLE, Int.reduceLT, Int.reduceEq, Nat.reduceOr, Nat.reduceShiftRight, Nat.reduceMod, Nat.reduceBNe, Nat.reduceBEq]
  | succ m ih =>
    intro i hi fr h J hv F t78 t79 t80
    have hlt : (i : Int) < ds.length := by omega
    have hil : i < ds.length := by omega
    obtain ⟨d, ed⟩ : ∃ v, ds[i]? = some v := ⟨ds[i]'hil, List.getElem?_eq_getElem hil⟩
    obtain ⟨bb, oo, fd, nb, rb, ib⟩ := fd_idx (c := dc) hv ed
    have F0 := F
    obtain ⟨t5, t6, t13⟩ := F
    have hno := cl_none hnd ed
    have gX : ∀ X : Option AB, (Mc.ext h [X]).get mp = some (.map (ents (cl (ds.take i)) 0) (cl (ds.take i)).length) := fun X => by rw [ext_get_old _ _ _ J.m]; exact J.g
    have lk : ∀ X : Option AB, lkV 44 (.bool false) false (.map (some mp)) (.agg [.int .i64 d.x, .int .i64 d.y].toArray) (Mc.ext h [X]) = some (.val (.bool false) (Mc.ext h [X])) := fun X => by
      rw [lk44 (gX X), hno]; rfl
    have ecl : cl (ds.take i) ++ [(d.x, d.y, .bool true)] = cl (ds.take (i + 1)) := by
      unfold cl; rw [List.take_add_one, ed, List.map_append]; rfl
    have up : ∀ X : Option AB, upV 44 (.map (some mp)) (.agg [.int .i64 d.x, .int .i64 d.y].toArray) (.bool true) (Mc.ext h [X]) = some (.val undef (Mc.ext (AH.set h mp (.map (ents (cl (ds.take (i + 1))) 0) (cl (ds.take (i + 1))).length)) [X])) := fun X => by
      rw [up44 (gX X) hno, ecl, ext_set_old _ _ _ _ J.m]
      congr 4
      rw [← ecl, List.length_append]; rfl
    have hi3 : i < 10000 := Nat.lt_trans hil hsz
    have wn := w1 (i := i) (Nat.lt_trans hi3 (by decide))
    have hle := J.le
    rw [X_loop]
    change X _ _ _ (.seq _ _) _ _ _ _ _
    simp only [Fd.cs, t13, t78, t79, t80, hlt, ib, nb, rd_old _ _ _ _ _ nb, rb, hle, e_lookup, e_mapUpdate, lk, up, d.ok _ _ _, wn, go_sem, bin_add, bin_sub, bin_mul, Nat.reduceAdd, Nat.reduceMul, Nat.reduceEqDiff, Nat.reduceLeDiff, Nat.reduceLT, Nat.reduceSub, reduceIte, reduceCtorEq, Int.reduceToNat, Int.reduceNeg, Int.reduceLE, Int.reduceLT, Int.reduceEq, Nat.reduceOr, Nat.reduceShiftRight, Nat.reduceMod, Nat.reduceBNe, Nat.reduceBEq]
    refine ih (i + 1) (by omega) _ (Mc.ext (AH.set h mp (.map (ents (cl (ds.take (i + 1))) 0) (cl (ds.take (i + 1))).length)) [_]) (J.put.ext _) ?_ ⟨?_, ?_, ?_⟩ ?_ ?_ ?_
    · exact (hv.mono (h' := AH.set h mp _) (by rw [AH.nx_set]; exact Nat.le_refl _) fun b hb o n => rd_map J.g b o n).ext _
    all_goals simp only [t5, t6, t13, t78, t79, go_sem, bin_add, bin_sub, bin_mul, Nat.reduceAdd, Nat.reduceMul, Nat.reduceEqDiff, Nat.reduceLeDiff, Nat.reduceLT, Nat.reduceSub, reduceIte, reduceCtorEq, Int.reduceToNat, Int.reduceNeg, Int.reduceLE, Int.reduceLT, Int.reduceEq, Nat.reduceOr, Nat.reduceShiftRight, Nat.reduceMod, Nat.reduceBNe, Nat.reduceBEq]
end
end Go.AX.Tri
