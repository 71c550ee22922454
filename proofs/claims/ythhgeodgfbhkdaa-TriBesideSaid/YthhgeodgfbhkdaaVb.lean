/- Plain law: each fragment of a box lies between its corners. -/
import Derived.Test.YthhgeodgfbhkdaaMd
import Derived.Test.YthhgeodgfbhkdaaZf
set_option linter.unusedVariables false
set_option linter.unusedSimpArgs false
set_option linter.unusedSectionVars false
namespace Go.AX.Tri
open Go.Proofs Go.AX.Mc
set_option linter.unusedSimpArgs false
set_option linter.unusedVariables false
noncomputable section

theorem lies_swap (x a b c : Int) : liesF x a c b = liesF x a b c := by
  unfold liesF
  rw [show min (min a c) b = min (min a b) c by omega, show max (max a c) b = max (max a b) c by omega]
structure Lies (a b c : Wn) (px py pw ph : Int) (g : Fg) : Prop where
  z : liesF g.z a.z b.z c.z = true
  x0 : px ≤ g.x
  x1 : g.x < px + pw
  y0 : py ≤ g.y
  y1 : g.y < py + ph
  vs : ∀ (k : Nat) v, g.vs[k]? = some v → ∀ n, liesF (v.at n) (atV a k n) (atV b k n) (atV c k n) = true
  bx : 0 ≤ px ∧ 0 ≤ pw ∧ px + pw ≤ 64 ∧ 0 ≤ py ∧ 0 ≤ ph ∧ py + ph ≤ 64
theorem cells_mem {px py pw ph : Nat} {p : Int × Int} (h : p ∈ cellsL px py pw ph) : (px : Int) ≤ p.1 ∧ p.1 < px + pw ∧ (py : Int) ≤ p.2 ∧ p.2 < py + ph := by
  unfold cellsL rowsL at h
  obtain ⟨j, hj, h⟩ := List.mem_flatMap.1 h
  unfold rowL at h
  obtain ⟨i, hi, rfl⟩ := List.mem_map.1 h
  rw [List.mem_range] at hi hj
  simp only
  omega
theorem atV_bd {h : AH} {p : Wn} (hp : WnAt h p) (k n : Nat) : -2147483648 ≤ atV p k n ∧ atV p k n < 2147483648 := by
  unfold atV
  cases e : p.vs[k]? with
  | none => simp
  | some v => exact hp.num v (List.mem_of_getElem? e) n
theorem vsF_get {f : Fc} {n0 n1 n2 m k : Nat} {v : V4} (h : (vsF f n0 n1 n2 m)[k]? = some v) : v = vecF f n0 n1 n2 k := by
  unfold vsF at h
  rw [List.getElem?_map] at h
  obtain ⟨j, hj, rfl⟩ := Option.map_eq_some_iff.1 h
  obtain ⟨h1, h2⟩ := List.getElem?_eq_some_iff.1 hj
  rw [List.getElem_range] at h2
  rw [h2]
theorem vecF_at (f : Fc) (n0 n1 n2 k n : Nat) : (vecF f n0 n1 n2 k).at n = vecN f n0 n1 n2 k (min n 3) := by
  match n with
  | 0 => rfl
  | 1 => rfl
  | 2 => rfl
  | n + 3 => rw [show min (n + 3) 3 = 3 by omega]; rfl
theorem at_min (v : V4) (n : Nat) : v.at n = v.at (min n 3) := by
  match n with
  | 0 => rfl
  | 1 => rfl
  | 2 => rfl
  | n + 3 => rw [show min (n + 3) 3 = 3 by omega]; rfl
theorem atV_min (q : Wn) (k n : Nat) : atV q k n = atV q k (min n 3) := by
  unfold atV
  cases q.vs[k]? with
  | none => rfl
  | some v => exact at_min v n
theorem fill_lies {h : AH} {a b c : Wn} {px py pw ph : Int} (ha : WnAt h a) (hb : WnAt h b) (hc : WnAt h c) {g : Fg} (hg : g ∈ fillL a b c px py pw ph) : Lies a b c px py pw ph g := by
  unfold fillL at hg
  cases hbad : badL [a, b, c]
  · rw [hbad] at hg
    cases hbx : boxF px py pw ph
    · rw [hbx] at hg; simp at hg
    · rw [hbx] at hg
      simp only [cond_true, cond_false] at hg
      have hbx' := hbx
      unfold boxF at hbx'
      rw [Bool.and_eq_true] at hbx'
      obtain ⟨x1, x2, x3⟩ := in1_spec hbx'.1
      obtain ⟨y1, y2, y3⟩ := in1_spec hbx'.2
      obtain ⟨oka, okb, okc, lb, lc⟩ := bad3 hbad
      have hok := turn_ok oka okb okc
      unfold fragsF at hg
      obtain ⟨p, hp, hf⟩ := List.mem_filterMap.1 hg
      have hm := cells_mem hp
      have hs : (sidesF (turnF a b c) p.1 p.2).2 = true := by
        cases e : (sidesF (turnF a b c) p.1 p.2).2
        · unfold fragF at hf; rw [e] at hf; cases hf
        · rfl
      obtain ⟨n0, n1, n2, e1, _, _, _, hA, _⟩ := sides_ok hok (by omega) (by omega) (by omega) (by omega) hs
      unfold fragF at hf
      rw [hs] at hf
      simp only [cond_true, Option.some.injEq] at hf
      subst hf
      rw [e1]
      have hwpos : 0 < (turnF a b c).a.w.toNat ∧ 0 < (turnF a b c).b.w.toNat ∧ 0 < (turnF a b c).c.w.toNat := by
        have w : ∀ q, (q = a ∨ q = b ∨ q = c) → 0 < q.w.toNat := by
          rintro q (rfl | rfl | rfl)
          · have := oka.w0; omega
          · have := okb.w0; omega
          · have := okc.w0; omega
        exact ⟨w _ (turn_mem _ (.inl rfl)), w _ (turn_mem _ (.inr (.inl rfl))), w _ (turn_mem _ (.inr (.inr rfl)))⟩
      have hA' : ∀ w0 w1 w2, 0 < w0 → 0 < w1 → 0 < w2 → 0 < n0 * w1 * w2 + n1 * w2 * w0 + n2 * w0 * w1 := by
        intro w0 w1 w2 k0 k1 k2
        rcases (show 0 < n0 ∨ 0 < n1 ∨ 0 < n2 by omega) with k | k | k
        · have := Nat.mul_pos (Nat.mul_pos k k1) k2; omega
        · have := Nat.mul_pos (Nat.mul_pos k k2) k0; omega
        · have := Nat.mul_pos (Nat.mul_pos k k0) k1; omega
      have hperm : ∀ (F : Wn → Int) x, liesF x (F (turnF a b c).a) (F (turnF a b c).b) (F (turnF a b c).c) = true → liesF x (F a) (F b) (F c) = true := by
        intro F x hx
        unfold turnF at hx
        cases e : decide (wayF a b c.x c.y < 0)
        · rw [e] at hx; exact hx
        · rw [e] at hx; rw [← lies_swap]; exact hx
      have hall : ∀ q, (q = (turnF a b c).a ∨ q = (turnF a b c).b ∨ q = (turnF a b c).c) → WnAt h q := by
        intro q hq
        rcases turn_mem q hq with rfl | rfl | rfl <;> assumption
      refine ⟨?_, ?_, ?_, ?_, ?_, ?_, ?_⟩
      · refine hperm (·.z) _ ?_
        exact near_lies (by simpa using hA) (hall _ (.inl rfl)).z (hall _ (.inr (.inl rfl))).z (hall _ (.inr (.inr rfl))).z
      · show px ≤ p.1; omega
      · show p.1 < px + pw; omega
      · show py ≤ p.2; omega
      · show p.2 < py + ph; omega
      · intro k v hv n
        have hv' := vsF_get hv
        refine hperm (fun q => atV q k n) _ ?_
        simp only [hv', vecF_at, atV_min _ k n]
        unfold vecN
        exact near_lies (hA' _ _ _ hwpos.1 hwpos.2.1 hwpos.2.2) (atV_bd (hall _ (.inl rfl)) _ _) (atV_bd (hall _ (.inr (.inl rfl))) _ _) (atV_bd (hall _ (.inr (.inr rfl))) _ _)
      · omega
  · rw [hbad] at hg; simp at hg
end
end Go.AX.Tri
/- Contracts: the law TriBetween's loops. -/
namespace Go.AX.Tri
open Go.Proofs Go.AX.Mc
set_option linter.unusedSimpArgs false
set_option linter.unusedVariables false
noncomputable section

theorem c20 {env : List Lp} (x a b c : Int) (H : AH) (Q : AEnd → AH → Prop) : C T env 20 [.int .i32 x, .int .i32 a, .int .i32 b, .int .i32 c] H Q = Q (.ret (.bool (liesF x a b c))) H := by
  refine C_det ?_ Q
  rw [C_fn T20 rfl]
  unfold liesF
  simp only [a20, go_sem, bin_add, bin_sub, bin_mul, Nat.reduceAdd, Nat.reduceMul, Nat.reduceEqDiff, Nat.reduceLeDiff, Nat.reduceLT, Nat.reduceSub, reduceIte, reduceCtorEq, Int.reduceToNat, Int.reduceNeg, Int.reduceLE, Int.reduceLT, Int.reduceEq, Nat.reduceOr, Nat.reduceShiftRight, Nat.reduceMod, Nat.reduceBNe, Nat.reduceBEq]
  refine Gd_split ?_ ?_ <;> intro h1 <;> simp only [h1, go_sem, bin_add, bin_sub, bin_mul, Nat.reduceAdd, Nat.reduceMul, Nat.reduceEqDiff, Nat.reduceLeDiff, Nat.reduceLT, Nat.reduceSub, reduceIte, reduceCtorEq, Int.reduceToNat, Int.reduceNeg, Int.reduceLE, Int.reduceLT, Int.reduceEq, Nat.reduceOr, Nat.reduceShiftRight, Nat.reduceMod, Nat.reduceBNe, Nat.reduceBEq]

theorem vec_idx {h : AH} {p : Wn} {k : Nat} {v : V4} (hv : VecAt h p.a p.vs) (hl : p.l = p.vs.length) (hk : p.vs[k]? = some v) :
    ∃ b o, b < h.nx ∧ (∀ n, n < 4 → rd h b (o + k * 4 + n) 1 = some [.int .i32 (v.at n)]) ∧ ∀ H, idxS 4 (.slice p.a p.l p.c) (.int .i64 (k : Int)) H = some (.val (.pointer (some ⟨b, o + k * 4, none⟩)) H) := by
  obtain ⟨b, o, r, ha, hr, hb, h4⟩ := hv k v hk
  have hkl : k < p.l := by rw [hl]; exact (List.getElem?_eq_some_iff.1 hk).1
  refine ⟨b, o, hb, ?_, ?_⟩
  · intro n hn
    rw [rd_part h4 n 1 (by omega)]
    rcases (show n = 0 ∨ n = 1 ∨ n = 2 ∨ n = 3 by omega) with rfl | rfl | rfl | rfl <;> rfl
  · intro H
    rw [ha]
    rcases hr with rfl | rfl
    · rw [idxS_s, if_pos ⟨Int.natCast_nonneg _, by simpa using hkl⟩]; rfl
    · rw [idxS_r, if_pos ⟨Int.natCast_nonneg _, by simpa using hkl⟩]; rfl

/-- the frame's part that the loops keep. -/
structure Fr6 (b3 b4 : Nat) (w hd : Value) (n i : Nat) (fr : Tr Value) : Prop where
  t2 : tmp fr (pa 2) = w
  t3 : tmp fr (pa 3) = .pointer (some ⟨b3, 0, none⟩)
  t4 : tmp fr (pa 4) = .pointer (some ⟨b4, 0, none⟩)
  t9 : tmp fr (pa 9) = .func (.func 20) #[] #[]
  t39 : tmp fr (pa 39) = hd
  t40 : tmp fr (pa 40) = .int .i64 n
  t41 : tmp fr (pa 41) = .int .i64 i

theorem loop6n {env : List Lp} {k0 : List KF} {Q : QF} {b3 b4 : Nat} {w hd : Value} {n0 i0 : Nat} {h : AH} {a b c : Wn} {k : Nat} {v va vb vc : V4} {x94 x95 x96 : Value}
    (k3 : b3 < h.nx) (r0 : rd h b3 5 1 = some [.slice a.a a.l a.c]) (r1 : rd h b3 11 1 = some [.slice b.a b.l b.c]) (r2 : rd h b3 17 1 = some [.slice c.a c.l c.c])
    (hva : VecAt h a.a a.vs) (hvb : VecAt h b.a b.vs) (hvc : VecAt h c.a c.vs) (la : a.l = a.vs.length) (lb : b.l = b.vs.length) (lc : c.l = c.vs.length)
    (ka : a.vs[k]? = some va) (kb : b.vs[k]? = some vb) (kc : c.vs[k]? = some vc) (hl : ∀ n, liesF (v.at n) (va.at n) (vb.at n) (vc.at n) = true)
    (q2 : ∀ fr, Fr6 b3 b4 w hd n0 i0 fr → tmp fr (pa 94) = x94 → tmp fr (pa 95) = x95 → tmp fr (pa 96) = x96 → Kt T env false k0 .normal fr [] (Mc.ext h []) Q) :
    ∀ (m n : Nat), n + m = 4 → ∀ (fr : Tr Value), Fr6 b3 b4 w hd n0 i0 fr → tmp fr (pa 94) = x94 → tmp fr (pa 95) = x95 → tmp fr (pa 96) = x96 → tmp fr (pa 12) = .int .i64 (k : Int) → tmp fr (pa 101) = .agg v.cs.toArray → tmp fr (pa 102) = .int .i64 (n : Int) →
      X T env false (.loop a6l2) (.blk 4 :: k0) fr [] (Mc.ext h []) Q := by
  intro m
  induction m with
  | zero =>
    intro n hn fr hf f94 f95 f96 t12 t101 t102
    have hn4 : n = 4 := by omega
    subst hn4
    obtain ⟨t2, t3, t4, t9, t39, t40, t41⟩ := hf
    rw [X_loop]
    change X _ _ _ (.seq _ _) _ _ _ _ _
    simp only [t102, show ¬ (((4 : Nat) : Int) < 4) by omega, decide_false, go_sem, bin_add, bin_sub, bin_mul, Nat.reduceAdd, Nat.reduceMul, Nat.reduceEqDiff, Nat.reduceLeDiff, Nat.reduceLT, Nat.reduceSub, reduceIte, reduceCtorEq, Int.reduceToNat, Int.reduceNeg, Int.reduceLE, Int.reduceLT, Int.reduceEq, Nat.reduceOr, Nat.reduceShiftRight, Nat.reduceMod, Nat.reduceBNe, Nat.reduceBEq]
    refine q2 _ ⟨?_, ?_, ?_, ?_, ?_, ?_, ?_⟩ ?_ ?_ ?_
    all_goals simp only [t2, t3, t4, t9, t39, t40, t41, f94, f95, f96, go_sem, bin_add, bin_sub, bin_mul, Nat.reduceAdd, Nat.reduceMul, Nat.reduceEqDiff, Nat.reduceLeDiff, Nat.reduceLT, Nat.reduceSub, reduceIte, reduceCtorEq, Int.reduceToNat, Int.reduceNeg, Int.reduceLE, Int.reduceLT, Int.reduceEq, Nat.reduceOr, Nat.reduceShiftRight, Nat.reduceMod, Nat.reduceBNe, Nat.reduceBEq]
  | succ m ih =>
    intro n hn fr hf f94 f95 f96 t12 t101 t102
    obtain ⟨t2, t3, t4, t9, t39, t40, t41⟩ := hf
    have hn4 : n < 4 := by omega
    have hlt : (n : Int) < 4 := by omega
    obtain ⟨ba, oa, na, ra, ia⟩ := vec_idx hva la ka
    obtain ⟨bb, ob, nb, rb, ib⟩ := vec_idx hvb lb kb
    obtain ⟨bc, oc, nc, rc, ic⟩ := vec_idx hvc lc kc
    have hix : ∀ H, idxV 4 1 false (.agg v.cs.toArray) (.int .i64 (n : Int)) H = some (.val (.int .i32 (v.at n)) H) := by
      intro H
      rw [idxV_f, if_pos ⟨Int.natCast_nonneg _, by simpa using hn4⟩]
      rcases (show n = 0 ∨ n = 1 ∨ n = 2 ∨ n = 3 by omega) with rfl | rfl | rfl | rfl <;> rfl
    rw [X_loop]
    change X _ _ _ (.seq _ _) _ _ _ _ _
    simp only [t2, t3, t4, t9, t12, t101, t102, hlt, hix, go_sem, bin_add, bin_sub, bin_mul, Nat.reduceAdd, Nat.reduceMul, Nat.reduceEqDiff, Nat.reduceLeDiff, Nat.reduceLT, Nat.reduceSub, reduceIte, reduceCtorEq, Int.reduceToNat, Int.reduceNeg, Int.reduceLE, Int.reduceLT, Int.reduceEq, Nat.reduceOr, Nat.reduceShiftRight, Nat.reduceMod, Nat.reduceBNe, Nat.reduceBEq]
    refine X_drawE 0 (by rfl) ?_
    simp only [t2, t3, t4, t9, t12, t101, t102, hlt, hn4, k3, na, nb, nc, rd_old _ _ _ _ _ k3, rd_old _ _ _ _ _ na, rd_old _ _ _ _ _ nb, rd_old _ _ _ _ _ nc, r0, r1, r2, ra n hn4, rb n hn4, rc n hn4, ia, ib, ic, c20, hl n, Nat.mul_one, go_sem, bin_add, bin_sub, bin_mul, Nat.reduceAdd, Nat.reduceMul, Nat.reduceEqDiff, Nat.reduceLeDiff, Nat.reduceLT, Nat.reduceSub, reduceIte, reduceCtorEq, Int.reduceToNat, Int.reduceNeg, Int.reduceLE, Int.reduceLT, Int.reduceEq, Nat.reduceOr, Nat.reduceShiftRight, Nat.reduceMod, Nat.reduceBNe, Nat.reduceBEq]
    refine ih (n + 1) (by omega) _ ⟨?_, ?_, ?_, ?_, ?_, ?_, ?_⟩ ?_ ?_ ?_ ?_ ?_ ?_
    all_goals simp only [t2, t3, t4, t9, t39, t40, t41, f94, f95, f96, t12, t101, t102, w1 (show n < 9223372036854775807 by omega), go_sem, bin_add, bin_sub, bin_mul, Nat.reduceAdd, Nat.reduceMul, Nat.reduceEqDiff, Nat.reduceLeDiff, Nat.reduceLT, Nat.reduceSub, reduceIte, reduceCtorEq, Int.reduceToNat, Int.reduceNeg, Int.reduceLE, Int.reduceLT, Int.reduceEq, Nat.reduceOr, Nat.reduceShiftRight, Nat.reduceMod, Nat.reduceBNe, Nat.reduceBEq]
end
end Go.AX.Tri
/- Contracts: the law TriBetween's loops (2). -/
namespace Go.AX.Tri
open Go.Proofs Go.AX.Mc
set_option linter.unusedSimpArgs false
set_option linter.unusedVariables false
noncomputable section

/-- the box of three corners. -/
structure Bx (h : AH) (b3 : Nat) (a b c : Wn) : Prop where
  nx : b3 < h.nx
  r0 : rd h b3 5 1 = some [.slice a.a a.l a.c]
  r1 : rd h b3 11 1 = some [.slice b.a b.l b.c]
  r2 : rd h b3 17 1 = some [.slice c.a c.l c.c]
  z0 : rd h b3 2 1 = some [.int .i32 a.z]
  z1 : rd h b3 8 1 = some [.int .i32 b.z]
  z2 : rd h b3 14 1 = some [.int .i32 c.z]
  va : VecAt h a.a a.vs
  vb : VecAt h b.a b.vs
  vc : VecAt h c.a c.vs
  la : a.l = a.vs.length
  lb : b.l = b.vs.length
  lc : c.l = c.vs.length
theorem _root_.Go.AX.Mc.Ext.vec {h h' : AH} (e : Ext h h') {a : Option Addr} {vs : List V4} (v : VecAt h a vs) : VecAt h' a vs := v.mono e.nx fun b hb o n => e.rd hb o n
theorem _root_.Go.AX.Mc.Ext.fds {h h' : AH} (e : Ext h h') {a : Option Addr} {ds : List Fd} (v : FdsAt h a ds) : FdsAt h' a ds := v.mono e.nx fun b hb o n => e.rd hb o n
theorem Bx.ext {h h' : AH} {b3 : Nat} {a b c : Wn} (x : Bx h b3 a b c) (e : Ext h h') : Bx h' b3 a b c :=
  ⟨Nat.lt_of_lt_of_le x.nx e.nx, by rw [e.rd x.nx]; exact x.r0, by rw [e.rd x.nx]; exact x.r1, by rw [e.rd x.nx]; exact x.r2, by rw [e.rd x.nx]; exact x.z0, by rw [e.rd x.nx]; exact x.z1, by rw [e.rd x.nx]; exact x.z2,
    e.vec x.va, e.vec x.vb, e.vec x.vc, x.la, x.lb, x.lc⟩

theorem vs_idx {h : AH} {a : Option Addr} {c : Nat} {vs : List V4} {k : Nat} {v : V4} (hv : VecAt h a vs) (hk : vs[k]? = some v) :
    ∃ b o, b < h.nx ∧ rd h b (o + k * 4) 4 = some v.cs ∧ ∀ H, idxS 4 (.slice a vs.length c) (.int .i64 (k : Int)) H = some (.val (.pointer (some ⟨b, o + k * 4, none⟩)) H) := by
  obtain ⟨b, o, r, ha, hr, hb, h4⟩ := hv k v hk
  have hkl : k < vs.length := (List.getElem?_eq_some_iff.1 hk).1
  refine ⟨b, o, hb, h4, ?_⟩
  intro H
  rw [ha]
  rcases hr with rfl | rfl
  · rw [idxS_s, if_pos ⟨Int.natCast_nonneg _, by simpa using hkl⟩]; rfl
  · rw [idxS_r, if_pos ⟨Int.natCast_nonneg _, by simpa using hkl⟩]; rfl
theorem fd_idx {h : AH} {a : Option Addr} {c : Nat} {ds : List Fd} {k : Nat} {d : Fd} (hv : FdsAt h a ds) (hk : ds[k]? = some d) :
    ∃ b o, FdAt h d ∧ b < h.nx ∧ rd h b (o + k * 10) 10 = some d.cs ∧ ∀ H, idxS 10 (.slice a ds.length c) (.int .i64 (k : Int)) H = some (.val (.pointer (some ⟨b, o + k * 10, none⟩)) H) := by
  obtain ⟨hd, b, o, r, ha, hr, hb, h4⟩ := hv k d hk
  have hkl : k < ds.length := (List.getElem?_eq_some_iff.1 hk).1
  refine ⟨b, o, hd, hb, h4, ?_⟩
  intro H
  rw [ha]
  rcases hr with rfl | rfl
  · rw [idxS_s, if_pos ⟨Int.natCast_nonneg _, by simpa using hkl⟩]; rfl
  · rw [idxS_r, if_pos ⟨Int.natCast_nonneg _, by simpa using hkl⟩]; rfl

theorem loop6v {env : List Lp} {k0 : List KF} {Q : QF} {b3 b4 : Nat} {w hd : Value} {n0 i0 : Nat} {H : AH} {a b c : Wn} {da : Option Addr} {dc : Nat} {vs : List V4} (hsz : vs.length < 9223372036854775808)
    (hl : ∀ (k : Nat) v, vs[k]? = some v → ∃ va vb vc, a.vs[k]? = some va ∧ b.vs[k]? = some vb ∧ c.vs[k]? = some vc ∧ ∀ n, liesF (v.at n) (va.at n) (vb.at n) (vc.at n) = true)
    (q2 : ∀ fr h, Ext H h → Fr6 b3 b4 w hd n0 i0 fr → Kt T env false k0 .normal fr [] (Mc.ext h []) Q) :
    ∀ (m k : Nat), k + m = vs.length → ∀ (fr : Tr Value) (h : AH), Ext H h → h.lo ≤ h.nx → Bx h b3 a b c → VecAt h da vs → Fr6 b3 b4 w hd n0 i0 fr → tmp fr (pa 94) = .slice da vs.length dc → tmp fr (pa 95) = .int .i64 vs.length → tmp fr (pa 96) = .int .i64 (k : Int) →
      X T env false (.loop a6l3) (.blk 2 :: k0) fr [] (Mc.ext h []) Q := by
  intro m
  induction m with
  | zero =>
    intro k hk fr h he hlo hb hv hf t94 t95 t96
    obtain ⟨t2, t3, t4, t9, t39, t40, t41⟩ := hf
    rw [X_loop]
    change X _ _ _ (.seq _ _) _ _ _ _ _
    simp only [t95, t96, show ¬ ((k : Int) < vs.length) by omega, decide_false, go_sem, bin_add, bin_sub, bin_mul, Nat.reduceAdd, Nat.reduceMul, Nat.reduceEqDiff, Nat.reduceLeDiff, Nat.reduceLT, Nat.reduceSub, reduceIte, reduceCtorEq, Int.reduceToNat, Int.reduceNeg, Int.reduceLE, Int.reduceLT, Int.reduceEq, Nat.reduceOr, Nat.reduceShiftRight, Nat.reduceMod, Nat.reduceBNe, Nat.reduceBEq]
    refine q2 _ h he ⟨?_, ?_, ?_, ?_, ?_, ?_, ?_⟩
    all_goals simp only [t2, t3, t4, t9, t39, t40, t41, go_sem, bin_add, bin_sub, bin_mul, Nat.reduceAdd, Nat.reduceMul, Nat.reduceEqDiff, Nat.reduceLeDiff, Nat.reduceLT, Nat.reduceSub, reduceIte, reduceCtorEq, Int.reduceToNat, Int.reduceNeg, Int.reduceLE, Int.reduceLT, Int.reduceEq, Nat.reduceOr, Nat.reduceShiftRight, Nat.reduceMod, Nat.reduceBNe, Nat.reduceBEq]
  | succ m ih =>
    intro k hk fr h he hlo hb hv hf t94 t95 t96
    obtain ⟨t2, t3, t4, t9, t39, t40, t41⟩ := hf
    have hlt : (k : Int) < vs.length := by omega
    have hk0 : k < vs.length := by omega
    obtain ⟨v, ev⟩ : ∃ v, vs[k]? = some v := ⟨vs[k]'(by omega), List.getElem?_eq_getElem (by omega)⟩
    obtain ⟨va, vb, vc, ka, kb, kc, kl⟩ := hl k v ev
    obtain ⟨bb, oo, nb, rb, ib⟩ := vs_idx (c := dc) hv ev
    rw [X_loop]
    change X _ _ _ (.seq _ _) _ _ _ _ _
    simp only [V4.cs, t2, t3, t4, t9, t94, t95, t96, hlt, ib, nb, rd_old _ _ _ _ _ nb, rb, hlo, go_sem, bin_add, bin_sub, bin_mul, Nat.reduceAdd, Nat.reduceMul, Nat.reduceEqDiff, Nat.reduceLeDiff, Nat.reduceLT, Nat.reduceSub, reduceIte, reduceCtorEq, Int.reduceToNat, Int.reduceNeg, Int.reduceLE, Int.reduceLT, Int.reduceEq, Nat.reduceOr, Nat.reduceShiftRight, Nat.reduceMod, Nat.reduceBNe, Nat.reduceBEq]
    have e1 : Ext h (Mc.ext h [some (.cells [.int .i32 v.a, .int .i32 v.b, .int .i32 v.c, .int .i32 v.d] 0 0)]) := Ext.ext _ _
    have hb1 := hb.ext e1
    refine loop6n (h := Mc.ext h [some (.cells [.int .i32 v.a, .int .i32 v.b, .int .i32 v.c, .int .i32 v.d] 0 0)]) (k := k) (v := v) (i0 := i0) (n0 := n0) (w := w) (hd := hd) (b4 := b4) (x94 := .slice da vs.length dc) (x95 := .int .i64 vs.length) (x96 := .int .i64 (k : Int)) hb1.nx hb1.r0 hb1.r1 hb1.r2 hb1.va hb1.vb hb1.vc hb1.la hb1.lb hb1.lc ka kb kc kl ?_ 4 0 rfl _ ⟨?_, ?_, ?_, ?_, ?_, ?_, ?_⟩ ?_ ?_ ?_ ?_ ?_ ?_
    · intro fr' hf' f94 f95 f96
      obtain ⟨s2, s3, s4, s9, s39, s40, s41⟩ := hf'
      simp only [f96, go_sem, bin_add, bin_sub, bin_mul, Nat.reduceAdd, Nat.reduceMul, Nat.reduceEqDiff, Nat.reduceLeDiff, Nat.reduceLT, Nat.reduceSub, reduceIte, reduceCtorEq, Int.reduceToNat, Int.reduceNeg, Int.reduceLE, Int.reduceLT, Int.reduceEq, Nat.reduceOr, Nat.reduceShiftRight, Nat.reduceMod, Nat.reduceBNe, Nat.reduceBEq]
      refine ih (k + 1) (by omega) _ _ (he.trans e1) (by rw [ext_lo, ext_nx]; omega) hb1 (e1.vec hv) ⟨?_, ?_, ?_, ?_, ?_, ?_, ?_⟩ ?_ ?_ ?_
      all_goals simp only [s2, s3, s4, s9, s39, s40, s41, f94, f95, f96, w1 (show k < 9223372036854775807 by omega), go_sem, bin_add, bin_sub, bin_mul, Nat.reduceAdd, Nat.reduceMul, Nat.reduceEqDiff, Nat.reduceLeDiff, Nat.reduceLT, Nat.reduceSub, reduceIte, reduceCtorEq, Int.reduceToNat, Int.reduceNeg, Int.reduceLE, Int.reduceLT, Int.reduceEq, Nat.reduceOr, Nat.reduceShiftRight, Nat.reduceMod, Nat.reduceBNe, Nat.reduceBEq]
    all_goals first
      | (simp only [t2, t3, t4, t9, t39, t40, t41, t94, t95, t96, go_sem, bin_add, bin_sub, bin_mul, Nat.reduceAdd, Nat.reduceMul, Nat.reduceEqDiff, Nat.reduceLeDiff, Nat.reduceLT, Nat.reduceSub, reduceIte, reduceCtorEq, Int.reduceToNat, Int.reduceNeg, Int.reduceLE, Int.reduceLT, Int.reduceEq, Nat.reduceOr, Nat.reduceShiftRight, Nat.reduceMod, Nat.reduceBNe, Nat.reduceBEq]; done)
      | (simp only [t2, t3, t4, t9, t39, t40, t41, t94, t95, t96, go_sem, bin_add, bin_sub, bin_mul, Nat.reduceAdd, Nat.reduceMul, Nat.reduceEqDiff, Nat.reduceLeDiff, Nat.reduceLT, Nat.reduceSub, reduceIte, reduceCtorEq, Int.reduceToNat, Int.reduceNeg, Int.reduceLE, Int.reduceLT, Int.reduceEq, Nat.reduceOr, Nat.reduceShiftRight, Nat.reduceMod, Nat.reduceBNe, Nat.reduceBEq]; rfl)
end
end Go.AX.Tri
