/- Contracts: the document's fragment (6). -/
import Derived.Test.YthhgeodgfbhkdaaSo
set_option linter.unusedVariables false
set_option linter.unusedSimpArgs false
set_option linter.unusedSectionVars false
namespace Go.AX.Tri
open Go.Proofs Go.AX.Mc
set_option linter.unusedSimpArgs false
set_option linter.unusedVariables false
noncomputable section

theorem loop26 {env : List Lp} {K : List KF} {Q : QF} {f : Fc} {G : AH} (hlo : G.lo ≤ G.nx) {x3 : Option AB} {j2 : Nat} {hd2 : Value} {n0 n1 n2 : Nat} {x y z iw : Int} {front : Bool} (hsz : f.a.l < 1000)
    (wa : WnAt G f.a) (wb : WnAt G f.b) (wc : WnAt G f.c) (lb : f.b.l = f.a.l) (lc : f.c.l = f.a.l)
    (h0 : n0 * f.b.w.toNat * f.c.w.toNat ≤ 4951760157141521099596496896) (h1 : n1 * f.c.w.toNat * f.a.w.toNat ≤ 4951760157141521099596496896) (h2 : n2 * f.a.w.toNat * f.b.w.toNat ≤ 4951760157141521099596496896)
    (hA : 0 < n0 * f.b.w.toNat * f.c.w.toNat + n1 * f.c.w.toNat * f.a.w.toNat + n2 * f.a.w.toNat * f.b.w.toNat)
    (q2 : ∀ fr R hd, V5 G.nx R hd (vsF f n0 n1 n2 f.a.l) → Fr26 G.nx hd2 f.a.l fr → Kt T env false K .normal fr [] (ext G (blk f.a.cs :: blk f.b.cs :: blk f.c.cs :: x3 :: blk (frV x y z iw front hd) :: R)) Q) :
    ∀ (r k : Nat), k + r = f.a.l → ∀ fr R hd, B5 G.nx R j2 hd2 [n0 * f.b.w.toNat * f.c.w.toNat, n1 * f.c.w.toNat * f.a.w.toNat, n2 * f.a.w.toNat * f.b.w.toNat] → V5 G.nx R hd (vsF f n0 n1 n2 k) → Fr26 G.nx hd2 f.a.l fr → tmp fr (pa 72) = .int .i64 (k : Int) →
      X T env false (.loop a26l1) (.blk 0 :: K) fr [] (ext G (blk f.a.cs :: blk f.b.cs :: blk f.c.cs :: x3 :: blk (frV x y z iw front hd) :: R)) Q := by
  intro r
  induction r with
  | zero =>
    intro k hk fr R hd B V hf t72
    have hk' : k = f.a.l := hk
    subst hk'
    obtain ⟨t5, t6, t7, t10, t11, t13, t71⟩ := hf
    rw [X_loop]
    change X _ _ _ (.seq _ _) _ _ _ _ _
    simp only [t71, t72, Int.lt_irrefl, decide_false, go_sem, bin_add, bin_sub, bin_mul, Nat.reduceAdd, Nat.reduceMul, Nat.reduceEqDiff, Nat.reduceLeDiff, Nat.reduceLT, Nat.reduceSub, reduceIte, reduceCtorEq, Int.reduceToNat, Int.reduceNeg, Int.reduceLE, Int.reduceLT, Int.reduceEq, Nat.reduceOr, Nat.reduceShiftRight, Nat.reduceMod, Nat.reduceBNe, Nat.reduceBEq]
    refine q2 _ R hd V ⟨?_, ?_, ?_, ?_, ?_, ?_, ?_⟩
    all_goals simp only [t5, t6, t7, t10, t11, t13, t71, go_sem, bin_add, bin_sub, bin_mul, Nat.reduceAdd, Nat.reduceMul, Nat.reduceEqDiff, Nat.reduceLeDiff, Nat.reduceLT, Nat.reduceSub, reduceIte, reduceCtorEq, Int.reduceToNat, Int.reduceNeg, Int.reduceLE, Int.reduceLT, Int.reduceEq, Nat.reduceOr, Nat.reduceShiftRight, Nat.reduceMod, Nat.reduceBNe, Nat.reduceBEq]
  | succ r ih =>
    intro k hk fr R hd B V hf t72
    have hkl : k < f.a.l := Nat.lt_of_lt_of_le (Nat.lt_add_of_pos_right (Nat.succ_pos r)) (Nat.le_of_eq hk)
    have hvl : (vsF f n0 n1 n2 k).length = k := by unfold vsF; rw [List.length_map, List.length_range]
    have G1 : ∀ p : Wn, WnAt G p → p.l = f.a.l → ∃ v, p.vs[(vsF f n0 n1 n2 k).length]? = some v := by
      intro p hp hl
      rw [hvl]
      exact ⟨p.vs[k]'(by rw [← hp.len, hl]; exact hkl), List.getElem?_eq_getElem _⟩
    obtain ⟨va, ea⟩ := G1 f.a wa rfl
    obtain ⟨vb, eb⟩ := G1 f.b wb lb
    obtain ⟨vc, ec⟩ := G1 f.c wc lc
    refine vout26 hlo B V (by rw [hvl]; exact hkl) hsz wa.vec wb.vec wc.vec wa.len wb.len wc.len ea eb ec (wa.num va (List.mem_of_getElem? ea)) (wb.num vb (List.mem_of_getElem? eb)) (wc.num vc (List.mem_of_getElem? ec)) h0 h1 h2 hA fr hf (by rw [hvl]; exact t72) ?_
    intro fr' R' hd' B' V' hf' t72'
    rw [hvl] at ea eb ec t72'
    refine ih (k + 1) (by rw [← hk, Nat.add_assoc, Nat.add_comm 1 r]) fr' R' hd' B' ?_ hf' t72'
    have e : vsF f n0 n1 n2 (k + 1) = vsF f n0 n1 n2 k ++ [vecF f n0 n1 n2 k] := by unfold vsF; rw [List.range_succ, List.map_append]; rfl
    rw [e]
    have ev : vecF f n0 n1 n2 k = ⟨_, _, _, _⟩ := rfl
    unfold vecF vecN
    simp only [atV_some ea, atV_some eb, atV_some ec]
    exact V'

theorem sum_pos {n0 n1 n2 a b c : Nat} (h : 0 < n0 + n1 + n2) (ha : 0 < a) (hb : 0 < b) (hc : 0 < c) : 0 < n0 * b * c + n1 * c * a + n2 * a * b := by
  rcases (show 0 < n0 ∨ 0 < n1 ∨ 0 < n2 by omega) with k | k | k
  · have := Nat.mul_pos (Nat.mul_pos k hb) hc; omega
  · have := Nat.mul_pos (Nat.mul_pos k hc) ha; omega
  · have := Nat.mul_pos (Nat.mul_pos k ha) hb; omega
theorem c26 {env : List Lp} (a b c : Wn) (x y : Int) {n0 n1 n2 wa wb wc : Nat} (hf : RfHyp (turnF a b c) x y n0 n1 n2 wa wb wc) {H : AH} (hlo : H.lo ≤ H.nx)
    (hw : ∀ p, (p = (turnF a b c).a ∨ p = (turnF a b c).b ∨ p = (turnF a b c).c) → WnAt H p) (hl : ∀ p, (p = (turnF a b c).a ∨ p = (turnF a b c).b ∨ p = (turnF a b c).c) → p.l = (turnF a b c).a.l) (hsz : (turnF a b c).a.l < 1000) (Q : AEnd → AH → Prop)
    (hQ : ∀ L hd, VsOut H.nx L hd (vsF (turnF a b c) n0 n1 n2 (turnF a b c).a.l) → Q (.ret (.agg (frV x y (nearZ (turnF a b c) n0 n1 n2) (nearW (turnF a b c) n0 n1 n2) (decide (0 < wayF a b c.x c.y)) hd).toArray)) (ext H L)) :
    C T env 26 [a.v, b.v, c.v, .int .i64 x, .int .i64 y] H Q := by
  rw [C_fn T26 rfl]
  have k30 := fun (H : AH) (Q : AEnd → AH → Prop) => c30 (env := env) a b c H Q
  have k38 := fun (L : List (Option AB)) (Q : AEnd → AH → Prop) (hQ : ∀ L', Q (.ret (.tuple [(turnF a b c).a.v, (turnF a b c).b.v, (turnF a b c).c.v].toArray)) (ext (ext H.now L) L')) => c38 (env := env) a b c (H := ext H.now L) (by rw [ext_lo, ext_nx]; exact Nat.le_add_right _ _) hQ
  simp only [Wn.v, Wn.cs] at k30 k38
  simp only [a26, Wn.v, Wn.cs, k30, go_sem, bin_add, bin_sub, bin_mul, Nat.reduceAdd, Nat.reduceMul, Nat.reduceEqDiff, Nat.reduceLeDiff, Nat.reduceLT, Nat.reduceSub, reduceIte, reduceCtorEq, Int.reduceToNat, Int.reduceNeg, Int.reduceLE, Int.reduceLT, Int.reduceEq, Nat.reduceOr, Nat.reduceShiftRight, Nat.reduceMod, Nat.reduceBNe, Nat.reduceBEq]
  refine k38 _ _ fun L0 => ?_
  generalize decide (0 < wayF a b c.x c.y) = front at *
  clear k30 k38
  generalize turnF a b c = f at *
  simp only [ext_ext, go_sem, bin_add, bin_sub, bin_mul, Nat.reduceAdd, Nat.reduceMul, Nat.reduceEqDiff, Nat.reduceLeDiff, Nat.reduceLT, Nat.reduceSub, reduceIte, reduceCtorEq, Int.reduceToNat, Int.reduceNeg, Int.reduceLE, Int.reduceLT, Int.reduceEq, Nat.reduceOr, Nat.reduceShiftRight, Nat.reduceMod, Nat.reduceBNe, Nat.reduceBEq]
  have k40 := fun (L : List (Option AB)) => c40 (env := env) f.a f.b f.c (ctr x) (ctr y) hf.e0 hf.e1 hf.e2 (lt63 hf.h0) (lt63 hf.h1) (lt63 hf.h2) hf.ea hf.eb hf.ec hf.ka hf.kb hf.kc (H := ext H.now L) (by rw [ext_lo, ext_nx]; exact Nat.le_add_right _ _)
  simp only [Wn.v, Wn.cs, ctr, w64] at k40
  refine k40 _ _ fun L1 j1 j2 hd1 hd2 B1 B2 => ?_
  clear k40
  simp only [ext_ext, go_sem, bin_add, bin_sub, bin_mul, Nat.reduceAdd, Nat.reduceMul, Nat.reduceEqDiff, Nat.reduceLeDiff, Nat.reduceLT, Nat.reduceSub, reduceIte, reduceCtorEq, Int.reduceToNat, Int.reduceNeg, Int.reduceLE, Int.reduceLT, Int.reduceEq, Nat.reduceOr, Nat.reduceShiftRight, Nat.reduceMod, Nat.reduceBNe, Nat.reduceBEq]
  have A1 := B1.b5 (by simp)
  have A2 := B2.b5 (by simp)
  clear B1 B2
  generalize L0.length + j1 = j1' at A1
  generalize L0.length + j2 = j2' at A2
  have wza := (hw f.a (.inl rfl)).z
  have wzb := (hw f.b (.inr (.inl rfl))).z
  have wzc := (hw f.c (.inr (.inr rfl))).z
  rw [w64_32 wza, w64_32 wzb, w64_32 wzc]
  have n0b : n0 ≤ 4951760157141521099596496896 := Nat.le_trans (Nat.le_of_lt hf.h0) (by decide)
  have n1b : n1 ≤ 4951760157141521099596496896 := Nat.le_trans (Nat.le_of_lt hf.h1) (by decide)
  have n2b : n2 ≤ 4951760157141521099596496896 := Nat.le_trans (Nat.le_of_lt hf.h2) (by decide)
  rw [← List.append_assoc L0 L1, ← List.length_append]
  generalize L0 ++ L1 = R at *
  rw [near5 (A1.more _) (by simp) n0b n1b n2b hf.hA wza wzb wzc]
  simp only [go_sem, bin_add, bin_sub, bin_mul, Nat.reduceAdd, Nat.reduceMul, Nat.reduceEqDiff, Nat.reduceLeDiff, Nat.reduceLT, Nat.reduceSub, reduceIte, reduceCtorEq, Int.reduceToNat, Int.reduceNeg, Int.reduceLE, Int.reduceLT, Int.reduceEq, Nat.reduceOr, Nat.reduceShiftRight, Nat.reduceMod, Nat.reduceBNe, Nat.reduceBEq]
  refine X_drawE 1 (by rfl) ?_
  have wwa : 0 < f.a.w := by rw [hf.ea]; exact Int.ofNat_lt.2 hf.pa
  have wwb : 0 < f.b.w := by rw [hf.eb]; exact Int.ofNat_lt.2 hf.pb
  have wwc : 0 < f.c.w := by rw [hf.ec]; exact Int.ofNat_lt.2 hf.pc
  have k0 := fun (H : AH) (Q : AEnd → AH → Prop) => c42 (env := env) f.a wwa (hw f.a (.inl rfl)).w.2 H Q
  have k1 := fun (H : AH) (Q : AEnd → AH → Prop) => c42 (env := env) f.b wwb (hw f.b (.inr (.inl rfl))).w.2 H Q
  have k2 := fun (H : AH) (Q : AEnd → AH → Prop) => c42 (env := env) f.c wwc (hw f.c (.inr (.inr rfl))).w.2 H Q
  simp only [Wn.v, Wn.cs] at k0 k1 k2
  simp only [k0, k1, k2, go_sem, bin_add, bin_sub, bin_mul, Nat.reduceAdd, Nat.reduceMul, Nat.reduceEqDiff, Nat.reduceLeDiff, Nat.reduceLT, Nat.reduceSub, reduceIte, reduceCtorEq, Int.reduceToNat, Int.reduceNeg, Int.reduceLE, Int.reduceLT, Int.reduceEq, Nat.reduceOr, Nat.reduceShiftRight, Nat.reduceMod, Nat.reduceBNe, Nat.reduceBEq]
  rw [near5 (A1.more _) (k := R.length + 1) (by simp) n0b n1b n2b hf.hA (over_bd f.a.w) (over_bd f.b.w) (over_bd f.c.w)]
  simp only [dg_zip, f.a.ok _ _ _, go_sem, bin_add, bin_sub, bin_mul, Nat.reduceAdd, Nat.reduceMul, Nat.reduceEqDiff, Nat.reduceLeDiff, Nat.reduceLT, Nat.reduceSub, reduceIte, reduceCtorEq, Int.reduceToNat, Int.reduceNeg, Int.reduceLE, Int.reduceLT, Int.reduceEq, Nat.reduceOr, Nat.reduceShiftRight, Nat.reduceMod, Nat.reduceBNe, Nat.reduceBEq]
  have ewa : f.a.w.toNat = wa := by rw [hf.ea]; rfl
  have ewb : f.b.w.toNat = wb := by rw [hf.eb]; rfl
  have ewc : f.c.w.toNat = wc := by rw [hf.ec]; rfl
  rw [← ewa, ← ewb, ← ewc] at A2
  have hm0 : n0 * f.b.w.toNat * f.c.w.toNat ≤ 4951760157141521099596496896 := by rw [ewb, ewc]; exact mul3_lt n0 wb wc hf.h0 hf.kb hf.kc
  have hm1 : n1 * f.c.w.toNat * f.a.w.toNat ≤ 4951760157141521099596496896 := by rw [ewa, ewc]; exact mul3_lt n1 wc wa hf.h1 hf.kc hf.ka
  have hm2 : n2 * f.a.w.toNat * f.b.w.toNat ≤ 4951760157141521099596496896 := by rw [ewa, ewb]; exact mul3_lt n2 wa wb hf.h2 hf.ka hf.kb
  have hmA : 0 < n0 * f.b.w.toNat * f.c.w.toNat + n1 * f.c.w.toNat * f.a.w.toNat + n2 * f.a.w.toNat * f.b.w.toNat := by
    rw [ewa, ewb, ewc]
    exact sum_pos hf.hA hf.pa hf.pb hf.pc
  have hll := (hl f.a (.inl rfl))
  have wna := (hw f.a (.inl rfl)).mono (h' := H.now) (Nat.le_refl _) fun _ _ _ _ => rfl
  have wnb := (hw f.b (.inr (.inl rfl))).mono (h' := H.now) (Nat.le_refl _) fun _ _ _ _ => rfl
  have wnc := (hw f.c (.inr (.inr rfl))).mono (h' := H.now) (Nat.le_refl _) fun _ _ _ _ => rfl
  refine loop26 (G := H.now) (Nat.le_refl _) hsz wna wnb wnc (hl f.b (.inr (.inl rfl))) (hl f.c (.inr (.inr rfl))) hm0 hm1 hm2 hmA ?_ f.a.l 0 (Nat.zero_add _) _ _ (.slice none 0 0) (A2.more _) (.inl ⟨rfl, rfl⟩) ⟨?_, ?_, ?_, ?_, ?_, ?_, ?_⟩ ?_
  · intro fr R' hd V hf26
    obtain ⟨t5, t6, t7, t10, t11, t13, t71⟩ := hf26
    have hfl := V.flat
    simp only [frV, t10, t11, hfl.1, hfl.2, go_sem, bin_add, bin_sub, bin_mul, Nat.reduceAdd, Nat.reduceMul, Nat.reduceEqDiff, Nat.reduceLeDiff, Nat.reduceLT, Nat.reduceSub, reduceIte, reduceCtorEq, Int.reduceToNat, Int.reduceNeg, Int.reduceLE, Int.reduceLT, Int.reduceEq, Nat.reduceOr, Nat.reduceShiftRight, Nat.reduceMod, Nat.reduceBNe, Nat.reduceBEq]
    rcases V with ⟨e0, rfl⟩ | ⟨e0, j, hj, rfl⟩
    · refine trim_go hlo fun L' => ?_
      exact hQ L' _ (.inl ⟨e0, rfl⟩)
    · refine (congrArg (Q _) (trim_keep H _ _ ?_ hlo)).mpr ?_
      · rw [clo_agg5]
        simp only [List.all_cons, clo_sl, Bool.false_and, Bool.and_false]
      · refine hQ _ _ (.inr ⟨e0, j + 1 + 1 + 1 + 1 + 1, ?_, rfl⟩)
        simp only [List.getElem?_cons_succ]
        exact hj
  all_goals first
    | (simp only [go_sem, bin_add, bin_sub, bin_mul, Nat.reduceAdd, Nat.reduceMul, Nat.reduceEqDiff, Nat.reduceLeDiff, Nat.reduceLT, Nat.reduceSub, reduceIte, reduceCtorEq, Int.reduceToNat, Int.reduceNeg, Int.reduceLE, Int.reduceLT, Int.reduceEq, Nat.reduceOr, Nat.reduceShiftRight, Nat.reduceMod, Nat.reduceBNe, Nat.reduceBEq]; done)
    | (simp only [go_sem, bin_add, bin_sub, bin_mul, Nat.reduceAdd, Nat.reduceMul, Nat.reduceEqDiff, Nat.reduceLeDiff, Nat.reduceLT, Nat.reduceSub, reduceIte, reduceCtorEq, Int.reduceToNat, Int.reduceNeg, Int.reduceLE, Int.reduceLT, Int.reduceEq, Nat.reduceOr, Nat.reduceShiftRight, Nat.reduceMod, Nat.reduceBNe, Nat.reduceBEq]; rfl)
end
end Go.AX.Tri
/- Contracts: tri's Covers and At. -/
namespace Go.AX.Tri
open Go.Proofs Go.AX.Mc
set_option linter.unusedSimpArgs false
set_option linter.unusedVariables false
noncomputable section

def covT (a b c : Wn) (x y : Int) : Bool := !badL [a, b, c] && (allF x y && (sidesF (turnF a b c) x y).2)

theorem c22 {env : List Lp} (a b c : Wn) (x y : Int) (H : AH) (Q : AEnd → AH → Prop) : C T env 22 [a.v, b.v, c.v, .int .i64 x, .int .i64 y] H Q = Q (.ret (.bool (covT a b c x y))) H := by
  refine C_det ?_ Q
  rw [C_fn T22 rfl]
  simp only [a22, Wn.v, Wn.cs, go_sem, bin_add, bin_sub, bin_mul, Nat.reduceAdd, Nat.reduceMul, Nat.reduceEqDiff, Nat.reduceLeDiff, Nat.reduceLT, Nat.reduceSub, reduceIte, reduceCtorEq, Int.reduceToNat, Int.reduceNeg, Int.reduceLE, Int.reduceLT, Int.reduceEq, Nat.reduceOr, Nat.reduceShiftRight, Nat.reduceMod, Nat.reduceBNe, Nat.reduceBEq]
  refine check3 a b c (i := 3) (by rfl) ?_
  unfold covT
  cases hbad : badL [a, b, c]
  · simp only [errF, hbad, cond_false, c37, eq_self, go_sem, bin_add, bin_sub, bin_mul, Nat.reduceAdd, Nat.reduceMul, Nat.reduceEqDiff, Nat.reduceLeDiff, Nat.reduceLT, Nat.reduceSub, reduceIte, reduceCtorEq, Int.reduceToNat, Int.reduceNeg, Int.reduceLE, Int.reduceLT, Int.reduceEq, Nat.reduceOr, Nat.reduceShiftRight, Nat.reduceMod, Nat.reduceBNe, Nat.reduceBEq]
    cases hall : allF x y
    · simp only [hall, go_sem, bin_add, bin_sub, bin_mul, Nat.reduceAdd, Nat.reduceMul, Nat.reduceEqDiff, Nat.reduceLeDiff, Nat.reduceLT, Nat.reduceSub, reduceIte, reduceCtorEq, Int.reduceToNat, Int.reduceNeg, Int.reduceLE, Int.reduceLT, Int.reduceEq, Nat.reduceOr, Nat.reduceShiftRight, Nat.reduceMod, Nat.reduceBNe, Nat.reduceBEq]
    simp only [hall, go_sem, bin_add, bin_sub, bin_mul, Nat.reduceAdd, Nat.reduceMul, Nat.reduceEqDiff, Nat.reduceLeDiff, Nat.reduceLT, Nat.reduceSub, reduceIte, reduceCtorEq, Int.reduceToNat, Int.reduceNeg, Int.reduceLE, Int.reduceLT, Int.reduceEq, Nat.reduceOr, Nat.reduceShiftRight, Nat.reduceMod, Nat.reduceBNe, Nat.reduceBEq]
    refine c33' a b c (by rw [ext_lo, ext_nx]; exact Nat.le_add_right _ _) fun L => ?_
    generalize turnF a b c = f
    simp only [Fc.v, fc_length, fc_flat, fc_take, ext_ext, go_sem, bin_add, bin_sub, bin_mul, Nat.reduceAdd, Nat.reduceMul, Nat.reduceEqDiff, Nat.reduceLeDiff, Nat.reduceLT, Nat.reduceSub, reduceIte, reduceCtorEq, Int.reduceToNat, Int.reduceNeg, Int.reduceLE, Int.reduceLT, Int.reduceEq, Nat.reduceOr, Nat.reduceShiftRight, Nat.reduceMod, Nat.reduceBNe, Nat.reduceBEq]
    rw [c35 f (H.now.nx + (L.length + 1 + 1 + 1 + 1)) x y _ (by rw [ext_nx]; simp) (by simp only [List.getElem?_append_right (Nat.le_refl _), Nat.sub_self, fc_length, fc_take, go_sem, bin_add, bin_sub, bin_mul, Nat.reduceAdd, Nat.reduceMul, Nat.reduceEqDiff, Nat.reduceLeDiff, Nat.reduceLT, Nat.reduceSub, reduceIte, reduceCtorEq, Int.reduceToNat, Int.reduceNeg, Int.reduceLE, Int.reduceLT, Int.reduceEq, Nat.reduceOr, Nat.reduceShiftRight, Nat.reduceMod, Nat.reduceBNe, Nat.reduceBEq])]
    simp only [s3V, go_sem, bin_add, bin_sub, bin_mul, Nat.reduceAdd, Nat.reduceMul, Nat.reduceEqDiff, Nat.reduceLeDiff, Nat.reduceLT, Nat.reduceSub, reduceIte, reduceCtorEq, Int.reduceToNat, Int.reduceNeg, Int.reduceLE, Int.reduceLT, Int.reduceEq, Nat.reduceOr, Nat.reduceShiftRight, Nat.reduceMod, Nat.reduceBNe, Nat.reduceBEq]
  · simp only [errF, hbad, cond_true, go_sem, bin_add, bin_sub, bin_mul, Nat.reduceAdd, Nat.reduceMul, Nat.reduceEqDiff, Nat.reduceLeDiff, Nat.reduceLT, Nat.reduceSub, reduceIte, reduceCtorEq, Int.reduceToNat, Int.reduceNeg, Int.reduceLE, Int.reduceLT, Int.reduceEq, Nat.reduceOr, Nat.reduceShiftRight, Nat.reduceMod, Nat.reduceBNe, Nat.reduceBEq]
end
end Go.AX.Tri
/- Contracts: tri's At. -/
namespace Go.AX.Tri
open Go.Proofs Go.AX.Mc
set_option linter.unusedSimpArgs false
set_option linter.unusedVariables false
noncomputable section

def fr0 : List Value := frV 0 0 0 0 false (.slice none 0 0)
theorem c21 {env : List Lp} (a b c : Wn) (x y : Int) {H : AH} (hlo : H.lo ≤ H.nx) (ha : WnAt H a) (hb : WnAt H b) (hc : WnAt H c) (Q : AEnd → AH → Prop)
    (h1 : badL [a, b, c] = true → Q (.ret (.tuple [.agg fr0.toArray, .int .i64 320].toArray)) H)
    (h2 : badL [a, b, c] = false → (allF x y && (sidesF (turnF a b c) x y).2) = false → Q (.ret (.tuple [.agg fr0.toArray, .int .i64 4].toArray)) H)
    (h3 : badL [a, b, c] = false → (allF x y && (sidesF (turnF a b c) x y).2) = true → ∀ n0 n1 n2 : Nat, (sidesF (turnF a b c) x y).1 = ((n0 : Int), (n1 : Int), (n2 : Int)) → ∀ L hd, VsOut H.nx L hd (vsF (turnF a b c) n0 n1 n2 (turnF a b c).a.l) →
      Q (.ret (.tuple [.agg (frV x y (nearZ (turnF a b c) n0 n1 n2) (nearW (turnF a b c) n0 n1 n2) (turnF a b c).front hd).toArray, .int .i64 0].toArray)) (ext H L)) :
    C T env 21 [a.v, b.v, c.v, .int .i64 x, .int .i64 y] H Q := by
  rw [C_fn T21 rfl]
  unfold fr0 frV at h1 h2
  simp only [a21, Wn.v, Wn.cs, go_sem, bin_add, bin_sub, bin_mul, Nat.reduceAdd, Nat.reduceMul, Nat.reduceEqDiff, Nat.reduceLeDiff, Nat.reduceLT, Nat.reduceSub, reduceIte, reduceCtorEq, Int.reduceToNat, Int.reduceNeg, Int.reduceLE, Int.reduceLT, Int.reduceEq, Nat.reduceOr, Nat.reduceShiftRight, Nat.reduceMod, Nat.reduceBNe, Nat.reduceBEq]
  refine check3 a b c (i := 4) (by rfl) ?_
  cases hbad : badL [a, b, c]
  · simp only [errF, hbad, cond_false, eq_self, go_sem, bin_add, bin_sub, bin_mul, Nat.reduceAdd, Nat.reduceMul, Nat.reduceEqDiff, Nat.reduceLeDiff, Nat.reduceLT, Nat.reduceSub, reduceIte, reduceCtorEq, Int.reduceToNat, Int.reduceNeg, Int.reduceLE, Int.reduceLT, Int.reduceEq, Nat.reduceOr, Nat.reduceShiftRight, Nat.reduceMod, Nat.reduceBNe, Nat.reduceBEq]
    refine c33' a b c (by rw [ext_lo, ext_nx]; exact Nat.le_add_right _ _) fun L => ?_
    have h2' := h2 hbad
    have h3' := h3 hbad
    clear h1 h2 h3
    have hok := turn_ok (bad3 hbad).1 (bad3 hbad).2.1 (bad3 hbad).2.2.1
    have hmem := @turn_mem a b c
    generalize turnF a b c = f at *
    simp only [Fc.v, fc_length, fc_flat, fc_take, ext_ext, go_sem, bin_add, bin_sub, bin_mul, Nat.reduceAdd, Nat.reduceMul, Nat.reduceEqDiff, Nat.reduceLeDiff, Nat.reduceLT, Nat.reduceSub, reduceIte, reduceCtorEq, Int.reduceToNat, Int.reduceNeg, Int.reduceLE, Int.reduceLT, Int.reduceEq, Nat.reduceOr, Nat.reduceShiftRight, Nat.reduceMod, Nat.reduceBNe, Nat.reduceBEq]
    rw [c35 f (H.now.nx + (L.length + 1 + 1 + 1 + 1 + 1)) x y _ (by rw [ext_nx]; simp) (by simp only [List.getElem?_append_right (Nat.le_refl _), Nat.sub_self, fc_length, fc_take, go_sem, bin_add, bin_sub, bin_mul, Nat.reduceAdd, Nat.reduceMul, Nat.reduceEqDiff, Nat.reduceLeDiff, Nat.reduceLT, Nat.reduceSub, reduceIte, reduceCtorEq, Int.reduceToNat, Int.reduceNeg, Int.reduceLE, Int.reduceLT, Int.reduceEq, Nat.reduceOr, Nat.reduceShiftRight, Nat.reduceMod, Nat.reduceBNe, Nat.reduceBEq])]
    simp only [s3V, c37, go_sem, bin_add, bin_sub, bin_mul, Nat.reduceAdd, Nat.reduceMul, Nat.reduceEqDiff, Nat.reduceLeDiff, Nat.reduceLT, Nat.reduceSub, reduceIte, reduceCtorEq, Int.reduceToNat, Int.reduceNeg, Int.reduceLE, Int.reduceLT, Int.reduceEq, Nat.reduceOr, Nat.reduceShiftRight, Nat.reduceMod, Nat.reduceBNe, Nat.reduceBEq]
    cases hall : allF x y
    · simp only [hall, go_sem, bin_add, bin_sub, bin_mul, Nat.reduceAdd, Nat.reduceMul, Nat.reduceEqDiff, Nat.reduceLeDiff, Nat.reduceLT, Nat.reduceSub, reduceIte, reduceCtorEq, Int.reduceToNat, Int.reduceNeg, Int.reduceLE, Int.reduceLT, Int.reduceEq, Nat.reduceOr, Nat.reduceShiftRight, Nat.reduceMod, Nat.reduceBNe, Nat.reduceBEq]
      exact h2' (by rw [hall]; rfl)
    · cases hs : (sidesF f x y).2
      · simp only [hall, hs, go_sem, bin_add, bin_sub, bin_mul, Nat.reduceAdd, Nat.reduceMul, Nat.reduceEqDiff, Nat.reduceLeDiff, Nat.reduceLT, Nat.reduceSub, reduceIte, reduceCtorEq, Int.reduceToNat, Int.reduceNeg, Int.reduceLE, Int.reduceLT, Int.reduceEq, Nat.reduceOr, Nat.reduceShiftRight, Nat.reduceMod, Nat.reduceBNe, Nat.reduceBEq]
        exact h2' (by rw [hall, hs]; rfl)
      · simp only [hall, hs, go_sem, bin_add, bin_sub, bin_mul, Nat.reduceAdd, Nat.reduceMul, Nat.reduceEqDiff, Nat.reduceLeDiff, Nat.reduceLT, Nat.reduceSub, reduceIte, reduceCtorEq, Int.reduceToNat, Int.reduceNeg, Int.reduceLE, Int.reduceLT, Int.reduceEq, Nat.reduceOr, Nat.reduceShiftRight, Nat.reduceMod, Nat.reduceBNe, Nat.reduceBEq]
        obtain ⟨oka, okb, okc, lb, lc⟩ := bad3 hbad
        simp only [allF, Bool.and_eq_true, decide_eq_true_eq] at hall
        obtain ⟨⟨⟨x0, x1⟩, y0⟩, y1⟩ := hall
        obtain ⟨n0, n1, n2, es, b0, b1, b2, hA, _⟩ := sides_ok hok x0 x1 y0 y1 hs
        rw [es]
        have h3'' := h3' (by rw [hs]; simp [allF, x0, x1, y0, y1]) n0 n1 n2 es
        have hl4 : f.a.l < 1000 := Nat.lt_of_le_of_lt hok.a.l4 (by decide)
        have hw : ∀ p, (p = f.a ∨ p = f.b ∨ p = f.c) → WnAt H p := by
          intro p hp
          rcases hmem p hp with rfl | rfl | rfl <;> assumption
        have hle : ∀ p, (p = f.a ∨ p = f.b ∨ p = f.c) → p.l = f.a.l := by
          have e : ∀ q, (q = a ∨ q = b ∨ q = c) → q.l = a.l := by rintro q (rfl | rfl | rfl) <;> first | rfl | assumption
          intro p hp
          rw [e p (hmem p hp), e f.a (hmem f.a (.inl rfl))]
        refine c36 ⟨by rw [ext_nx]; simp, by simp only [List.getElem?_append_right (Nat.le_refl _), Nat.sub_self, fc_length, fc_take, go_sem, bin_add, bin_sub, bin_mul, Nat.reduceAdd, Nat.reduceMul, Nat.reduceEqDiff, Nat.reduceLeDiff, Nat.reduceLT, Nat.reduceSub, reduceIte, reduceCtorEq, Int.reduceToNat, Int.reduceNeg, Int.reduceLE, Int.reduceLT, Int.reduceEq, Nat.reduceOr, Nat.reduceShiftRight, Nat.reduceMod, Nat.reduceBNe, Nat.reduceBEq], b0, b1, b2, hA, ?_, ?_, hle⟩ hl4 (by rw [ext_lo, ext_nx]; exact Nat.le_add_right _ _) x y _ ?_
        · rintro p (rfl | rfl | rfl)
          · exact hok.a.w0
          · exact hok.b.w0
          · exact hok.c.w0
        · intro p hp
          have := hw p hp
          exact ⟨this.len, this.vec.mono (by rw [ext_nx]; exact Nat.le_add_right _ _) (fun b hb o n => rd_old _ _ _ _ _ hb), this.num, this.z, this.w⟩
        intro L' hdv hV
        have hfl : flat hdv = true ∧ hdv.cells.toList = [hdv] := by rcases hV with ⟨_, rfl⟩ | ⟨_, _, _, rfl⟩ <;> exact ⟨rfl, rfl⟩
        simp only [ext_ext, frV, hfl.1, hfl.2, go_sem, bin_add, bin_sub, bin_mul, Nat.reduceAdd, Nat.reduceMul, Nat.reduceEqDiff, Nat.reduceLeDiff, Nat.reduceLT, Nat.reduceSub, reduceIte, reduceCtorEq, Int.reduceToNat, Int.reduceNeg, Int.reduceLE, Int.reduceLT, Int.reduceEq, Nat.reduceOr, Nat.reduceShiftRight, Nat.reduceMod, Nat.reduceBNe, Nat.reduceBEq]
        rcases hV with ⟨e0, rfl⟩ | ⟨e0, i, hi, rfl⟩
        · refine trim_go hlo fun L'' => ?_
          exact h3'' L'' _ (.inl ⟨e0, rfl⟩)
        · refine (congrArg (Q _) (trim_keep H _ _ ?_ hlo)).mpr ?_
          · rw [clo_tuple5]
            simp only [List.all_cons, clo_agg4, clo_sl, Bool.false_and, Bool.and_false]
          · have hnx : ∀ (Z : List (Option AB)), (ext H.now Z).nx + i = H.nx + (Z.length + i) := fun Z => by rw [ext_nx]; exact Nat.add_assoc _ _ _
            simp only [hnx] at h3'' ⊢
            refine h3'' _ _ (.inr ⟨e0, _, ?_, rfl⟩)
            have e : ∀ (A B : List (Option AB)), (A ++ B)[A.length + i]? = B[i]? := fun A B => by rw [List.getElem?_append_right (Nat.le_add_right _ _), Nat.add_sub_cancel_left]
            refine Eq.trans ?_ hi
            have e2 := fun x0 x1 x2 x3 x4 y z => e (x0 :: x1 :: x2 :: x3 :: x4 :: (L ++ [y, z])) L'
            simp only [List.cons_append, List.append_assoc, List.nil_append] at e2
            exact e2 _ _ _ _ _ _ _
  · simp only [errF, hbad, cond_true, go_sem, bin_add, bin_sub, bin_mul, Nat.reduceAdd, Nat.reduceMul, Nat.reduceEqDiff, Nat.reduceLeDiff, Nat.reduceLT, Nat.reduceSub, reduceIte, reduceCtorEq, Int.reduceToNat, Int.reduceNeg, Int.reduceLE, Int.reduceLT, Int.reduceEq, Nat.reduceOr, Nat.reduceShiftRight, Nat.reduceMod, Nat.reduceBNe, Nat.reduceBEq]
    exact h1 hbad
end
end Go.AX.Tri
/- Plain law: what the document says of a cell is what tri says. -/
namespace Go.AX.Tri
open Go.Proofs Go.AX.Mc
set_option linter.unusedSimpArgs false
set_option linter.unusedVariables false
noncomputable section

theorem cov_eq {a b c : Wn} (h : badL [a, b, c] = false) (x y : Int) : (allF x y && (sidesF (turnF a b c) x y).2) = covR a b c x y := by
  obtain ⟨ha, hb, hc, _, _⟩ := bad3 h
  have e := wayF_eq ha hb hc.x0 hc.x1 hc.y0 hc.y1
  have bd := wayI_bd ha hb hc.x0 hc.x1 hc.y0 hc.y1
  have hs : ∀ f : Fc, (sidesF f x y).2 = covF f x y := by
    intro f
    unfold sidesF covF
    cases decide (0 < f.area)
    · rfl
    cases inF f.b f.c (ctr x) (ctr y)
    · rfl
    cases inF f.c f.a (ctr x) (ctr y)
    · rfl
    rfl
  rw [hs]
  unfold covR covF
  have ha : decide (0 < (turnF a b c).area) = !decide (wayF a b c.x c.y = 0) := by
    unfold turnF
    rw [e]
    generalize wayI a b c.x c.y = A at *
    rcases Int.lt_trichotomy A 0 with k | k | k
    · rw [show decide (A < 0) = true by simp; omega]
      simp only [cond_true]
      rw [show w64 (-A) = -A from w64_id (by omega) (by omega), show decide (0 < -A) = true from decide_eq_true (by omega), show decide (A = 0) = false from decide_eq_false (by omega)]
      rfl
    · subst k; rfl
    · rw [show decide (A < 0) = false by simp; omega]
      simp only [cond_false]
      rw [show decide (0 < A) = true from decide_eq_true (by omega), show decide (A = 0) = false from decide_eq_false (by omega)]
      rfl
  rw [ha]
end
end Go.AX.Tri
