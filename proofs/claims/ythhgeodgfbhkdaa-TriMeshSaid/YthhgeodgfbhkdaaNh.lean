/- The law TriMesh: a quadrangle. -/
import Derived.Test.YthhgeodgfbhkdaaNf
import Derived.Test.YthhgeodgfbhkdaaNe
set_option linter.unusedVariables false
set_option linter.unusedSimpArgs false
set_option linter.unusedSectionVars false
namespace Go.AX.Tri
open Go.Proofs Go.AX.Mc
set_option linter.unusedSimpArgs false
set_option linter.unusedVariables false
noncomputable section

/-- marks that are handed in. -/
def BsAt (h : AH) (a : Option Addr) (xs : List Bool) : Prop :=
  ∀ (i : Nat) v, xs[i]? = some v → ∃ b o r, a = some ⟨b, o, r⟩ ∧ (r = none ∨ r = some 0) ∧ b < h.nx ∧ rd h b (o + i) 1 = some [.bool v]
theorem BsAt.mono {h h' : AH} {a : Option Addr} {xs : List Bool} (hv : BsAt h a xs) (hn : h.nx ≤ h'.nx) (hr : ∀ b, b < h.nx → ∀ o n, rd h' b o n = rd h b o n) : BsAt h' a xs := by
  intro i v hi
  obtain ⟨b, o, r, h1, h2, h3, h4⟩ := hv i v hi
  exact ⟨b, o, r, h1, h2, by omega, by rw [hr b h3]; exact h4⟩
theorem bs_idx {h : AH} {a : Option Addr} {c : Nat} {xs : List Bool} {k : Nat} {v : Bool} (hv : BsAt h a xs) (hk : xs[k]? = some v) :
    ∃ b o, b < h.nx ∧ rd h b (o + k) 1 = some [.bool v] ∧ ∀ H, idxS 1 (.slice a xs.length c) (.int .i64 (k : Int)) H = some (.val (.pointer (some ⟨b, o + k, none⟩)) H) := by
  obtain ⟨b, o, r, ha, hr, hb, h4⟩ := hv k v hk
  have hkl := (List.getElem?_eq_some_iff.1 hk).1
  refine ⟨b, o, hb, h4, ?_⟩
  intro H
  rw [ha]
  rcases hr with rfl | rfl
  · rw [idxS_s, if_pos ⟨Int.natCast_nonneg _, by simpa using hkl⟩, Int.toNat_natCast, Nat.mul_one]
  · rw [idxS_r, if_pos ⟨Int.natCast_nonneg _, by simpa using hkl⟩, Int.toNat_natCast, Nat.mul_one]

theorem J5.rd {M mp : Nat} {h0 : AH} {P : List (Int × Int)} {h : AH} (J : J5 M mp h0 P h) (h0m : ∃ es k, h0.get mp = some (.map es k)) {b : Nat} (hb : b < h0.nx) (o n : Nat) : rd h b o n = rd h0 b o n := by
  by_cases e : b = mp
  · subst e
    obtain ⟨L, _, g⟩ := J.map
    obtain ⟨es, k, g0⟩ := h0m
    rw [rd_rdB, rd_rdB, g, g0]; rfl
  · rw [rd_rdB, J.old b hb e, rd_rdB]
theorem J5.re {M mp : Nat} {h0 : AH} {P : List (Int × Int)} {h : AH} (J : J5 M mp h0 P h) : J5 M mp h P h := ⟨J.lo, J.le, Nat.le_refl _, J.m, J.mM, J.map, fun _ _ _ => rfl⟩
theorem J5.tr {M mp : Nat} {h0 : AH} {P P' : List (Int × Int)} {h h' : AH} (J : J5 M mp h0 P h) (J' : J5 M mp h P' h') : J5 M mp h0 P' h' :=
  ⟨J'.lo, J'.le, Nat.le_trans J.nx J'.nx, J'.m, J'.mM, J'.map, fun b hb hne => by rw [J'.old b (Nat.lt_of_lt_of_le hb J.nx) hne, J.old b hb hne]⟩
theorem J5.m0 {M mp : Nat} {h0 : AH} {P : List (Int × Int)} {h : AH} (J : J5 M mp h0 P h) : ∃ es k, h.get mp = some (.map es k) := by
  obtain ⟨L, _, g⟩ := J.map
  exact ⟨_, _, g⟩

/-- the lines and the marks, as they stand. -/
structure U5 (h : AH) (p8 p9 : Nat) (hdU hdV : Value) (us vs : List Nat) (fa : Option Addr) (fl : List Bool) : Prop where
  n8 : p8 < h.nx
  n9 : p9 < h.nx
  r8 : rd h p8 0 1 = some [hdU]
  r9 : rd h p9 0 1 = some [hdV]
  hU : IntsAt h hdU us
  hV : IntsAt h hdV vs
  hF : BsAt h fa fl
theorem U5.mono {h h' : AH} {p8 p9 : Nat} {hdU hdV : Value} {us vs : List Nat} {fa : Option Addr} {fl : List Bool} (U : U5 h p8 p9 hdU hdV us vs fa fl) (hn : h.nx ≤ h'.nx) (hr : ∀ b, b < h.nx → ∀ o n, Go.AX.rd h' b o n = Go.AX.rd h b o n) : U5 h' p8 p9 hdU hdV us vs fa fl :=
  ⟨Nat.lt_of_lt_of_le U.n8 hn, Nat.lt_of_lt_of_le U.n9 hn, by rw [hr _ U.n8]; exact U.r8, by rw [hr _ U.n9]; exact U.r9, U.hU.mono hn hr, U.hV.mono hn hr, U.hF.mono hn hr⟩
theorem U5.ext {h : AH} {p8 p9 : Nat} {hdU hdV : Value} {us vs : List Nat} {fa : Option Addr} {fl : List Bool} (U : U5 h p8 p9 hdU hdV us vs fa fl) (X : List (Option AB)) : U5 (Mc.ext h X) p8 p9 hdU hdV us vs fa fl :=
  U.mono (by rw [ext_nx]; omega) fun b hb o n => rd_old _ _ _ _ _ hb

/-- the frame's part that the loops over quadrangles keep. -/
structure FrA (x2 x8 x9 x10 x11 x12 x41 x42 x47 x48 : Value) (fr : Tr Value) : Prop where
  t2 : tmp fr (pa 2) = x2
  t8 : tmp fr (pa 8) = x8
  t9 : tmp fr (pa 9) = x9
  t10 : tmp fr (pa 10) = x10
  t11 : tmp fr (pa 11) = x11
  t12 : tmp fr (pa 12) = x12
  t41 : tmp fr (pa 41) = x41
  t42 : tmp fr (pa 42) = x42
  t47 : tmp fr (pa 47) = x47
  t48 : tmp fr (pa 48) = x48
/-- one quadrangle more is counted. -/
def Quad (P P' : List (Int × Int)) (x0 x1 y0 y1 : Nat) : Prop :=
  P'.length ≤ P.length + 512 ∧ ∀ x y : Nat, x < 16 → y < 16 → P'.count ((x : Int), (y : Int)) = P.count ((x : Int), (y : Int)) + if inQ x0 x1 y0 y1 x y then 1 else 0

theorem quad5 {K : List KF} {Q : QF} {M mp : Nat} {h0 : AH} {P : List (Int × Int)} {fa : Option Addr} {fc : Nat} {fl : List Bool} (okF : Sl fa) {p8 p9 p12 : Nat} {hdU hdV : Value} {us vs : List Nat} {i j n x0 x1 y0 y1 : Nat} {x41 x47 : Value}
    (ax : Asc us) (ay : Asc vs) (e0 : us[i]? = some x0) (e1 : us[i + 1]? = some x1) (f0 : vs[j]? = some y0) (f1 : vs[j + 1]? = some y1) (hi : i < 5) (hj : j < 5) (hn : n < 100000) (hP : P.length < 90000) (l47 : x47 = .int .i64 ((vs.length - 1 : Nat) : Int)) (hjl : j < vs.length - 1)
    (hQ : ∀ fr h P', J5 M mp h0 P' h → U5 h p8 p9 hdU hdV us vs fa fl → p12 < h.nx → rd h p12 0 1 = some [.int .i64 (i : Int)] → Quad P P' x0 x1 y0 y1 →
      FrA (.slice fa fl.length fc) (.pointer (some ⟨p8, 0, none⟩)) (.pointer (some ⟨p9, 0, none⟩)) (.map (some mp)) (.int .i64 ((n + 1 : Nat) : Int)) (.pointer (some ⟨p12, 0, none⟩)) x41 (.int .i64 (i : Int)) x47 (.int .i64 ((j + 1 : Nat) : Int)) fr →
      X T [] false (.loop a5l4) (.blk 2 :: K) fr [] (ext h []) Q) :
    ∀ fr h, J5 M mp h0 P h → U5 h p8 p9 hdU hdV us vs fa fl → p12 < h.nx → rd h p12 0 1 = some [.int .i64 (i : Int)] →
      FrA (.slice fa fl.length fc) (.pointer (some ⟨p8, 0, none⟩)) (.pointer (some ⟨p9, 0, none⟩)) (.map (some mp)) (.int .i64 (n : Int)) (.pointer (some ⟨p12, 0, none⟩)) x41 (.int .i64 (i : Int)) x47 (.int .i64 (j : Int)) fr →
      X T [] false (.loop a5l4) (.blk 2 :: K) fr [] (ext h []) Q := by
  intro fr h J U n12 r12 F
  obtain ⟨t2, t8, t9, t10, t11, t12, t41, t42, t47, t48⟩ := F
  rw [l47] at t47
  have hlt : ((j : Int) < ((vs.length - 1 : Nat) : Int)) := by omega
  have hle := J.le
  have k18 : ∀ (X : List (Option AB)) (u v : Nat) (xx yy : Nat), u < 2 → v < 2 → us[i + u]? = some xx → vs[j + v]? = some yy → ∀ Q : AEnd → AH → Prop,
      C T [] 18 [.int .i64 (u : Int), .int .i64 (v : Int), .pointer (some ⟨p8, 0, none⟩), .pointer (some ⟨p12, 0, none⟩), .pointer (some ⟨p9, 0, none⟩), .pointer (some ⟨h.nx, 0, none⟩)] (Mc.ext h (some (.cells [.int .i64 (j : Int)] 0 0) :: X)) Q = Q (.ret (.agg (qC xx yy).cs.toArray)) (Mc.ext h (some (.cells [.int .i64 (j : Int)] 0 0) :: X)) := by
    intro X u v xx yy hu hv ex ey Q
    have UX := U.ext (some (.cells [.int .i64 (j : Int)] 0 0) :: X)
    refine c18 hu hv (by omega) (by omega) UX.n8 (by rw [ext_nx]; omega) UX.n9 (by rw [ext_nx]; simp only [List.length_cons]; omega) UX.r8 (by rw [rd_old _ _ _ _ _ n12]; exact r12) UX.r9 ?_ UX.hU UX.hV ex ey Q
    rw [rd_new0]; rfl
  have k00 := fun X => k18 X 0 0 x0 y0 (by omega) (by omega) e0 f0
  have k10 := fun X => k18 X 1 0 x1 y0 (by omega) (by omega) e1 f0
  have k11 := fun X => k18 X 1 1 x1 y1 (by omega) (by omega) e1 f1
  have k01 := fun X => k18 X 0 1 x0 y1 (by omega) (by omega) e0 f1
  clear k18
  simp only [Int.natCast_zero, Int.natCast_one, qC, Wn.cs] at k00 k10 k11 k01
  rw [X_loop]
  change X _ _ _ (.seq _ _) _ _ _ _ _
  have wn := w64_succ n (by omega)
  have wj := w64_succ j (by omega)
  have lx : x0 < x1 := ax.up i _ _ e0 e1
  have ly : y0 < y1 := ay.up j _ _ f0 f1
  have bx0 : x0 ≤ 3000 := ax.le _ (List.mem_of_getElem? e0)
  have bx1 : x1 ≤ 3000 := ax.le _ (List.mem_of_getElem? e1)
  have by0 : y0 ≤ 3000 := ay.le _ (List.mem_of_getElem? f0)
  have by1 : y1 ≤ 3000 := ay.le _ (List.mem_of_getElem? f1)
  simp only [t2, t8, t9, t10, t11, t12, t47, t48, hlt, hle, k00, k10, k11, k01, okF _ _ _, go_sem, bin_add, bin_sub, bin_mul, Nat.reduceAdd, Nat.reduceMul, Nat.reduceEqDiff, Nat.reduceLeDiff, Nat.reduceLT, Nat.reduceSub, reduceIte, reduceCtorEq, Int.reduceToNat, Int.reduceNeg, Int.reduceLE, Int.reduceLT, Int.reduceEq, Nat.reduceOr, Nat.reduceShiftRight, Nat.reduceMod, Nat.reduceBNe, Nat.reduceBEq]
  by_cases hnl : n < fl.length
  · obtain ⟨v, ev⟩ : ∃ v, fl[n]? = some v := ⟨fl[n]'hnl, List.getElem?_eq_getElem hnl⟩
    obtain ⟨bb, oo, nb, rb, ib⟩ := bs_idx (c := fc) U.hF ev
    have hnl' : ((n : Int) < (fl.length : Int)) := by omega
    simp only [t2, t11, hnl', ib, nb, rd_old _ _ _ _ _ nb, rb, go_sem, bin_add, bin_sub, bin_mul, Nat.reduceAdd, Nat.reduceMul, Nat.reduceEqDiff, Nat.reduceLeDiff, Nat.reduceLT, Nat.reduceSub, reduceIte, reduceCtorEq, Int.reduceToNat, Int.reduceNeg, Int.reduceLE, Int.reduceLT, Int.reduceEq, Nat.reduceOr, Nat.reduceShiftRight, Nat.reduceMod, Nat.reduceBNe, Nat.reduceBEq]
    cases v
    · simp only [t11, wn, go_sem, bin_add, bin_sub, bin_mul, Nat.reduceAdd, Nat.reduceMul, Nat.reduceEqDiff, Nat.reduceLeDiff, Nat.reduceLT, Nat.reduceSub, reduceIte, reduceCtorEq, Int.reduceToNat, Int.reduceNeg, Int.reduceLE, Int.reduceLT, Int.reduceEq, Nat.reduceOr, Nat.reduceShiftRight, Nat.reduceMod, Nat.reduceBNe, Nat.reduceBEq]
      refine tri5 (M := M) (mp := mp) (h0 := Mc.ext h [blk [.int .i64 (j : Int)], blk (tri18 (qC x0 y0) (qC x1 y0) (qC x1 y1) ++ tri18 (qC x0 y0) (qC x1 y1) (qC x0 y1))]) (P := P) (x2 := .slice fa fl.length fc) (x8 := .pointer (some ⟨p8, 0, none⟩)) (x9 := .pointer (some ⟨p9, 0, none⟩)) (x11 := .int .i64 ((n + 1 : Nat) : Int)) (x12 := .pointer (some ⟨p12, 0, none⟩)) (x41 := x41) (x42 := .int .i64 (i : Int)) (x47 := .int .i64 ((vs.length - 1 : Nat) : Int)) (x48 := .int .i64 (j : Int)) (l := (tri18 (qC x0 y0) (qC x1 y0) (qC x1 y1) ++ tri18 (qC x0 y0) (qC x1 y1) (qC x0 y1))) (k := 0) bx0 by0 bx1 by0 bx1 by1 (by omega) rfl (by omega) ?_ _ (Mc.ext h [blk [.int .i64 (j : Int)], blk (tri18 (qC x0 y0) (qC x1 y0) (qC x1 y1) ++ tri18 (qC x0 y0) (qC x1 y1) (qC x0 y1))]) (J.ext _).re ⟨?_, ?_, ?_, ?_, ?_, ?_, ?_, ?_, ?_, ?_, ?_, ?_⟩
      · intro fr1 h1 J1 F1
        refine tri5 (M := M) (mp := mp) (h0 := Mc.ext h [blk [.int .i64 (j : Int)], blk (tri18 (qC x0 y0) (qC x1 y0) (qC x1 y1) ++ tri18 (qC x0 y0) (qC x1 y1) (qC x0 y1))]) (l := (tri18 (qC x0 y0) (qC x1 y0) (qC x1 y1) ++ tri18 (qC x0 y0) (qC x1 y1) (qC x0 y1))) (k := 1) bx0 by0 bx1 by1 bx0 by1 (by omega) rfl (by rw [List.length_append]; have := cells16_len (turnF (qC x0 y0) (qC x1 y0) (qC x1 y1)); omega) ?_ fr1 h1 J1 F1
        intro fr2 h2 J2 F2
        obtain ⟨t2', t8', t9', t10', t11', t12', t41', t42', t47', t48', t94', t95'⟩ := F2
        rw [X_loop]
        change X _ _ _ (.seq _ _) _ _ _ _ _
        simp only [t95', t48', wj, show ¬ (((1 + 1 : Nat) : Int) < 2) by omega, decide_false, go_sem, bin_add, bin_sub, bin_mul, Nat.reduceAdd, Nat.reduceMul, Nat.reduceEqDiff, Nat.reduceLeDiff, Nat.reduceLT, Nat.reduceSub, reduceIte, reduceCtorEq, Int.reduceToNat, Int.reduceNeg, Int.reduceLE, Int.reduceLT, Int.reduceEq, Nat.reduceOr, Nat.reduceShiftRight, Nat.reduceMod, Nat.reduceBNe, Nat.reduceBEq]
        rw [List.append_assoc] at J2
        have J2' := (J.ext _).tr J2
        have nx2 : h.nx ≤ h2.nx := Nat.le_trans (by rw [ext_nx]; omega) J2.nx
        have rd2 : ∀ b, b < h.nx → ∀ o n, Go.AX.rd h2 b o n = Go.AX.rd h b o n := fun b hb o n => by
          rw [J2.rd (J.ext _).m0 (by rw [ext_nx]; omega), rd_old _ _ _ _ _ hb]
        refine hQ _ h2 _ J2' (U.mono nx2 rd2) (Nat.lt_of_lt_of_le n12 nx2) (by rw [rd2 _ n12]; exact r12) ?_ ⟨?_, ?_, ?_, ?_, ?_, ?_, ?_, ?_, ?_, ?_⟩
        · refine ⟨?_, fun x y hx hy => ?_⟩
          · rw [List.length_append, List.length_append]
            have := cells16_len (turnF (qC x0 y0) (qC x1 y0) (qC x1 y1))
            have := cells16_len (turnF (qC x0 y0) (qC x1 y1) (qC x0 y1))
            omega
          · rw [List.count_append, quad_a lx ly bx1 by1 hx hy]
        all_goals simp only [t2', t8', t9', t10', t11', t12', t41', t42', t47', l47, go_sem, bin_add, bin_sub, bin_mul, Nat.reduceAdd, Nat.reduceMul, Nat.reduceEqDiff, Nat.reduceLeDiff, Nat.reduceLT, Nat.reduceSub, reduceIte, reduceCtorEq, Int.reduceToNat, Int.reduceNeg, Int.reduceLE, Int.reduceLT, Int.reduceEq, Nat.reduceOr, Nat.reduceShiftRight, Nat.reduceMod, Nat.reduceBNe, Nat.reduceBEq]
      all_goals simp only [t2, t8, t9, t10, t11, t12, t41, t42, t47, t48, go_sem, bin_add, bin_sub, bin_mul, Nat.reduceAdd, Nat.reduceMul, Nat.reduceEqDiff, Nat.reduceLeDiff, Nat.reduceLT, Nat.reduceSub, reduceIte, reduceCtorEq, Int.reduceToNat, Int.reduceNeg, Int.reduceLE, Int.reduceLT, Int.reduceEq, Nat.reduceOr, Nat.reduceShiftRight, Nat.reduceMod, Nat.reduceBNe, Nat.reduceBEq]
      all_goals rfl
    · simp only [t11, wn, hle, k00, k10, k11, k01, go_sem, bin_add, bin_sub, bin_mul, Nat.reduceAdd, Nat.reduceMul, Nat.reduceEqDiff, Nat.reduceLeDiff, Nat.reduceLT, Nat.reduceSub, reduceIte, reduceCtorEq, Int.reduceToNat, Int.reduceNeg, Int.reduceLE, Int.reduceLT, Int.reduceEq, Nat.reduceOr, Nat.reduceShiftRight, Nat.reduceMod, Nat.reduceBNe, Nat.reduceBEq]
      refine tri5 (M := M) (mp := mp) (h0 := Mc.ext h [blk [.int .i64 (j : Int)], blk (tri18 (qC x0 y0) (qC x1 y0) (qC x0 y1) ++ tri18 (qC x0 y1) (qC x1 y1) (qC x1 y0))]) (P := P) (x2 := .slice fa fl.length fc) (x8 := .pointer (some ⟨p8, 0, none⟩)) (x9 := .pointer (some ⟨p9, 0, none⟩)) (x11 := .int .i64 ((n + 1 : Nat) : Int)) (x12 := .pointer (some ⟨p12, 0, none⟩)) (x41 := x41) (x42 := .int .i64 (i : Int)) (x47 := .int .i64 ((vs.length - 1 : Nat) : Int)) (x48 := .int .i64 (j : Int)) (l := (tri18 (qC x0 y0) (qC x1 y0) (qC x0 y1) ++ tri18 (qC x0 y1) (qC x1 y1) (qC x1 y0))) (k := 0) bx0 by0 bx1 by0 bx0 by1 (by omega) rfl (by omega) ?_ _ (Mc.ext h [blk [.int .i64 (j : Int)], blk (tri18 (qC x0 y0) (qC x1 y0) (qC x0 y1) ++ tri18 (qC x0 y1) (qC x1 y1) (qC x1 y0))]) (J.ext _).re ⟨?_, ?_, ?_, ?_, ?_, ?_, ?_, ?_, ?_, ?_, ?_, ?_⟩
      · intro fr1 h1 J1 F1
        refine tri5 (M := M) (mp := mp) (h0 := Mc.ext h [blk [.int .i64 (j : Int)], blk (tri18 (qC x0 y0) (qC x1 y0) (qC x0 y1) ++ tri18 (qC x0 y1) (qC x1 y1) (qC x1 y0))]) (l := (tri18 (qC x0 y0) (qC x1 y0) (qC x0 y1) ++ tri18 (qC x0 y1) (qC x1 y1) (qC x1 y0))) (k := 1) bx0 by1 bx1 by1 bx1 by0 (by omega) rfl (by rw [List.length_append]; have := cells16_len (turnF (qC x0 y0) (qC x1 y0) (qC x0 y1)); omega) ?_ fr1 h1 J1 F1
        intro fr2 h2 J2 F2
        obtain ⟨t2', t8', t9', t10', t11', t12', t41', t42', t47', t48', t94', t95'⟩ := F2
        rw [X_loop]
        change X _ _ _ (.seq _ _) _ _ _ _ _
        simp only [t95', t48', wj, show ¬ (((1 + 1 : Nat) : Int) < 2) by omega, decide_false, go_sem, bin_add, bin_sub, bin_mul, Nat.reduceAdd, Nat.reduceMul, Nat.reduceEqDiff, Nat.reduceLeDiff, Nat.reduceLT, Nat.reduceSub, reduceIte, reduceCtorEq, Int.reduceToNat, Int.reduceNeg, Int.reduceLE, Int.reduceLT, Int.reduceEq, Nat.reduceOr, Nat.reduceShiftRight, Nat.reduceMod, Nat.reduceBNe, Nat.reduceBEq]
        rw [List.append_assoc] at J2
        have J2' := (J.ext _).tr J2
        have nx2 : h.nx ≤ h2.nx := Nat.le_trans (by rw [ext_nx]; omega) J2.nx
        have rd2 : ∀ b, b < h.nx → ∀ o n, Go.AX.rd h2 b o n = Go.AX.rd h b o n := fun b hb o n => by
          rw [J2.rd (J.ext _).m0 (by rw [ext_nx]; omega), rd_old _ _ _ _ _ hb]
        refine hQ _ h2 _ J2' (U.mono nx2 rd2) (Nat.lt_of_lt_of_le n12 nx2) (by rw [rd2 _ n12]; exact r12) ?_ ⟨?_, ?_, ?_, ?_, ?_, ?_, ?_, ?_, ?_, ?_⟩
        · refine ⟨?_, fun x y hx hy => ?_⟩
          · rw [List.length_append, List.length_append]
            have := cells16_len (turnF (qC x0 y0) (qC x1 y0) (qC x0 y1))
            have := cells16_len (turnF (qC x0 y1) (qC x1 y1) (qC x1 y0))
            omega
          · rw [List.count_append, quad_b lx ly bx1 by1 hx hy]
        all_goals simp only [t2', t8', t9', t10', t11', t12', t41', t42', t47', l47, go_sem, bin_add, bin_sub, bin_mul, Nat.reduceAdd, Nat.reduceMul, Nat.reduceEqDiff, Nat.reduceLeDiff, Nat.reduceLT, Nat.reduceSub, reduceIte, reduceCtorEq, Int.reduceToNat, Int.reduceNeg, Int.reduceLE, Int.reduceLT, Int.reduceEq, Nat.reduceOr, Nat.reduceShiftRight, Nat.reduceMod, Nat.reduceBNe, Nat.reduceBEq]
      all_goals simp only [t2, t8, t9, t10, t11, t12, t41, t42, t47, t48, go_sem, bin_add, bin_sub, bin_mul, Nat.reduceAdd, Nat.reduceMul, Nat.reduceEqDiff, Nat.reduceLeDiff, Nat.reduceLT, Nat.reduceSub, reduceIte, reduceCtorEq, Int.reduceToNat, Int.reduceNeg, Int.reduceLE, Int.reduceLT, Int.reduceEq, Nat.reduceOr, Nat.reduceShiftRight, Nat.reduceMod, Nat.reduceBNe, Nat.reduceBEq]
      all_goals rfl
  · have hnl' : ¬ ((n : Int) < (fl.length : Int)) := by omega
    simp only [t2, t11, wn, hnl', decide_false, go_sem, bin_add, bin_sub, bin_mul, Nat.reduceAdd, Nat.reduceMul, Nat.reduceEqDiff, Nat.reduceLeDiff, Nat.reduceLT, Nat.reduceSub, reduceIte, reduceCtorEq, Int.reduceToNat, Int.reduceNeg, Int.reduceLE, Int.reduceLT, Int.reduceEq, Nat.reduceOr, Nat.reduceShiftRight, Nat.reduceMod, Nat.reduceBNe, Nat.reduceBEq]
    refine tri5 (M := M) (mp := mp) (h0 := Mc.ext h [blk [.int .i64 (j : Int)], blk (tri18 (qC x0 y0) (qC x1 y0) (qC x1 y1) ++ tri18 (qC x0 y0) (qC x1 y1) (qC x0 y1))]) (P := P) (x2 := .slice fa fl.length fc) (x8 := .pointer (some ⟨p8, 0, none⟩)) (x9 := .pointer (some ⟨p9, 0, none⟩)) (x11 := .int .i64 ((n + 1 : Nat) : Int)) (x12 := .pointer (some ⟨p12, 0, none⟩)) (x41 := x41) (x42 := .int .i64 (i : Int)) (x47 := .int .i64 ((vs.length - 1 : Nat) : Int)) (x48 := .int .i64 (j : Int)) (l := (tri18 (qC x0 y0) (qC x1 y0) (qC x1 y1) ++ tri18 (qC x0 y0) (qC x1 y1) (qC x0 y1))) (k := 0) bx0 by0 bx1 by0 bx1 by1 (by omega) rfl (by omega) ?_ _ (Mc.ext h [blk [.int .i64 (j : Int)], blk (tri18 (qC x0 y0) (qC x1 y0) (qC x1 y1) ++ tri18 (qC x0 y0) (qC x1 y1) (qC x0 y1))]) (J.ext _).re ⟨?_, ?_, ?_, ?_, ?_, ?_, ?_, ?_, ?_, ?_, ?_, ?_⟩
    · intro fr1 h1 J1 F1
      refine tri5 (M := M) (mp := mp) (h0 := Mc.ext h [blk [.int .i64 (j : Int)], blk (tri18 (qC x0 y0) (qC x1 y0) (qC x1 y1) ++ tri18 (qC x0 y0) (qC x1 y1) (qC x0 y1))]) (l := (tri18 (qC x0 y0) (qC x1 y0) (qC x1 y1) ++ tri18 (qC x0 y0) (qC x1 y1) (qC x0 y1))) (k := 1) bx0 by0 bx1 by1 bx0 by1 (by omega) rfl (by rw [List.length_append]; have := cells16_len (turnF (qC x0 y0) (qC x1 y0) (qC x1 y1)); omega) ?_ fr1 h1 J1 F1
      intro fr2 h2 J2 F2
      obtain ⟨t2', t8', t9', t10', t11', t12', t41', t42', t47', t48', t94', t95'⟩ := F2
      rw [X_loop]
      change X _ _ _ (.seq _ _) _ _ _ _ _
      simp only [t95', t48', wj, show ¬ (((1 + 1 : Nat) : Int) < 2) by omega, decide_false, go_sem, bin_add, bin_sub, bin_mul, Nat.reduceAdd, Nat.reduceMul, Nat.reduceEqDiff, Nat.reduceLeDiff, Nat.reduceLT, Nat.reduceSub, reduceIte, reduceCtorEq, Int.reduceToNat, Int.reduceNeg, Int.reduceLE, Int.reduceLT, Int.reduceEq, Nat.reduceOr, Nat.reduceShiftRight, Nat.reduceMod, Nat.reduceBNe, Nat.reduceBEq]
      rw [List.append_assoc] at J2
      have J2' := (J.ext _).tr J2
      have nx2 : h.nx ≤ h2.nx := Nat.le_trans (by rw [ext_nx]; omega) J2.nx
      have rd2 : ∀ b, b < h.nx → ∀ o n, Go.AX.rd h2 b o n = Go.AX.rd h b o n := fun b hb o n => by
        rw [J2.rd (J.ext _).m0 (by rw [ext_nx]; omega), rd_old _ _ _ _ _ hb]
      refine hQ _ h2 _ J2' (U.mono nx2 rd2) (Nat.lt_of_lt_of_le n12 nx2) (by rw [rd2 _ n12]; exact r12) ?_ ⟨?_, ?_, ?_, ?_, ?_, ?_, ?_, ?_, ?_, ?_⟩
      · refine ⟨?_, fun x y hx hy => ?_⟩
        · rw [List.length_append, List.length_append]
          have := cells16_len (turnF (qC x0 y0) (qC x1 y0) (qC x1 y1))
          have := cells16_len (turnF (qC x0 y0) (qC x1 y1) (qC x0 y1))
          omega
        · rw [List.count_append, quad_a lx ly bx1 by1 hx hy]
      all_goals simp only [t2', t8', t9', t10', t11', t12', t41', t42', t47', l47, go_sem, bin_add, bin_sub, bin_mul, Nat.reduceAdd, Nat.reduceMul, Nat.reduceEqDiff, Nat.reduceLeDiff, Nat.reduceLT, Nat.reduceSub, reduceIte, reduceCtorEq, Int.reduceToNat, Int.reduceNeg, Int.reduceLE, Int.reduceLT, Int.reduceEq, Nat.reduceOr, Nat.reduceShiftRight, Nat.reduceMod, Nat.reduceBNe, Nat.reduceBEq]
    all_goals simp only [t2, t8, t9, t10, t11, t12, t41, t42, t47, t48, go_sem, bin_add, bin_sub, bin_mul, Nat.reduceAdd, Nat.reduceMul, Nat.reduceEqDiff, Nat.reduceLeDiff, Nat.reduceLT, Nat.reduceSub, reduceIte, reduceCtorEq, Int.reduceToNat, Int.reduceNeg, Int.reduceLE, Int.reduceLT, Int.reduceEq, Nat.reduceOr, Nat.reduceShiftRight, Nat.reduceMod, Nat.reduceBNe, Nat.reduceBEq]
    all_goals rfl
end
end Go.AX.Tri
