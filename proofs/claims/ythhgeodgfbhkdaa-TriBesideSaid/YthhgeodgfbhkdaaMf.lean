/- The law TriBeside: between two numbers; the first list's loop. -/
import Derived.Test.YthhgeodgfbhkdaaMd
import Derived.Test.YthhgeodgfbhkdaaVb
set_option linter.unusedVariables false
set_option linter.unusedSimpArgs false
set_option linter.unusedSectionVars false
namespace Go.AX.Tri
open Go.Proofs Go.AX.Mc
set_option linter.unusedSimpArgs false
set_option linter.unusedVariables false
noncomputable section

def insF (a b x : Int) : Bool := decide (min a b ≤ x) && decide (x ≤ max a b)
theorem c16 {env : List Lp} (a b x : Int) (H : AH) (Q : AEnd → AH → Prop) : C T env 16 [.int .i64 a, .int .i64 b, .int .i64 x] H Q = Q (.ret (.bool (insF a b x))) H := by
  refine C_det ?_ Q
  rw [C_fn T16 rfl]
  simp only [a16, go_sem, bin_add, bin_sub, bin_mul, Nat.reduceAdd, Nat.reduceMul, Nat.reduceEqDiff, Nat.reduceLeDiff, Nat.reduceLT, Nat.reduceSub, reduceIte, reduceCtorEq, Int.reduceToNat, Int.reduceNeg, Int.reduceLE, Int.reduceLT, Int.reduceEq, Nat.reduceOr, Nat.reduceShiftRight, Nat.reduceMod, Nat.reduceBNe, Nat.reduceBEq]
  refine Gd_split ?_ ?_ <;> intro g1 <;> simp only [g1, go_sem, bin_add, bin_sub, bin_mul, Nat.reduceAdd, Nat.reduceMul, Nat.reduceEqDiff, Nat.reduceLeDiff, Nat.reduceLT, Nat.reduceSub, reduceIte, reduceCtorEq, Int.reduceToNat, Int.reduceNeg, Int.reduceLE, Int.reduceLT, Int.reduceEq, Nat.reduceOr, Nat.reduceShiftRight, Nat.reduceMod, Nat.reduceBNe, Nat.reduceBEq]
  all_goals simp only [insF, *, Bool.true_and, Bool.false_and]

structure Fr4 (pA pB mp : Nat) (fr : Tr Value) : Prop where
  t5 : tmp fr (pa 5) = .pointer (some ⟨pA, 0, none⟩)
  t6 : tmp fr (pa 6) = .pointer (some ⟨pB, 0, none⟩)
  t13 : tmp fr (pa 13) = .map (some mp)
structure J4 (M mp pA pB : Nat) (a b : Wn) (L : CL) (h : AH) : Prop where
  lo : M ≤ h.lo
  le : h.lo ≤ h.nx
  m : mp < h.nx
  mM : M ≤ mp
  g : h.get mp = some (.map (ents L 0) L.length)
  na : pA < h.nx
  nb : pB < h.nx
  ra : rd h pA 0 6 = some a.cs
  rb : rd h pB 0 6 = some b.cs
theorem rd_map {h : AH} {mp : Nat} {es es' : List MapEntry} {k k' : Nat} (g : h.get mp = some (.map es k)) (b o n : Nat) : rd (AH.set h mp (.map es' k')) b o n = rd h b o n := by
  by_cases e : b = mp
  · subst e
    rw [rd_rdB, rd_rdB, AH.get_set_same, g]; rfl
  · exact rd_sne _ _ _ _ _ _ e
theorem J4.ext {M mp pA pB : Nat} {a b : Wn} {L : CL} {h : AH} (J : J4 M mp pA pB a b L h) (X : List (Option AB)) : J4 M mp pA pB a b L (Mc.ext h X) := by
  obtain ⟨j1, j2, j3, j4, j5, j6, j7, j8, j9⟩ := J
  refine ⟨by rw [ext_lo]; exact j1, by rw [ext_lo, ext_nx]; omega, by rw [ext_nx]; omega, j4, by rw [ext_get_old _ _ _ j3]; exact j5, by rw [ext_nx]; omega, by rw [ext_nx]; omega, by rw [rd_old _ _ _ _ _ j6]; exact j8, by rw [rd_old _ _ _ _ _ j7]; exact j9⟩
theorem J4.put {M mp pA pB : Nat} {a b : Wn} {L L' : CL} {h : AH} (J : J4 M mp pA pB a b L h) : J4 M mp pA pB a b L' (AH.set h mp (.map (ents L' 0) L'.length)) := by
  obtain ⟨j1, j2, j3, j4, j5, j6, j7, j8, j9⟩ := J
  refine ⟨?_, ?_, by rw [AH.nx_set]; exact j3, j4, AH.get_set_same _ _ _, by rw [AH.nx_set]; exact j6, by rw [AH.nx_set]; exact j7, by rw [rd_map j5]; exact j8, by rw [rd_map j5]; exact j9⟩
  · show M ≤ min h.lo mp; omega
  · rw [AH.nx_set]; show min h.lo mp ≤ _; omega

def cl (ds : List Fd) : CL := ds.map fun d => (d.x, d.y, .bool true)
theorem cl_none {ds : List Fd} {d : Fd} {i : Nat} (hnd : (ds.map fun d => (d.x, d.y)).Nodup) (hd : ds[i]? = some d) : getC (cl (ds.take i)) d.x d.y = none := by
  unfold getC
  rw [Option.map_eq_none_iff, fnd_iff]
  intro v hv
  obtain ⟨d', h1, h2⟩ := List.mem_map.1 hv
  simp only [Prod.mk.injEq] at h2
  have h3 : (ds.take (i + 1)).map (fun d => (d.x, d.y)) = (ds.take i).map (fun d => (d.x, d.y)) ++ [(d.x, d.y)] := by
    rw [List.take_add_one, hd, List.map_append]; rfl
  have h4 : ((ds.take (i + 1)).map fun d => (d.x, d.y)).Nodup := List.Nodup.sublist (List.Sublist.map _ (List.take_sublist _ _)) hnd
  rw [h3, List.nodup_append] at h4
  exact h4.2.2 (d'.x, d'.y) (List.mem_map.2 ⟨d', h1, rfl⟩) (d.x, d.y) (by simp) (by rw [h2.1, h2.2.1])

theorem loop4 {env : List Lp} {K : List KF} {Q : QF} {M mp pA pB : Nat} {a b : Wn} {da : Option Addr} {dc : Nat} {ds : List Fd} (hsz : ds.length < 10000) (hnd : (ds.map fun d => (d.x, d.y)).Nodup)
    (q2 : ∀ fr h, J4 M mp pA pB a b (cl ds) h → Fr4 pA pB mp fr → Kt T env false K .normal fr [] (ext h []) Q) :
    ∀ (m i : Nat), i + m = ds.length → ∀ fr h, J4 M mp pA pB a b (cl (ds.take i)) h → FdsAt h da ds → Fr4 pA pB mp fr → tmp fr (pa 78) = .slice da ds.length dc → tmp fr (pa 79) = .int .i64 ds.length → tmp fr (pa 80) = .int .i64 (i : Int) →
      X T env false (.loop a4l2) (.blk 0 :: K) fr [] (ext h []) Q := by
  intro m
  induction m with
  | zero =>
    intro i hi fr h J hv F t78 t79 t80
    have hi' : i = ds.length := hi
    subst hi'
    rw [List.take_length] at J
    obtain ⟨t5, t6, t13⟩ := F
    rw [X_loop]
    change X _ _ _ (.seq _ _) _ _ _ _ _
    simp only [t79, t80, Int.lt_irrefl, decide_false, go_sem, bin_add, bin_sub, bin_mul, Nat.reduceAdd, Nat.reduceMul, Nat.reduceEqDiff, Nat.reduceLeDiff, Nat.reduceLT, Nat.reduceSub, reduceIte, reduceCtorEq, Int.reduceToNat, Int.reduceNeg, Int.reduceLE, Int.reduceLT, Int.reduceEq, Nat.reduceOr, Nat.reduceShiftRight, Nat.reduceMod, Nat.reduceBNe, Nat.reduceBEq]
    refine q2 _ h J ⟨?_, ?_, ?_⟩
    all_goals simp only [t5, t6, t13, go_sem, bin_add, bin_sub, bin_mul, Nat.reduceAdd, Nat.reduceMul, Nat.reduceEqDiff, Nat.reduceLeDiff, Nat.reduceLT, Nat.reduceSub, reduceIte, reduceCtorEq, Int.reduceToNat, Int.reduceNeg, Int.reduceLE, Int.reduceLT, Int.reduceEq, Nat.reduceOr, Nat.reduceShiftRight, Nat.reduceMod, Nat.reduceBNe, Nat.reduceBEq]
  | succ m ih =>
    intro i hi fr h J hv F t78 t79 t80
    have hlt : (i : Int) < ds.length := by omega
    have hil : i < ds.length := by omega
    obtain ⟨d, ed⟩ : ∃ v, ds[i]? = some v := ⟨ds[i]'hil, List.getElem?_eq_getElem hil⟩
    obtain ⟨bb, oo, fd, nb, rb, ib⟩ := fd_idx (c := dc) hv ed
    have F0 := F
    obtain ⟨t5, t6, t13⟩ := F
    have hno := cl_none hnd ed
    have gX : ∀ X : Option AB, (Mc.ext h [X]).get mp = some (.map (ents (cl (ds.take i)) 0) (cl (ds.take i)).length) := fun X => by rw [ext_get_old _ _ _ J.m]; exact J.g
    have lk : ∀ X : Option AB, lkV 44 (.bool false) false (.map (some mp)) (.agg [.int .i64 d.x, .int .i64 d.y].toArray) (Mc.ext h [X]) = some (.val (.bool false) (Mc.ext h [X])) := fun X => by
      rw [lk44 (gX X), hno]; rfl
    have ecl : cl (ds.take i) ++ [(d.x, d.y, .bool true)] = cl (ds.take (i + 1)) := by
      unfold cl; rw [List.take_add_one, ed, List.map_append]; rfl
    have up : ∀ X : Option AB, upV 44 (.map (some mp)) (.agg [.int .i64 d.x, .int .i64 d.y].toArray) (.bool true) (Mc.ext h [X]) = some (.val undef (Mc.ext (AH.set h mp (.map (ents (cl (ds.take (i + 1))) 0) (cl (ds.take (i + 1))).length)) [X])) := fun X => by
      rw [up44 (gX X) hno, ecl, ext_set_old _ _ _ _ J.m]
      congr 4
      rw [← ecl, List.length_append]; rfl
    have hi3 : i < 10000 := Nat.lt_trans hil hsz
    have wn := w1 (i := i) (Nat.lt_trans hi3 (by decide))
    have hle := J.le
    rw [X_loop]
    change X _ _ _ (.seq _ _) _ _ _ _ _
    simp only [Fd.cs, t13, t78, t79, t80, hlt, ib, nb, rd_old _ _ _ _ _ nb, rb, hle, e_lookup, e_mapUpdate, lk, up, d.ok _ _ _, wn, go_sem, bin_add, bin_sub, bin_mul, Nat.reduceAdd, Nat.reduceMul, Nat.reduceEqDiff, Nat.reduceLeDiff, Nat.reduceLT, Nat.reduceSub, reduceIte, reduceCtorEq, Int.reduceToNat, Int.reduceNeg, Int.reduceLE, Int.reduceLT, Int.reduceEq, Nat.reduceOr, Nat.reduceShiftRight, Nat.reduceMod, Nat.reduceBNe, Nat.reduceBEq]
    refine ih (i + 1) (by omega) _ (Mc.ext (AH.set h mp (.map (ents (cl (ds.take (i + 1))) 0) (cl (ds.take (i + 1))).length)) [_]) (J.put.ext _) ?_ ⟨?_, ?_, ?_⟩ ?_ ?_ ?_
    · exact (hv.mono (h' := AH.set h mp _) (by rw [AH.nx_set]; exact Nat.le_refl _) fun b hb o n => rd_map J.g b o n).ext _
    all_goals simp only [t5, t6, t13, t78, t79, go_sem, bin_add, bin_sub, bin_mul, Nat.reduceAdd, Nat.reduceMul, Nat.reduceEqDiff, Nat.reduceLeDiff, Nat.reduceLT, Nat.reduceSub, reduceIte, reduceCtorEq, Int.reduceToNat, Int.reduceNeg, Int.reduceLE, Int.reduceLT, Int.reduceEq, Nat.reduceOr, Nat.reduceShiftRight, Nat.reduceMod, Nat.reduceBNe, Nat.reduceBEq]
end
end Go.AX.Tri
/- The law TriBeside: the centres. -/
namespace Go.AX.Tri
open Go.Proofs Go.AX.Mc
set_option linter.unusedSimpArgs false
set_option linter.unusedVariables false
noncomputable section

/-- a centre as a corner. -/
def pW (u v : Int) : Wn := ⟨u, v, 0, 1, 0, none, 0, 0, sl_none, []⟩
def Met (a b : Wn) (L : CL) : Prop := ∀ x y : Nat, x < 64 → y < 64 → areaF a b (pW (256 * (x : Int) + 128) (256 * (y : Int) + 128)) = 0 → insF a.x b.x (256 * (x : Int) + 128) = true → insF a.y b.y (256 * (y : Int) + 128) = true →
  (256 * (x : Int) + 128 ≠ a.x ∨ 256 * (y : Int) + 128 ≠ a.y) → (256 * (x : Int) + 128 ≠ b.x ∨ 256 * (y : Int) + 128 ≠ b.y) → getC L x y = some (.bool true)

set_option maxHeartbeats 4000000 in
theorem iter4 {env : List Lp} {K : List KF} {Q : QF} {M mp pA pB : Nat} {a b : Wn} {L : CL} (hP : Met a b L) {h : AH} (J : J4 M mp pA pB a b L h) {fr : Tr Value} (F : Fr4 pA pB mp fr) {x y : Nat} (x1 : x < 64) (y1 : y < 64)
    (t16 : tmp fr (pa 16) = .int .i64 (x : Int)) (t98 : tmp fr (pa 98) = .int .i64 (x : Int)) (t101 : tmp fr (pa 101) = .int .i64 (y : Int))
    (hQ : ∀ fr h, J4 M mp pA pB a b L h → Fr4 pA pB mp fr → tmp fr (pa 16) = .int .i64 (x : Int) → tmp fr (pa 98) = .int .i64 (x : Int) → tmp fr (pa 101) = .int .i64 ((y + 1 : Nat) : Int) → X T env false (.loop a4l0) (.blk 4 :: K) fr [] (ext h []) Q) :
    X T env false (.loop a4l0) (.blk 4 :: K) fr [] (ext h []) Q := by
  obtain ⟨t5, t6, t13⟩ := F
  have hlt : (y : Int) < 64 := by omega
  have ex1 : wrapF .i64 (256 * (x : Int)) = 256 * (x : Int) := w64_id (by omega) (by omega)
  have ey1 : wrapF .i64 (256 * (y : Int)) = 256 * (y : Int) := w64_id (by omega) (by omega)
  have hP' := hP x y x1 y1
  have k14 := fun (H : AH) (Q : AEnd → AH → Prop) => c14 (env := env) a b (pW (256 * (x : Int) + 128) (256 * (y : Int) + 128)) H Q
  generalize areaF a b (pW (256 * (x : Int) + 128) (256 * (y : Int) + 128)) = ar at *
  simp only [Wn.v, Wn.cs, pW] at k14
  generalize hu : 256 * (x : Int) + 128 = u at *
  generalize hv : 256 * (y : Int) + 128 = v at *
  have ex2 : wrapF .i64 (256 * (x : Int) + 128) = u := by rw [← hu]; exact w64_id (by omega) (by omega)
  have ey2 : wrapF .i64 (256 * (y : Int) + 128) = v := by rw [← hv]; exact w64_id (by omega) (by omega)
  have lk : ∀ X : Option AB, lkV 44 (.bool false) false (.map (some mp)) (.agg [.int .i64 (x : Int), .int .i64 (y : Int)].toArray) (Mc.ext h [X]) = some (.val ((getC L x y).getD (.bool false)) (Mc.ext h [X])) := fun X =>
    lk44 (by rw [ext_get_old _ _ _ J.m]; exact J.g)
  have ra := J.ra
  have rb := J.rb
  have ra0 := rd_part ra 0 1 (by decide)
  have ra1 := rd_part ra 1 1 (by decide)
  have rb0 := rd_part rb 0 1 (by decide)
  have rb1 := rd_part rb 1 1 (by decide)
  simp only [Wn.cs, Nat.zero_add, List.drop_zero, List.drop_succ_cons, List.take_succ_cons, List.take_zero] at ra rb ra0 ra1 rb0 rb1
  have na := J.na
  have nb := J.nb
  have hle := J.le
  have wn := w64_succ y (by omega)
  rw [X_loop]
  change X _ _ _ (.seq _ _) _ _ _ _ _
  simp only [t5, t6, t13, t16, t101, hlt, ex1, ex2, ey1, ey2, na, nb, hle, ra, rb, ra0, ra1, rb0, rb1, k14, c16, e_lookup, lk, go_sem, bin_add, bin_sub, bin_mul, Nat.reduceAdd, Nat.reduceMul, Nat.reduceEqDiff, Nat.reduceLeDiff, Nat.reduceLT, Nat.reduceSub, reduceIte, reduceCtorEq, Int.reduceToNat, Int.reduceNeg, Int.reduceLE, Int.reduceLT, Int.reduceEq, Nat.reduceOr, Nat.reduceShiftRight, Nat.reduceMod, Nat.reduceBNe, Nat.reduceBEq]
  refine Gd_split ?_ ?_ <;> intro g1 <;> simp only [t5, t6, t13, t16, t101, na, nb, ra0, ra1, rb0, rb1, c16, e_lookup, lk, wn, g1, go_sem, bin_add, bin_sub, bin_mul, Nat.reduceAdd, Nat.reduceMul, Nat.reduceEqDiff, Nat.reduceLeDiff, Nat.reduceLT, Nat.reduceSub, reduceIte, reduceCtorEq, Int.reduceToNat, Int.reduceNeg, Int.reduceLE, Int.reduceLT, Int.reduceEq, Nat.reduceOr, Nat.reduceShiftRight, Nat.reduceMod, Nat.reduceBNe, Nat.reduceBEq]
  rotate_left
  · refine hQ _ (Mc.ext h [some _]) (J.ext _) ⟨?_, ?_, ?_⟩ ?_ ?_ ?_ <;> simp only [t5, t6, t13, t16, t98, wn, go_sem, bin_add, bin_sub, bin_mul, Nat.reduceAdd, Nat.reduceMul, Nat.reduceEqDiff, Nat.reduceLeDiff, Nat.reduceLT, Nat.reduceSub, reduceIte, reduceCtorEq, Int.reduceToNat, Int.reduceNeg, Int.reduceLE, Int.reduceLT, Int.reduceEq, Nat.reduceOr, Nat.reduceShiftRight, Nat.reduceMod, Nat.reduceBNe, Nat.reduceBEq]
  refine Gd_split ?_ ?_ <;> intro g2 <;> simp only [t5, t6, t13, t16, t101, na, nb, ra0, ra1, rb0, rb1, c16, e_lookup, lk, wn, g1, g2, go_sem, bin_add, bin_sub, bin_mul, Nat.reduceAdd, Nat.reduceMul, Nat.reduceEqDiff, Nat.reduceLeDiff, Nat.reduceLT, Nat.reduceSub, reduceIte, reduceCtorEq, Int.reduceToNat, Int.reduceNeg, Int.reduceLE, Int.reduceLT, Int.reduceEq, Nat.reduceOr, Nat.reduceShiftRight, Nat.reduceMod, Nat.reduceBNe, Nat.reduceBEq]
  rotate_left
  · refine hQ _ (Mc.ext h [some _]) (J.ext _) ⟨?_, ?_, ?_⟩ ?_ ?_ ?_ <;> simp only [t5, t6, t13, t16, t98, wn, go_sem, bin_add, bin_sub, bin_mul, Nat.reduceAdd, Nat.reduceMul, Nat.reduceEqDiff, Nat.reduceLeDiff, Nat.reduceLT, Nat.reduceSub, reduceIte, reduceCtorEq, Int.reduceToNat, Int.reduceNeg, Int.reduceLE, Int.reduceLT, Int.reduceEq, Nat.reduceOr, Nat.reduceShiftRight, Nat.reduceMod, Nat.reduceBNe, Nat.reduceBEq]
  refine Gd_split ?_ ?_ <;> intro g3 <;> simp only [t5, t6, t13, t16, t101, na, nb, ra0, ra1, rb0, rb1, c16, e_lookup, lk, wn, g1, g2, g3, go_sem, bin_add, bin_sub, bin_mul, Nat.reduceAdd, Nat.reduceMul, Nat.reduceEqDiff, Nat.reduceLeDiff, Nat.reduceLT, Nat.reduceSub, reduceIte, reduceCtorEq, Int.reduceToNat, Int.reduceNeg, Int.reduceLE, Int.reduceLT, Int.reduceEq, Nat.reduceOr, Nat.reduceShiftRight, Nat.reduceMod, Nat.reduceBNe, Nat.reduceBEq]
  rotate_left
  · refine hQ _ (Mc.ext h [some _]) (J.ext _) ⟨?_, ?_, ?_⟩ ?_ ?_ ?_ <;> simp only [t5, t6, t13, t16, t98, wn, go_sem, bin_add, bin_sub, bin_mul, Nat.reduceAdd, Nat.reduceMul, Nat.reduceEqDiff, Nat.reduceLeDiff, Nat.reduceLT, Nat.reduceSub, reduceIte, reduceCtorEq, Int.reduceToNat, Int.reduceNeg, Int.reduceLE, Int.reduceLT, Int.reduceEq, Nat.reduceOr, Nat.reduceShiftRight, Nat.reduceMod, Nat.reduceBNe, Nat.reduceBEq]
  have g1' := of_decide_eq_true g1
  have T3 : ∀ p q : Int, decide (u = p) = false ∨ (decide (u = p) = true ∧ decide (v = q) = false) ∨ (decide (u = p) = true ∧ decide (v = q) = true) := by
    intro p q
    cases decide (u = p) <;> cases decide (v = q) <;> simp
  rcases T3 a.x a.y with a1 | ⟨a1, a2⟩ | ⟨a1, a2⟩
  rotate_left 2
  · simp only [t5, t6, t13, t16, t101, na, nb, ra0, ra1, rb0, rb1, c16, e_lookup, lk, wn, g1, g2, g3, a1, a2, go_sem, bin_add, bin_sub, bin_mul, Nat.reduceAdd, Nat.reduceMul, Nat.reduceEqDiff, Nat.reduceLeDiff, Nat.reduceLT, Nat.reduceSub, reduceIte, reduceCtorEq, Int.reduceToNat, Int.reduceNeg, Int.reduceLE, Int.reduceLT, Int.reduceEq, Nat.reduceOr, Nat.reduceShiftRight, Nat.reduceMod, Nat.reduceBNe, Nat.reduceBEq]
    refine hQ _ (Mc.ext h [some _]) (J.ext _) ⟨?_, ?_, ?_⟩ ?_ ?_ ?_ <;> simp only [t5, t6, t13, t16, t98, wn, go_sem, bin_add, bin_sub, bin_mul, Nat.reduceAdd, Nat.reduceMul, Nat.reduceEqDiff, Nat.reduceLeDiff, Nat.reduceLT, Nat.reduceSub, reduceIte, reduceCtorEq, Int.reduceToNat, Int.reduceNeg, Int.reduceLE, Int.reduceLT, Int.reduceEq, Nat.reduceOr, Nat.reduceShiftRight, Nat.reduceMod, Nat.reduceBNe, Nat.reduceBEq]
  all_goals
    have ha : u ≠ a.x ∨ v ≠ a.y := by first | exact .inl (of_decide_eq_false a1) | exact .inr (of_decide_eq_false a2)
    rcases T3 b.x b.y with b1 | ⟨b1, b2⟩ | ⟨b1, b2⟩
    rotate_left 2
    · simp only [t5, t6, t13, t16, t101, na, nb, ra0, ra1, rb0, rb1, c16, e_lookup, lk, wn, g1, g2, g3, *, go_sem, bin_add, bin_sub, bin_mul, Nat.reduceAdd, Nat.reduceMul, Nat.reduceEqDiff, Nat.reduceLeDiff, Nat.reduceLT, Nat.reduceSub, reduceIte, reduceCtorEq, Int.reduceToNat, Int.reduceNeg, Int.reduceLE, Int.reduceLT, Int.reduceEq, Nat.reduceOr, Nat.reduceShiftRight, Nat.reduceMod, Nat.reduceBNe, Nat.reduceBEq]
      refine hQ _ (Mc.ext h [some _]) (J.ext _) ⟨?_, ?_, ?_⟩ ?_ ?_ ?_ <;> simp only [t5, t6, t13, t16, t98, wn, go_sem, bin_add, bin_sub, bin_mul, Nat.reduceAdd, Nat.reduceMul, Nat.reduceEqDiff, Nat.reduceLeDiff, Nat.reduceLT, Nat.reduceSub, reduceIte, reduceCtorEq, Int.reduceToNat, Int.reduceNeg, Int.reduceLE, Int.reduceLT, Int.reduceEq, Nat.reduceOr, Nat.reduceShiftRight, Nat.reduceMod, Nat.reduceBNe, Nat.reduceBEq]
    all_goals
      have hb : u ≠ b.x ∨ v ≠ b.y := by first | exact .inl (of_decide_eq_false b1) | exact .inr (of_decide_eq_false b2)
      have hm := hP' g1' g2 g3 ha hb
      rw [hm] at lk
      simp only [Option.getD_some] at lk
      try simp only [t5, t6, t13, t16, t101, na, nb, ra0, ra1, rb0, rb1, c16, e_lookup, lk, wn, g1, g2, g3, a1, a2, b1, b2, go_sem, bin_add, bin_sub, bin_mul, Nat.reduceAdd, Nat.reduceMul, Nat.reduceEqDiff, Nat.reduceLeDiff, Nat.reduceLT, Nat.reduceSub, reduceIte, reduceCtorEq, Int.reduceToNat, Int.reduceNeg, Int.reduceLE, Int.reduceLT, Int.reduceEq, Nat.reduceOr, Nat.reduceShiftRight, Nat.reduceMod, Nat.reduceBNe, Nat.reduceBEq]
      try simp only [t5, t6, t13, t16, t101, na, nb, ra0, ra1, rb0, rb1, c16, e_lookup, lk, wn, g1, g2, g3, a1, b1, b2, go_sem, bin_add, bin_sub, bin_mul, Nat.reduceAdd, Nat.reduceMul, Nat.reduceEqDiff, Nat.reduceLeDiff, Nat.reduceLT, Nat.reduceSub, reduceIte, reduceCtorEq, Int.reduceToNat, Int.reduceNeg, Int.reduceLE, Int.reduceLT, Int.reduceEq, Nat.reduceOr, Nat.reduceShiftRight, Nat.reduceMod, Nat.reduceBNe, Nat.reduceBEq]
      try simp only [t5, t6, t13, t16, t101, na, nb, ra0, ra1, rb0, rb1, c16, e_lookup, lk, wn, g1, g2, g3, a1, a2, b1, go_sem, bin_add, bin_sub, bin_mul, Nat.reduceAdd, Nat.reduceMul, Nat.reduceEqDiff, Nat.reduceLeDiff, Nat.reduceLT, Nat.reduceSub, reduceIte, reduceCtorEq, Int.reduceToNat, Int.reduceNeg, Int.reduceLE, Int.reduceLT, Int.reduceEq, Nat.reduceOr, Nat.reduceShiftRight, Nat.reduceMod, Nat.reduceBNe, Nat.reduceBEq]
      try simp only [t5, t6, t13, t16, t101, na, nb, ra0, ra1, rb0, rb1, c16, e_lookup, lk, wn, g1, g2, g3, a1, b1, go_sem, bin_add, bin_sub, bin_mul, Nat.reduceAdd, Nat.reduceMul, Nat.reduceEqDiff, Nat.reduceLeDiff, Nat.reduceLT, Nat.reduceSub, reduceIte, reduceCtorEq, Int.reduceToNat, Int.reduceNeg, Int.reduceLE, Int.reduceLT, Int.reduceEq, Nat.reduceOr, Nat.reduceShiftRight, Nat.reduceMod, Nat.reduceBNe, Nat.reduceBEq]
      refine hQ _ (Mc.ext h [some _]) (J.ext _) ⟨?_, ?_, ?_⟩ ?_ ?_ ?_ <;> simp only [t5, t6, t13, t16, t98, wn, go_sem, bin_add, bin_sub, bin_mul, Nat.reduceAdd, Nat.reduceMul, Nat.reduceEqDiff, Nat.reduceLeDiff, Nat.reduceLT, Nat.reduceSub, reduceIte, reduceCtorEq, Int.reduceToNat, Int.reduceNeg, Int.reduceLE, Int.reduceLT, Int.reduceEq, Nat.reduceOr, Nat.reduceShiftRight, Nat.reduceMod, Nat.reduceBNe, Nat.reduceBEq]
end
end Go.AX.Tri
/- The law TriBeside: the loops over the centres. -/
namespace Go.AX.Tri
open Go.Proofs Go.AX.Mc
set_option linter.unusedSimpArgs false
set_option linter.unusedVariables false
noncomputable section

theorem inner4 {env : List Lp} {K : List KF} {Q : QF} {M mp pA pB : Nat} {a b : Wn} {L : CL} (hP : Met a b L) {x : Nat} (x1 : x < 64)
    (q2 : ∀ fr h, J4 M mp pA pB a b L h → Fr4 pA pB mp fr → tmp fr (pa 98) = .int .i64 (x : Int) → Kt T env false K .normal fr [] (ext h []) Q) :
    ∀ (m y : Nat), y + m = 64 → ∀ fr h, J4 M mp pA pB a b L h → Fr4 pA pB mp fr → tmp fr (pa 16) = .int .i64 (x : Int) → tmp fr (pa 98) = .int .i64 (x : Int) → tmp fr (pa 101) = .int .i64 (y : Int) →
      X T env false (.loop a4l0) (.blk 4 :: K) fr [] (ext h []) Q := by
  intro m
  induction m with
  | zero =>
    intro y hy fr h J F t16 t98 t101
    obtain rfl : y = 64 := hy
    obtain ⟨t5, t6, t13⟩ := F
    rw [X_loop]
    change X _ _ _ (.seq _ _) _ _ _ _ _
    simp only [t101, show ¬ (((64 : Nat) : Int) < 64) by omega, decide_false, go_sem, bin_add, bin_sub, bin_mul, Nat.reduceAdd, Nat.reduceMul, Nat.reduceEqDiff, Nat.reduceLeDiff, Nat.reduceLT, Nat.reduceSub, reduceIte, reduceCtorEq, Int.reduceToNat, Int.reduceNeg, Int.reduceLE, Int.reduceLT, Int.reduceEq, Nat.reduceOr, Nat.reduceShiftRight, Nat.reduceMod, Nat.reduceBNe, Nat.reduceBEq]
    refine q2 _ h J ⟨?_, ?_, ?_⟩ ?_
    all_goals simp only [t5, t6, t13, t98, go_sem, bin_add, bin_sub, bin_mul, Nat.reduceAdd, Nat.reduceMul, Nat.reduceEqDiff, Nat.reduceLeDiff, Nat.reduceLT, Nat.reduceSub, reduceIte, reduceCtorEq, Int.reduceToNat, Int.reduceNeg, Int.reduceLE, Int.reduceLT, Int.reduceEq, Nat.reduceOr, Nat.reduceShiftRight, Nat.reduceMod, Nat.reduceBNe, Nat.reduceBEq]
  | succ m ih =>
    intro y hy fr h J F t16 t98 t101
    refine iter4 hP J F x1 (by omega) t16 t98 t101 ?_
    intro fr' h' J' F' t16' t98' t101'
    exact ih (y + 1) (by omega) fr' h' J' F' t16' t98' t101'

theorem outer4 {env : List Lp} {K : List KF} {Q : QF} {M mp pA pB : Nat} {a b : Wn} {L : CL} (hP : Met a b L)
    (q2 : ∀ fr h, M ≤ h.lo → Kt T env false K .normal fr [] (ext h []) Q) :
    ∀ (m x : Nat), x + m = 64 → ∀ fr h, J4 M mp pA pB a b L h → Fr4 pA pB mp fr → tmp fr (pa 98) = .int .i64 (x : Int) →
      X T env false (.loop a4l1) (.blk 2 :: K) fr [] (ext h []) Q := by
  intro m
  induction m with
  | zero =>
    intro x hx fr h J F t98
    obtain rfl : x = 64 := hx
    rw [X_loop]
    change X _ _ _ (.seq _ _) _ _ _ _ _
    simp only [t98, show ¬ (((64 : Nat) : Int) < 64) by omega, decide_false, go_sem, bin_add, bin_sub, bin_mul, Nat.reduceAdd, Nat.reduceMul, Nat.reduceEqDiff, Nat.reduceLeDiff, Nat.reduceLT, Nat.reduceSub, reduceIte, reduceCtorEq, Int.reduceToNat, Int.reduceNeg, Int.reduceLE, Int.reduceLT, Int.reduceEq, Nat.reduceOr, Nat.reduceShiftRight, Nat.reduceMod, Nat.reduceBNe, Nat.reduceBEq]
    exact q2 _ h J.lo
  | succ m ih =>
    intro x hx fr h J F t98
    have hlt : (x : Int) < 64 := by omega
    obtain ⟨t5, t6, t13⟩ := F
    rw [X_loop]
    change X _ _ _ (.seq _ _) _ _ _ _ _
    simp only [t98, hlt, go_sem, bin_add, bin_sub, bin_mul, Nat.reduceAdd, Nat.reduceMul, Nat.reduceEqDiff, Nat.reduceLeDiff, Nat.reduceLT, Nat.reduceSub, reduceIte, reduceCtorEq, Int.reduceToNat, Int.reduceNeg, Int.reduceLE, Int.reduceLT, Int.reduceEq, Nat.reduceOr, Nat.reduceShiftRight, Nat.reduceMod, Nat.reduceBNe, Nat.reduceBEq]
    refine inner4 hP (x := x) (by omega) ?_ 64 0 (by omega) _ h J ⟨?_, ?_, ?_⟩ ?_ ?_ ?_
    · intro fr' h' J' F' t98'
      have wn := w64_succ x (by omega)
      obtain ⟨t5', t6', t13'⟩ := F'
      simp only [t98', go_sem, bin_add, bin_sub, bin_mul, Nat.reduceAdd, Nat.reduceMul, Nat.reduceEqDiff, Nat.reduceLeDiff, Nat.reduceLT, Nat.reduceSub, reduceIte, reduceCtorEq, Int.reduceToNat, Int.reduceNeg, Int.reduceLE, Int.reduceLT, Int.reduceEq, Nat.reduceOr, Nat.reduceShiftRight, Nat.reduceMod, Nat.reduceBNe, Nat.reduceBEq]
      refine ih (x + 1) (by omega) _ h' J' ⟨?_, ?_, ?_⟩ ?_
      all_goals simp only [t5', t6', t13', wn, go_sem, bin_add, bin_sub, bin_mul, Nat.reduceAdd, Nat.reduceMul, Nat.reduceEqDiff, Nat.reduceLeDiff, Nat.reduceLT, Nat.reduceSub, reduceIte, reduceCtorEq, Int.reduceToNat, Int.reduceNeg, Int.reduceLE, Int.reduceLT, Int.reduceEq, Nat.reduceOr, Nat.reduceShiftRight, Nat.reduceMod, Nat.reduceBNe, Nat.reduceBEq]
    all_goals simp only [t5, t6, t13, t98, go_sem, bin_add, bin_sub, bin_mul, Nat.reduceAdd, Nat.reduceMul, Nat.reduceEqDiff, Nat.reduceLeDiff, Nat.reduceLT, Nat.reduceSub, reduceIte, reduceCtorEq, Int.reduceToNat, Int.reduceNeg, Int.reduceLE, Int.reduceLT, Int.reduceEq, Nat.reduceOr, Nat.reduceShiftRight, Nat.reduceMod, Nat.reduceBNe, Nat.reduceBEq]
    all_goals rfl
end
end Go.AX.Tri
