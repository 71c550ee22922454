/- The law TriMesh: cells counted in a map. -/
import Derived.Test.YthhgeodgfbhkdaaVc
set_option linter.unusedVariables false
set_option linter.unusedSimpArgs false
set_option linter.unusedSectionVars false
namespace Go.AX.Tri
open Go.Proofs Go.AX.Mc
set_option linter.unusedSimpArgs false
set_option linter.unusedVariables false
noncomputable section

theorem getC_cons (a b : Int) (w : Value) (r : CL) (x y : Int) : getC ((a, b, w) :: r) x y = if x = a ∧ y = b then some w else getC r x y := by
  unfold getC
  rw [fnd]
  by_cases h : x = a ∧ y = b
  · obtain ⟨rfl, rfl⟩ := h
    simp
  · have e : (x == a && y == b) = false := by
      rw [Bool.eq_false_iff]
      intro h2
      rw [Bool.and_eq_true, beq_iff_eq, beq_iff_eq] at h2
      exact h h2
    rw [e, if_neg h]
    simp only [cond_false]
    rw [fnd_shift]
    cases fnd r x y 0 <;> rfl
theorem getC_nil (x y : Int) : getC [] x y = none := rfl
theorem getC_app (v : Value) (x y : Int) : ∀ (L : CL) (x' y' : Int), getC (L ++ [(x, y, v)]) x' y' = match getC L x' y' with | some w => some w | none => if x' = x ∧ y' = y then some v else none
  | [], x', y' => by rw [List.nil_append, getC_cons, getC_nil]
  | (a, b, w) :: r, x', y' => by
    rw [List.cons_append, getC_cons, getC_cons]
    by_cases h : x' = a ∧ y' = b
    · rw [if_pos h, if_pos h]
    · rw [if_neg h, if_neg h]; exact getC_app v x y r x' y'
theorem getC_mod (v : Value) : ∀ (L : CL) (i : Nat) (x y : Int) (w : Value), fnd L x y 0 = some (i, w) → ∀ x' y', getC (L.modify i fun c => (c.1, c.2.1, v)) x' y' = if x' = x ∧ y' = y then some v else getC L x' y'
  | [], i, x, y, w, h, x', y' => by simp [fnd] at h
  | (a, b, u) :: r, i, x, y, w, h, x', y' => by
    rw [fnd] at h
    cases hk : (x == a && y == b)
    · rw [hk] at h
      simp only [cond_false] at h
      rw [fnd_shift] at h
      cases hq : fnd r x y 0 with
      | none => rw [hq] at h; simp at h
      | some q =>
        obtain ⟨k, u'⟩ := q
        rw [hq] at h
        simp only [Option.map_some, Option.some.injEq, Prod.mk.injEq] at h
        obtain ⟨rfl, rfl⟩ := h
        show getC ((a, b, u) :: r.modify k _) x' y' = _
        rw [getC_cons, getC_cons, getC_mod v r k x y u' hq]
        by_cases h1 : x' = a ∧ y' = b
        · rw [if_pos h1, if_pos h1]
          by_cases h2 : x' = x ∧ y' = y
          · rw [← h2.1, ← h2.2, h1.1, h1.2] at hk
            simp at hk
          · rw [if_neg h2]
        · rw [if_neg h1, if_neg h1]
    · rw [hk] at h
      simp only [cond_true, Option.some.injEq, Prod.mk.injEq] at h
      obtain ⟨rfl, rfl⟩ := h
      rw [Bool.and_eq_true, beq_iff_eq, beq_iff_eq] at hk
      obtain ⟨rfl, rfl⟩ := hk
      show getC ((x, y, v) :: r) x' y' = _
      rw [getC_cons, getC_cons]
      by_cases h1 : x' = x ∧ y' = y
      · rw [if_pos h1, if_pos h1]
      · rw [if_neg h1, if_neg h1, if_neg h1]
theorem getC_bump (L : CL) (x y : Int) (v : Value) (x' y' : Int) : getC (bump L x y v) x' y' = if x' = x ∧ y' = y then some v else getC L x' y' := by
  unfold bump
  cases hq : fnd L x y 0 with
  | none =>
    simp only
    rw [getC_app]
    by_cases h : x' = x ∧ y' = y
    · obtain ⟨rfl, rfl⟩ := h
      rw [show getC L x' y' = none by unfold getC; rw [hq]; rfl]
    · rw [if_neg h]
      cases getC L x' y' with
      | none => simp only [if_neg h]
      | some w => simp only [if_neg h]
  | some q =>
    obtain ⟨i, w⟩ := q
    exact getC_mod v L i x y w hq x' y'
theorem getC_had (L : CL) (x y : Int) (z : Value) : (getC (hadC L x y z) x y).getD z = (getC L x y).getD z := by
  unfold hadC
  cases hq : fnd L x y 0 with
  | none =>
    simp only
    rw [getC_app, show getC L x y = none by unfold getC; rw [hq]; rfl]
    simp
  | some q => rfl
theorem set_set (h : AH) (b : Nat) (x y : AB) : AH.set (AH.set h b x) b y = AH.set h b y := by
  unfold AH.set
  simp only [put_put_same]
  congr 1
  omega

/-- what the map tells of the cells counted. -/
def Cnt (P : List (Int × Int)) (L : CL) : Prop := ∀ x y, getC L x y = if P.count (x, y) = 0 then none else some (.int .i64 (P.count (x, y) : Int))
theorem Cnt.val {P : List (Int × Int)} {L : CL} (h : Cnt P L) (x y : Int) : (getC L x y).getD (.int .i64 0) = .int .i64 (P.count (x, y) : Int) := by
  rw [h x y]
  by_cases e : P.count (x, y) = 0
  · rw [if_pos e, e]; rfl
  · rw [if_neg e]; rfl
theorem Cnt.step {P : List (Int × Int)} {L : CL} (h : Cnt P L) (x y : Int) : Cnt (P ++ [(x, y)]) (bump L x y (.int .i64 ((P.count (x, y) + 1 : Nat) : Int))) := by
  intro x' y'
  rw [getC_bump, h x' y', List.count_append]
  by_cases e : x' = x ∧ y' = y
  · obtain ⟨rfl, rfl⟩ := e
    rw [if_pos ⟨rfl, rfl⟩]
    simp
  · rw [if_neg e]
    have : List.count (x', y') [(x, y)] = 0 := by
      rw [List.count_eq_zero]
      intro h2
      simp only [List.mem_cons, List.not_mem_nil, or_false, Prod.mk.injEq] at h2
      exact e h2
    rw [this, Nat.add_zero]
end
end Go.AX.Tri
/- The law TriMesh: the fragments of one triangle are counted. -/
namespace Go.AX.Tri
open Go.Proofs Go.AX.Mc
set_option linter.unusedSimpArgs false
set_option linter.unusedVariables false
noncomputable section

structure J5 (M mp : Nat) (h0 : AH) (P : List (Int × Int)) (h : AH) : Prop where
  lo : M ≤ h.lo
  le : h.lo ≤ h.nx
  nx : h0.nx ≤ h.nx
  m : mp < h.nx
  mM : M ≤ mp
  map : ∃ L, Cnt P L ∧ h.get mp = some (.map (ents L 0) L.length)
  old : ∀ b, b < h0.nx → b ≠ mp → h.get b = h0.get b
theorem J5.ext {M mp : Nat} {h0 : AH} {P : List (Int × Int)} {h : AH} (J : J5 M mp h0 P h) (X : List (Option AB)) : J5 M mp h0 P (Mc.ext h X) := by
  obtain ⟨j1, j2, j3, j4, j5, ⟨L, j6, j7⟩, j8⟩ := J
  exact ⟨by rw [ext_lo]; exact j1, by rw [ext_lo, ext_nx]; omega, by rw [ext_nx]; omega, by rw [ext_nx]; omega, j5, ⟨L, j6, by rw [ext_get_old _ _ _ j4]; exact j7⟩, fun b hb hne => by rw [ext_get_old _ _ _ (by omega)]; exact j8 b hb hne⟩
theorem J5.put {M mp : Nat} {h0 : AH} {P P' : List (Int × Int)} {h : AH} (J : J5 M mp h0 P h) {L' : CL} (hc : Cnt P' L') : J5 M mp h0 P' (AH.set h mp (.map (ents L' 0) L'.length)) := by
  obtain ⟨j1, j2, j3, j4, j5, _, j8⟩ := J
  refine ⟨?_, ?_, by rw [AH.nx_set]; exact j3, by rw [AH.nx_set]; exact j4, j5, ⟨L', hc, AH.get_set_same _ _ _⟩, fun b hb hne => by rw [AH.get_set_ne _ _ _ hne]; exact j8 b hb hne⟩
  · show M ≤ min h.lo mp; omega
  · rw [AH.nx_set]; show min h.lo mp ≤ _; omega
/-- the frame's part that the loops keep. -/
structure Fr5 (x2 x8 x9 x10 x11 x12 x41 x42 x47 x48 x94 x95 : Value) (fr : Tr Value) : Prop where
  t2 : tmp fr (pa 2) = x2
  t8 : tmp fr (pa 8) = x8
  t9 : tmp fr (pa 9) = x9
  t10 : tmp fr (pa 10) = x10
  t11 : tmp fr (pa 11) = x11
  t12 : tmp fr (pa 12) = x12
  t41 : tmp fr (pa 41) = x41
  t42 : tmp fr (pa 42) = x42
  t47 : tmp fr (pa 47) = x47
  t48 : tmp fr (pa 48) = x48
  t94 : tmp fr (pa 94) = x94
  t95 : tmp fr (pa 95) = x95
def xyD (ds : List Fd) : List (Int × Int) := ds.map fun d => (d.x, d.y)

theorem loop5 {env : List Lp} {K : List KF} {Q : QF} {M mp : Nat} {h0 : AH} {P : List (Int × Int)} {x2 x8 x9 x11 x12 x41 x42 x47 x48 x94 x95 : Value} {da : Option Addr} {dc : Nat} {ds : List Fd} (hsz : P.length + ds.length < 1000000)
    (q2 : ∀ fr h, J5 M mp h0 (P ++ xyD ds) h → Fr5 x2 x8 x9 (.map (some mp)) x11 x12 x41 x42 x47 x48 x94 x95 fr → Kt T env false K .normal fr [] (ext h []) Q) :
    ∀ (m i : Nat), i + m = ds.length → ∀ fr h, J5 M mp h0 (P ++ xyD (ds.take i)) h → FdsAt h da ds → Fr5 x2 x8 x9 (.map (some mp)) x11 x12 x41 x42 x47 x48 x94 x95 fr → tmp fr (pa 111) = .slice da ds.length dc → tmp fr (pa 112) = .int .i64 ds.length → tmp fr (pa 113) = .int .i64 (i : Int) →
      X T env false (.loop a5l2) (.blk 6 :: K) fr [] (ext h []) Q := by
  intro m
  induction m with
  | zero =>
    intro i hi fr h J hv F t111 t112 t113
    have hi' : i = ds.length := hi
    subst hi'
    rw [List.take_length] at J
    obtain ⟨t2, t8, t9, t10, t11, t12, t41, t42, t47, t48, t94, t95⟩ := F
    rw [X_loop]
    change X _ _ _ (.seq _ _) _ _ _ _ _
    simp only [t112, t113, Int.lt_irrefl, decide_false, go_sem, bin_add, bin_sub, bin_mul, Nat.reduceAdd, Nat.reduceMul, Nat.reduceEqDiff, Nat.reduceLeDiff, Nat.reduceLT, Nat.reduceSub, reduceIte, reduceCtorEq, Int.reduceToNat, Int.reduceNeg, Int.reduceLE, Int.reduceLT, Int.reduceEq, Nat.reduceOr, Nat.reduceShiftRight, Nat.reduceMod, Nat.reduceBNe, Nat.reduceBEq]
    refine q2 _ h J ⟨?_, ?_, ?_, ?_, ?_, ?_, ?_, ?_, ?_, ?_, ?_, ?_⟩
    all_goals simp only [t2, t8, t9, t10, t11, t12, t41, t42, t47, t48, t94, t95, go_sem, bin_add, bin_sub, bin_mul, Nat.reduceAdd, Nat.reduceMul, Nat.reduceEqDiff, Nat.reduceLeDiff, Nat.reduceLT, Nat.reduceSub, reduceIte, reduceCtorEq, Int.reduceToNat, Int.reduceNeg, Int.reduceLE, Int.reduceLT, Int.reduceEq, Nat.reduceOr, Nat.reduceShiftRight, Nat.reduceMod, Nat.reduceBNe, Nat.reduceBEq]
  | succ m ih =>
    intro i hi fr h J hv F t111 t112 t113
    have hlt : (i : Int) < ds.length := by omega
    have hil : i < ds.length := by omega
    obtain ⟨d, ed⟩ : ∃ v, ds[i]? = some v := ⟨ds[i]'hil, List.getElem?_eq_getElem hil⟩
    obtain ⟨bb, oo, fd, nb, rb, ib⟩ := fd_idx (c := dc) hv ed
    obtain ⟨t2, t8, t9, t10, t11, t12, t41, t42, t47, t48, t94, t95⟩ := F
    obtain ⟨L, hc, hg⟩ := J.map
    have hm := J.m
    have hle := J.le
    have epl : P ++ xyD (ds.take i) ++ [(d.x, d.y)] = P ++ xyD (ds.take (i + 1)) := by
      unfold xyD; rw [List.take_add_one, ed, List.map_append, List.append_assoc]; rfl
    have hcs := hc.step d.x d.y
    rw [epl] at hcs
    have hval := hc.val d.x d.y
    have hcl : (P ++ xyD (ds.take i)).count (d.x, d.y) < 1000000 := by
      refine Nat.lt_of_le_of_lt List.count_le_length ?_
      unfold xyD
      rw [List.length_append, List.length_map, List.length_take]; omega
    generalize (P ++ xyD (ds.take i)).count (d.x, d.y) = n at *
    have wc : wrapF .i64 ((n : Int) + 1) = ((n + 1 : Nat) : Int) := w64_succ n (by omega)
    have gX : ∀ X : Option AB, (Mc.ext h [X]).get mp = some (.map (ents L 0) L.length) := fun X => by rw [ext_get_old _ _ _ hm]; exact hg
    have gX2 : ∀ X : Option AB, (Mc.ext (AH.set h mp (.map (ents (hadC L d.x d.y (.int .i64 0)) 0) (hadC L d.x d.y (.int .i64 0)).length)) [X]).get mp = some (.map (ents (hadC L d.x d.y (.int .i64 0)) 0) (hadC L d.x d.y (.int .i64 0)).length) := fun X => by rw [ext_get_old _ _ _ (by rw [AH.nx_set]; exact hm), AH.get_set_same]
    have lk : ∀ X : Option AB, lkV 44 (.int .i64 0) false (.map (some mp)) (.agg [.int .i64 d.x, .int .i64 d.y].toArray) (Mc.ext h [X]) = some (.val (.int .i64 (n : Int)) (Mc.ext h [X])) := fun X => by
      rw [lk44 (gX X), hval]
    have en : ∀ X : Option AB, enV 44 (.int .i64 0) (.map (some mp)) (.agg [.int .i64 d.x, .int .i64 d.y].toArray) (Mc.ext h [X]) = some (.val (.tuple #[.int .i64 (n : Int), .int .i64 (numC L d.x d.y : Int)]) (Mc.ext (AH.set h mp (.map (ents (hadC L d.x d.y (.int .i64 0)) 0) (hadC L d.x d.y (.int .i64 0)).length)) [X])) := fun X => by
      rw [en44 (gX X), hval, ext_set_old _ _ _ _ hm]
    have lk2 : ∀ X : Option AB, lkV 44 (.int .i64 0) false (.map (some mp)) (.agg [.int .i64 d.x, .int .i64 d.y].toArray) (Mc.ext (AH.set h mp (.map (ents (hadC L d.x d.y (.int .i64 0)) 0) (hadC L d.x d.y (.int .i64 0)).length)) [X]) = some (.val (.int .i64 (n : Int)) (Mc.ext (AH.set h mp (.map (ents (hadC L d.x d.y (.int .i64 0)) 0) (hadC L d.x d.y (.int .i64 0)).length)) [X])) := fun X => by
      rw [lk44 (gX2 X), getC_had, hval]
    have es : ∀ X : Option AB, esV (.map (some mp)) (.int .i64 (numC L d.x d.y : Int)) (.int .i64 ((n + 1 : Nat) : Int)) (Mc.ext (AH.set h mp (.map (ents (hadC L d.x d.y (.int .i64 0)) 0) (hadC L d.x d.y (.int .i64 0)).length)) [X]) = some (.val undef (Mc.ext (AH.set h mp (.map (ents (bump L d.x d.y (.int .i64 ((n + 1 : Nat) : Int))) 0) (bump L d.x d.y (.int .i64 ((n + 1 : Nat) : Int))).length)) [X])) := fun X => by
      rw [es44 (gX2 X), ext_set_old _ _ _ _ (by rw [AH.nx_set]; exact hm), set_set]
    have hi3 : i < 1000000 := by omega
    have wn := w1 (i := i) (Nat.lt_trans hi3 (by decide))
    rw [X_loop]
    change X _ _ _ (.seq _ _) _ _ _ _ _
    simp only [Fd.cs, t10, t111, t112, t113, hlt, ib, nb, rd_old _ _ _ _ _ nb, rb, hle, d.ok _ _ _, go_sem, bin_add, bin_sub, bin_mul, Nat.reduceAdd, Nat.reduceMul, Nat.reduceEqDiff, Nat.reduceLeDiff, Nat.reduceLT, Nat.reduceSub, reduceIte, reduceCtorEq, Int.reduceToNat, Int.reduceNeg, Int.reduceLE, Int.reduceLT, Int.reduceEq, Nat.reduceOr, Nat.reduceShiftRight, Nat.reduceMod, Nat.reduceBNe, Nat.reduceBEq]
    refine X_drawE (H := h) (L := [some _]) 0 (by rfl) ?_
    simp only [t10, t113, wn, e_lookup, e_mapEntry, e_entryStore, lk, lk2, en, es, wc, go_sem, bin_add, bin_sub, bin_mul, Nat.reduceAdd, Nat.reduceMul, Nat.reduceEqDiff, Nat.reduceLeDiff, Nat.reduceLT, Nat.reduceSub, reduceIte, reduceCtorEq, Int.reduceToNat, Int.reduceNeg, Int.reduceLE, Int.reduceLT, Int.reduceEq, Nat.reduceOr, Nat.reduceShiftRight, Nat.reduceMod, Nat.reduceBNe, Nat.reduceBEq]
    refine ih (i + 1) (by omega) _ (Mc.ext (AH.set h mp (.map (ents (bump L d.x d.y (.int .i64 ((n + 1 : Nat) : Int))) 0) (bump L d.x d.y (.int .i64 ((n + 1 : Nat) : Int))).length)) [some _]) ((J.put hcs).ext _) ?_ ⟨?_, ?_, ?_, ?_, ?_, ?_, ?_, ?_, ?_, ?_, ?_, ?_⟩ ?_ ?_ ?_
    · exact (hv.mono (h' := AH.set h mp _) (by rw [AH.nx_set]; exact Nat.le_refl _) fun b hb o n => rd_map hg b o n).ext _
    all_goals simp only [t2, t8, t9, t10, t11, t12, t41, t42, t47, t48, t94, t95, t111, t112, go_sem, bin_add, bin_sub, bin_mul, Nat.reduceAdd, Nat.reduceMul, Nat.reduceEqDiff, Nat.reduceLeDiff, Nat.reduceLT, Nat.reduceSub, reduceIte, reduceCtorEq, Int.reduceToNat, Int.reduceNeg, Int.reduceLE, Int.reduceLT, Int.reduceEq, Nat.reduceOr, Nat.reduceShiftRight, Nat.reduceMod, Nat.reduceBNe, Nat.reduceBEq]
end
end Go.AX.Tri
/- The law TriMesh: a triangle of the mesh. -/
namespace Go.AX.Tri
open Go.Proofs Go.AX.Mc
set_option linter.unusedSimpArgs false
set_option linter.unusedVariables false
noncomputable section

theorem J5.Ext {M mp : Nat} {h0 : AH} {P : List (Int × Int)} {h h' : AH} (J : J5 M mp h0 P h) (e : Ext h h') : J5 M mp h0 P h' := by
  obtain ⟨j1, j2, j3, j4, j5, ⟨L, j6, j7⟩, j8⟩ := J
  have := e.nx
  exact ⟨by rw [e.lo]; exact j1, by rw [e.lo]; omega, by omega, by omega, j5, ⟨L, j6, by rw [e.get _ j4]; exact j7⟩, fun b hb hne => by rw [e.get b (by omega)]; exact j8 b hb hne⟩
/-- a corner of the mesh. -/
def qC (x y : Int) : Wn := ⟨x, y, 0, 65536, 0, none, 0, 0, sl_none, []⟩
theorem qC_at (h : AH) (x y : Int) : WnAt h (qC x y) := ⟨rfl, fun k v hk => by simp [qC] at hk, fun v hv => by simp [qC] at hv, by simp [qC], by simp [qC]⟩
theorem qC_ok {x y : Nat} (hx : x ≤ 3000) (hy : y ≤ 3000) : OkW (qC x y) := by
  refine ⟨?_, ?_, ?_, ?_, ?_, ?_⟩ <;> simp only [qC] <;> omega
/-- the cells that a triangle covers. -/
def cells16 (f : Fc) : List (Int × Int) := (cellsL 0 0 16 16).filter fun c => covF f c.1 c.2
theorem cells16_len (f : Fc) : (cells16 f).length ≤ 256 := by
  unfold cells16
  refine Nat.le_trans (List.length_filter_le _ _) ?_
  unfold cellsL
  rw [rowsL_length]
  decide

theorem tri5 {env : List Lp} {K : List KF} {Q : QF} {M mp : Nat} {h0 : AH} {P : List (Int × Int)} {x2 x8 x9 x11 x12 x41 x42 x47 x48 : Value} {l : List Value} {k : Nat} {u0 v0 u1 v1 u2 v2 : Nat}
    (hu0 : u0 ≤ 3000) (hv0 : v0 ≤ 3000) (hu1 : u1 ≤ 3000) (hv1 : v1 ≤ 3000) (hu2 : u2 ≤ 3000) (hv2 : v2 ≤ 3000) (hk : k < 2) (ht : (l.drop (k * 18)).take 18 = tri18 (qC u0 v0) (qC u1 v1) (qC u2 v2)) (hsz : P.length < 100000)
    (hQ : ∀ fr h, J5 M mp h0 (P ++ cells16 (turnF (qC u0 v0) (qC u1 v1) (qC u2 v2))) h → Fr5 x2 x8 x9 (.map (some mp)) x11 x12 x41 x42 x47 x48 (.agg l.toArray) (.int .i64 ((k + 1 : Nat) : Int)) fr → X T env false (.loop a5l3) (.blk 4 :: K) fr [] (ext h []) Q) :
    ∀ fr h, J5 M mp h0 P h → Fr5 x2 x8 x9 (.map (some mp)) x11 x12 x41 x42 x47 x48 (.agg l.toArray) (.int .i64 (k : Int)) fr → X T env false (.loop a5l3) (.blk 4 :: K) fr [] (ext h []) Q := by
  intro fr h J F
  obtain ⟨t2, t8, t9, t10, t11, t12, t41, t42, t47, t48, t94, t95⟩ := F
  have hlt : (k : Int) < 2 := by omega
  have hle := J.le
  have wn := w64_succ k (by omega)
  have o0 := qC_ok hu0 hv0
  have o1 := qC_ok hu1 hv1
  have o2 := qC_ok hu2 hv2
  have bad := bad3' o0 o1 o2 rfl rfl
  have box : boxF 0 0 16 16 = true := by decide
  have eE : fillE (qC u0 v0) (qC u1 v1) (qC u2 v2) 0 0 16 16 = 0 := by unfold fillE; rw [bad, box]; rfl
  have eL : fillL (qC u0 v0) (qC u1 v1) (qC u2 v2) 0 0 16 16 = fragsF (turnF (qC u0 v0) (qC u1 v1) (qC u2 v2)) 0 0 16 16 := by unfold fillL; rw [bad, box]; rfl
  rw [X_loop]
  change X _ _ _ (.seq _ _) _ _ _ _ _
  simp only [t94, t95, hlt, hk, ht, tri18, qC, hle, go_sem, bin_add, bin_sub, bin_mul, Nat.reduceAdd, Nat.reduceMul, Nat.reduceEqDiff, Nat.reduceLeDiff, Nat.reduceLT, Nat.reduceSub, reduceIte, reduceCtorEq, Int.reduceToNat, Int.reduceNeg, Int.reduceLE, Int.reduceLT, Int.reduceEq, Nat.reduceOr, Nat.reduceShiftRight, Nat.reduceMod, Nat.reduceBNe, Nat.reduceBEq]
  refine c15' (qC u0 v0) (qC u1 v1) (qC u2 v2) 0 0 16 16 (H := Mc.ext h [some _]) (by rw [ext_lo, ext_nx]; omega) (qC_at _ _ _) (qC_at _ _ _) (qC_at _ _ _) _ ?_
  intro h3 hd3 e3 f3
  have J3 := (J.ext _).Ext e3
  have sz := fillL_len (qC u0 v0) (qC u1 v1) (qC u2 v2) 0 0 16 16
  have sv := fillL_vs (qC u0 v0) (qC u1 v1) (qC u2 v2) 0 0 16 16
  rw [eL] at f3 sz sv
  obtain ⟨p1, q1, ds, rfl, k1, l1, m1, z1⟩ := f3.fds (fun g hg => by have := sv g hg; omega)
  have hdl : ds.length ≤ 4096 := by
    rw [← m1, List.length_map] at sz
    exact sz
  have hds : xyD ds = cells16 (turnF (qC u0 v0) (qC u1 v1) (qC u2 v2)) := by
    unfold cells16
    rw [← frags_xy, ← m1, List.map_map]; rfl
  simp only [eE, eq_self, k1 _ _ _, go_sem, bin_add, bin_sub, bin_mul, Nat.reduceAdd, Nat.reduceMul, Nat.reduceEqDiff, Nat.reduceLeDiff, Nat.reduceLT, Nat.reduceSub, reduceIte, reduceCtorEq, Int.reduceToNat, Int.reduceNeg, Int.reduceLE, Int.reduceLT, Int.reduceEq, Nat.reduceOr, Nat.reduceShiftRight, Nat.reduceMod, Nat.reduceBNe, Nat.reduceBEq]
  refine loop5 (P := P) (x2 := x2) (x8 := x8) (x9 := x9) (x11 := x11) (x12 := x12) (x41 := x41) (x42 := x42) (x47 := x47) (x48 := x48) (x94 := .agg l.toArray) (x95 := .int .i64 (k : Int)) (dc := q1) (ds := ds) (by omega) ?_ ds.length 0 (Nat.zero_add _) _ h3 (by show J5 M mp h0 (P ++ []) h3; rw [List.append_nil]; exact J3) l1 ⟨?_, ?_, ?_, ?_, ?_, ?_, ?_, ?_, ?_, ?_, ?_, ?_⟩ ?_ ?_ ?_
  · intro fr' h' J' F'
    obtain ⟨t2', t8', t9', t10', t11', t12', t41', t42', t47', t48', t94', t95'⟩ := F'
    rw [hds] at J'
    simp only [t95', wn, go_sem, bin_add, bin_sub, bin_mul, Nat.reduceAdd, Nat.reduceMul, Nat.reduceEqDiff, Nat.reduceLeDiff, Nat.reduceLT, Nat.reduceSub, reduceIte, reduceCtorEq, Int.reduceToNat, Int.reduceNeg, Int.reduceLE, Int.reduceLT, Int.reduceEq, Nat.reduceOr, Nat.reduceShiftRight, Nat.reduceMod, Nat.reduceBNe, Nat.reduceBEq]
    refine hQ _ h' J' ⟨?_, ?_, ?_, ?_, ?_, ?_, ?_, ?_, ?_, ?_, ?_, ?_⟩
    all_goals simp only [t2', t8', t9', t10', t11', t12', t41', t42', t47', t48', t94', go_sem, bin_add, bin_sub, bin_mul, Nat.reduceAdd, Nat.reduceMul, Nat.reduceEqDiff, Nat.reduceLeDiff, Nat.reduceLT, Nat.reduceSub, reduceIte, reduceCtorEq, Int.reduceToNat, Int.reduceNeg, Int.reduceLE, Int.reduceLT, Int.reduceEq, Nat.reduceOr, Nat.reduceShiftRight, Nat.reduceMod, Nat.reduceBNe, Nat.reduceBEq]
  all_goals simp only [t2, t8, t9, t10, t11, t12, t41, t42, t47, t48, t94, t95, go_sem, bin_add, bin_sub, bin_mul, Nat.reduceAdd, Nat.reduceMul, Nat.reduceEqDiff, Nat.reduceLeDiff, Nat.reduceLT, Nat.reduceSub, reduceIte, reduceCtorEq, Int.reduceToNat, Int.reduceNeg, Int.reduceLE, Int.reduceLT, Int.reduceEq, Nat.reduceOr, Nat.reduceShiftRight, Nat.reduceMod, Nat.reduceBNe, Nat.reduceBEq]
  all_goals rfl
end
end Go.AX.Tri
/- The law TriMesh: a corner out of two lines. -/
namespace Go.AX.Tri
open Go.Proofs Go.AX.Mc
set_option linter.unusedSimpArgs false
set_option linter.unusedVariables false
noncomputable section

/-- whole numbers in a row of their own. -/
def IntsAt (h : AH) (hd : Value) (us : List Nat) : Prop :=
  ∃ b r, hd = .slice (some ⟨b, 0, r⟩) us.length us.length ∧ (r = none ∨ r = some 0) ∧ b < h.nx ∧ ∀ (i : Nat) (v : Nat), us[i]? = some v → rd h b i 1 = some [.int .i64 (v : Int)]
theorem IntsAt.mono {h h' : AH} {hd : Value} {us : List Nat} (hv : IntsAt h hd us) (hn : h.nx ≤ h'.nx) (hr : ∀ b, b < h.nx → ∀ o n, rd h' b o n = rd h b o n) : IntsAt h' hd us := by
  obtain ⟨b, r, h1, h2, h3, h4⟩ := hv
  exact ⟨b, r, h1, h2, by omega, fun i v hi => by rw [hr b h3]; exact h4 i v hi⟩
theorem ints_idx {h : AH} {hd : Value} {us : List Nat} (hv : IntsAt h hd us) {k v : Nat} (hk : us[k]? = some v) : ∃ b, b < h.nx ∧ rd h b k 1 = some [.int .i64 (v : Int)] ∧ ∀ H, idxS 1 hd (.int .i64 (k : Int)) H = some (.val (.pointer (some ⟨b, k, none⟩)) H) := by
  obtain ⟨b, r, rfl, hr, hb, h4⟩ := hv
  have hkl := (List.getElem?_eq_some_iff.1 hk).1
  refine ⟨b, hb, h4 k v hk, ?_⟩
  intro H
  rcases hr with rfl | rfl
  · rw [idxS_s, if_pos ⟨Int.natCast_nonneg _, by simpa using hkl⟩, Int.toNat_natCast, Nat.zero_add, Nat.mul_one]
  · rw [idxS_r, if_pos ⟨Int.natCast_nonneg _, by simpa using hkl⟩, Int.toNat_natCast, Nat.zero_add, Nat.mul_one]
theorem ints_len {h : AH} {hd : Value} {us : List Nat} (hv : IntsAt h hd us) : ∀ H, lnS hd H = some (.val (.int .i64 (us.length : Int)) H) := by
  obtain ⟨b, r, rfl, hr, hb, h4⟩ := hv
  intro H
  rcases hr with rfl | rfl
  · exact sl_s _ _ _ _ _
  · exact sl_r _ _ _ _ _
theorem ints_flat {h : AH} {hd : Value} {us : List Nat} (hv : IntsAt h hd us) : flat hd = true ∧ hd.cells.toList = [hd] := by
  obtain ⟨b, r, rfl, _⟩ := hv
  exact ⟨rfl, rfl⟩

theorem c18 {env : List Lp} {H : AH} {hdU hdV : Value} {us vs : List Nat} {p2 p3 p4 p5 i j x y : Nat} {u v : Nat} (hu : u < 2) (hv : v < 2) (hi : i < 1000) (hj : j < 1000) (n2 : p2 < H.nx) (n3 : p3 < H.nx) (n4 : p4 < H.nx) (n5 : p5 < H.nx)
    (r2 : rd H p2 0 1 = some [hdU]) (r3 : rd H p3 0 1 = some [.int .i64 (i : Int)]) (r4 : rd H p4 0 1 = some [hdV]) (r5 : rd H p5 0 1 = some [.int .i64 (j : Int)]) (hU : IntsAt H hdU us) (hV : IntsAt H hdV vs)
    (ex : us[i + u]? = some x) (ey : vs[j + v]? = some y) (Q : AEnd → AH → Prop) :
    C T env 18 [.int .i64 (u : Int), .int .i64 (v : Int), .pointer (some ⟨p2, 0, none⟩), .pointer (some ⟨p3, 0, none⟩), .pointer (some ⟨p4, 0, none⟩), .pointer (some ⟨p5, 0, none⟩)] H Q = Q (.ret (.agg (qC x y).cs.toArray)) H := by
  refine C_det ?_ Q
  rw [C_fn T18 rfl]
  obtain ⟨b, nb, rb, ib⟩ := ints_idx hU ex
  obtain ⟨b', nb', rb', ib'⟩ := ints_idx hV ey
  have e1 : wrapF .i64 ((i : Int) + (u : Int)) = ((i + u : Nat) : Int) := by rw [w64_id (by omega) (by omega)]; omega
  have e2 : wrapF .i64 ((j : Int) + (v : Int)) = ((j + v : Nat) : Int) := by rw [w64_id (by omega) (by omega)]; omega
  have no : ∀ (L : List (Option AB)) (p o n : Nat), p < H.nx → rd (ext H.now L) p o n = rd H p o n := fun L p o n hp => rd_old H.now L p o n hp
  simp only [a18, go_sem, bin_add, bin_sub, bin_mul, Nat.reduceAdd, Nat.reduceMul, Nat.reduceEqDiff, Nat.reduceLeDiff, Nat.reduceLT, Nat.reduceSub, reduceIte, reduceCtorEq, Int.reduceToNat, Int.reduceNeg, Int.reduceLE, Int.reduceLT, Int.reduceEq, Nat.reduceOr, Nat.reduceShiftRight, Nat.reduceMod, Nat.reduceBNe, Nat.reduceBEq]
  refine X_drawE 0 (by rfl) ?_
  simp only [n2, n3, n4, n5, nb, nb', no _ _ _ _ n2, no _ _ _ _ n3, no _ _ _ _ n4, no _ _ _ _ n5, no _ _ _ _ nb, no _ _ _ _ nb', r2, r3, r4, r5, rb, rb', ib, ib', e1, e2, qC, Wn.cs, go_sem, bin_add, bin_sub, bin_mul, Nat.reduceAdd, Nat.reduceMul, Nat.reduceEqDiff, Nat.reduceLeDiff, Nat.reduceLT, Nat.reduceSub, reduceIte, reduceCtorEq, Int.reduceToNat, Int.reduceNeg, Int.reduceLE, Int.reduceLT, Int.reduceEq, Nat.reduceOr, Nat.reduceShiftRight, Nat.reduceMod, Nat.reduceBNe, Nat.reduceBEq]
  obtain ⟨_, _, rfl, _⟩ := hU
  obtain ⟨_, _, rfl, _⟩ := hV
  simp only [go_sem, bin_add, bin_sub, bin_mul, Nat.reduceAdd, Nat.reduceMul, Nat.reduceEqDiff, Nat.reduceLeDiff, Nat.reduceLT, Nat.reduceSub, reduceIte, reduceCtorEq, Int.reduceToNat, Int.reduceNeg, Int.reduceLE, Int.reduceLT, Int.reduceEq, Nat.reduceOr, Nat.reduceShiftRight, Nat.reduceMod, Nat.reduceBNe, Nat.reduceBEq]
end
end Go.AX.Tri
