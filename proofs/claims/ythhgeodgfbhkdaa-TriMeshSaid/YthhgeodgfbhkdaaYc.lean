/- Contracts: fragments compared. -/
import Derived.Test.YthhgeodgfbhkdaaXc
import Derived.Test.YthhgeodgfbhkdaaWt
set_option linter.unusedVariables false
set_option linter.unusedSimpArgs false
set_option linter.unusedSectionVars false
namespace Go.AX.Tri
open Go.Proofs Go.AX.Mc
set_option linter.unusedSimpArgs false
set_option linter.unusedVariables false
noncomputable section

/-- a fragment as it stands: 'vs' is what stands behind its header. -/
structure Fd where
  x : Int
  y : Int
  z : Int
  iw : Int
  fr : Bool
  pt : V4
  a : Option Addr
  c : Nat
  ok : Sl a
  vs : List V4
def Fd.cs (d : Fd) : List Value := [.int .i64 d.x, .int .i64 d.y, .int .i32 d.z, .int .i32 d.iw, .bool d.fr, .int .i32 d.pt.a, .int .i32 d.pt.b, .int .i32 d.pt.c, .int .i32 d.pt.d, .slice d.a d.vs.length d.c]
def eqD (d e : Fd) : Bool := decide (d.x = e.x) && (decide (d.y = e.y) && (decide (d.z = e.z) && (decide (d.iw = e.iw) && ((d.fr == e.fr) && (eqV d.pt e.pt && eqVs d.vs e.vs)))))
theorem eqD_refl (d : Fd) : eqD d d = true := by simp [eqD, eqV_refl, eqL_refl eqV_refl]
abbrev eqDs := eqL eqD
structure FdAt (h : AH) (d : Fd) : Prop where
  vec : VecAt h d.a d.vs
  sz : d.vs.length < 9223372036854775808
def FdsAt (h : AH) (a : Option Addr) (ds : List Fd) : Prop :=
  ∀ (i : Nat) d, ds[i]? = some d → FdAt h d ∧ ∃ b o r, a = some ⟨b, o, r⟩ ∧ (r = none ∨ r = some 0) ∧ b < h.nx ∧ rd h b (o + i * 10) 10 = some d.cs
theorem FdAt.mono {h h' : AH} {d : Fd} (hv : FdAt h d) (hn : h.nx ≤ h'.nx) (hr : ∀ b, b < h.nx → ∀ o n, rd h' b o n = rd h b o n) : FdAt h' d := ⟨hv.vec.mono hn hr, hv.sz⟩
theorem FdsAt.mono {h h' : AH} {a : Option Addr} {ds : List Fd} (hv : FdsAt h a ds) (hn : h.nx ≤ h'.nx) (hr : ∀ b, b < h.nx → ∀ o n, rd h' b o n = rd h b o n) : FdsAt h' a ds := by
  intro i d hi
  obtain ⟨h0, b, o, r, h1, h2, h3, h4⟩ := hv i d hi
  exact ⟨h0.mono hn hr, b, o, r, h1, h2, by omega, by rw [hr b h3]; exact h4⟩
theorem FdsAt.ext {h : AH} {a : Option Addr} {ds : List Fd} (hv : FdsAt h a ds) (L : List (Option AB)) : FdsAt (ext h L) a ds :=
  hv.mono (by rw [ext_nx]; omega) fun b hb o n => rd_old _ _ _ _ _ hb
theorem FdAt.ext {h : AH} {d : Fd} (hv : FdAt h d) (L : List (Option AB)) : FdAt (ext h L) d :=
  hv.mono (by rw [ext_nx]; omega) fun b hb o n => rd_old _ _ _ _ _ hb

theorem FdAt.now {h : AH} {d : Fd} (hv : FdAt h d) : FdAt h.now d := hv.mono (Nat.le_refl _) fun _ _ _ _ => rfl
theorem FdsAt.now {h : AH} {a : Option Addr} {ds : List Fd} (hv : FdsAt h a ds) : FdsAt h.now a ds := hv.mono (Nat.le_refl _) fun _ _ _ _ => rfl

theorem c44 {env : List Lp} (d e : Fd) (H : AH) (h1 : FdAt H d) (h2 : FdAt H e) (Q : AEnd → AH → Prop) :
    C T env 44 [.agg d.cs.toArray, .agg e.cs.toArray] H Q = Q (.ret (.bool (eqD d e))) H := by
  refine C_det ?_ Q
  rw [C_fn T44 rfl]
  have k45 := fun (L : List (Option AB)) (Q : AEnd → AH → Prop) => c45 (env := env) d.a e.a d.c e.c d.vs e.vs (ext H.now L) d.ok e.ok h1.sz (h1.now.ext L).vec (h2.now.ext L).vec Q
  simp only [a44, Fd.cs, bin_eql_b, go_sem, bin_add, bin_sub, bin_mul, Nat.reduceAdd, Nat.reduceMul, Nat.reduceEqDiff, Nat.reduceLeDiff, Nat.reduceLT, Nat.reduceSub, reduceIte, reduceCtorEq, Int.reduceToNat, Int.reduceNeg, Int.reduceLE, Int.reduceLT, Int.reduceEq, Nat.reduceOr, Nat.reduceShiftRight, Nat.reduceMod, Nat.reduceBNe, Nat.reduceBEq]
  refine Gd_split ?_ ?_ <;> intro g1 <;> simp only [g1, bin_eql_b, bin_eqlV', k45, go_sem, bin_add, bin_sub, bin_mul, Nat.reduceAdd, Nat.reduceMul, Nat.reduceEqDiff, Nat.reduceLeDiff, Nat.reduceLT, Nat.reduceSub, reduceIte, reduceCtorEq, Int.reduceToNat, Int.reduceNeg, Int.reduceLE, Int.reduceLT, Int.reduceEq, Nat.reduceOr, Nat.reduceShiftRight, Nat.reduceMod, Nat.reduceBNe, Nat.reduceBEq]
  refine Gd_split ?_ ?_ <;> intro g2 <;> simp only [g1, g2, bin_eql_b, bin_eqlV', k45, go_sem, bin_add, bin_sub, bin_mul, Nat.reduceAdd, Nat.reduceMul, Nat.reduceEqDiff, Nat.reduceLeDiff, Nat.reduceLT, Nat.reduceSub, reduceIte, reduceCtorEq, Int.reduceToNat, Int.reduceNeg, Int.reduceLE, Int.reduceLT, Int.reduceEq, Nat.reduceOr, Nat.reduceShiftRight, Nat.reduceMod, Nat.reduceBNe, Nat.reduceBEq]
  refine Gd_split ?_ ?_ <;> intro g3 <;> simp only [g1, g2, g3, bin_eql_b, bin_eqlV', k45, go_sem, bin_add, bin_sub, bin_mul, Nat.reduceAdd, Nat.reduceMul, Nat.reduceEqDiff, Nat.reduceLeDiff, Nat.reduceLT, Nat.reduceSub, reduceIte, reduceCtorEq, Int.reduceToNat, Int.reduceNeg, Int.reduceLE, Int.reduceLT, Int.reduceEq, Nat.reduceOr, Nat.reduceShiftRight, Nat.reduceMod, Nat.reduceBNe, Nat.reduceBEq]
  refine Gd_split ?_ ?_ <;> intro g4 <;> simp only [g1, g2, g3, g4, bin_eql_b, bin_eqlV', k45, go_sem, bin_add, bin_sub, bin_mul, Nat.reduceAdd, Nat.reduceMul, Nat.reduceEqDiff, Nat.reduceLeDiff, Nat.reduceLT, Nat.reduceSub, reduceIte, reduceCtorEq, Int.reduceToNat, Int.reduceNeg, Int.reduceLE, Int.reduceLT, Int.reduceEq, Nat.reduceOr, Nat.reduceShiftRight, Nat.reduceMod, Nat.reduceBNe, Nat.reduceBEq]
  refine Gd_split ?_ ?_ <;> intro g5 <;> simp only [g1, g2, g3, g4, g5, bin_eql_b, bin_eqlV', k45, go_sem, bin_add, bin_sub, bin_mul, Nat.reduceAdd, Nat.reduceMul, Nat.reduceEqDiff, Nat.reduceLeDiff, Nat.reduceLT, Nat.reduceSub, reduceIte, reduceCtorEq, Int.reduceToNat, Int.reduceNeg, Int.reduceLE, Int.reduceLT, Int.reduceEq, Nat.reduceOr, Nat.reduceShiftRight, Nat.reduceMod, Nat.reduceBNe, Nat.reduceBEq]
  refine Gd_split ?_ ?_ <;> intro g6 <;> simp only [g1, g2, g3, g4, g5, g6, bin_eql_b, bin_eqlV', k45, go_sem, bin_add, bin_sub, bin_mul, Nat.reduceAdd, Nat.reduceMul, Nat.reduceEqDiff, Nat.reduceLeDiff, Nat.reduceLT, Nat.reduceSub, reduceIte, reduceCtorEq, Int.reduceToNat, Int.reduceNeg, Int.reduceLE, Int.reduceLT, Int.reduceEq, Nat.reduceOr, Nat.reduceShiftRight, Nat.reduceMod, Nat.reduceBNe, Nat.reduceBEq]
  all_goals
    try change eqV d.pt e.pt = _ at g6
    simp only [eqD, *, Bool.true_and, Bool.false_and]

theorem loop43 {env : List Lp} {k : List KF} {Q : QF} (a a' : Option Addr) (c c' : Nat) (ds es : List Fd) (hl : ds.length = es.length) (hsz : ds.length < 9223372036854775808) (H : AH)
    (q1 : ∀ fr h, H.nx ≤ h.lo → eqDs ds es = false → tmp fr (pa 6) = .bool false → Kt T env false k .ret fr [] (ext h []) Q)
    (q2 : ∀ fr h, H.nx ≤ h.lo → eqDs ds es = true → Kt T env false k .normal fr [] (ext h []) Q) :
    ∀ (m i : Nat), i + m = ds.length → ∀ (fr : Tr Value) (h : AH), H.nx ≤ h.lo → h.lo ≤ h.nx → FdsAt h a ds → FdsAt h a' es → (∀ (j : Nat) v w, j < i → ds[j]? = some v → es[j]? = some w → eqD v w = true) →
      tmp fr (pa 15) = .slice a ds.length c → tmp fr (pa 1) = .slice a' es.length c' → tmp fr (pa 2) = .func (.func 44) #[] #[] → tmp fr (pa 16) = .int .i64 ds.length → tmp fr (pa 17) = .int .i64 i →
      X T env false (.loop a43l0) (.blk 0 :: k) fr [] (ext h []) Q := by
  intro m
  induction m with
  | zero =>
    intro i hi fr h hh hlo hv hw h5 t0 t1 t2 t12 t13
    rw [X_loop]
    change X _ _ _ (.seq _ _) _ _ _ _ _
    simp only [t0, t1, t12, t13, show ¬ ((i : Int) < ds.length) by omega, decide_false, go_sem, bin_add, bin_sub, bin_mul, Nat.reduceAdd, Nat.reduceMul, Nat.reduceEqDiff, Nat.reduceLeDiff, Nat.reduceLT, Nat.reduceSub, reduceIte, reduceCtorEq, Int.reduceToNat, Int.reduceNeg, Int.reduceLE, Int.reduceLT, Int.reduceEq, Nat.reduceOr, Nat.reduceShiftRight, Nat.reduceMod, Nat.reduceBNe, Nat.reduceBEq]
    refine q2 _ _ hh (eqL_true hl fun j v w hj hk => h5 j v w ?_ hj hk)
    have := (List.getElem?_eq_some_iff.1 hj).1; omega
  | succ m ih =>
    intro i hi fr h hh hlo hv hw h5 t0 t1 t2 t12 t13
    have hlt : (i : Int) < ds.length := by omega
    have h0 : i < ds.length := by omega
    have h1 : i < es.length := by omega
    obtain ⟨v, ev⟩ : ∃ v, ds[i]? = some v := ⟨ds[i]'(by omega), List.getElem?_eq_getElem (by omega)⟩
    obtain ⟨w, ew⟩ : ∃ v, es[i]? = some v := ⟨es[i]'(by omega), List.getElem?_eq_getElem (by omega)⟩
    obtain ⟨fv, b, o, r, ha, hr, hb, r1⟩ := hv i v ev
    obtain ⟨fw, b', o', r', ha', hr', hb', r2⟩ := hw i w ew
    have k44 := fun (L : List (Option AB)) (Q : AEnd → AH → Prop) => c44 (env := env) v w (ext h L) (fv.ext L) (fw.ext L) Q
    simp only [Fd.cs] at k44
    rw [X_loop]
    change X _ _ _ (.seq _ _) _ _ _ _ _
    rw [ha] at t0
    rw [ha'] at t1
    rcases hr with rfl | rfl <;> rcases hr' with rfl | rfl
    all_goals
      simp only [Fd.cs, t0, t1, t2, t12, t13, hlt, h0, h1, hlo, rd_old _ _ _ _ _ hb, rd_old _ _ _ _ _ hb', r1, r2, k44, go_sem, bin_add, bin_sub, bin_mul, Nat.reduceAdd, Nat.reduceMul, Nat.reduceEqDiff, Nat.reduceLeDiff, Nat.reduceLT, Nat.reduceSub, reduceIte, reduceCtorEq, Int.reduceToNat, Int.reduceNeg, Int.reduceLE, Int.reduceLT, Int.reduceEq, Nat.reduceOr, Nat.reduceShiftRight, Nat.reduceMod, Nat.reduceBNe, Nat.reduceBEq]
      refine Cd_split ?_ ?_ <;> intro g
      · simp only [g, go_sem, bin_add, bin_sub, bin_mul, Nat.reduceAdd, Nat.reduceMul, Nat.reduceEqDiff, Nat.reduceLeDiff, Nat.reduceLT, Nat.reduceSub, reduceIte, reduceCtorEq, Int.reduceToNat, Int.reduceNeg, Int.reduceLE, Int.reduceLT, Int.reduceEq, Nat.reduceOr, Nat.reduceShiftRight, Nat.reduceMod, Nat.reduceBNe, Nat.reduceBEq]
        refine q1 _ (ext h [some _, some _]) (by rw [ext_lo]; exact hh) (eqL_false i v w ev ew (by simpa using g)) ?_
        simp only [go_sem, bin_add, bin_sub, bin_mul, Nat.reduceAdd, Nat.reduceMul, Nat.reduceEqDiff, Nat.reduceLeDiff, Nat.reduceLT, Nat.reduceSub, reduceIte, reduceCtorEq, Int.reduceToNat, Int.reduceNeg, Int.reduceLE, Int.reduceLT, Int.reduceEq, Nat.reduceOr, Nat.reduceShiftRight, Nat.reduceMod, Nat.reduceBNe, Nat.reduceBEq]
      · simp only [g, t13, go_sem, bin_add, bin_sub, bin_mul, Nat.reduceAdd, Nat.reduceMul, Nat.reduceEqDiff, Nat.reduceLeDiff, Nat.reduceLT, Nat.reduceSub, reduceIte, reduceCtorEq, Int.reduceToNat, Int.reduceNeg, Int.reduceLE, Int.reduceLT, Int.reduceEq, Nat.reduceOr, Nat.reduceShiftRight, Nat.reduceMod, Nat.reduceBNe, Nat.reduceBEq]
        refine ih (i + 1) (by omega) _ (ext h [some _, some _]) (by rw [ext_lo]; exact hh) (by rw [ext_lo, ext_nx]; omega) (hv.ext _) (hw.ext _) ?_ ?_ ?_ ?_ ?_ ?_
        · intro j x y hj hx hy
          by_cases e : j = i
          · subst e
            rw [ev] at hx; cases hx
            rw [ew] at hy; cases hy
            simpa using g
          · exact h5 j x y (by omega) hx hy
        · simp only [t0, ha, go_sem, bin_add, bin_sub, bin_mul, Nat.reduceAdd, Nat.reduceMul, Nat.reduceEqDiff, Nat.reduceLeDiff, Nat.reduceLT, Nat.reduceSub, reduceIte, reduceCtorEq, Int.reduceToNat, Int.reduceNeg, Int.reduceLE, Int.reduceLT, Int.reduceEq, Nat.reduceOr, Nat.reduceShiftRight, Nat.reduceMod, Nat.reduceBNe, Nat.reduceBEq]
        · simp only [t1, ha', go_sem, bin_add, bin_sub, bin_mul, Nat.reduceAdd, Nat.reduceMul, Nat.reduceEqDiff, Nat.reduceLeDiff, Nat.reduceLT, Nat.reduceSub, reduceIte, reduceCtorEq, Int.reduceToNat, Int.reduceNeg, Int.reduceLE, Int.reduceLT, Int.reduceEq, Nat.reduceOr, Nat.reduceShiftRight, Nat.reduceMod, Nat.reduceBNe, Nat.reduceBEq]
        · simp only [t2, go_sem, bin_add, bin_sub, bin_mul, Nat.reduceAdd, Nat.reduceMul, Nat.reduceEqDiff, Nat.reduceLeDiff, Nat.reduceLT, Nat.reduceSub, reduceIte, reduceCtorEq, Int.reduceToNat, Int.reduceNeg, Int.reduceLE, Int.reduceLT, Int.reduceEq, Nat.reduceOr, Nat.reduceShiftRight, Nat.reduceMod, Nat.reduceBNe, Nat.reduceBEq]
        · simp only [t12, go_sem, bin_add, bin_sub, bin_mul, Nat.reduceAdd, Nat.reduceMul, Nat.reduceEqDiff, Nat.reduceLeDiff, Nat.reduceLT, Nat.reduceSub, reduceIte, reduceCtorEq, Int.reduceToNat, Int.reduceNeg, Int.reduceLE, Int.reduceLT, Int.reduceEq, Nat.reduceOr, Nat.reduceShiftRight, Nat.reduceMod, Nat.reduceBNe, Nat.reduceBEq]
        · simp only [go_sem, bin_add, bin_sub, bin_mul, Nat.reduceAdd, Nat.reduceMul, Nat.reduceEqDiff, Nat.reduceLeDiff, Nat.reduceLT, Nat.reduceSub, reduceIte, reduceCtorEq, Int.reduceToNat, Int.reduceNeg, Int.reduceLE, Int.reduceLT, Int.reduceEq, Nat.reduceOr, Nat.reduceShiftRight, Nat.reduceMod, Nat.reduceBNe, Nat.reduceBEq, t13]
          rw [w1 (by omega)]

theorem c43 {env : List Lp} (a a' : Option Addr) (c c' : Nat) (ds es : List Fd) (H : AH) (s1 : Sl a) (s2 : Sl a') (hsz : ds.length < 9223372036854775808) (hv : FdsAt H a ds) (hw : FdsAt H a' es) (Q : AEnd → AH → Prop) :
    C T env 43 [.slice a ds.length c, .slice a' es.length c', .func (.func 44) #[] #[]] H Q = Q (.ret (.bool (eqDs ds es))) H := by
  refine C_det ?_ Q
  rw [C_fn T43 rfl]
  simp only [a43, s1 _ _ _, s2 _ _ _, go_sem, bin_add, bin_sub, bin_mul, Nat.reduceAdd, Nat.reduceMul, Nat.reduceEqDiff, Nat.reduceLeDiff, Nat.reduceLT, Nat.reduceSub, reduceIte, reduceCtorEq, Int.reduceToNat, Int.reduceNeg, Int.reduceLE, Int.reduceLT, Int.reduceEq, Nat.reduceOr, Nat.reduceShiftRight, Nat.reduceMod, Nat.reduceBNe, Nat.reduceBEq]
  refine Cd_split ?_ ?_ <;> intro g <;> simp only [g, s1 _ _ _, s2 _ _ _, go_sem, bin_add, bin_sub, bin_mul, Nat.reduceAdd, Nat.reduceMul, Nat.reduceEqDiff, Nat.reduceLeDiff, Nat.reduceLT, Nat.reduceSub, reduceIte, reduceCtorEq, Int.reduceToNat, Int.reduceNeg, Int.reduceLE, Int.reduceLT, Int.reduceEq, Nat.reduceOr, Nat.reduceShiftRight, Nat.reduceMod, Nat.reduceBNe, Nat.reduceBEq]
  · rw [show eqDs ds es = false from eqL_len (by simp at g; omega)]
  · have hl : ds.length = es.length := by simp at g; omega
    refine loop43 a a' c c' ds es hl hsz H ?_ ?_ ds.length 0 (by omega) _ H.now (Nat.le_refl _) (Nat.le_refl _) hv.now hw.now (by intro j; omega) ?_ ?_ ?_ ?_ ?_
    · intro fr h hh he h4
      simp only [h4, he, go_sem, bin_add, bin_sub, bin_mul, Nat.reduceAdd, Nat.reduceMul, Nat.reduceEqDiff, Nat.reduceLeDiff, Nat.reduceLT, Nat.reduceSub, reduceIte, reduceCtorEq, Int.reduceToNat, Int.reduceNeg, Int.reduceLE, Int.reduceLT, Int.reduceEq, Nat.reduceOr, Nat.reduceShiftRight, Nat.reduceMod, Nat.reduceBNe, Nat.reduceBEq]
      exact trim_clo H _ _ rfl hh
    · intro fr h hh he
      simp only [he, go_sem, bin_add, bin_sub, bin_mul, Nat.reduceAdd, Nat.reduceMul, Nat.reduceEqDiff, Nat.reduceLeDiff, Nat.reduceLT, Nat.reduceSub, reduceIte, reduceCtorEq, Int.reduceToNat, Int.reduceNeg, Int.reduceLE, Int.reduceLT, Int.reduceEq, Nat.reduceOr, Nat.reduceShiftRight, Nat.reduceMod, Nat.reduceBNe, Nat.reduceBEq]
      exact trim_clo H _ _ rfl hh
    all_goals simp only [go_sem, bin_add, bin_sub, bin_mul, Nat.reduceAdd, Nat.reduceMul, Nat.reduceEqDiff, Nat.reduceLeDiff, Nat.reduceLT, Nat.reduceSub, reduceIte, reduceCtorEq, Int.reduceToNat, Int.reduceNeg, Int.reduceLE, Int.reduceLT, Int.reduceEq, Nat.reduceOr, Nat.reduceShiftRight, Nat.reduceMod, Nat.reduceBNe, Nat.reduceBEq]

theorem c29 {env : List Lp} (a a' : Option Addr) (c c' : Nat) (ds es : List Fd) (H : AH) (s1 : Sl a) (s2 : Sl a') (hsz : ds.length < 9223372036854775808) (hv : FdsAt H a ds) (hw : FdsAt H a' es) (Q : AEnd → AH → Prop) :
    C T env 29 [.slice a ds.length c, .slice a' es.length c'] H Q = Q (.ret (.bool (eqDs ds es))) H := by
  refine C_det ?_ Q
  rw [C_fn T29 rfl]
  have k43 := fun (Q : AEnd → AH → Prop) => c43 (env := env) a a' c c' ds es H.now s1 s2 hsz hv.now hw.now Q
  simp only [a29, k43, go_sem, bin_add, bin_sub, bin_mul, Nat.reduceAdd, Nat.reduceMul, Nat.reduceEqDiff, Nat.reduceLeDiff, Nat.reduceLT, Nat.reduceSub, reduceIte, reduceCtorEq, Int.reduceToNat, Int.reduceNeg, Int.reduceLE, Int.reduceLT, Int.reduceEq, Nat.reduceOr, Nat.reduceShiftRight, Nat.reduceMod, Nat.reduceBNe, Nat.reduceBEq]
end
end Go.AX.Tri
