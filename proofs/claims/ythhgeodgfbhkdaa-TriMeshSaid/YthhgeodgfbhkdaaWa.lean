/- Contracts of small functions. -/
import Derived.Test.YthhgeodgfbhkdaaLs
import Derived.Test.YthhgeodgfbhkdaaAxRe
set_option linter.unusedVariables false
set_option linter.unusedSimpArgs false
set_option linter.unusedSectionVars false
namespace Go.AX.Tri
open Go.Proofs Go.AX.Mc
set_option linter.unusedSimpArgs false
set_option linter.unusedVariables false
noncomputable section

/-- a corner: place, depth, w, size, and the header of its list of vectors. -/
def Sl (a : Option Addr) : Prop := ∀ (l c : Nat) (H : AH), lnS (.slice a l c) H = some (.val (.int .i64 l) H)
/-- a vector. -/
structure V4 where
  a : Int
  b : Int
  c : Int
  d : Int
def V4.cs (v : V4) : List Value := [.int .i32 v.a, .int .i32 v.b, .int .i32 v.c, .int .i32 v.d]
def V4.at (v : V4) (n : Nat) : Int := match n with
  | 0 => v.a
  | 1 => v.b
  | 2 => v.c
  | _ => v.d
/-- 'vs': what stands behind the header (a ghost). -/
structure Wn where
  x : Int
  y : Int
  z : Int
  w : Int
  s : Int
  a : Option Addr
  l : Nat
  c : Nat
  ok : Sl a
  vs : List V4

def Wn.cs (a : Wn) : List Value := [.int .i64 a.x, .int .i64 a.y, .int .i32 a.z, .int .i32 a.w, .int .i32 a.s, .slice a.a a.l a.c]
theorem lnS_wn (a : Wn) (H : AH) : lnS (.slice a.a a.l a.c) H = some (.val (.int .i64 a.l) H) := a.ok _ _ _
theorem sl_none : Sl none := fun _ _ _ => rfl
theorem sl_s (b o : Nat) : Sl (some ⟨b, o, none⟩) := fun _ _ _ => rfl
theorem sl_r (b o : Nat) : Sl (some ⟨b, o, some 0⟩) := fun _ _ _ => rfl
theorem sl_e (b o : Nat) : Sl (some ⟨b, o, some 1⟩) := fun _ _ _ => rfl
def Wn.v (a : Wn) : Value := .agg a.cs.toArray

abbrev w64 (n : Int) : Int := wrapF .i64 n
def wayF (p q : Wn) (x y : Int) : Int := w64 (w64 (w64 (q.x - p.x) * w64 (y - p.y)) - w64 (w64 (q.y - p.y) * w64 (x - p.x)))

theorem c31 {env : List Lp} (p q : Wn) (x y : Int) (H : AH) (Q : AEnd → AH → Prop) : C T env 31 [p.v, q.v, .int .i64 x, .int .i64 y] H Q = Q (.ret (.int .i64 (wayF p q x y))) H := by
  refine C_det ?_ Q
  rw [C_fn T31 rfl]
  simp only [a31, Wn.v, Wn.cs, go_sem, bin_add, bin_sub, bin_mul, Nat.reduceAdd, Nat.reduceMul, Nat.reduceEqDiff, Nat.reduceLeDiff, Nat.reduceLT, Nat.reduceSub, reduceIte, reduceCtorEq, Int.reduceToNat, Int.reduceNeg, Int.reduceLE, Int.reduceLT, Int.reduceEq, Nat.reduceOr, Nat.reduceShiftRight, Nat.reduceMod, Nat.reduceBNe, Nat.reduceBEq]
  rfl

def allF (x y : Int) : Bool := decide (0 ≤ x) && decide (x < 64) && decide (0 ≤ y) && decide (y < 64)
theorem c37 {env : List Lp} (x y : Int) (H : AH) (Q : AEnd → AH → Prop) : C T env 37 [.int .i64 x, .int .i64 y] H Q = Q (.ret (.bool (allF x y))) H := by
  refine C_det ?_ Q
  rw [C_fn T37 rfl]
  unfold allF
  simp only [a37, go_sem, bin_add, bin_sub, bin_mul, Nat.reduceAdd, Nat.reduceMul, Nat.reduceEqDiff, Nat.reduceLeDiff, Nat.reduceLT, Nat.reduceSub, reduceIte, reduceCtorEq, Int.reduceToNat, Int.reduceNeg, Int.reduceLE, Int.reduceLT, Int.reduceEq, Nat.reduceOr, Nat.reduceShiftRight, Nat.reduceMod, Nat.reduceBNe, Nat.reduceBEq]

  refine Gd_split ?_ ?_ <;> intro h1 <;> simp only [h1, go_sem, bin_add, bin_sub, bin_mul, Nat.reduceAdd, Nat.reduceMul, Nat.reduceEqDiff, Nat.reduceLeDiff, Nat.reduceLT, Nat.reduceSub, reduceIte, reduceCtorEq, Int.reduceToNat, Int.reduceNeg, Int.reduceLE, Int.reduceLT, Int.reduceEq, Nat.reduceOr, Nat.reduceShiftRight, Nat.reduceMod, Nat.reduceBNe, Nat.reduceBEq]
  refine Gd_split ?_ ?_ <;> intro h2 <;> simp only [h1, h2, go_sem, bin_add, bin_sub, bin_mul, Nat.reduceAdd, Nat.reduceMul, Nat.reduceEqDiff, Nat.reduceLeDiff, Nat.reduceLT, Nat.reduceSub, reduceIte, reduceCtorEq, Int.reduceToNat, Int.reduceNeg, Int.reduceLE, Int.reduceLT, Int.reduceEq, Nat.reduceOr, Nat.reduceShiftRight, Nat.reduceMod, Nat.reduceBNe, Nat.reduceBEq]
  refine Gd_split ?_ ?_ <;> intro h3 <;> simp only [h1, h2, h3, go_sem, bin_add, bin_sub, bin_mul, Nat.reduceAdd, Nat.reduceMul, Nat.reduceEqDiff, Nat.reduceLeDiff, Nat.reduceLT, Nat.reduceSub, reduceIte, reduceCtorEq, Int.reduceToNat, Int.reduceNeg, Int.reduceLE, Int.reduceLT, Int.reduceEq, Nat.reduceOr, Nat.reduceShiftRight, Nat.reduceMod, Nat.reduceBNe, Nat.reduceBEq]
  all_goals first | rfl | simp [*]

def in1 (a n : Int) : Bool := decide (0 ≤ a) && decide (0 ≤ n) && decide (a ≤ 64) && decide (n ≤ w64 (64 - a))
theorem c32 {env : List Lp} (x y : Int) (H : AH) (Q : AEnd → AH → Prop) : C T env 32 [.int .i64 x, .int .i64 y] H Q = Q (.ret (.bool (in1 x y))) H := by
  refine C_det ?_ Q
  rw [C_fn T32 rfl]
  unfold in1
  simp only [a32, go_sem, bin_add, bin_sub, bin_mul, Nat.reduceAdd, Nat.reduceMul, Nat.reduceEqDiff, Nat.reduceLeDiff, Nat.reduceLT, Nat.reduceSub, reduceIte, reduceCtorEq, Int.reduceToNat, Int.reduceNeg, Int.reduceLE, Int.reduceLT, Int.reduceEq, Nat.reduceOr, Nat.reduceShiftRight, Nat.reduceMod, Nat.reduceBNe, Nat.reduceBEq]
  refine Gd_split ?_ ?_ <;> intro h1 <;> simp only [h1, go_sem, bin_add, bin_sub, bin_mul, Nat.reduceAdd, Nat.reduceMul, Nat.reduceEqDiff, Nat.reduceLeDiff, Nat.reduceLT, Nat.reduceSub, reduceIte, reduceCtorEq, Int.reduceToNat, Int.reduceNeg, Int.reduceLE, Int.reduceLT, Int.reduceEq, Nat.reduceOr, Nat.reduceShiftRight, Nat.reduceMod, Nat.reduceBNe, Nat.reduceBEq]
  refine Gd_split ?_ ?_ <;> intro h2 <;> simp only [h1, h2, go_sem, bin_add, bin_sub, bin_mul, Nat.reduceAdd, Nat.reduceMul, Nat.reduceEqDiff, Nat.reduceLeDiff, Nat.reduceLT, Nat.reduceSub, reduceIte, reduceCtorEq, Int.reduceToNat, Int.reduceNeg, Int.reduceLE, Int.reduceLT, Int.reduceEq, Nat.reduceOr, Nat.reduceShiftRight, Nat.reduceMod, Nat.reduceBNe, Nat.reduceBEq]
  refine Gd_split ?_ ?_ <;> intro h3 <;> simp only [h1, h2, h3, go_sem, bin_add, bin_sub, bin_mul, Nat.reduceAdd, Nat.reduceMul, Nat.reduceEqDiff, Nat.reduceLeDiff, Nat.reduceLT, Nat.reduceSub, reduceIte, reduceCtorEq, Int.reduceToNat, Int.reduceNeg, Int.reduceLE, Int.reduceLT, Int.reduceEq, Nat.reduceOr, Nat.reduceShiftRight, Nat.reduceMod, Nat.reduceBNe, Nat.reduceBEq]
  all_goals first | rfl | simp [*]

/-! ## Check -/
def badW (n : Nat) (a : Wn) : Bool := decide (a.x < 0) || decide (16384 < a.x) || decide (a.y < 0) || decide (16384 < a.y) || decide (a.w ≤ 0) || decide ((4 : Int) < a.l) || !decide ((a.l : Int) = n)
def WsAt (h : AH) (b o : Nat) (ws : List Wn) : Prop := ∀ (i : Nat) (a : Wn), ws[i]? = some a → rd h b (o + i * 6) 6 = some a.cs

end
end Go.AX.Tri
/- Contracts: Check. -/
namespace Go.AX.Tri
open Go.Proofs Go.AX.Mc
set_option linter.unusedSimpArgs false
set_option linter.unusedVariables false
noncomputable section

theorem rd_part {h : AH} {b o n : Nat} {l : List Value} (hr : rd h b o n = some l) (j m : Nat) (hj : j + m ≤ n) : rd h b (o + j) m = some ((l.drop j).take m) := by
  unfold rd at hr ⊢
  split at hr
  · rename_i cs k z hb
    cases hc : Nat.ble (o + n) cs.length <;> rw [hc] at hr
    · cases hr
    · cases hr
      have := Nat.le_of_ble_eq_true hc
      rw [Nat.ble_eq_true_of_le (by omega)]
      simp only [cond_true]
      rw [List.drop_take, List.take_take, List.drop_drop, Nat.min_eq_left (by omega)]
  · cases hr

theorem loop12 {env : List Lp} {k : List KF} {Q : QF} (b o cap : Nat) (ws : List Wn) (n : Nat) (hn : ws ≠ [] → ws[0]?.map Wn.l = some n) (H : AH)
    (q1 : ∀ fr h, H.nx ≤ h.lo → ws.any (badW n) = true → tmp fr (pa 2) = .int .i64 320 → Kt T env false k .ret fr [] h Q)
    (q2 : ∀ fr h, H.nx ≤ h.lo → ws.any (badW n) = false → Kt T env false k .normal fr [] h Q) :
    ∀ (m i : Nat), i + m = ws.length → ws.length < 1000000 → ∀ (fr : Tr Value) (h : AH), H.nx ≤ h.lo → h.lo ≤ h.nx → b < h.nx → WsAt h b o ws → (∀ j a, j < i → ws[j]? = some a → badW n a = false) →
      tmp fr (pa 0) = .slice (some ⟨b, o, none⟩) ws.length cap → tmp fr (pa 5) = .slice (some ⟨b, o, none⟩) ws.length cap → tmp fr (pa 6) = .int .i64 ws.length → tmp fr (pa 7) = .int .i64 i →
      X T env false (.loop a12l0) (.blk 0 :: k) fr [] (ext h []) Q := by
  intro m
  induction m with
  | zero =>
    intro i hi hsz fr h h1 h2 h3 h4 h5 t0 t5 t6 t7
    rw [X_loop]
    change X _ _ _ (.seq _ _) _ _ _ _ _
    simp only [t0, t5, t6, t7, show ¬ ((i : Int) < ws.length) by omega, decide_false, go_sem, bin_add, bin_sub, bin_mul, Nat.reduceAdd, Nat.reduceMul, Nat.reduceEqDiff, Nat.reduceLeDiff, Nat.reduceLT, Nat.reduceSub, reduceIte, reduceCtorEq, Int.reduceToNat, Int.reduceNeg, Int.reduceLE, Int.reduceLT, Int.reduceEq, Nat.reduceOr, Nat.reduceShiftRight, Nat.reduceMod, Nat.reduceBNe, Nat.reduceBEq]
    refine q2 _ _ h1 ?_
    rw [List.any_eq_false]
    intro a ha
    obtain ⟨j, hj⟩ := List.mem_iff_getElem?.1 ha
    simp [h5 j a (by have := (List.getElem?_eq_some_iff.1 hj).1; omega) hj]
  | succ m ih =>
    intro i hi hsz fr h h1 h2 h3 h4 h5 t0 t5 t6 t7
    have hlt : (i : Int) < ws.length := by omega
    obtain ⟨a, ha⟩ : ∃ a, ws[i]? = some a := ⟨ws[i]'(by omega), List.getElem?_eq_getElem (by omega)⟩
    obtain ⟨a0, ha0⟩ : ∃ a, ws[0]? = some a := ⟨ws[0]'(by omega), List.getElem?_eq_getElem (by omega)⟩
    have hn0 : a0.l = n := by
      have := hn (by intro e; rw [e] at ha0; cases ha0)
      rw [ha0] at this; simpa using this
    subst hn0
    have r1 : rd h b (o + i * 6) 6 = some a.cs := h4 i a ha
    have r2 : rd h b (o + 5) 1 = some [.slice a0.a a0.l a0.c] := by
      have := rd_part (h4 0 a0 ha0) 5 1 (by omega)
      simpa [Wn.cs] using this
    have h0 : i < ws.length := by omega
    have h00 : 0 < ws.length := by omega
    rw [X_loop]
    change X _ _ _ (.seq _ _) _ _ _ _ _
    simp only [t0, t5, t6, t7, Wn.cs, hlt, h0, rd_old _ _ _ _ _ h3, r1, h2, go_sem, bin_add, bin_sub, bin_mul, Nat.reduceAdd, Nat.reduceMul, Nat.reduceEqDiff, Nat.reduceLeDiff, Nat.reduceLT, Nat.reduceSub, reduceIte, reduceCtorEq, Int.reduceToNat, Int.reduceNeg, Int.reduceLE, Int.reduceLT, Int.reduceEq, Nat.reduceOr, Nat.reduceShiftRight, Nat.reduceMod, Nat.reduceBNe, Nat.reduceBEq]
    refine X_drawE 0 (by rfl) ?_
    simp only [Wn.cs, t0, h2, h3, h00, go_sem, bin_add, bin_sub, bin_mul, Nat.reduceAdd, Nat.reduceMul, Nat.reduceEqDiff, Nat.reduceLeDiff, Nat.reduceLT, Nat.reduceSub, reduceIte, reduceCtorEq, Int.reduceToNat, Int.reduceNeg, Int.reduceLE, Int.reduceLT, Int.reduceEq, Nat.reduceOr, Nat.reduceShiftRight, Nat.reduceMod, Nat.reduceBNe, Nat.reduceBEq]
    have hbad : badW a0.l a = true → ws.any (badW a0.l) = true := fun h => List.any_eq_true.2 ⟨a, List.mem_of_getElem? ha, h⟩
    refine DG_split ?_ ?_ <;> intro g1 <;> simp only [g1, Wn.cs, t0, h2, h3, h00, lnS_wn, rd_old _ _ _ _ _ h3, r2, go_sem, bin_add, bin_sub, bin_mul, Nat.reduceAdd, Nat.reduceMul, Nat.reduceEqDiff, Nat.reduceLeDiff, Nat.reduceLT, Nat.reduceSub, reduceIte, reduceCtorEq, Int.reduceToNat, Int.reduceNeg, Int.reduceLE, Int.reduceLT, Int.reduceEq, Nat.reduceOr, Nat.reduceShiftRight, Nat.reduceMod, Nat.reduceBNe, Nat.reduceBEq]
    rotate_left
    refine DG_split ?_ ?_ <;> intro g2 <;> simp only [g1, g2, Wn.cs, t0, h2, h3, h00, lnS_wn, rd_old _ _ _ _ _ h3, r2, go_sem, bin_add, bin_sub, bin_mul, Nat.reduceAdd, Nat.reduceMul, Nat.reduceEqDiff, Nat.reduceLeDiff, Nat.reduceLT, Nat.reduceSub, reduceIte, reduceCtorEq, Int.reduceToNat, Int.reduceNeg, Int.reduceLE, Int.reduceLT, Int.reduceEq, Nat.reduceOr, Nat.reduceShiftRight, Nat.reduceMod, Nat.reduceBNe, Nat.reduceBEq]
    rotate_left
    refine DG_split ?_ ?_ <;> intro g3 <;> simp only [g1, g2, g3, Wn.cs, t0, h2, h3, h00, lnS_wn, rd_old _ _ _ _ _ h3, r2, go_sem, bin_add, bin_sub, bin_mul, Nat.reduceAdd, Nat.reduceMul, Nat.reduceEqDiff, Nat.reduceLeDiff, Nat.reduceLT, Nat.reduceSub, reduceIte, reduceCtorEq, Int.reduceToNat, Int.reduceNeg, Int.reduceLE, Int.reduceLT, Int.reduceEq, Nat.reduceOr, Nat.reduceShiftRight, Nat.reduceMod, Nat.reduceBNe, Nat.reduceBEq]
    rotate_left
    refine DG_split ?_ ?_ <;> intro g4 <;> simp only [g1, g2, g3, g4, Wn.cs, t0, h2, h3, h00, lnS_wn, rd_old _ _ _ _ _ h3, r2, go_sem, bin_add, bin_sub, bin_mul, Nat.reduceAdd, Nat.reduceMul, Nat.reduceEqDiff, Nat.reduceLeDiff, Nat.reduceLT, Nat.reduceSub, reduceIte, reduceCtorEq, Int.reduceToNat, Int.reduceNeg, Int.reduceLE, Int.reduceLT, Int.reduceEq, Nat.reduceOr, Nat.reduceShiftRight, Nat.reduceMod, Nat.reduceBNe, Nat.reduceBEq]
    rotate_left
    refine DG_split ?_ ?_ <;> intro g5 <;> simp only [g1, g2, g3, g4, g5, Wn.cs, t0, h2, h3, h00, lnS_wn, rd_old _ _ _ _ _ h3, r2, go_sem, bin_add, bin_sub, bin_mul, Nat.reduceAdd, Nat.reduceMul, Nat.reduceEqDiff, Nat.reduceLeDiff, Nat.reduceLT, Nat.reduceSub, reduceIte, reduceCtorEq, Int.reduceToNat, Int.reduceNeg, Int.reduceLE, Int.reduceLT, Int.reduceEq, Nat.reduceOr, Nat.reduceShiftRight, Nat.reduceMod, Nat.reduceBNe, Nat.reduceBEq]
    rotate_left
    refine DG_split ?_ ?_ <;> intro g6 <;> simp only [g1, g2, g3, g4, g5, g6, Wn.cs, t0, h2, h3, h00, lnS_wn, rd_old _ _ _ _ _ h3, r2, go_sem, bin_add, bin_sub, bin_mul, Nat.reduceAdd, Nat.reduceMul, Nat.reduceEqDiff, Nat.reduceLeDiff, Nat.reduceLT, Nat.reduceSub, reduceIte, reduceCtorEq, Int.reduceToNat, Int.reduceNeg, Int.reduceLE, Int.reduceLT, Int.reduceEq, Nat.reduceOr, Nat.reduceShiftRight, Nat.reduceMod, Nat.reduceBNe, Nat.reduceBEq]
    rotate_left
    refine Cd_split ?_ ?_ <;> intro g7 <;> simp only [g7, t7, go_sem, bin_add, bin_sub, bin_mul, Nat.reduceAdd, Nat.reduceMul, Nat.reduceEqDiff, Nat.reduceLeDiff, Nat.reduceLT, Nat.reduceSub, reduceIte, reduceCtorEq, Int.reduceToNat, Int.reduceNeg, Int.reduceLE, Int.reduceLT, Int.reduceEq, Nat.reduceOr, Nat.reduceShiftRight, Nat.reduceMod, Nat.reduceBNe, Nat.reduceBEq]
    rotate_left
    · refine ih (i + 1) (by omega) hsz _ (ext h [some _]) (by rw [ext_lo]; exact h1) (by rw [ext_lo, ext_nx]; omega) (by rw [ext_nx]; omega) ?_ ?_ ?_ ?_ ?_ ?_
      · intro j x hj
        rw [rd_old _ _ _ _ _ h3]; exact h4 j x hj
      · intro j x hj hx
        by_cases e : j = i
        · subst e
          rw [ha] at hx; cases hx
          simp only [badW, g1, g2, g3, g4, g5, g6, g7, Bool.or_false, Bool.false_or]
        · exact h5 j x (by omega) hx
      · simp only [t0, go_sem, bin_add, bin_sub, bin_mul, Nat.reduceAdd, Nat.reduceMul, Nat.reduceEqDiff, Nat.reduceLeDiff, Nat.reduceLT, Nat.reduceSub, reduceIte, reduceCtorEq, Int.reduceToNat, Int.reduceNeg, Int.reduceLE, Int.reduceLT, Int.reduceEq, Nat.reduceOr, Nat.reduceShiftRight, Nat.reduceMod, Nat.reduceBNe, Nat.reduceBEq]
      · simp only [t5, go_sem, bin_add, bin_sub, bin_mul, Nat.reduceAdd, Nat.reduceMul, Nat.reduceEqDiff, Nat.reduceLeDiff, Nat.reduceLT, Nat.reduceSub, reduceIte, reduceCtorEq, Int.reduceToNat, Int.reduceNeg, Int.reduceLE, Int.reduceLT, Int.reduceEq, Nat.reduceOr, Nat.reduceShiftRight, Nat.reduceMod, Nat.reduceBNe, Nat.reduceBEq]
      · simp only [t6, go_sem, bin_add, bin_sub, bin_mul, Nat.reduceAdd, Nat.reduceMul, Nat.reduceEqDiff, Nat.reduceLeDiff, Nat.reduceLT, Nat.reduceSub, reduceIte, reduceCtorEq, Int.reduceToNat, Int.reduceNeg, Int.reduceLE, Int.reduceLT, Int.reduceEq, Nat.reduceOr, Nat.reduceShiftRight, Nat.reduceMod, Nat.reduceBNe, Nat.reduceBEq]
      · simp only [go_sem, bin_add, bin_sub, bin_mul, Nat.reduceAdd, Nat.reduceMul, Nat.reduceEqDiff, Nat.reduceLeDiff, Nat.reduceLT, Nat.reduceSub, reduceIte, reduceCtorEq, Int.reduceToNat, Int.reduceNeg, Int.reduceLE, Int.reduceLT, Int.reduceEq, Nat.reduceOr, Nat.reduceShiftRight, Nat.reduceMod, Nat.reduceBNe, Nat.reduceBEq, t7]
        unfold wrapF wS
        rw [show (decide (-9223372036854775808 ≤ (i : Int) + 1) && decide ((i : Int) + 1 < 9223372036854775808)) = true by simp; omega]
        simp
    all_goals refine q1 _ (ext h [some _]) (by rw [ext_lo]; exact h1) (hbad ?_) ?_
    all_goals first | (simp only [go_sem, bin_add, bin_sub, bin_mul, Nat.reduceAdd, Nat.reduceMul, Nat.reduceEqDiff, Nat.reduceLeDiff, Nat.reduceLT, Nat.reduceSub, reduceIte, reduceCtorEq, Int.reduceToNat, Int.reduceNeg, Int.reduceLE, Int.reduceLT, Int.reduceEq, Nat.reduceOr, Nat.reduceShiftRight, Nat.reduceMod, Nat.reduceBNe, Nat.reduceBEq]; done) | simp [badW, *]

/-- are the corners of a list all right? -/
def fstL (ws : List Wn) : Nat := match ws with
  | [] => 0
  | a :: _ => a.l
def badL (ws : List Wn) : Bool := match ws with
  | [] => false
  | a :: l => (a :: l).any (badW a.l)
def errF (ws : List Wn) : Int := bif badL ws then 320 else 0

theorem c12 {env : List Lp} (b o cap : Nat) (ws : List Wn) (H : AH) (hb : b < H.nx) (hw : WsAt H b o ws) (hsz : ws.length < 1000000) (Q : AEnd → AH → Prop) :
    C T env 12 [.slice (some ⟨b, o, none⟩) ws.length cap] H Q = Q (.ret (.int .i64 (errF ws))) H := by
  refine C_det ?_ Q
  rw [C_fn T12 rfl]
  simp only [a12, go_sem, bin_add, bin_sub, bin_mul, Nat.reduceAdd, Nat.reduceMul, Nat.reduceEqDiff, Nat.reduceLeDiff, Nat.reduceLT, Nat.reduceSub, reduceIte, reduceCtorEq, Int.reduceToNat, Int.reduceNeg, Int.reduceLE, Int.reduceLT, Int.reduceEq, Nat.reduceOr, Nat.reduceShiftRight, Nat.reduceMod, Nat.reduceBNe, Nat.reduceBEq]
  have hE : ws.any (badW (fstL ws)) = badL ws := by cases ws <;> rfl
  refine loop12 b o cap ws (fstL ws) ?_ H ?_ ?_ ws.length 0 (by omega) hsz _ H.now (Nat.le_refl _) (Nat.le_refl _) hb hw ?_ ?_ ?_ ?_ ?_
  · intro hne; cases ws with
    | nil => exact absurd rfl hne
    | cons a l => rfl
  · intro fr h h1 h2 h3
    simp only [h3, go_sem, bin_add, bin_sub, bin_mul, Nat.reduceAdd, Nat.reduceMul, Nat.reduceEqDiff, Nat.reduceLeDiff, Nat.reduceLT, Nat.reduceSub, reduceIte, reduceCtorEq, Int.reduceToNat, Int.reduceNeg, Int.reduceLE, Int.reduceLT, Int.reduceEq, Nat.reduceOr, Nat.reduceShiftRight, Nat.reduceMod, Nat.reduceBNe, Nat.reduceBEq]
    rw [hE] at h2
    exact ⟨by simp [errF, h2], trim_clo _ _ _ rfl h1⟩
  · intro fr h h1 h2
    rw [hE] at h2
    simp only [go_sem, bin_add, bin_sub, bin_mul, Nat.reduceAdd, Nat.reduceMul, Nat.reduceEqDiff, Nat.reduceLeDiff, Nat.reduceLT, Nat.reduceSub, reduceIte, reduceCtorEq, Int.reduceToNat, Int.reduceNeg, Int.reduceLE, Int.reduceLT, Int.reduceEq, Nat.reduceOr, Nat.reduceShiftRight, Nat.reduceMod, Nat.reduceBNe, Nat.reduceBEq]
    exact ⟨by simp [errF, h2], trim_clo _ _ _ rfl h1⟩
  · intro j a hj; omega
  all_goals simp only [go_sem, bin_add, bin_sub, bin_mul, Nat.reduceAdd, Nat.reduceMul, Nat.reduceEqDiff, Nat.reduceLeDiff, Nat.reduceLT, Nat.reduceSub, reduceIte, reduceCtorEq, Int.reduceToNat, Int.reduceNeg, Int.reduceLE, Int.reduceLT, Int.reduceEq, Nat.reduceOr, Nat.reduceShiftRight, Nat.reduceMod, Nat.reduceBNe, Nat.reduceBEq]
end
end Go.AX.Tri
