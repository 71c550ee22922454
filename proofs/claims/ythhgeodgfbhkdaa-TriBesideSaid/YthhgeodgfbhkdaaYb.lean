/- Contracts: lists of vectors compared. -/
import Derived.Test.YthhgeodgfbhkdaaXc
set_option linter.unusedVariables false
set_option linter.unusedSimpArgs false
set_option linter.unusedSectionVars false
namespace Go.AX.Tri
open Go.Proofs Go.AX.Mc
set_option linter.unusedSimpArgs false
set_option linter.unusedVariables false
noncomputable section

def eqL {α : Type} (e : α → α → Bool) : List α → List α → Bool
  | [], [] => true
  | a :: l, b :: m => e a b && eqL e l m
  | _, _ => false
theorem eqL_true {α : Type} {e : α → α → Bool} : ∀ {l m : List α}, l.length = m.length → (∀ (i : Nat) (a b : α), l[i]? = some a → m[i]? = some b → e a b = true) → eqL e l m = true
  | [], [], _, _ => rfl
  | a :: l, b :: m, h, k => by
    rw [eqL, k 0 a b rfl rfl, eqL_true (by simpa using h) (fun i x y hx hy => k (i + 1) x y hx hy)]; rfl
  | [], _ :: _, h, _ => by simp at h
  | _ :: _, [], h, _ => by simp at h
theorem eqL_false {α : Type} {e : α → α → Bool} : ∀ {l m : List α} (i : Nat) (a b : α), l[i]? = some a → m[i]? = some b → e a b = false → eqL e l m = false
  | a :: l, b :: m, 0, x, y, hx, hy, h => by cases hx; cases hy; rw [eqL, h]; rfl
  | a :: l, b :: m, i + 1, x, y, hx, hy, h => by rw [eqL, eqL_false i x y hx hy h]; exact Bool.and_false _
  | [], _, i, x, y, hx, hy, h => by simp at hx
  | _ :: _, [], i, x, y, hx, hy, h => by simp at hy
theorem eqL_len {α : Type} {e : α → α → Bool} : ∀ {l m : List α}, l.length ≠ m.length → eqL e l m = false
  | [], [], h => absurd rfl h
  | a :: l, b :: m, h => by rw [eqL, eqL_len (fun k => h (by simp [k]))]; exact Bool.and_false _
  | [], _ :: _, _ => rfl
  | _ :: _, [], _ => rfl
theorem eqL_refl {α : Type} {e : α → α → Bool} (h : ∀ a, e a a = true) : ∀ l : List α, eqL e l l = true
  | [] => rfl
  | a :: l => by rw [eqL, h, eqL_refl h l]; rfl
abbrev eqVs := eqL eqV
theorem eqV_refl (v : V4) : eqV v v = true := by simp [eqV]

theorem bin_neqV' (ox oy : Operand) (a b c d a' b' c' d' : Int) (H : AH) : aBin Try.prog .neq 40 ox oy none (.agg [.int .i32 a, .int .i32 b, .int .i32 c, .int .i32 d].toArray) (.agg [.int .i32 a', .int .i32 b', .int .i32 c', .int .i32 d'].toArray) H = some (.val (.bool (!eqV ⟨a, b, c, d⟩ ⟨a', b', c', d'⟩)) H) := bin_neqV ox oy ⟨a, b, c, d⟩ ⟨a', b', c', d'⟩ H
theorem bin_eqlV' (ox oy : Operand) (a b c d a' b' c' d' : Int) (H : AH) : aBin Try.prog .eql 40 ox oy none (.agg [.int .i32 a, .int .i32 b, .int .i32 c, .int .i32 d].toArray) (.agg [.int .i32 a', .int .i32 b', .int .i32 c', .int .i32 d'].toArray) H = some (.val (.bool (eqV ⟨a, b, c, d⟩ ⟨a', b', c', d'⟩)) H) := bin_eqlV ox oy ⟨a, b, c, d⟩ ⟨a', b', c', d'⟩ H

theorem w1 {i : Nat} (h : i < 9223372036854775807) : wrapF .i64 ((i : Int) + 1) = ((i + 1 : Nat) : Int) := by rw [w64_id (by omega) (by omega)]; rfl

theorem loop45 {env : List Lp} {k : List KF} {Q : QF} (a a' : Option Addr) (c c' : Nat) (vs ws : List V4) (hl : vs.length = ws.length) (hsz : vs.length < 9223372036854775808) (h : AH) (hv : VecAt h a vs) (hw : VecAt h a' ws)
    (q1 : ∀ fr, eqVs vs ws = false → tmp fr (pa 4) = .bool false → Kt T env false k .ret fr [] (ext h []) Q)
    (q2 : ∀ fr, eqVs vs ws = true → Kt T env false k .normal fr [] (ext h []) Q) :
    ∀ (m i : Nat), i + m = vs.length → ∀ (fr : Tr Value), (∀ (j : Nat) v w, j < i → vs[j]? = some v → ws[j]? = some w → eqV v w = true) →
      tmp fr (pa 0) = .slice a vs.length c → tmp fr (pa 1) = .slice a' ws.length c' → tmp fr (pa 12) = .int .i64 vs.length → tmp fr (pa 13) = .int .i64 i →
      X T env false (.loop a45l0) (.blk 0 :: k) fr [] (ext h []) Q := by
  intro m
  induction m with
  | zero =>
    intro i hi fr h5 t0 t1 t12 t13
    rw [X_loop]
    change X _ _ _ (.seq _ _) _ _ _ _ _
    simp only [t0, t1, t12, t13, show ¬ ((i : Int) < vs.length) by omega, decide_false, go_sem, bin_add, bin_sub, bin_mul, Nat.reduceAdd, Nat.reduceMul, Nat.reduceEqDiff, Nat.reduceLeDiff, Nat.reduceLT, Nat.reduceSub, reduceIte, reduceCtorEq, Int.reduceToNat, Int.reduceNeg, Int.reduceLE, Int.reduceLT, Int.reduceEq, Nat.reduceOr, Nat.reduceShiftRight, Nat.reduceMod, Nat.reduceBNe, Nat.reduceBEq]
    refine q2 _ (eqL_true hl fun j v w hj hk => h5 j v w ?_ hj hk)
    have := (List.getElem?_eq_some_iff.1 hj).1; omega
  | succ m ih =>
    intro i hi fr h5 t0 t1 t12 t13
    have hlt : (i : Int) < vs.length := by omega
    have h0 : i < vs.length := by omega
    have h1 : i < ws.length := by omega
    obtain ⟨v, ev⟩ : ∃ v, vs[i]? = some v := ⟨vs[i]'(by omega), List.getElem?_eq_getElem (by omega)⟩
    obtain ⟨w, ew⟩ : ∃ v, ws[i]? = some v := ⟨ws[i]'(by omega), List.getElem?_eq_getElem (by omega)⟩
    obtain ⟨b, o, r, ha, hr, hb, r1⟩ := hv i v ev
    obtain ⟨b', o', r', ha', hr', hb', r2⟩ := hw i w ew
    rw [X_loop]
    change X _ _ _ (.seq _ _) _ _ _ _ _
    rw [ha] at t0
    rw [ha'] at t1
    rcases hr with rfl | rfl <;> rcases hr' with rfl | rfl
    all_goals
      simp only [t0, t1, t12, t13, hlt, go_sem, bin_add, bin_sub, bin_mul, Nat.reduceAdd, Nat.reduceMul, Nat.reduceEqDiff, Nat.reduceLeDiff, Nat.reduceLT, Nat.reduceSub, reduceIte, reduceCtorEq, Int.reduceToNat, Int.reduceNeg, Int.reduceLE, Int.reduceLT, Int.reduceEq, Nat.reduceOr, Nat.reduceShiftRight, Nat.reduceMod, Nat.reduceBNe, Nat.reduceBEq]
      refine X_drawE 0 (by rfl) ?_
      simp only [V4.cs, t0, t1, t13, h0, h1, rd_old _ _ _ _ _ hb, rd_old _ _ _ _ _ hb', r1, r2, bin_neqV', go_sem, bin_add, bin_sub, bin_mul, Nat.reduceAdd, Nat.reduceMul, Nat.reduceEqDiff, Nat.reduceLeDiff, Nat.reduceLT, Nat.reduceSub, reduceIte, reduceCtorEq, Int.reduceToNat, Int.reduceNeg, Int.reduceLE, Int.reduceLT, Int.reduceEq, Nat.reduceOr, Nat.reduceShiftRight, Nat.reduceMod, Nat.reduceBNe, Nat.reduceBEq]
      refine Cd_split ?_ ?_ <;> intro g
      · simp only [g, go_sem, bin_add, bin_sub, bin_mul, Nat.reduceAdd, Nat.reduceMul, Nat.reduceEqDiff, Nat.reduceLeDiff, Nat.reduceLT, Nat.reduceSub, reduceIte, reduceCtorEq, Int.reduceToNat, Int.reduceNeg, Int.reduceLE, Int.reduceLT, Int.reduceEq, Nat.reduceOr, Nat.reduceShiftRight, Nat.reduceMod, Nat.reduceBNe, Nat.reduceBEq]
        refine q1 _ (eqL_false i v w ev ew (by simpa using g)) ?_
        simp only [go_sem, bin_add, bin_sub, bin_mul, Nat.reduceAdd, Nat.reduceMul, Nat.reduceEqDiff, Nat.reduceLeDiff, Nat.reduceLT, Nat.reduceSub, reduceIte, reduceCtorEq, Int.reduceToNat, Int.reduceNeg, Int.reduceLE, Int.reduceLT, Int.reduceEq, Nat.reduceOr, Nat.reduceShiftRight, Nat.reduceMod, Nat.reduceBNe, Nat.reduceBEq]
      · simp only [g, t13, go_sem, bin_add, bin_sub, bin_mul, Nat.reduceAdd, Nat.reduceMul, Nat.reduceEqDiff, Nat.reduceLeDiff, Nat.reduceLT, Nat.reduceSub, reduceIte, reduceCtorEq, Int.reduceToNat, Int.reduceNeg, Int.reduceLE, Int.reduceLT, Int.reduceEq, Nat.reduceOr, Nat.reduceShiftRight, Nat.reduceMod, Nat.reduceBNe, Nat.reduceBEq]
        refine ih (i + 1) (by omega) _ ?_ ?_ ?_ ?_ ?_
        · intro j x y hj hx hy
          by_cases e : j = i
          · subst e
            rw [ev] at hx; cases hx
            rw [ew] at hy; cases hy
            simpa using g
          · exact h5 j x y (by omega) hx hy
        · simp only [t0, ha, go_sem, bin_add, bin_sub, bin_mul, Nat.reduceAdd, Nat.reduceMul, Nat.reduceEqDiff, Nat.reduceLeDiff, Nat.reduceLT, Nat.reduceSub, reduceIte, reduceCtorEq, Int.reduceToNat, Int.reduceNeg, Int.reduceLE, Int.reduceLT, Int.reduceEq, Nat.reduceOr, Nat.reduceShiftRight, Nat.reduceMod, Nat.reduceBNe, Nat.reduceBEq]
        · simp only [t1, ha', go_sem, bin_add, bin_sub, bin_mul, Nat.reduceAdd, Nat.reduceMul, Nat.reduceEqDiff, Nat.reduceLeDiff, Nat.reduceLT, Nat.reduceSub, reduceIte, reduceCtorEq, Int.reduceToNat, Int.reduceNeg, Int.reduceLE, Int.reduceLT, Int.reduceEq, Nat.reduceOr, Nat.reduceShiftRight, Nat.reduceMod, Nat.reduceBNe, Nat.reduceBEq]
        · simp only [t12, go_sem, bin_add, bin_sub, bin_mul, Nat.reduceAdd, Nat.reduceMul, Nat.reduceEqDiff, Nat.reduceLeDiff, Nat.reduceLT, Nat.reduceSub, reduceIte, reduceCtorEq, Int.reduceToNat, Int.reduceNeg, Int.reduceLE, Int.reduceLT, Int.reduceEq, Nat.reduceOr, Nat.reduceShiftRight, Nat.reduceMod, Nat.reduceBNe, Nat.reduceBEq]
        · simp only [go_sem, bin_add, bin_sub, bin_mul, Nat.reduceAdd, Nat.reduceMul, Nat.reduceEqDiff, Nat.reduceLeDiff, Nat.reduceLT, Nat.reduceSub, reduceIte, reduceCtorEq, Int.reduceToNat, Int.reduceNeg, Int.reduceLE, Int.reduceLT, Int.reduceEq, Nat.reduceOr, Nat.reduceShiftRight, Nat.reduceMod, Nat.reduceBNe, Nat.reduceBEq, t13]
          rw [w1 (by omega)]

theorem c45 {env : List Lp} (a a' : Option Addr) (c c' : Nat) (vs ws : List V4) (H : AH) (s1 : Sl a) (s2 : Sl a') (hsz : vs.length < 9223372036854775808) (hv : VecAt H a vs) (hw : VecAt H a' ws) (Q : AEnd → AH → Prop) :
    C T env 45 [.slice a vs.length c, .slice a' ws.length c'] H Q = Q (.ret (.bool (eqVs vs ws))) H := by
  refine C_det ?_ Q
  rw [C_fn T45 rfl]
  simp only [a45, s1 _ _ _, s2 _ _ _, go_sem, bin_add, bin_sub, bin_mul, Nat.reduceAdd, Nat.reduceMul, Nat.reduceEqDiff, Nat.reduceLeDiff, Nat.reduceLT, Nat.reduceSub, reduceIte, reduceCtorEq, Int.reduceToNat, Int.reduceNeg, Int.reduceLE, Int.reduceLT, Int.reduceEq, Nat.reduceOr, Nat.reduceShiftRight, Nat.reduceMod, Nat.reduceBNe, Nat.reduceBEq]
  refine Cd_split ?_ ?_ <;> intro g <;> simp only [g, s1 _ _ _, s2 _ _ _, go_sem, bin_add, bin_sub, bin_mul, Nat.reduceAdd, Nat.reduceMul, Nat.reduceEqDiff, Nat.reduceLeDiff, Nat.reduceLT, Nat.reduceSub, reduceIte, reduceCtorEq, Int.reduceToNat, Int.reduceNeg, Int.reduceLE, Int.reduceLT, Int.reduceEq, Nat.reduceOr, Nat.reduceShiftRight, Nat.reduceMod, Nat.reduceBNe, Nat.reduceBEq]
  · rw [show eqVs vs ws = false from eqL_len (by simp at g; omega)]
  · have hl : vs.length = ws.length := by simp at g; omega
    refine loop45 a a' c c' vs ws hl hsz H.now (hv.mono (Nat.le_refl _) fun _ _ _ _ => rfl) (hw.mono (Nat.le_refl _) fun _ _ _ _ => rfl) ?_ ?_ vs.length 0 (by omega) _ (by intro j; omega) ?_ ?_ ?_ ?_
    · intro fr he h4
      simp only [h4, he, go_sem, bin_add, bin_sub, bin_mul, Nat.reduceAdd, Nat.reduceMul, Nat.reduceEqDiff, Nat.reduceLeDiff, Nat.reduceLT, Nat.reduceSub, reduceIte, reduceCtorEq, Int.reduceToNat, Int.reduceNeg, Int.reduceLE, Int.reduceLT, Int.reduceEq, Nat.reduceOr, Nat.reduceShiftRight, Nat.reduceMod, Nat.reduceBNe, Nat.reduceBEq]
    · intro fr he
      simp only [he, go_sem, bin_add, bin_sub, bin_mul, Nat.reduceAdd, Nat.reduceMul, Nat.reduceEqDiff, Nat.reduceLeDiff, Nat.reduceLT, Nat.reduceSub, reduceIte, reduceCtorEq, Int.reduceToNat, Int.reduceNeg, Int.reduceLE, Int.reduceLT, Int.reduceEq, Nat.reduceOr, Nat.reduceShiftRight, Nat.reduceMod, Nat.reduceBNe, Nat.reduceBEq]
    all_goals simp only [go_sem, bin_add, bin_sub, bin_mul, Nat.reduceAdd, Nat.reduceMul, Nat.reduceEqDiff, Nat.reduceLeDiff, Nat.reduceLT, Nat.reduceSub, reduceIte, reduceCtorEq, Int.reduceToNat, Int.reduceNeg, Int.reduceLE, Int.reduceLT, Int.reduceEq, Nat.reduceOr, Nat.reduceShiftRight, Nat.reduceMod, Nat.reduceBNe, Nat.reduceBEq]
end
end Go.AX.Tri
/- Contracts: three corners in memory of their own (2). -/
namespace Go.AX.Tri
open Go.Proofs Go.AX.Mc
set_option linter.unusedSimpArgs false
set_option linter.unusedVariables false
noncomputable section

theorem min_nat6 (a : Nat) : min (a : Int) 6 = ((min a 6 : Nat) : Int) := by omega
theorem app_0 (H : AH) (size bytes : Nat) (b o len cap : Nat) (x : Value) (l : List Value) (hx : aSource H size x none = some (0, l)) (hc : len ≤ cap) :
    aAppend size bytes (.slice (some ⟨b, o, none⟩) len cap) x H = some (.val (.slice (some ⟨b, o, none⟩) len cap) H) := by
  unfold aAppend; simp only [hx, Nat.ble_eq_true_of_le hc, cond_true]

theorem slS_r (z b l m : Nat) (k : IntKind) (h : m ≤ l) (h0 : 0 < l) (H : AH) : slS z (.slice (some ⟨b, 0, some 0⟩) l l) none (some (.int k (m : Int))) none H = some (.val (.slice (some ⟨b, 0, some 0⟩) m l) H) := by
  unfold slS aSliceS
  have e : bnds l l none (some (.int k (m : Int))) none = some (0, m, l) := by
    show (match bndL (some (.int k (Int.ofNat m))) l l with | none => none | some h => _) = _
    have : bndL (some (.int k (Int.ofNat m))) l l = some m := by
      show (bif Nat.ble m l then some m else none) = _
      rw [Nat.ble_eq_true_of_le h]; rfl
    rw [this]
    show (match (some 0 : Option Nat) with | none => none | some l => some (l, m, _)) = _
    rfl
  simp only [e]
  rw [show Nat.blt 0 l = true from Nat.ble_eq_true_of_le h0]
  show some (ANext.val (slr b (0 + 0 * z) (m - 0) (l - 0)) H) = _
  rw [Nat.zero_mul]; rfl

theorem step19 {env : List Lp} {k : List KF} {Q : QF} {H : AH} (hlo : H.lo ≤ H.nx) (i : Nat) (hi : i < 3) (bx : List Value) (hbx : bx.length = 18) (p : Wn) (h5 : (bx.drop (i * 6 + 5)).take 1 = [.slice p.a p.l p.c])
    (hp : Pl H p) (hlen : p.l = p.vs.length) (hvec : VecAt H p.a p.vs) (b2 : Option AB) (G : List (Option AB)) (fr : Tr Value)
    (t1 : tmp fr (pa 1) = .pointer (some ⟨H.nx, 0, none⟩)) (t2 : tmp fr (pa 2) = .pointer (some ⟨H.nx + 1, 0, none⟩)) (t4 : tmp fr (pa 4) = .int .i64 (i : Int))
    (hQ : ∀ fr G' p', Cp H (G ++ G') p p' → tmp fr (pa 1) = .pointer (some ⟨H.nx, 0, none⟩) → tmp fr (pa 2) = .pointer (some ⟨H.nx + 1, 0, none⟩) → tmp fr (pa 4) = .int .i64 ((i + 1 : Nat) : Int) →
      X T env false (.loop a19l0) (.blk 0 :: k) fr [] (ext H (blk (bx.take (i * 6 + 5) ++ (.slice p'.a p'.l p'.c :: bx.drop (i * 6 + 5 + 1))) :: b2 :: (G ++ G'))) Q) :
    X T env false (.loop a19l0) (.blk 0 :: k) fr [] (ext H (blk bx :: b2 :: G)) Q := by
  rw [X_loop]
  change X _ _ _ (.seq _ _) _ _ _ _ _
  have hlt : (i : Int) < 3 := by omega
  have hle : i * 6 + 5 + 1 ≤ 18 := by omega
  simp only [t1, t2, t4, hlt, go_sem, bin_add, bin_sub, bin_mul, Nat.reduceAdd, Nat.reduceMul, Nat.reduceEqDiff, Nat.reduceLeDiff, Nat.reduceLT, Nat.reduceSub, reduceIte, reduceCtorEq, Int.reduceToNat, Int.reduceNeg, Int.reduceLE, Int.reduceLT, Int.reduceEq, Nat.reduceOr, Nat.reduceShiftRight, Nat.reduceMod, Nat.reduceBNe, Nat.reduceBEq]
  refine X_drawE 1 (by rfl) ?_
  have sl : ∀ H, lnS (.slice p.a p.l p.c) H = some (.val (.int .i64 p.l) H) := by
    rcases hp with ⟨ea, el, ec⟩ | ⟨b, o, ea, _⟩ | ⟨b, ea, _⟩
    · rw [ea]; intro H; rfl
    · rw [ea]; intro H; rfl
    · rw [ea]; intro H; rfl
  have sS : ∀ H, slS 4 (.slice p.a p.l p.c) none (some (.int .i64 ((min p.l 6 : Nat) : Int))) none H = some (.val (.slice p.a (min p.l 6) p.c) H) := by
    rcases hp with ⟨ea, el, ec⟩ | ⟨b, o, ea, hc, _⟩ | ⟨b, ea, h0, hc, _⟩
    · rw [ea, el, ec]; intro H; exact slS_0 _ _ _
    · rw [ea]; intro H; exact slS_s _ _ _ _ _ _ _ (by omega) H
    · rw [ea, hc]; intro H; exact slS_r _ _ _ _ _ (by omega) h0 H
  simp only [t1, t2, t4, hi, hbx, hle, h5, sl, min_nat6, sS, go_sem, bin_add, bin_sub, bin_mul, Nat.reduceAdd, Nat.reduceMul, Nat.reduceEqDiff, Nat.reduceLeDiff, Nat.reduceLT, Nat.reduceSub, reduceIte, reduceCtorEq, Int.reduceToNat, Int.reduceNeg, Int.reduceLE, Int.reduceLT, Int.reduceEq, Nat.reduceOr, Nat.reduceShiftRight, Nat.reduceMod, Nat.reduceBNe, Nat.reduceBEq]
  have hm6 : (p.vs.take 6) = p.vs.take (min p.l 6) := by rw [List.take_eq_take_iff]; omega
  have hfl : ∀ vs : List V4, (vs.flatMap V4.cs).all flat = true := by
    intro vs
    rw [List.all_eq_true]
    intro x hx
    obtain ⟨v, _, hv⟩ := List.mem_flatMap.1 hx
    simp only [V4.cs, List.mem_cons, List.not_mem_nil, or_false] at hv
    rcases hv with rfl | rfl | rfl | rfl <;> rfl
  have hml : (p.vs.take (min p.l 6)).length = min p.l 6 := by rw [List.length_take]; omega
  have src : ∀ L, aSource (ext H L) 4 (.slice p.a (min p.l 6) p.c) none = some (min p.l 6, (p.vs.take (min p.l 6)).flatMap V4.cs) := by
    intro L
    rcases hp with ⟨ea, el, ec⟩ | ⟨b, o, ea, hc, hb, h0⟩ | ⟨b, ea, _, hc, hb, h0⟩
    · rw [ea, el]; rfl
    rotate_left
    · rw [ea]
      rw [ea] at hvec
      refine aSource_r _ _ _ _ _ _ _ ?_
      rw [rd_old _ _ _ _ _ hb]
      exact vec_take hvec h0 _ (by omega)
    · rw [ea]
      rw [ea] at hvec
      refine aSource_s _ _ _ _ _ _ _ ?_
      rw [rd_old _ _ _ _ _ hb]
      exact vec_take hvec h0 _ (by omega)
  generalize hmm : min p.l 6 = m at *
  cases m with
  | zero =>
    rw [app_0 _ _ _ _ _ _ _ _ _ (src _) (Nat.le_refl _)]
    simp only [hlo, t1, t2, t4, hi, hbx, hle, h5, sl, sS, go_sem, bin_add, bin_sub, bin_mul, Nat.reduceAdd, Nat.reduceMul, Nat.reduceEqDiff, Nat.reduceLeDiff, Nat.reduceLT, Nat.reduceSub, reduceIte, reduceCtorEq, Int.reduceToNat, Int.reduceNeg, Int.reduceLE, Int.reduceLT, Int.reduceEq, Nat.reduceOr, Nat.reduceShiftRight, Nat.reduceMod, Nat.reduceBNe, Nat.reduceBEq]
    refine hQ _ [some (.cells [] 0 0)] ⟨p.x, p.y, p.z, p.w, p.s, some ⟨H.nx + (G.length + 1 + 1), 0, none⟩, 0, 0, sl_s _ _, p.vs.take 6⟩ ⟨rfl, rfl, rfl, rfl, rfl, rfl, ?_, ?_, ⟨_, _, rfl, by omega⟩, ?_⟩ ?_ ?_ ?_
    · rw [hm6]; rfl
    · rw [hm6]; intro u v G' k w hk; simp at hk
    · intro u v G'
      refine .inr (.inl ⟨_, 0, rfl, Nat.le_refl _, ?_, ?_⟩)
      · rw [ext_nx]; simp only [List.length_cons, List.length_append]; omega
      · rw [rd_new]
        simp only [List.append_assoc, go_sem, bin_add, bin_sub, bin_mul, Nat.reduceAdd, Nat.reduceMul, Nat.reduceEqDiff, Nat.reduceLeDiff, Nat.reduceLT, Nat.reduceSub, reduceIte, reduceCtorEq, Int.reduceToNat, Int.reduceNeg, Int.reduceLE, Int.reduceLT, Int.reduceEq, Nat.reduceOr, Nat.reduceShiftRight, Nat.reduceMod, Nat.reduceBNe, Nat.reduceBEq]
    · simp only [t1, go_sem, bin_add, bin_sub, bin_mul, Nat.reduceAdd, Nat.reduceMul, Nat.reduceEqDiff, Nat.reduceLeDiff, Nat.reduceLT, Nat.reduceSub, reduceIte, reduceCtorEq, Int.reduceToNat, Int.reduceNeg, Int.reduceLE, Int.reduceLT, Int.reduceEq, Nat.reduceOr, Nat.reduceShiftRight, Nat.reduceMod, Nat.reduceBNe, Nat.reduceBEq]
    · simp only [t2, go_sem, bin_add, bin_sub, bin_mul, Nat.reduceAdd, Nat.reduceMul, Nat.reduceEqDiff, Nat.reduceLeDiff, Nat.reduceLT, Nat.reduceSub, reduceIte, reduceCtorEq, Int.reduceToNat, Int.reduceNeg, Int.reduceLE, Int.reduceLT, Int.reduceEq, Nat.reduceOr, Nat.reduceShiftRight, Nat.reduceMod, Nat.reduceBNe, Nat.reduceBEq]
    · simp only [go_sem, bin_add, bin_sub, bin_mul, Nat.reduceAdd, Nat.reduceMul, Nat.reduceEqDiff, Nat.reduceLeDiff, Nat.reduceLT, Nat.reduceSub, reduceIte, reduceCtorEq, Int.reduceToNat, Int.reduceNeg, Int.reduceLE, Int.reduceLT, Int.reduceEq, Nat.reduceOr, Nat.reduceShiftRight, Nat.reduceMod, Nat.reduceBNe, Nat.reduceBEq]
      rw [w1 (by omega)]
  | succ m =>
    rw [app_s _ _ _ _ _ _ _ [] _ m _ (src _) (by omega) (by simp only [go_sem, bin_add, bin_sub, bin_mul, Nat.reduceAdd, Nat.reduceMul, Nat.reduceEqDiff, Nat.reduceLeDiff, Nat.reduceLT, Nat.reduceSub, reduceIte, reduceCtorEq, Int.reduceToNat, Int.reduceNeg, Int.reduceLE, Int.reduceLT, Int.reduceEq, Nat.reduceOr, Nat.reduceShiftRight, Nat.reduceMod, Nat.reduceBNe, Nat.reduceBEq]) (room_of (by omega) (by omega)) (hfl _)]
    simp only [hlo, t1, t2, t4, hi, hbx, hle, h5, sl, sS, go_sem, bin_add, bin_sub, bin_mul, Nat.reduceAdd, Nat.reduceMul, Nat.reduceEqDiff, Nat.reduceLeDiff, Nat.reduceLT, Nat.reduceSub, reduceIte, reduceCtorEq, Int.reduceToNat, Int.reduceNeg, Int.reduceLE, Int.reduceLT, Int.reduceEq, Nat.reduceOr, Nat.reduceShiftRight, Nat.reduceMod, Nat.reduceBNe, Nat.reduceBEq]
    refine hQ _ [some (.cells [] 0 0), some (.cells ((p.vs.take (m + 1)).flatMap V4.cs) 1 4)] ⟨p.x, p.y, p.z, p.w, p.s, some ⟨H.nx + (G.length + 1 + 1 + 1), 0, some 0⟩, m + 1, m + 1, sl_r _ _, p.vs.take 6⟩ ⟨rfl, rfl, rfl, rfl, rfl, rfl, ?_, ?_, ⟨_, _, rfl, by omega⟩, ?_⟩ ?_ ?_ ?_
    · rw [hm6]; exact hml.symm
    · rw [hm6]; intro u v G'
      refine vec_new (.inr rfl) (k := 1) (z := 4) ?_ ?_
      · rw [ext_get_new]
        simp only [List.append_assoc, go_sem, bin_add, bin_sub, bin_mul, Nat.reduceAdd, Nat.reduceMul, Nat.reduceEqDiff, Nat.reduceLeDiff, Nat.reduceLT, Nat.reduceSub, reduceIte, reduceCtorEq, Int.reduceToNat, Int.reduceNeg, Int.reduceLE, Int.reduceLT, Int.reduceEq, Nat.reduceOr, Nat.reduceShiftRight, Nat.reduceMod, Nat.reduceBNe, Nat.reduceBEq]
      · rw [ext_nx]; simp only [List.length_cons, List.length_append]; omega
    · intro u v G'
      refine .inr (.inr ⟨_, rfl, Nat.succ_pos m, rfl, ?_, ?_⟩)
      · rw [ext_nx]; simp only [List.length_cons, List.length_append]; omega
      · rw [rd_new]
        simp only [List.append_assoc, go_sem, bin_add, bin_sub, bin_mul, Nat.reduceAdd, Nat.reduceMul, Nat.reduceEqDiff, Nat.reduceLeDiff, Nat.reduceLT, Nat.reduceSub, reduceIte, reduceCtorEq, Int.reduceToNat, Int.reduceNeg, Int.reduceLE, Int.reduceLT, Int.reduceEq, Nat.reduceOr, Nat.reduceShiftRight, Nat.reduceMod, Nat.reduceBNe, Nat.reduceBEq]
    · simp only [t1, go_sem, bin_add, bin_sub, bin_mul, Nat.reduceAdd, Nat.reduceMul, Nat.reduceEqDiff, Nat.reduceLeDiff, Nat.reduceLT, Nat.reduceSub, reduceIte, reduceCtorEq, Int.reduceToNat, Int.reduceNeg, Int.reduceLE, Int.reduceLT, Int.reduceEq, Nat.reduceOr, Nat.reduceShiftRight, Nat.reduceMod, Nat.reduceBNe, Nat.reduceBEq]
    · simp only [t2, go_sem, bin_add, bin_sub, bin_mul, Nat.reduceAdd, Nat.reduceMul, Nat.reduceEqDiff, Nat.reduceLeDiff, Nat.reduceLT, Nat.reduceSub, reduceIte, reduceCtorEq, Int.reduceToNat, Int.reduceNeg, Int.reduceLE, Int.reduceLT, Int.reduceEq, Nat.reduceOr, Nat.reduceShiftRight, Nat.reduceMod, Nat.reduceBNe, Nat.reduceBEq]
    · simp only [go_sem, bin_add, bin_sub, bin_mul, Nat.reduceAdd, Nat.reduceMul, Nat.reduceEqDiff, Nat.reduceLeDiff, Nat.reduceLT, Nat.reduceSub, reduceIte, reduceCtorEq, Int.reduceToNat, Int.reduceNeg, Int.reduceLE, Int.reduceLT, Int.reduceEq, Nat.reduceOr, Nat.reduceShiftRight, Nat.reduceMod, Nat.reduceBNe, Nat.reduceBEq]
      rw [w1 (by omega)]
end
end Go.AX.Tri
