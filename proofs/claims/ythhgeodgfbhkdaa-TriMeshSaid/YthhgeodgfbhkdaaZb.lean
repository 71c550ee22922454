/- Contracts: three corners in memory of their own (2). -/
import Derived.Test.YthhgeodgfbhkdaaXc
import Derived.Test.YthhgeodgfbhkdaaWt
set_option linter.unusedVariables false
set_option linter.unusedSimpArgs false
set_option linter.unusedSectionVars false
namespace Go.AX.Tri
open Go.Proofs Go.AX.Mc
set_option linter.unusedSimpArgs false
set_option linter.unusedVariables false
noncomputable section

theorem min_nat6 (a : Nat) : min (a : Int) 6 = ((min a 6 : Nat) : Int) := by omega
theorem app_0 (H : AH) (size bytes : Nat) (b o len cap : Nat) (x : Value) (l : List Value) (hx : aSource H size x none = some (0, l)) (hc : len ≤ cap) :
    aAppend size bytes (.slice (some ⟨b, o, none⟩) len cap) x H = some (.val (.slice (some ⟨b, o, none⟩) len cap) H) := by
  unfold aAppend; simp only [hx, Nat.ble_eq_true_of_le hc, cond_true]

theorem slS_r (z b l m : Nat) (k : IntKind) (h : m ≤ l) (h0 : 0 < l) (H : AH) : slS z (.slice (some ⟨b, 0, some 0⟩) l l) none (some (.int k (m : Int))) none H = some (.val (.slice (some ⟨b, 0, some 0⟩) m l) H) := by
  unfold slS aSliceS
  have e : bnds l l none (some (.int k (m : Int))) none = some (0, m, l) := by
    show (match bndL (some (.int k (Int.ofNat m))) l l with | none => none | some h => _) = _
    have : bndL (some (.int k (Int.ofNat m))) l l = some m := by
      show (bif Nat.ble m l then some m else none) = _
      rw [Nat.ble_eq_true_of_le h]; rfl
    rw [this]
    show (match (some 0 : Option Nat) with | none => none | some l => some (l, m, _)) = _
    rfl
  simp only [e]
  rw [show Nat.blt 0 l = true from Nat.ble_eq_true_of_le h0]
  show some (ANext.val (slr b (0 + 0 * z) (m - 0) (l - 0)) H) = _
  rw [Nat.zero_mul]; rfl

theorem step19 {env : List Lp} {k : List KF} {Q : QF} {H : AH} (hlo : H.lo ≤ H.nx) (i : Nat) (hi : i < 3) (bx : List Value) (hbx : bx.length = 18) (p : Wn) (h5 : (bx.drop (i * 6 + 5)).take 1 = [.slice p.a p.l p.c])
    (hp : Pl H p) (hlen : p.l = p.vs.length) (hvec : VecAt H p.a p.vs) (b2 : Option AB) (G : List (Option AB)) (fr : Tr Value)
    (t1 : tmp fr (pa 1) = .pointer (some ⟨H.nx, 0, none⟩)) (t2 : tmp fr (pa 2) = .pointer (some ⟨H.nx + 1, 0, none⟩)) (t4 : tmp fr (pa 4) = .int .i64 (i : Int))
    (hQ : ∀ fr G' p', Cp H (G ++ G') p p' → tmp fr (pa 1) = .pointer (some ⟨H.nx, 0, none⟩) → tmp fr (pa 2) = .pointer (some ⟨H.nx + 1, 0, none⟩) → tmp fr (pa 4) = .int .i64 ((i + 1 : Nat) : Int) →
      X T env false (.loop a19l0) (.blk 0 :: k) fr [] (ext H (blk (bx.take (i * 6 + 5) ++ (.slice p'.a p'.l p'.c :: bx.drop (i * 6 + 5 + 1))) :: b2 :: (G ++ G'))) Q) :
    X T env false (.loop a19l0) (.blk 0 :: k) fr [] (ext H (blk bx :: b2 :: G)) Q := by
  rw [X_loop]
  change X _ _ _ (.seq _ _) _ _ _ _ _
  have hlt : (i : Int) < 3 := by omega
  have hle : i * 6 + 5 + 1 ≤ 18 := by omega
  simp only [t1, t2, t4, hlt, go_sem, bin_add, bin_sub, bin_mul, Nat.reduceAdd, Nat.reduceMul, Nat.reduceEqDiff, Nat.reduceLeDiff, Nat.reduceLT, Nat.reduceSub, reduceIte, reduceCtorEq, Int.reduceToNat, Int.reduceNeg, Int.reduceLE, Int.reduceLT, Int.reduceEq, Nat.reduceOr, Nat.reduceShiftRight, Nat.reduceMod, Nat.reduceBNe, Nat.reduceBEq]
  refine X_drawE 1 (by rfl) ?_
  have sl : ∀ H, lnS (.slice p.a p.l p.c) H = some (.val (.int .i64 p.l) H) := by
    rcases hp with ⟨ea, el, ec⟩ | ⟨b, o, ea, _⟩ | ⟨b, ea, _⟩
    · rw [ea]; intro H; rfl
    · rw [ea]; intro H; rfl
    · rw [ea]; intro H; rfl
  have sS : ∀ H, slS 4 (.slice p.a p.l p.c) none (some (.int .i64 ((min p.l 6 : Nat) : Int))) none H = some (.val (.slice p.a (min p.l 6) p.c) H) := by
    rcases hp with ⟨ea, el, ec⟩ | ⟨b, o, ea, hc, _⟩ | ⟨b, ea, h0, hc, _⟩
    · rw [ea, el, ec]; intro H; exact slS_0 _ _ _
    · rw [ea]; intro H; exact slS_s _ _ _ _ _ _ _ (by omega) H
    · rw [ea, hc]; intro H; exact slS_r _ _ _ _ _ (by omega) h0 H
  simp only [t1, t2, t4, hi, hbx, hle, h5, sl, min_nat6, sS, go_sem, bin_add, bin_sub, bin_mul, Nat.reduceAdd, Nat.reduceMul, Nat.reduceEqDiff, Nat.reduceLeDiff, Nat.reduceLT, Nat.reduceSub, reduceIte, reduceCtorEq, Int.reduceToNat, Int.reduceNeg, Int.reduceLE, Int.reduceLT, Int.reduceEq, Nat.reduceOr, Nat.reduceShiftRight, Nat.reduceMod, Nat.reduceBNe, Nat.reduceBEq]
  have hm6 : (p.vs.take 6) = p.vs.take (min p.l 6) := by rw [List.take_eq_take_iff]; omega
  have hfl : ∀ vs : List V4, (vs.flatMap V4.cs).all flat = true := by
    intro vs
    rw [List.all_eq_true]
    intro x hx
    obtain ⟨v, _, hv⟩ := List.mem_flatMap.1 hx
    simp only [V4.cs, List.mem_cons, List.not_mem_nil, or_false] at hv
    rcases hv with rfl | rfl | rfl | rfl <;> rfl
  have hml : (p.vs.take (min p.l 6)).length = min p.l 6 := by rw [List.length_take]; omega
  have src : ∀ L, aSource (ext H L) 4 (.slice p.a (min p.l 6) p.c) none = some (min p.l 6, (p.vs.take (min p.l 6)).flatMap V4.cs) := by
    intro L
    rcases hp with ⟨ea, el, ec⟩ | ⟨b, o, ea, hc, hb, h0⟩ | ⟨b, ea, _, hc, hb, h0⟩
    · rw [ea, el]; rfl
    rotate_left
    · rw [ea]
      rw [ea] at hvec
      refine aSource_r _ _ _ _ _ _ _ ?_
      rw [rd_old _ _ _ _ _ hb]
      exact vec_take hvec h0 _ (by omega)
    · rw [ea]
      rw [ea] at hvec
      refine aSource_s _ _ _ _ _ _ _ ?_
      rw [rd_old _ _ _ _ _ hb]
      exact vec_take hvec h0 _ (by omega)
  generalize hmm : min p.l 6 = m at *
  cases m with
  | zero =>
    rw [app_0 _ _ _ _ _ _ _ _ _ (src _) (Nat.le_refl _)]
    simp only [hlo, t1, t2, t4, hi, hbx, hle, h5, sl, sS, go_sem, bin_add, bin_sub, bin_mul, Nat.reduceAdd, Nat.reduceMul, Nat.reduceEqDiff, Nat.reduceLeDiff, Nat.reduceLT, Nat.reduceSub, reduceIte, reduceCtorEq, Int.reduceToNat, Int.reduceNeg, Int.reduceLE, Int.reduceLT, Int.reduceEq, Nat.reduceOr, Nat.reduceShiftRight, Nat.reduceMod, Nat.reduceBNe, Nat.reduceBEq]
    refine hQ _ [some (.cells [] 0 0)] ⟨p.x, p.y, p.z, p.w, p.s, some ⟨H.nx + (G.length + 1 + 1), 0, none⟩, 0, 0, sl_s _ _, p.vs.take 6⟩ ⟨rfl, rfl, rfl, rfl, rfl, rfl, ?_, ?_, ⟨_, _, rfl, by omega⟩, ?_⟩ ?_ ?_ ?_
    · rw [hm6]; rfl
    · rw [hm6]; intro u v G' k w hk; simp at hk
    · intro u v G'
      refine .inr (.inl ⟨_, 0, rfl, Nat.le_refl _, ?_, ?_⟩)
      · rw [ext_nx]; simp only [List.length_cons, List.length_append]; omega
      · rw [rd_new]
        simp only [List.append_assoc, go_sem, bin_add, bin_sub, bin_mul, Nat.reduceAdd, Nat.reduceMul, Nat.reduceEqDiff, Nat.reduceLeDiff, Nat.reduceLT, Nat.reduceSub, reduceIte, reduceCtorEq, Int.reduceToNat, Int.reduceNeg, Int.reduceLE, Int.reduceLT, Int.reduceEq, Nat.reduceOr, Nat.reduceShiftRight, Nat.reduceMod, Nat.reduceBNe, Nat.reduceBEq]
    · simp only [t1, go_sem, bin_add, bin_sub, bin_mul, Nat.reduceAdd, Nat.reduceMul, Nat.reduceEqDiff, Nat.reduceLeDiff, Nat.reduceLT, Nat.reduceSub, reduceIte, reduceCtorEq, Int.reduceToNat, Int.reduceNeg, Int.reduceLE, Int.reduceLT, Int.reduceEq, Nat.reduceOr, Nat.reduceShiftRight, Nat.reduceMod, Nat.reduceBNe, Nat.reduceBEq]
    · simp only [t2, go_sem, bin_add, bin_sub, bin_mul, Nat.reduceAdd, Nat.reduceMul, Nat.reduceEqDiff, Nat.reduceLeDiff, Nat.reduceLT, Nat.reduceSub, reduceIte, reduceCtorEq, Int.reduceToNat, Int.reduceNeg, Int.reduceLE, Int.reduceLT, Int.reduceEq, Nat.reduceOr, Nat.reduceShiftRight, Nat.reduceMod, Nat.reduceBNe, Nat.reduceBEq]
    · simp only [go_sem, bin_add, bin_sub, bin_mul, Nat.reduceAdd, Nat.reduceMul, Nat.reduceEqDiff, Nat.reduceLeDiff, Nat.reduceLT, Nat.reduceSub, reduceIte, reduceCtorEq, Int.reduceToNat, Int.reduceNeg, Int.reduceLE, Int.reduceLT, Int.reduceEq, Nat.reduceOr, Nat.reduceShiftRight, Nat.reduceMod, Nat.reduceBNe, Nat.reduceBEq]
      rw [w1 (by omega)]
  | succ m =>
    rw [app_s _ _ _ _ _ _ _ [] _ m _ (src _) (by omega) (by simp only [go_sem, bin_add, bin_sub, bin_mul, Nat.reduceAdd, Nat.reduceMul, Nat.reduceEqDiff, Nat.reduceLeDiff, Nat.reduceLT, Nat.reduceSub, reduceIte, reduceCtorEq, Int.reduceToNat, Int.reduceNeg, Int.reduceLE, Int.reduceLT, Int.reduceEq, Nat.reduceOr, Nat.reduceShiftRight, Nat.reduceMod, Nat.reduceBNe, Nat.reduceBEq]) (room_of (by omega) (by omega)) (hfl _)]
    simp only [hlo, t1, t2, t4, hi, hbx, hle, h5, sl, sS, go_sem, bin_add, bin_sub, bin_mul, Nat.reduceAdd, Nat.reduceMul, Nat.reduceEqDiff, Nat.reduceLeDiff, Nat.reduceLT, Nat.reduceSub, reduceIte, reduceCtorEq, Int.reduceToNat, Int.reduceNeg, Int.reduceLE, Int.reduceLT, Int.reduceEq, Nat.reduceOr, Nat.reduceShiftRight, Nat.reduceMod, Nat.reduceBNe, Nat.reduceBEq]
    refine hQ _ [some (.cells [] 0 0), some (.cells ((p.vs.take (m + 1)).flatMap V4.cs) 1 4)] ⟨p.x, p.y, p.z, p.w, p.s, some ⟨H.nx + (G.length + 1 + 1 + 1), 0, some 0⟩, m + 1, m + 1, sl_r _ _, p.vs.take 6⟩ ⟨rfl, rfl, rfl, rfl, rfl, rfl, ?_, ?_, ⟨_, _, rfl, by omega⟩, ?_⟩ ?_ ?_ ?_
    · rw [hm6]; exact hml.symm
    · rw [hm6]; intro u v G'
      refine vec_new (.inr rfl) (k := 1) (z := 4) ?_ ?_
      · rw [ext_get_new]
        simp only [List.append_assoc, go_sem, bin_add, bin_sub, bin_mul, Nat.reduceAdd, Nat.reduceMul, Nat.reduceEqDiff, Nat.reduceLeDiff, Nat.reduceLT, Nat.reduceSub, reduceIte, reduceCtorEq, Int.reduceToNat, Int.reduceNeg, Int.reduceLE, Int.reduceLT, Int.reduceEq, Nat.reduceOr, Nat.reduceShiftRight, Nat.reduceMod, Nat.reduceBNe, Nat.reduceBEq]
      · rw [ext_nx]; simp only [List.length_cons, List.length_append]; omega
    · intro u v G'
      refine .inr (.inr ⟨_, rfl, Nat.succ_pos m, rfl, ?_, ?_⟩)
      · rw [ext_nx]; simp only [List.length_cons, List.length_append]; omega
      · rw [rd_new]
        simp only [List.append_assoc, go_sem, bin_add, bin_sub, bin_mul, Nat.reduceAdd, Nat.reduceMul, Nat.reduceEqDiff, Nat.reduceLeDiff, Nat.reduceLT, Nat.reduceSub, reduceIte, reduceCtorEq, Int.reduceToNat, Int.reduceNeg, Int.reduceLE, Int.reduceLT, Int.reduceEq, Nat.reduceOr, Nat.reduceShiftRight, Nat.reduceMod, Nat.reduceBNe, Nat.reduceBEq]
    · simp only [t1, go_sem, bin_add, bin_sub, bin_mul, Nat.reduceAdd, Nat.reduceMul, Nat.reduceEqDiff, Nat.reduceLeDiff, Nat.reduceLT, Nat.reduceSub, reduceIte, reduceCtorEq, Int.reduceToNat, Int.reduceNeg, Int.reduceLE, Int.reduceLT, Int.reduceEq, Nat.reduceOr, Nat.reduceShiftRight, Nat.reduceMod, Nat.reduceBNe, Nat.reduceBEq]
    · simp only [t2, go_sem, bin_add, bin_sub, bin_mul, Nat.reduceAdd, Nat.reduceMul, Nat.reduceEqDiff, Nat.reduceLeDiff, Nat.reduceLT, Nat.reduceSub, reduceIte, reduceCtorEq, Int.reduceToNat, Int.reduceNeg, Int.reduceLE, Int.reduceLT, Int.reduceEq, Nat.reduceOr, Nat.reduceShiftRight, Nat.reduceMod, Nat.reduceBNe, Nat.reduceBEq]
    · simp only [go_sem, bin_add, bin_sub, bin_mul, Nat.reduceAdd, Nat.reduceMul, Nat.reduceEqDiff, Nat.reduceLeDiff, Nat.reduceLT, Nat.reduceSub, reduceIte, reduceCtorEq, Int.reduceToNat, Int.reduceNeg, Int.reduceLE, Int.reduceLT, Int.reduceEq, Nat.reduceOr, Nat.reduceShiftRight, Nat.reduceMod, Nat.reduceBNe, Nat.reduceBEq]
      rw [w1 (by omega)]
end
end Go.AX.Tri
/- Contracts: three corners in memory of their own (3). -/
namespace Go.AX.Tri
open Go.Proofs Go.AX.Mc
set_option linter.unusedSimpArgs false
set_option linter.unusedVariables false
noncomputable section

def tri18 (a b c : Wn) : List Value := [.int .i64 a.x, .int .i64 a.y, .int .i32 a.z, .int .i32 a.w, .int .i32 a.s, .slice a.a a.l a.c, .int .i64 b.x, .int .i64 b.y, .int .i32 b.z, .int .i32 b.w, .int .i32 b.s, .slice b.a b.l b.c,
  .int .i64 c.x, .int .i64 c.y, .int .i32 c.z, .int .i32 c.w, .int .i32 c.s, .slice c.a c.l c.c]

theorem rd_ext_now (H : AH) (L : List (Option AB)) (b o n : Nat) : rd (ext H.now L) b o n = rd (ext H L) b o n := by
  rw [show ext H.now L = ⟨(ext H L).bl, (ext H L).nx, H.nx⟩ from (ext_mk H L H.nx).symm]; rfl

/-- a copy of at most six vectors, in a heap. -/
structure Cq (N : Nat) (h : AH) (p p' : Wn) : Prop where
  x : p'.x = p.x
  y : p'.y = p.y
  z : p'.z = p.z
  w : p'.w = p.w
  s : p'.s = p.s
  vs : p'.vs = p.vs.take 6
  len : p'.l = p'.vs.length
  vec : VecAt h p'.a p'.vs
  own : ∃ b r, p'.a = some ⟨b, 0, r⟩ ∧ N ≤ b
  pl : Pl h p'
theorem Cp.cq {H : AH} {G : List (Option AB)} {p p' : Wn} (h : Cp H.now G p p') (u v : Option AB) : Cq H.nx (ext H (u :: v :: G)) p p' :=
  ⟨h.x, h.y, h.z, h.w, h.s, h.vs, h.len, by
    have := h.vec u v []
    rw [List.append_nil] at this
    exact this.mono (by rw [ext_nx, ext_nx]; exact Nat.le_refl _) fun b _ o n => (rd_ext_now _ _ _ _ _).symm, h.own, by
    have := h.pl u v []
    rw [List.append_nil] at this
    rcases this with this | ⟨b, o, k1, k2, k3, k4⟩ | ⟨b, k1, k2, k3, k4, k5⟩
    · exact .inl this
    · exact .inr (.inl ⟨b, o, k1, k2, by rw [ext_nx] at k3 ⊢; exact k3, by rw [← rd_ext_now]; exact k4⟩)
    · exact .inr (.inr ⟨b, k1, k2, k3, by rw [ext_nx] at k4 ⊢; exact k4, by rw [← rd_ext_now]; exact k5⟩)⟩
theorem Pl.now {h : AH} {p : Wn} (hp : Pl h p) : Pl h.now p := hp
theorem clo_sl (d : Nat) (a : Addr) (l c : Nat) : clo d (.slice (some a) l c) = false := by cases d <;> rfl

theorem c19 {env : List Lp} (a b c : Wn) {H : AH} (hlo : H.lo ≤ H.nx) (pa' : Pl H a) (pb : Pl H b) (pc : Pl H c) (ha : WnAt H a) (hb : WnAt H b) (hc : WnAt H c) (Q : AEnd → AH → Prop)
    (hQ : ∀ a' b' c' L, Cq H.nx (ext H L) a a' → Cq H.nx (ext H L) b b' → Cq H.nx (ext H L) c c' → Q (.ret (.agg (tri18 a' b' c').toArray)) (ext H L)) :
    C T env 19 [.agg (tri18 a b c).toArray] H Q := by
  rw [C_fn T19 rfl]
  have hn := fun {p : Wn} (h : WnAt H p) => h.vec.mono (h' := H.now) (Nat.le_refl _) fun _ _ _ _ => rfl
  simp only [a19, tri18, go_sem, bin_add, bin_sub, bin_mul, Nat.reduceAdd, Nat.reduceMul, Nat.reduceEqDiff, Nat.reduceLeDiff, Nat.reduceLT, Nat.reduceSub, reduceIte, reduceCtorEq, Int.reduceToNat, Int.reduceNeg, Int.reduceLE, Int.reduceLT, Int.reduceEq, Nat.reduceOr, Nat.reduceShiftRight, Nat.reduceMod, Nat.reduceBNe, Nat.reduceBEq]
  refine step19 (H := H.now) (Nat.le_refl _) 0 (by omega) _ rfl a rfl pa'.now ha.len (hn ha) _ [] _ (by simp only [go_sem, bin_add, bin_sub, bin_mul, Nat.reduceAdd, Nat.reduceMul, Nat.reduceEqDiff, Nat.reduceLeDiff, Nat.reduceLT, Nat.reduceSub, reduceIte, reduceCtorEq, Int.reduceToNat, Int.reduceNeg, Int.reduceLE, Int.reduceLT, Int.reduceEq, Nat.reduceOr, Nat.reduceShiftRight, Nat.reduceMod, Nat.reduceBNe, Nat.reduceBEq]) (by simp only [go_sem, bin_add, bin_sub, bin_mul, Nat.reduceAdd, Nat.reduceMul, Nat.reduceEqDiff, Nat.reduceLeDiff, Nat.reduceLT, Nat.reduceSub, reduceIte, reduceCtorEq, Int.reduceToNat, Int.reduceNeg, Int.reduceLE, Int.reduceLT, Int.reduceEq, Nat.reduceOr, Nat.reduceShiftRight, Nat.reduceMod, Nat.reduceBNe, Nat.reduceBEq]) (by simp only [go_sem, bin_add, bin_sub, bin_mul, Nat.reduceAdd, Nat.reduceMul, Nat.reduceEqDiff, Nat.reduceLeDiff, Nat.reduceLT, Nat.reduceSub, reduceIte, reduceCtorEq, Int.reduceToNat, Int.reduceNeg, Int.reduceLE, Int.reduceLT, Int.reduceEq, Nat.reduceOr, Nat.reduceShiftRight, Nat.reduceMod, Nat.reduceBNe, Nat.reduceBEq]) ?_
  intro fr G1 a' ka t1 t2 t4
  refine step19 (H := H.now) (Nat.le_refl _) 1 (by omega) _ rfl b rfl pb.now hb.len (hn hb) _ _ fr t1 t2 t4 ?_
  clear t1 t2 t4 fr
  intro fr G2 b' kb t1 t2 t4
  refine step19 (H := H.now) (Nat.le_refl _) 2 (by omega) _ rfl c rfl pc.now hc.len (hn hc) _ _ fr t1 t2 t4 ?_
  clear t1 t2 t4 fr
  intro fr G3 c' kc t1 t2 t4
  rw [X_loop]
  change X _ _ _ (.seq _ _) _ _ _ _ _
  simp only [t1, t2, t4, show ¬ (((2 + 1 : Nat) : Int) < 3) by omega, go_sem, bin_add, bin_sub, bin_mul, Nat.reduceAdd, Nat.reduceMul, Nat.reduceEqDiff, Nat.reduceLeDiff, Nat.reduceLT, Nat.reduceSub, reduceIte, reduceCtorEq, Int.reduceToNat, Int.reduceNeg, Int.reduceLE, Int.reduceLT, Int.reduceEq, Nat.reduceOr, Nat.reduceShiftRight, Nat.reduceMod, Nat.reduceBNe, Nat.reduceBEq]
  obtain ⟨ba, ra, ea, _⟩ := ka.own
  rw [trim_keep H _ _ (by rw [clo_agg5, ea]; simp only [List.all_cons, clo_sl, Bool.false_and, Bool.and_false]) hlo]
  have := fun u v => hQ a' b' c' _ (((ka.more G2).more G3).cq u v) ((kb.more G3).cq u v) (kc.cq u v)
  simp only [tri18, ka.x, ka.y, ka.z, ka.w, ka.s, kb.x, kb.y, kb.z, kb.w, kb.s, kc.x, kc.y, kc.z, kc.w, kc.s, List.nil_append, List.append_assoc] at this
  exact this _ _
end
end Go.AX.Tri
/- Plain law: which corner is the first is no matter; the other side is seen if two change places. -/
namespace Go.AX.Tri
open Go.Proofs Go.AX.Mc
set_option linter.unusedSimpArgs false
set_option linter.unusedVariables false
noncomputable section

def fillE (a b c : Wn) (px py pw ph : Int) : Int := bif badL [a, b, c] then 320 else bif boxF px py pw ph then 0 else 2
def fillL (a b c : Wn) (px py pw ph : Int) : List Fg := bif badL [a, b, c] then [] else bif boxF px py pw ph then fragsF (turnF a b c) px.toNat py.toNat pw.toNat ph.toNat else []

theorem bad3' {a b c : Wn} (ha : OkW a) (hb : OkW b) (hc : OkW c) (h1 : b.l = a.l) (h2 : c.l = a.l) : badL [a, b, c] = false := by
  have k : ∀ p, OkW p → p.l = a.l → badW a.l p = false := by
    intro p hp hl
    obtain ⟨x0, x1, y0, y1, w0, l4⟩ := hp
    simp only [badW, Bool.or_eq_false_iff, decide_eq_false_iff_not, Bool.not_eq_false', decide_eq_true_eq]
    omega
  simp only [badL, List.any_cons, List.any_nil, k a ha rfl, k b hb h1, k c hc h2, Bool.or_false]
theorem bad_perm {a b c a' b' c' : Wn} (h : badL [a, b, c] = false → badL [a', b', c'] = false) (k : badL [a', b', c'] = false → badL [a, b, c] = false) : badL [a', b', c'] = badL [a, b, c] := by
  cases e : badL [a, b, c]
  · exact h e
  · cases e' : badL [a', b', c']
    · rw [k e'] at e; cases e
    · rfl
theorem bad_rot (a b c : Wn) : badL [b, c, a] = badL [a, b, c] := by
  refine bad_perm (fun h => ?_) fun h => ?_
  · obtain ⟨h1, h2, h3, h4, h5⟩ := bad3 h
    exact bad3' h2 h3 h1 (by omega) (by omega)
  · obtain ⟨h1, h2, h3, h4, h5⟩ := bad3 h
    exact bad3' h3 h1 h2 (by omega) (by omega)
theorem bad_swap (a b c : Wn) : badL [b, a, c] = badL [a, b, c] := by
  refine bad_perm (fun h => ?_) fun h => ?_
  · obtain ⟨h1, h2, h3, h4, h5⟩ := bad3 h
    exact bad3' h2 h1 h3 (by omega) (by omega)
  · obtain ⟨h1, h2, h3, h4, h5⟩ := bad3 h
    exact bad3' h2 h1 h3 (by omega) (by omega)

/-- is a centre covered? -/
def covF (f : Fc) (x y : Int) : Bool := decide (0 < f.area) && (inF f.b f.c (ctr x) (ctr y) && (inF f.c f.a (ctr x) (ctr y) && inF f.a f.b (ctr x) (ctr y)))
def waysF (f : Fc) (x y : Int) : Int × Int × Int := (wayF f.b f.c (ctr x) (ctr y), wayF f.c f.a (ctr x) (ctr y), wayF f.a f.b (ctr x) (ctr y))
theorem fragF_eq (f : Fc) (x y : Int) : fragF f x y = bif covF f x y then some (fgOf f x y (waysF f x y)) else none := by
  unfold fragF sidesF covF waysF
  cases decide (0 < f.area)
  · rfl
  cases inF f.b f.c (ctr x) (ctr y)
  · rfl
  cases inF f.c f.a (ctr x) (ctr y)
  · rfl
  cases inF f.a f.b (ctr x) (ctr y) <;> rfl
theorem nearF_rot (n0 n1 n2 : Nat) (l0 l1 l2 : Int) : nearF n1 n2 n0 l1 l2 l0 = nearF n0 n1 n2 l0 l1 l2 := by
  unfold nearF
  congr 1 <;> omega
theorem frag_rot (a b c : Wn) (A : Int) (fr : Bool) (hl : b.l = a.l) (x y : Int) : fragF ⟨b, c, a, A, fr⟩ x y = fragF ⟨a, b, c, A, fr⟩ x y := by
  rw [fragF_eq, fragF_eq]
  have e : covF ⟨b, c, a, A, fr⟩ x y = covF ⟨a, b, c, A, fr⟩ x y := by
    unfold covF
    cases decide (0 < A) <;> cases inF b c (ctr x) (ctr y) <;> cases inF c a (ctr x) (ctr y) <;> cases inF a b (ctr x) (ctr y) <;> rfl
  rw [e]
  congr 2
  unfold fgOf waysF nearZ nearW vsF vecF vecN
  simp only [hl]
  congr 1
  · exact nearF_rot _ _ _ _ _ _
  · exact nearF_rot _ _ _ _ _ _
  · refine List.map_congr_left fun k _ => ?_
    congr 1 <;> exact nearF_rot _ _ _ _ _ _
theorem frags_rot (a b c : Wn) (A : Int) (fr : Bool) (hl : b.l = a.l) (px py pw ph : Nat) : fragsF ⟨b, c, a, A, fr⟩ px py pw ph = fragsF ⟨a, b, c, A, fr⟩ px py pw ph := by
  unfold fragsF
  congr 1
  funext p
  exact frag_rot a b c A fr hl _ _
def Fg.flip (g : Fg) : Fg := { g with fr := !g.fr }
theorem frags_flip (a b c : Wn) (A : Int) (fr : Bool) (px py pw ph : Nat) : fragsF ⟨a, b, c, A, !fr⟩ px py pw ph = (fragsF ⟨a, b, c, A, fr⟩ px py pw ph).map Fg.flip := by
  unfold fragsF
  rw [List.map_filterMap]
  congr 1
  funext p
  rw [fragF_eq, fragF_eq]
  show (bif covF ⟨a, b, c, A, fr⟩ p.1 p.2 then _ else _) = _
  cases covF ⟨a, b, c, A, fr⟩ p.1 p.2 <;> rfl
theorem frags_none (a b c : Wn) (fr : Bool) (px py pw ph : Nat) : fragsF ⟨a, b, c, 0, fr⟩ px py pw ph = [] := by
  unfold fragsF
  rw [List.filterMap_eq_nil_iff]
  intro p _
  rw [fragF_eq]
  rfl

theorem fillE_rot (a b c : Wn) (px py pw ph : Int) : fillE b c a px py pw ph = fillE a b c px py pw ph := by unfold fillE; rw [bad_rot]
theorem fillE_swap (a b c : Wn) (px py pw ph : Int) : fillE b a c px py pw ph = fillE a b c px py pw ph := by unfold fillE; rw [bad_swap]
theorem fillL_rot (a b c : Wn) (px py pw ph : Int) : fillL b c a px py pw ph = fillL a b c px py pw ph := by
  unfold fillL
  rw [bad_rot]
  cases hbad : badL [a, b, c]
  · cases boxF px py pw ph
    · rfl
    simp only [cond_false, cond_true]
    obtain ⟨ha, hb, hc, lb, lc⟩ := bad3 hbad
    unfold turnF
    rw [wayF_eq ha hb hc.x0 hc.x1 hc.y0 hc.y1, wayF_eq hb hc ha.x0 ha.x1 ha.y0 ha.y1, area_rot]
    cases decide (wayI a b c.x c.y < 0)
    · exact frags_rot a b c _ _ lb _ _ _ _
    · simp only [cond_true]
      rw [frags_rot c b a _ _ (by omega), frags_rot a c b _ _ (by omega)]
  · rfl
theorem fillL_swap (a b c : Wn) (px py pw ph : Int) : fillL b a c px py pw ph = (fillL a b c px py pw ph).map Fg.flip := by
  unfold fillL
  rw [bad_swap]
  cases hbad : badL [a, b, c]
  · cases boxF px py pw ph
    · rfl
    simp only [cond_false, cond_true]
    obtain ⟨ha, hb, hc, lb, lc⟩ := bad3 hbad
    have bd := wayI_bd ha hb hc.x0 hc.x1 hc.y0 hc.y1
    unfold turnF
    rw [wayF_eq ha hb hc.x0 hc.x1 hc.y0 hc.y1, wayF_eq hb ha hc.x0 hc.x1 hc.y0 hc.y1, wayI_anti a b]
    generalize wayI a b c.x c.y = A at *
    rcases Int.lt_trichotomy A 0 with h | h | h
    · rw [show decide (A < 0) = true by simp; omega, show decide (-A < 0) = false by simp; omega, show decide (0 < -A) = true by simp; omega]
      simp only [cond_true, cond_false]
      rw [show w64 (-A) = -A from w64_id (by omega) (by omega)]
      rw [frags_rot c b a _ _ (by omega), frags_rot a c b _ _ (by omega)]
      exact frags_flip a c b _ false _ _ _ _
    · subst h
      exact (frags_none _ _ _ _ _ _ _ _).trans (by rw [show fragsF (bif decide ((0 : Int) < 0) then ⟨a, c, b, w64 (-0), false⟩ else ⟨a, b, c, 0, decide ((0 : Int) < 0)⟩) px.toNat py.toNat pw.toNat ph.toNat = [] from frags_none _ _ _ _ _ _ _ _]; rfl)
    · rw [show decide (A < 0) = false by simp; omega, show decide (-A < 0) = true by simp; omega, show decide (0 < A) = true by simp; omega]
      simp only [cond_true, cond_false]
      rw [show w64 (- -A) = A by rw [Int.neg_neg]; exact w64_id (by omega) (by omega)]
      rw [frags_rot a b c _ _ lb]
      exact frags_flip a b c _ true _ _ _ _
  · rfl
end
end Go.AX.Tri
