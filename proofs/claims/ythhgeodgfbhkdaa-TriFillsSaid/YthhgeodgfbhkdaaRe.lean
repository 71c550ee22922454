/- The law TriFills: the fragments' vectors are written over. -/
import Derived.Test.YthhgeodgfbhkdaaRc
set_option linter.unusedVariables false
set_option linter.unusedSimpArgs false
set_option linter.unusedSectionVars false
namespace Go.AX.Tri
open Go.Proofs Go.AX.Mc
set_option linter.unusedSimpArgs false
set_option linter.unusedVariables false
noncomputable section

/-- a header of vectors in a block of their own, whatever they are. -/
def HdW (N bG : Nat) (h : AH) (hd : Value) : Prop :=
  hd = .slice none 0 0 ∨ ∃ b n l, N ≤ b ∧ b ≠ bG ∧ b < h.nx ∧ h.get b = some (.cells l 1 4) ∧ List.length l = n * 4 ∧ n < 1000 ∧ hd = .slice (some ⟨b, 0, some 0⟩) n n
structure IW (N M bG n : Nat) (hds : Nat → Value) (h0 h : AH) : Prop where
  nx : h.nx = h0.nx
  lo : M ≤ h.lo
  le : h.lo ≤ h.nx
  old : ∀ b, b < N → h.get b = h0.get b
  g : h.get bG = h0.get bG
  hd : ∀ i, i < n → HdW N bG h (hds i)

theorem IW.set {N M bG n : Nat} {hds : Nat → Value} {h0 h : AH} (I : IW N M bG n hds h0 h) (hM : M ≤ N) {b : Nat} {l l' : List Value} (hb : N ≤ b) (hG : b ≠ bG) (hn : b < h.nx) (hg : h.get b = some (.cells l 1 4)) (hl : l'.length = l.length) :
    IW N M bG n hds h0 (AH.set h b (.cells l' 1 4)) := by
  obtain ⟨i1, i2, i3, i4, i5, i6⟩ := I
  refine ⟨by rw [AH.nx_set]; exact i1, ?_, ?_, ?_, ?_, ?_⟩
  · show M ≤ min h.lo b; omega
  · rw [AH.nx_set]; show min h.lo b ≤ _; omega
  · intro z hz; rw [AH.get_set_ne _ _ _ (by omega)]; exact i4 z hz
  · rw [AH.get_set_ne _ _ _ (fun e => hG e.symm)]; exact i5
  · intro i hi
    rcases i6 i hi with e | ⟨b', k, m, k1, k2, k3, k4, k5, k6, k7⟩
    · exact .inl e
    · by_cases e : b' = b
      · subst e
        rw [hg] at k4
        simp only [Option.some.injEq, AB.cells.injEq, and_true] at k4
        subst k4
        exact .inr ⟨b', k, l', k1, k2, by rw [AH.nx_set]; exact k3, AH.get_set_same _ _ _, by rw [hl]; exact k5, k6, k7⟩
      · exact .inr ⟨b', k, m, k1, k2, by rw [AH.nx_set]; exact k3, by rw [AH.get_set_ne _ _ _ e]; exact k4, k5, k6, k7⟩

theorem wr_in {env : List Lp} {K : List KF} {Q : QF} {x2 x3 x5 x6 x7 : Value} {N M bG len i b n : Nat} {hds : Nat → Value} {h0 : AH} (hM : M ≤ N) (hi : i < len) (hG : bG < h0.nx) (hx6 : x6 = .slice (some ⟨bG, 0, some 0⟩) len len)
    (hr : rd h0 bG (i * 10 + 9) 1 = some [hds i]) (hh : hds i = .slice (some ⟨b, 0, some 0⟩) n n) (hn : n < 1000)
    (q2 : ∀ fr h, IW N M bG len hds h0 h → Fr8 x2 x3 x5 x6 x7 fr → tmp fr (pa 143) = .int .i64 (len : Int) → tmp fr (pa 144) = .int .i64 (i : Int) → Kt T env false K .normal fr [] (ext h []) Q) :
    ∀ (m k : Nat), k + m = n → ∀ fr h, IW N M bG len hds h0 h → Fr8 x2 x3 x5 x6 x7 fr → tmp fr (pa 11) = .int .i64 (i : Int) → tmp fr (pa 143) = .int .i64 (len : Int) → tmp fr (pa 144) = .int .i64 (i : Int) → tmp fr (pa 152) = .int .i64 (n : Int) → tmp fr (pa 153) = .int .i64 (k : Int) →
      X T env false (.loop a8l2) (.blk 7 :: K) fr [] (ext h []) Q := by
  intro m
  induction m with
  | zero =>
    intro k hk fr h I F t11 t143 t144 tl tk
    have hk' : k = n := hk
    subst hk'
    obtain ⟨t2, t3, t5, t6, t7⟩ := F
    rw [X_loop]
    change X _ _ _ (.seq _ _) _ _ _ _ _
    simp only [tl, tk, Int.lt_irrefl, decide_false, go_sem, bin_add, bin_sub, bin_mul, Nat.reduceAdd, Nat.reduceMul, Nat.reduceEqDiff, Nat.reduceLeDiff, Nat.reduceLT, Nat.reduceSub, reduceIte, reduceCtorEq, Int.reduceToNat, Int.reduceNeg, Int.reduceLE, Int.reduceLT, Int.reduceEq, Nat.reduceOr, Nat.reduceShiftRight, Nat.reduceMod, Nat.reduceBNe, Nat.reduceBEq]
    refine q2 _ h I ⟨?_, ?_, ?_, ?_, ?_⟩ ?_ ?_
    all_goals simp only [t2, t3, t5, t6, t7, t143, t144, go_sem, bin_add, bin_sub, bin_mul, Nat.reduceAdd, Nat.reduceMul, Nat.reduceEqDiff, Nat.reduceLeDiff, Nat.reduceLT, Nat.reduceSub, reduceIte, reduceCtorEq, Int.reduceToNat, Int.reduceNeg, Int.reduceLE, Int.reduceLT, Int.reduceEq, Nat.reduceOr, Nat.reduceShiftRight, Nat.reduceMod, Nat.reduceBNe, Nat.reduceBEq]
  | succ m ih =>
    intro k hk fr h I F t11 t143 t144 tl tk
    have hlt : (k : Int) < (n : Int) := by omega
    have hkn : k < n := by omega
    obtain ⟨t2, t3, t5, t6, t7⟩ := F
    have I0 := I
    obtain ⟨i1, i2, i3, i4, i5, i6⟩ := I
    have nG : bG < h.nx := by omega
    have r1 : rd h bG (i * 10 + 9) 1 = some [.slice (some ⟨b, 0, some 0⟩) n n] := by rw [rd_rdB, i5, ← rd_rdB, hr, hh]
    have hk3 : k < 1000 := Nat.lt_trans hkn hn
    rcases i6 i hi with e | ⟨b', k', l, k1, k2, k3, k4, k5, k6, k7⟩
    · rw [hh] at e; simp at e
    rw [hh] at k7
    simp only [Value.slice.injEq, Option.some.injEq, Addr.mk.injEq, and_true] at k7
    obtain ⟨rfl, rfl, _⟩ := k7
    have hle : k * 4 + 4 ≤ l.length := by omega
    have hll : (List.take (k * 4) l ++ Value.int .i32 9 :: .int .i32 0 :: .int .i32 0 :: .int .i32 0 :: List.drop (k * 4 + 4) l).length = l.length := by
      simp only [List.length_append, List.length_cons, List.length_take, List.length_drop]; omega
    have wn := w1 (i := k) (Nat.lt_trans hk3 (by decide))
    rw [X_loop]
    change X _ _ _ (.seq _ _) _ _ _ _ _
    simp only [t6, hx6, t11, tl, tk, hlt, hi, hkn, idxS_r, nG, r1, k3, k4, hle, wn, go_sem, bin_add, bin_sub, bin_mul, Nat.reduceAdd, Nat.reduceMul, Nat.reduceEqDiff, Nat.reduceLeDiff, Nat.reduceLT, Nat.reduceSub, reduceIte, reduceCtorEq, Int.reduceToNat, Int.reduceNeg, Int.reduceLE, Int.reduceLT, Int.reduceEq, Nat.reduceOr, Nat.reduceShiftRight, Nat.reduceMod, Nat.reduceBNe, Nat.reduceBEq]
    refine ih (k + 1) (by omega) _ _ (I0.set hM k1 k2 k3 k4 hll) ⟨?_, ?_, ?_, ?_, ?_⟩ ?_ ?_ ?_ ?_ ?_
    all_goals simp only [t2, t3, t5, t6, t7, hx6, t11, t143, t144, tl, go_sem, bin_add, bin_sub, bin_mul, Nat.reduceAdd, Nat.reduceMul, Nat.reduceEqDiff, Nat.reduceLeDiff, Nat.reduceLT, Nat.reduceSub, reduceIte, reduceCtorEq, Int.reduceToNat, Int.reduceNeg, Int.reduceLE, Int.reduceLT, Int.reduceEq, Nat.reduceOr, Nat.reduceShiftRight, Nat.reduceMod, Nat.reduceBNe, Nat.reduceBEq]

theorem wr_st {env : List Lp} {K : List KF} {Q : QF} {x2 x3 x5 x6 x7 : Value} {N M bG len : Nat} {hds : Nat → Value} {h0 : AH} (hM : M ≤ N) (hG : bG < h0.nx) (hlen : len < 10000) (hx6 : x6 = .slice (some ⟨bG, 0, some 0⟩) len len)
    (hr : ∀ i, i < len → rd h0 bG (i * 10 + 9) 1 = some [hds i])
    (q2 : ∀ fr h, IW N M bG len hds h0 h → Fr8 x2 x3 x5 x6 x7 fr → Kt T env false K .normal fr [] (ext h []) Q) :
    ∀ (m i : Nat), i + m = len → ∀ fr h, IW N M bG len hds h0 h → Fr8 x2 x3 x5 x6 x7 fr → tmp fr (pa 143) = .int .i64 (len : Int) → tmp fr (pa 144) = .int .i64 (i : Int) →
      X T env false (.loop a8l3) (.blk 5 :: K) fr [] (ext h []) Q := by
  intro m
  induction m with
  | zero =>
    intro i hi fr h I F t143 t144
    have hi' : i = len := hi
    subst hi'
    obtain ⟨t2, t3, t5, t6, t7⟩ := F
    rw [X_loop]
    change X _ _ _ (.seq _ _) _ _ _ _ _
    simp only [t143, t144, Int.lt_irrefl, decide_false, go_sem, bin_add, bin_sub, bin_mul, Nat.reduceAdd, Nat.reduceMul, Nat.reduceEqDiff, Nat.reduceLeDiff, Nat.reduceLT, Nat.reduceSub, reduceIte, reduceCtorEq, Int.reduceToNat, Int.reduceNeg, Int.reduceLE, Int.reduceLT, Int.reduceEq, Nat.reduceOr, Nat.reduceShiftRight, Nat.reduceMod, Nat.reduceBNe, Nat.reduceBEq]
    refine q2 _ h I ⟨?_, ?_, ?_, ?_, ?_⟩
    all_goals simp only [t2, t3, t5, t6, t7, go_sem, bin_add, bin_sub, bin_mul, Nat.reduceAdd, Nat.reduceMul, Nat.reduceEqDiff, Nat.reduceLeDiff, Nat.reduceLT, Nat.reduceSub, reduceIte, reduceCtorEq, Int.reduceToNat, Int.reduceNeg, Int.reduceLE, Int.reduceLT, Int.reduceEq, Nat.reduceOr, Nat.reduceShiftRight, Nat.reduceMod, Nat.reduceBNe, Nat.reduceBEq]
  | succ m ih =>
    intro i hi fr h I F t143 t144
    have hlt : (i : Int) < (len : Int) := by omega
    have hil : i < len := by omega
    have F0 := F
    obtain ⟨t2, t3, t5, t6, t7⟩ := F
    have nG : bG < h.nx := by rw [I.nx]; exact hG
    have r1 : rd h bG (i * 10 + 9) 1 = some [hds i] := by rw [rd_rdB, I.g, ← rd_rdB, hr i hil]
    have hi3 : i < 10000 := Nat.lt_trans hil hlen
    have wn := w1 (i := i) (Nat.lt_trans hi3 (by decide))
    have I0 := I
    rcases I.hd i hil with e | ⟨b, n, l, k1, k2, k3, k4, k5, k6, k7⟩
    · rw [e] at r1
      rw [X_loop]
      change X _ _ _ (.seq _ _) _ _ _ _ _
      simp only [t6, hx6, t143, t144, hlt, hil, idxS_r, nG, r1, go_sem, bin_add, bin_sub, bin_mul, Nat.reduceAdd, Nat.reduceMul, Nat.reduceEqDiff, Nat.reduceLeDiff, Nat.reduceLT, Nat.reduceSub, reduceIte, reduceCtorEq, Int.reduceToNat, Int.reduceNeg, Int.reduceLE, Int.reduceLT, Int.reduceEq, Nat.reduceOr, Nat.reduceShiftRight, Nat.reduceMod, Nat.reduceBNe, Nat.reduceBEq]
      rw [X_loop]
      change X _ _ _ (.seq _ _) _ _ _ _ _
      simp only [t144, wn, go_sem, bin_add, bin_sub, bin_mul, Nat.reduceAdd, Nat.reduceMul, Nat.reduceEqDiff, Nat.reduceLeDiff, Nat.reduceLT, Nat.reduceSub, reduceIte, reduceCtorEq, Int.reduceToNat, Int.reduceNeg, Int.reduceLE, Int.reduceLT, Int.reduceEq, Nat.reduceOr, Nat.reduceShiftRight, Nat.reduceMod, Nat.reduceBNe, Nat.reduceBEq]
      refine ih (i + 1) (by omega) _ h I0 ⟨?_, ?_, ?_, ?_, ?_⟩ ?_ ?_
      all_goals simp only [t2, t3, t5, t6, t7, hx6, t143, go_sem, bin_add, bin_sub, bin_mul, Nat.reduceAdd, Nat.reduceMul, Nat.reduceEqDiff, Nat.reduceLeDiff, Nat.reduceLT, Nat.reduceSub, reduceIte, reduceCtorEq, Int.reduceToNat, Int.reduceNeg, Int.reduceLE, Int.reduceLT, Int.reduceEq, Nat.reduceOr, Nat.reduceShiftRight, Nat.reduceMod, Nat.reduceBNe, Nat.reduceBEq]
    · rw [k7] at r1
      rw [X_loop]
      change X _ _ _ (.seq _ _) _ _ _ _ _
      simp only [t6, hx6, t143, t144, hlt, hil, idxS_r, nG, r1, go_sem, bin_add, bin_sub, bin_mul, Nat.reduceAdd, Nat.reduceMul, Nat.reduceEqDiff, Nat.reduceLeDiff, Nat.reduceLT, Nat.reduceSub, reduceIte, reduceCtorEq, Int.reduceToNat, Int.reduceNeg, Int.reduceLE, Int.reduceLT, Int.reduceEq, Nat.reduceOr, Nat.reduceShiftRight, Nat.reduceMod, Nat.reduceBNe, Nat.reduceBEq]
      refine wr_in (x2 := x2) (x3 := x3) (x5 := x5) (x6 := x6) (x7 := x7) hM hil hG hx6 (hr i hil) k7 k6 ?_ n 0 (Nat.zero_add _) _ h I0 ⟨?_, ?_, ?_, ?_, ?_⟩ ?_ ?_ ?_ ?_ ?_
      · intro fr' h' I' F' t143' t144'
        obtain ⟨t2', t3', t5', t6', t7'⟩ := F'
        simp only [t144', wn, go_sem, bin_add, bin_sub, bin_mul, Nat.reduceAdd, Nat.reduceMul, Nat.reduceEqDiff, Nat.reduceLeDiff, Nat.reduceLT, Nat.reduceSub, reduceIte, reduceCtorEq, Int.reduceToNat, Int.reduceNeg, Int.reduceLE, Int.reduceLT, Int.reduceEq, Nat.reduceOr, Nat.reduceShiftRight, Nat.reduceMod, Nat.reduceBNe, Nat.reduceBEq]
        refine ih (i + 1) (by omega) _ h' I' ⟨?_, ?_, ?_, ?_, ?_⟩ ?_ ?_
        all_goals simp only [t2', t3', t5', t6', t7', t143', go_sem, bin_add, bin_sub, bin_mul, Nat.reduceAdd, Nat.reduceMul, Nat.reduceEqDiff, Nat.reduceLeDiff, Nat.reduceLT, Nat.reduceSub, reduceIte, reduceCtorEq, Int.reduceToNat, Int.reduceNeg, Int.reduceLE, Int.reduceLT, Int.reduceEq, Nat.reduceOr, Nat.reduceShiftRight, Nat.reduceMod, Nat.reduceBNe, Nat.reduceBEq]
      all_goals simp only [t2, t3, t5, t6, t7, hx6, t143, t144, go_sem, bin_add, bin_sub, bin_mul, Nat.reduceAdd, Nat.reduceMul, Nat.reduceEqDiff, Nat.reduceLeDiff, Nat.reduceLT, Nat.reduceSub, reduceIte, reduceCtorEq, Int.reduceToNat, Int.reduceNeg, Int.reduceLE, Int.reduceLT, Int.reduceEq, Nat.reduceOr, Nat.reduceShiftRight, Nat.reduceMod, Nat.reduceBNe, Nat.reduceBEq]
      all_goals rfl
end
end Go.AX.Tri
/- Plain law: copies of corners fill what the corners fill; headers of the fragments' vectors. -/
namespace Go.AX.Tri
open Go.Proofs Go.AX.Mc
set_option linter.unusedSimpArgs false
set_option linter.unusedVariables false
noncomputable section

/-- a corner without where its vectors stand. -/
def er (p : Wn) : Wn := ⟨p.x, p.y, p.z, p.w, 0, none, p.l, 0, sl_none, p.vs⟩
theorem er_eq {p q : Wn} (hx : q.x = p.x) (hy : q.y = p.y) (hz : q.z = p.z) (hw : q.w = p.w) (hl : q.l = p.l) (hv : q.vs = p.vs) : er q = er p := by
  unfold er; rw [hx, hy, hz, hw, hl, hv]
theorem bad_er (a b c : Wn) : badL [er a, er b, er c] = badL [a, b, c] := rfl
theorem way_er (a b : Wn) (x y : Int) : wayF (er a) (er b) x y = wayF a b x y := rfl
theorem frag_er (a b c : Wn) (A : Int) (fr : Bool) (x y : Int) : fragF ⟨er a, er b, er c, A, fr⟩ x y = fragF ⟨a, b, c, A, fr⟩ x y := rfl
theorem frags_er (a b c : Wn) (A : Int) (fr : Bool) (px py pw ph : Nat) : fragsF ⟨er a, er b, er c, A, fr⟩ px py pw ph = fragsF ⟨a, b, c, A, fr⟩ px py pw ph := rfl
theorem fill_er (a b c : Wn) (px py pw ph : Int) : fillL (er a) (er b) (er c) px py pw ph = fillL a b c px py pw ph := by
  unfold fillL
  rw [bad_er]
  cases badL [a, b, c]
  · cases boxF px py pw ph
    · rfl
    · simp only [cond_false, cond_true]
      unfold turnF
      show fragsF (bif decide (wayF a b c.x c.y < 0) then ⟨er a, er c, er b, w64 (-(wayF a b c.x c.y)), false⟩ else ⟨er a, er b, er c, wayF a b c.x c.y, decide (0 < wayF a b c.x c.y)⟩) _ _ _ _ = _
      cases decide (wayF a b c.x c.y < 0)
      · exact frags_er a b c _ _ _ _ _ _
      · exact frags_er a c b _ _ _ _ _ _
  · rfl
theorem area_er (a b c : Wn) : areaF (er a) (er b) (er c) = areaF a b c := rfl

theorem Cq.er {N : Nat} {h : AH} {p p' : Wn} (k : Cq N h p p') (hl : p.l = p.vs.length) (h6 : p.l ≤ 6) : er p' = er p := by
  have e : p'.vs = p.vs := by rw [k.vs]; exact List.take_of_length_le (by omega)
  exact er_eq k.x k.y k.z k.w (by rw [k.len, e, hl]) e
theorem Cq.l6 {N : Nat} {h : AH} {p p' : Wn} (k : Cq N h p p') : p'.l ≤ 6 := by rw [k.len, k.vs, List.length_take]; omega
theorem er_vs {p q : Wn} (h : er q = er p) : q.vs = p.vs := by have := congrArg Wn.vs h; exact this

theorem Cq.boxpl {H : AH} {u v : Option AB} {L : List (Option AB)} {p p' : Wn} (k : Cq (Mc.ext H [u, v]).nx (Mc.ext (Mc.ext H [u, v]) L) p p') (u' v' : Option AB) : Pl (Mc.ext H (u' :: v' :: L)) p' := by
  obtain ⟨b', r', h5, h6⟩ := k.own
  have hn : (Mc.ext (Mc.ext H [u, v]) L).nx = (Mc.ext H (u' :: v' :: L)).nx := by rw [ext_ext, ext_nx, ext_nx]; simp
  have hr : rd (Mc.ext (Mc.ext H [u, v]) L) b' 0 0 = rd (Mc.ext H (u' :: v' :: L)) b' 0 0 := by
    rw [ext_nx] at h6
    obtain ⟨j, rfl⟩ : ∃ j, b' = H.nx + (j + 2) := ⟨b' - (H.nx + 2), by simp at h6; omega⟩
    rw [ext_ext, rd_new, rd_new]; rfl
  rcases k.pl with ⟨k1, k2, k3⟩ | ⟨b, o, k1, k2, k3, k4⟩ | ⟨b, k1, k2, k3, k4, k5⟩
  · rw [h5] at k1; cases k1
  · rw [h5] at k1; cases k1
    exact .inr (.inl ⟨b', 0, h5, k2, by rw [← hn]; exact k3, by rw [← hr]; exact k4⟩)
  · rw [h5] at k1; cases k1
    exact .inr (.inr ⟨b', h5, k2, k3, by rw [← hn]; exact k4, by rw [← hr]; exact k5⟩)

theorem fgs_hd {N : Nat} {h : AH} : ∀ {l : List Fg} {cs : List Value}, FgsAt N h l cs → ∀ i g, l[i]? = some g → ∃ hd, (cs.drop (i * 10 + 9)).take 1 = [hd] ∧ VsAt N h hd g.vs
  | [], cs, _, i, g, hi => by simp at hi
  | g' :: l, cs, ⟨c, r, e, ⟨hd, ec, hv⟩, hr⟩, i, g, hi => by
    cases i with
    | zero =>
      cases hi
      refine ⟨hd, ?_, hv⟩
      rw [e, ec]; rfl
    | succ i =>
      obtain ⟨hd', h1, h2⟩ := fgs_hd hr i g hi
      refine ⟨hd', ?_, h2⟩
      rw [e, show (i + 1) * 10 + 9 = c.length + (i * 10 + 9) by rw [ec]; simp only [frV, List.length_cons, List.length_nil]; omega, List.drop_append]
      simp only [List.drop_eq_nil_of_le (show c.length ≤ c.length + (i * 10 + 9) by omega), List.nil_append, Nat.add_sub_cancel_left]
      exact h1

theorem fl_hds {N bG : Nat} {h : AH} {l : List Fg} {cs : List Value} (hg : h.get bG = some (.cells cs 1 10)) (hf : FgsAt N h l cs) (hs : ∀ g ∈ l, g.vs.length < 1000) :
    ∃ hds : Nat → Value, ∀ i, i < l.length → rd h bG (i * 10 + 9) 1 = some [hds i] ∧ HdW N bG h (hds i) := by
  have F : ∀ i, ∃ hd, i < l.length → rd h bG (i * 10 + 9) 1 = some [hd] ∧ HdW N bG h hd := by
    intro i
    by_cases hi : i < l.length
    · obtain ⟨hd, h1, h2⟩ := fgs_hd hf i l[i] (List.getElem?_eq_getElem hi)
      refine ⟨hd, fun _ => ⟨?_, ?_⟩⟩
      · have hl := hf.length
        rw [rd_rdB, hg, rdB_cells, if_pos (by omega), h1]
      · rcases h2 with ⟨_, rfl⟩ | ⟨h0, b, b1, b2, b3, rfl⟩
        · exact .inl rfl
        · refine .inr ⟨b, _, _, b1, ?_, b2, b3, v4_length _, hs _ (List.getElem_mem hi), rfl⟩
          intro e
          rw [e, hg] at b3
          simp at b3
    · exact ⟨.bool true, fun h => absurd h hi⟩
  exact ⟨fun i => Classical.choose (F i), fun i hi => Classical.choose_spec (F i) hi⟩

/-- as before, but for blocks from N on. -/
structure W5 (N M : Nat) (h0 h : AH) : Prop where
  nx : h.nx = h0.nx
  lo : M ≤ h.lo
  le : h.lo ≤ h.nx
  old : ∀ b, b < N → h.get b = h0.get b
theorem wr_all {env : List Lp} {K : List KF} {Q : QF} {x2 x3 x5 x6 x7 : Value} {N M : Nat} {h0 : AH} {l : List Fg} (hM : M ≤ N) (hL : FL N h0 x6 l) (hs : ∀ g ∈ l, g.vs.length < 1000) (hlen : l.length < 10000) (hlo : M ≤ h0.lo) (hle : h0.lo ≤ h0.nx)
    (q2 : ∀ fr h, W5 N M h0 h → Fr8 x2 x3 x5 x6 x7 fr → Kt T env false K .normal fr [] (ext h []) Q) :
    ∀ fr, Fr8 x2 x3 x5 x6 x7 fr → tmp fr (pa 143) = .int .i64 (l.length : Int) → tmp fr (pa 144) = .int .i64 0 → X T env false (.loop a8l3) (.blk 5 :: K) fr [] (ext h0 []) Q := by
  intro fr F t143 t144
  rcases hL with ⟨rfl, rfl⟩ | ⟨l0, bG, cs, b1, b2, b3, b4, rfl⟩
  · obtain ⟨t2, t3, t5, t6, t7⟩ := F
    rw [X_loop]
    change X _ _ _ (.seq _ _) _ _ _ _ _
    simp only [t143, t144, Int.lt_irrefl, decide_false, go_sem, bin_add, bin_sub, bin_mul, Nat.reduceAdd, Nat.reduceMul, Nat.reduceEqDiff, Nat.reduceLeDiff, Nat.reduceLT, Nat.reduceSub, reduceIte, reduceCtorEq, Int.reduceToNat, Int.reduceNeg, Int.reduceLE, Int.reduceLT, Int.reduceEq, Nat.reduceOr, Nat.reduceShiftRight, Nat.reduceMod, Nat.reduceBNe, Nat.reduceBEq]
    refine q2 _ h0 ⟨rfl, hlo, hle, fun _ _ => rfl⟩ ⟨?_, ?_, ?_, ?_, ?_⟩
    all_goals simp only [t2, t3, t5, t6, t7, go_sem, bin_add, bin_sub, bin_mul, Nat.reduceAdd, Nat.reduceMul, Nat.reduceEqDiff, Nat.reduceLeDiff, Nat.reduceLT, Nat.reduceSub, reduceIte, reduceCtorEq, Int.reduceToNat, Int.reduceNeg, Int.reduceLE, Int.reduceLT, Int.reduceEq, Nat.reduceOr, Nat.reduceShiftRight, Nat.reduceMod, Nat.reduceBNe, Nat.reduceBEq]
  · obtain ⟨hds, hr⟩ := fl_hds b3 b4 hs
    refine wr_st (hds := hds) (h0 := h0) hM b2 hlen rfl (fun i hi => (hr i hi).1) (fun fr h I F => q2 fr h ⟨I.nx, I.lo, I.le, I.old⟩ F) l.length 0 (Nat.zero_add _) fr h0 ⟨rfl, hlo, hle, fun _ _ => rfl, rfl, fun i hi => (hr i hi).2⟩ F t143 t144
end
end Go.AX.Tri
