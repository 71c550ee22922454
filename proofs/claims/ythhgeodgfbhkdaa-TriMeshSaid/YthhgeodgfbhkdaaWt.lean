/- Contracts: wakes. -/
import Derived.Test.YthhgeodgfbhkdaaWr
import Derived.Test.YthhgeodgfbhkdaaWa
set_option linter.unusedVariables false
set_option linter.unusedSimpArgs false
set_option linter.unusedSectionVars false
namespace Go.AX.Tri
open Go.Proofs Go.AX.Mc
set_option linter.unusedSimpArgs false
set_option linter.unusedVariables false
noncomputable section

theorem c12_1 {env : List Lp} (a : Wn) {H : AH} {L : List (Option AB)} {i : Nat} {Q : AEnd → AH → Prop} (hL : L[i]? = some (some (.cells a.cs 0 0))) (hQ : Q (.ret (.int .i64 (errF [a]))) (ext H L)) :
    C T env 12 [.slice (some ⟨H.nx + i, 0, none⟩) 1 1] (ext H L) Q := by
  have hl := (List.getElem?_eq_some_iff.1 hL).1
  rw [show (1 : Nat) = [a].length from rfl, c12 (H.nx + i) 0 _ [a] (ext H L) (by rw [ext_nx]; omega) ?_ (by simp) Q]
  · exact hQ
  · intro j w hj
    rw [rd_new, hL]
    match j, hj with
    | 0, hj => cases hj; rfl
    | j + 1, hj => simp at hj

def w0 : Wn := ⟨0, 0, 0, 0, 0, none, 0, 0, sl_none, []⟩
theorem WnAt.none (h : AH) {p : Wn} (ha : p.vs = []) (hl : p.l = 0) (z : -2147483648 ≤ p.z ∧ p.z < 2147483648) (w : -2147483648 ≤ p.w ∧ p.w < 2147483648) : WnAt h p :=
  ⟨by rw [ha, hl]; rfl, by rw [ha]; intro k v hk; simp at hk, by rw [ha]; intro v hv; simp at hv, z, w⟩

theorem c11 {env : List Lp} (H : AH) (Q : AEnd → AH → Prop) : C T env 11 [] H Q = Q (.ret (.bool true)) H := by
  refine C_det ?_ Q
  rw [C_fn T11 rfl]
  simp only [a11, go_sem, bin_add, bin_sub, bin_mul, Nat.reduceAdd, Nat.reduceMul, Nat.reduceEqDiff, Nat.reduceLeDiff, Nat.reduceLT, Nat.reduceSub, reduceIte, reduceCtorEq, Int.reduceToNat, Int.reduceNeg, Int.reduceLE, Int.reduceLT, Int.reduceEq, Nat.reduceOr, Nat.reduceShiftRight, Nat.reduceMod, Nat.reduceBNe, Nat.reduceBEq]
  have hA : wA.v = .agg [.int .i64 0, .int .i64 0, .int .i32 0, .int .i32 65536, .int .i32 0, .slice none 0 0].toArray := rfl
  have hB : wB.v = .agg [.int .i64 512, .int .i64 0, .int .i32 0, .int .i32 65536, .int .i32 0, .slice none 0 0].toArray := rfl
  have hC : wC.v = .agg [.int .i64 0, .int .i64 512, .int .i32 65536, .int .i32 65536, .int .i32 0, .slice none 0 0].toArray := rfl
  rw [← hA, ← hB, ← hC]
  refine c15 wA wB wC 0 0 64 64 (by rw [ext_lo, ext_nx]; exact Nat.le_add_right _ _) (.none _ rfl rfl (by decide) (by decide)) (.none _ rfl rfl (by decide) (by decide)) (.none _ rfl rfl (by decide) (by decide)) _ (fun h => by cases h) (fun _ h => by cases h) ?_
  intro _ _ h hd hE hL
  rw [show fragsF (turnF wA wB wC) (0 : Int).toNat (0 : Int).toNat (64 : Int).toNat (64 : Int).toNat = [gW] from wake_frags] at hL
  rcases hL with ⟨h0, _⟩ | ⟨_, b, cs, hb1, hb2, hb3, ⟨c, r, rfl, ⟨hdv, rfl, _⟩, hr⟩, rfl⟩
  · cases h0
  rw [show r = [] from hr, List.append_nil] at hb3
  have p2 : rd h b 2 1 = some [.int .i32 16384] := by rw [rd_rdB, hb3]; rfl
  have p4 : rd h b 4 1 = some [.bool true] := by rw [rd_rdB, hb3]; rfl
  have lo : H.now.lo ≤ h.nx := by have := hE.nx; rw [ext_nx] at this; exact Nat.le_trans (show H.now.lo ≤ H.now.nx from Nat.le_refl _) (by omega)
  have e1 : rd h H.now.nx 0 6 = some wA.cs := by rw [hE.rd (by rw [ext_nx]; simp only [List.length_cons, List.length_nil]; omega)]; simp only [go_sem, bin_add, bin_sub, bin_mul, Nat.reduceAdd, Nat.reduceMul, Nat.reduceEqDiff, Nat.reduceLeDiff, Nat.reduceLT, Nat.reduceSub, reduceIte, reduceCtorEq, Int.reduceToNat, Int.reduceNeg, Int.reduceLE, Int.reduceLT, Int.reduceEq, Nat.reduceOr, Nat.reduceShiftRight, Nat.reduceMod, Nat.reduceBNe, Nat.reduceBEq]; rfl
  have e2 : rd h (H.now.nx + 1) 0 6 = some wB.cs := by rw [hE.rd (by rw [ext_nx]; simp only [List.length_cons, List.length_nil]; omega)]; simp only [go_sem, bin_add, bin_sub, bin_mul, Nat.reduceAdd, Nat.reduceMul, Nat.reduceEqDiff, Nat.reduceLeDiff, Nat.reduceLT, Nat.reduceSub, reduceIte, reduceCtorEq, Int.reduceToNat, Int.reduceNeg, Int.reduceLE, Int.reduceLT, Int.reduceEq, Nat.reduceOr, Nat.reduceShiftRight, Nat.reduceMod, Nat.reduceBNe, Nat.reduceBEq]; rfl
  have e3 : rd h (H.now.nx + 2) 0 6 = some wC.cs := by rw [hE.rd (by rw [ext_nx]; simp only [List.length_cons, List.length_nil]; omega)]; simp only [go_sem, bin_add, bin_sub, bin_mul, Nat.reduceAdd, Nat.reduceMul, Nat.reduceEqDiff, Nat.reduceLeDiff, Nat.reduceLT, Nat.reduceSub, reduceIte, reduceCtorEq, Int.reduceToNat, Int.reduceNeg, Int.reduceLE, Int.reduceLT, Int.reduceEq, Nat.reduceOr, Nat.reduceShiftRight, Nat.reduceMod, Nat.reduceBNe, Nat.reduceBEq]; rfl
  have k14 := fun (h : AH) (Q : AEnd → AH → Prop) => c14 (env := env) wA wC wB h Q
  simp only [Wn.v] at k14
  have hlo : H.nx ≤ h.lo := by rw [hE.lo, ext_lo]; exact Nat.le_refl _
  have hpush : ∀ b, AH.push h b = ext h [some b] := fun _ => rfl
  simp only [hpush, show ((1 : Nat) : Int) = 1 from rfl, p2, p4, e1, e2, e3, k14, show areaF wA wC wB = -262144 from rfl, show (gW : Fg).vs = [] from rfl, Int.reduceNeg, List.length_cons, List.length_nil, go_sem, bin_add, bin_sub, bin_mul, Nat.reduceAdd, Nat.reduceMul, Nat.reduceEqDiff, Nat.reduceLeDiff, Nat.reduceLT, Nat.reduceSub, reduceIte, reduceCtorEq, Int.reduceToNat, Int.reduceNeg, Int.reduceLE, Int.reduceLT, Int.reduceEq, Nat.reduceOr, Nat.reduceShiftRight, Nat.reduceMod, Nat.reduceBNe, Nat.reduceBEq]
  refine c12_1 w0 (i := 0) (by rfl) ?_
  simp only [show errF [w0] = 320 from rfl, go_sem, bin_add, bin_sub, bin_mul, Nat.reduceAdd, Nat.reduceMul, Nat.reduceEqDiff, Nat.reduceLeDiff, Nat.reduceLT, Nat.reduceSub, reduceIte, reduceCtorEq, Int.reduceToNat, Int.reduceNeg, Int.reduceLE, Int.reduceLT, Int.reduceEq, Nat.reduceOr, Nat.reduceShiftRight, Nat.reduceMod, Nat.reduceBNe, Nat.reduceBEq]
  exact trim_clo H _ _ rfl (by rw [ext_lo]; exact hlo)
end
end Go.AX.Tri
/- Contracts: the document's answer which corners may be together. -/
namespace Go.AX.Tri
open Go.Proofs Go.AX.Mc
set_option linter.unusedSimpArgs false
set_option linter.unusedVariables false
noncomputable section

theorem loop13 {env : List Lp} {k : List KF} {Q : QF} (b o cap : Nat) (ws : List Wn) (n : Nat) (hn : ws ≠ [] → ws[0]?.map Wn.l = some n) (H : AH)
    (q1 : ∀ fr h, H.nx ≤ h.lo → ws.any (badW n) = true → tmp fr (pa 2) = .bool false → Kt T env false k .ret fr [] h Q)
    (q2 : ∀ fr h, H.nx ≤ h.lo → ws.any (badW n) = false → Kt T env false k .normal fr [] h Q) :
    ∀ (m i : Nat), i + m = ws.length → ws.length < 1000000 → ∀ (fr : Tr Value) (h : AH), H.nx ≤ h.lo → h.lo ≤ h.nx → b < h.nx → WsAt h b o ws → (∀ j a, j < i → ws[j]? = some a → badW n a = false) →
      tmp fr (pa 0) = .slice (some ⟨b, o, none⟩) ws.length cap → tmp fr (pa 5) = .slice (some ⟨b, o, none⟩) ws.length cap → tmp fr (pa 6) = .int .i64 ws.length → tmp fr (pa 7) = .int .i64 i →
      X T env false (.loop a13l0) (.blk 0 :: k) fr [] (ext h []) Q := by
  intro m
  induction m with
  | zero =>
    intro i hi hsz fr h h1 h2 h3 h4 h5 t0 t5 t6 t7
    rw [X_loop]
    change X _ _ _ (.seq _ _) _ _ _ _ _
    simp only [t0, t5, t6, t7, show ¬ ((i : Int) < ws.length) by omega, decide_false, go_sem, bin_add, bin_sub, bin_mul, Nat.reduceAdd, Nat.reduceMul, Nat.reduceEqDiff, Nat.reduceLeDiff, Nat.reduceLT, Nat.reduceSub, reduceIte, reduceCtorEq, Int.reduceToNat, Int.reduceNeg, Int.reduceLE, Int.reduceLT, Int.reduceEq, Nat.reduceOr, Nat.reduceShiftRight, Nat.reduceMod, Nat.reduceBNe, Nat.reduceBEq]
    refine q2 _ _ h1 ?_
    rw [List.any_eq_false]
    intro a ha
    obtain ⟨j, hj⟩ := List.mem_iff_getElem?.1 ha
    simp [h5 j a (by have := (List.getElem?_eq_some_iff.1 hj).1; omega) hj]
  | succ m ih =>
    intro i hi hsz fr h h1 h2 h3 h4 h5 t0 t5 t6 t7
    have hlt : (i : Int) < ws.length := by omega
    obtain ⟨a, ha⟩ : ∃ a, ws[i]? = some a := ⟨ws[i]'(by omega), List.getElem?_eq_getElem (by omega)⟩
    obtain ⟨a0, ha0⟩ : ∃ a, ws[0]? = some a := ⟨ws[0]'(by omega), List.getElem?_eq_getElem (by omega)⟩
    have hn0 : a0.l = n := by
      have := hn (by intro e; rw [e] at ha0; cases ha0)
      rw [ha0] at this; simpa using this
    subst hn0
    have r1 : rd h b (o + i * 6) 6 = some a.cs := h4 i a ha
    have r2 : rd h b (o + 5) 1 = some [.slice a0.a a0.l a0.c] := by
      have := rd_part (h4 0 a0 ha0) 5 1 (by omega)
      simpa [Wn.cs] using this
    have h0 : i < ws.length := by omega
    have h00 : 0 < ws.length := by omega
    rw [X_loop]
    change X _ _ _ (.seq _ _) _ _ _ _ _
    simp only [t0, t5, t6, t7, Wn.cs, hlt, h0, rd_old _ _ _ _ _ h3, r1, h2, go_sem, bin_add, bin_sub, bin_mul, Nat.reduceAdd, Nat.reduceMul, Nat.reduceEqDiff, Nat.reduceLeDiff, Nat.reduceLT, Nat.reduceSub, reduceIte, reduceCtorEq, Int.reduceToNat, Int.reduceNeg, Int.reduceLE, Int.reduceLT, Int.reduceEq, Nat.reduceOr, Nat.reduceShiftRight, Nat.reduceMod, Nat.reduceBNe, Nat.reduceBEq]
    refine X_drawE 0 (by rfl) ?_
    simp only [Wn.cs, t0, h2, h3, h00, go_sem, bin_add, bin_sub, bin_mul, Nat.reduceAdd, Nat.reduceMul, Nat.reduceEqDiff, Nat.reduceLeDiff, Nat.reduceLT, Nat.reduceSub, reduceIte, reduceCtorEq, Int.reduceToNat, Int.reduceNeg, Int.reduceLE, Int.reduceLT, Int.reduceEq, Nat.reduceOr, Nat.reduceShiftRight, Nat.reduceMod, Nat.reduceBNe, Nat.reduceBEq]
    have hbad : badW a0.l a = true → ws.any (badW a0.l) = true := fun h => List.any_eq_true.2 ⟨a, List.mem_of_getElem? ha, h⟩
    refine DG_split ?_ ?_ <;> intro g1 <;> simp only [g1, Wn.cs, t0, h2, h3, h00, lnS_wn, rd_old _ _ _ _ _ h3, r2, go_sem, bin_add, bin_sub, bin_mul, Nat.reduceAdd, Nat.reduceMul, Nat.reduceEqDiff, Nat.reduceLeDiff, Nat.reduceLT, Nat.reduceSub, reduceIte, reduceCtorEq, Int.reduceToNat, Int.reduceNeg, Int.reduceLE, Int.reduceLT, Int.reduceEq, Nat.reduceOr, Nat.reduceShiftRight, Nat.reduceMod, Nat.reduceBNe, Nat.reduceBEq]
    rotate_left
    refine DG_split ?_ ?_ <;> intro g2 <;> simp only [g1, g2, Wn.cs, t0, h2, h3, h00, lnS_wn, rd_old _ _ _ _ _ h3, r2, go_sem, bin_add, bin_sub, bin_mul, Nat.reduceAdd, Nat.reduceMul, Nat.reduceEqDiff, Nat.reduceLeDiff, Nat.reduceLT, Nat.reduceSub, reduceIte, reduceCtorEq, Int.reduceToNat, Int.reduceNeg, Int.reduceLE, Int.reduceLT, Int.reduceEq, Nat.reduceOr, Nat.reduceShiftRight, Nat.reduceMod, Nat.reduceBNe, Nat.reduceBEq]
    rotate_left
    refine DG_split ?_ ?_ <;> intro g3 <;> simp only [g1, g2, g3, Wn.cs, t0, h2, h3, h00, lnS_wn, rd_old _ _ _ _ _ h3, r2, go_sem, bin_add, bin_sub, bin_mul, Nat.reduceAdd, Nat.reduceMul, Nat.reduceEqDiff, Nat.reduceLeDiff, Nat.reduceLT, Nat.reduceSub, reduceIte, reduceCtorEq, Int.reduceToNat, Int.reduceNeg, Int.reduceLE, Int.reduceLT, Int.reduceEq, Nat.reduceOr, Nat.reduceShiftRight, Nat.reduceMod, Nat.reduceBNe, Nat.reduceBEq]
    rotate_left
    refine DG_split ?_ ?_ <;> intro g4 <;> simp only [g1, g2, g3, g4, Wn.cs, t0, h2, h3, h00, lnS_wn, rd_old _ _ _ _ _ h3, r2, go_sem, bin_add, bin_sub, bin_mul, Nat.reduceAdd, Nat.reduceMul, Nat.reduceEqDiff, Nat.reduceLeDiff, Nat.reduceLT, Nat.reduceSub, reduceIte, reduceCtorEq, Int.reduceToNat, Int.reduceNeg, Int.reduceLE, Int.reduceLT, Int.reduceEq, Nat.reduceOr, Nat.reduceShiftRight, Nat.reduceMod, Nat.reduceBNe, Nat.reduceBEq]
    rotate_left
    refine DG_split ?_ ?_ <;> intro g5 <;> simp only [g1, g2, g3, g4, g5, Wn.cs, t0, h2, h3, h00, lnS_wn, rd_old _ _ _ _ _ h3, r2, go_sem, bin_add, bin_sub, bin_mul, Nat.reduceAdd, Nat.reduceMul, Nat.reduceEqDiff, Nat.reduceLeDiff, Nat.reduceLT, Nat.reduceSub, reduceIte, reduceCtorEq, Int.reduceToNat, Int.reduceNeg, Int.reduceLE, Int.reduceLT, Int.reduceEq, Nat.reduceOr, Nat.reduceShiftRight, Nat.reduceMod, Nat.reduceBNe, Nat.reduceBEq]
    rotate_left
    refine DG_split ?_ ?_ <;> intro g6 <;> simp only [g1, g2, g3, g4, g5, g6, Wn.cs, t0, h2, h3, h00, lnS_wn, rd_old _ _ _ _ _ h3, r2, go_sem, bin_add, bin_sub, bin_mul, Nat.reduceAdd, Nat.reduceMul, Nat.reduceEqDiff, Nat.reduceLeDiff, Nat.reduceLT, Nat.reduceSub, reduceIte, reduceCtorEq, Int.reduceToNat, Int.reduceNeg, Int.reduceLE, Int.reduceLT, Int.reduceEq, Nat.reduceOr, Nat.reduceShiftRight, Nat.reduceMod, Nat.reduceBNe, Nat.reduceBEq]
    rotate_left
    refine Cd_split ?_ ?_ <;> intro g7 <;> simp only [g7, t7, go_sem, bin_add, bin_sub, bin_mul, Nat.reduceAdd, Nat.reduceMul, Nat.reduceEqDiff, Nat.reduceLeDiff, Nat.reduceLT, Nat.reduceSub, reduceIte, reduceCtorEq, Int.reduceToNat, Int.reduceNeg, Int.reduceLE, Int.reduceLT, Int.reduceEq, Nat.reduceOr, Nat.reduceShiftRight, Nat.reduceMod, Nat.reduceBNe, Nat.reduceBEq]
    rotate_left
    · refine ih (i + 1) (by omega) hsz _ (ext h [some _]) (by rw [ext_lo]; exact h1) (by rw [ext_lo, ext_nx]; omega) (by rw [ext_nx]; omega) ?_ ?_ ?_ ?_ ?_ ?_
      · intro j x hj
        rw [rd_old _ _ _ _ _ h3]; exact h4 j x hj
      · intro j x hj hx
        by_cases e : j = i
        · subst e
          rw [ha] at hx; cases hx
          simp only [badW, g1, g2, g3, g4, g5, g6, g7, Bool.or_false, Bool.false_or]
        · exact h5 j x (by omega) hx
      · simp only [t0, go_sem, bin_add, bin_sub, bin_mul, Nat.reduceAdd, Nat.reduceMul, Nat.reduceEqDiff, Nat.reduceLeDiff, Nat.reduceLT, Nat.reduceSub, reduceIte, reduceCtorEq, Int.reduceToNat, Int.reduceNeg, Int.reduceLE, Int.reduceLT, Int.reduceEq, Nat.reduceOr, Nat.reduceShiftRight, Nat.reduceMod, Nat.reduceBNe, Nat.reduceBEq]
      · simp only [t5, go_sem, bin_add, bin_sub, bin_mul, Nat.reduceAdd, Nat.reduceMul, Nat.reduceEqDiff, Nat.reduceLeDiff, Nat.reduceLT, Nat.reduceSub, reduceIte, reduceCtorEq, Int.reduceToNat, Int.reduceNeg, Int.reduceLE, Int.reduceLT, Int.reduceEq, Nat.reduceOr, Nat.reduceShiftRight, Nat.reduceMod, Nat.reduceBNe, Nat.reduceBEq]
      · simp only [t6, go_sem, bin_add, bin_sub, bin_mul, Nat.reduceAdd, Nat.reduceMul, Nat.reduceEqDiff, Nat.reduceLeDiff, Nat.reduceLT, Nat.reduceSub, reduceIte, reduceCtorEq, Int.reduceToNat, Int.reduceNeg, Int.reduceLE, Int.reduceLT, Int.reduceEq, Nat.reduceOr, Nat.reduceShiftRight, Nat.reduceMod, Nat.reduceBNe, Nat.reduceBEq]
      · simp only [go_sem, bin_add, bin_sub, bin_mul, Nat.reduceAdd, Nat.reduceMul, Nat.reduceEqDiff, Nat.reduceLeDiff, Nat.reduceLT, Nat.reduceSub, reduceIte, reduceCtorEq, Int.reduceToNat, Int.reduceNeg, Int.reduceLE, Int.reduceLT, Int.reduceEq, Nat.reduceOr, Nat.reduceShiftRight, Nat.reduceMod, Nat.reduceBNe, Nat.reduceBEq, t7]
        unfold wrapF wS
        rw [show (decide (-9223372036854775808 ≤ (i : Int) + 1) && decide ((i : Int) + 1 < 9223372036854775808)) = true by simp; omega]
        simp
    all_goals refine q1 _ (ext h [some _]) (by rw [ext_lo]; exact h1) (hbad ?_) ?_
    all_goals first | (simp only [go_sem, bin_add, bin_sub, bin_mul, Nat.reduceAdd, Nat.reduceMul, Nat.reduceEqDiff, Nat.reduceLeDiff, Nat.reduceLT, Nat.reduceSub, reduceIte, reduceCtorEq, Int.reduceToNat, Int.reduceNeg, Int.reduceLE, Int.reduceLT, Int.reduceEq, Nat.reduceOr, Nat.reduceShiftRight, Nat.reduceMod, Nat.reduceBNe, Nat.reduceBEq]; done) | simp [badW, *]

theorem c13 {env : List Lp} (b o cap : Nat) (ws : List Wn) (H : AH) (hb : b < H.nx) (hw : WsAt H b o ws) (hsz : ws.length < 1000000) (Q : AEnd → AH → Prop) :
    C T env 13 [.slice (some ⟨b, o, none⟩) ws.length cap] H Q = Q (.ret (.bool (!badL ws))) H := by
  refine C_det ?_ Q
  rw [C_fn T13 rfl]
  simp only [a13, go_sem, bin_add, bin_sub, bin_mul, Nat.reduceAdd, Nat.reduceMul, Nat.reduceEqDiff, Nat.reduceLeDiff, Nat.reduceLT, Nat.reduceSub, reduceIte, reduceCtorEq, Int.reduceToNat, Int.reduceNeg, Int.reduceLE, Int.reduceLT, Int.reduceEq, Nat.reduceOr, Nat.reduceShiftRight, Nat.reduceMod, Nat.reduceBNe, Nat.reduceBEq]
  have hE : ws.any (badW (fstL ws)) = badL ws := by cases ws <;> rfl
  refine loop13 b o cap ws (fstL ws) ?_ H ?_ ?_ ws.length 0 (by omega) hsz _ H.now (Nat.le_refl _) (Nat.le_refl _) hb hw ?_ ?_ ?_ ?_ ?_
  · intro hne; cases ws with
    | nil => exact absurd rfl hne
    | cons a l => rfl
  · intro fr h h1 h2 h3
    simp only [h3, go_sem, bin_add, bin_sub, bin_mul, Nat.reduceAdd, Nat.reduceMul, Nat.reduceEqDiff, Nat.reduceLeDiff, Nat.reduceLT, Nat.reduceSub, reduceIte, reduceCtorEq, Int.reduceToNat, Int.reduceNeg, Int.reduceLE, Int.reduceLT, Int.reduceEq, Nat.reduceOr, Nat.reduceShiftRight, Nat.reduceMod, Nat.reduceBNe, Nat.reduceBEq]
    rw [hE] at h2
    exact ⟨by simp [h2], trim_clo _ _ _ rfl h1⟩
  · intro fr h h1 h2
    rw [hE] at h2
    simp only [go_sem, bin_add, bin_sub, bin_mul, Nat.reduceAdd, Nat.reduceMul, Nat.reduceEqDiff, Nat.reduceLeDiff, Nat.reduceLT, Nat.reduceSub, reduceIte, reduceCtorEq, Int.reduceToNat, Int.reduceNeg, Int.reduceLE, Int.reduceLT, Int.reduceEq, Nat.reduceOr, Nat.reduceShiftRight, Nat.reduceMod, Nat.reduceBNe, Nat.reduceBEq]
    exact ⟨by simp [h2], trim_clo _ _ _ rfl h1⟩
  · intro j a hj; omega
  all_goals simp only [go_sem, bin_add, bin_sub, bin_mul, Nat.reduceAdd, Nat.reduceMul, Nat.reduceEqDiff, Nat.reduceLeDiff, Nat.reduceLT, Nat.reduceSub, reduceIte, reduceCtorEq, Int.reduceToNat, Int.reduceNeg, Int.reduceLE, Int.reduceLT, Int.reduceEq, Nat.reduceOr, Nat.reduceShiftRight, Nat.reduceMod, Nat.reduceBNe, Nat.reduceBEq]
end
end Go.AX.Tri
/- TriChecks, in the calculus. -/
namespace Go.AX.Tri
open Go.Proofs Go.AX.Mc
set_option linter.unusedSimpArgs false
set_option linter.unusedVariables false
noncomputable section

theorem bin_eql_b (ox oy : Operand) (a b : Bool) (H : AH) : aBin Try.prog .eql 4 ox oy none (.bool a) (.bool b) H = some (.val (.bool (a == b)) H) := by
  have h : pure? Try.prog (binOp .eql 4 (.bool a) (.bool b)) = .ok (.bool (a == b)) := by cases a <;> cases b <;> kernel_rfl
  show (bif clo 4 (.bool a) && clo 4 (.bool b) then ofPR H (pure? Try.prog (binOp .eql 4 (.bool a) (.bool b))) else none) = _
  rw [h]; rfl
theorem bin_neq_b (ox oy : Operand) (a b : Bool) (H : AH) : aBin Try.prog .neq 4 ox oy none (.bool a) (.bool b) H = some (.val (.bool (!(a == b))) H) := by
  have h : pure? Try.prog (binOp .neq 4 (.bool a) (.bool b)) = .ok (.bool (!(a == b))) := by cases a <;> cases b <;> kernel_rfl
  show (bif clo 4 (.bool a) && clo 4 (.bool b) then ofPR H (pure? Try.prog (binOp .neq 4 (.bool a) (.bool b))) else none) = _
  rw [h]; rfl

/-- a slice of corners that comes in. -/
def WsIn (H : AH) (v : Value) : Prop := v = .slice none 0 0 ∨ ∃ b o c ws, v = .slice (some ⟨b, o, none⟩) (List.length ws) c ∧ ws.length ≤ c ∧ b < H.nx ∧ WsAt H b o ws

theorem c12_0 {env : List Lp} (H : AH) (Q : AEnd → AH → Prop) : C T env 12 [.slice none 0 0] H Q = Q (.ret (.int .i64 0)) H := by
  refine C_det ?_ Q
  rw [C_fn T12 rfl]
  simp only [a12, go_sem, bin_add, bin_sub, bin_mul, Nat.reduceAdd, Nat.reduceMul, Nat.reduceEqDiff, Nat.reduceLeDiff, Nat.reduceLT, Nat.reduceSub, reduceIte, reduceCtorEq, Int.reduceToNat, Int.reduceNeg, Int.reduceLE, Int.reduceLT, Int.reduceEq, Nat.reduceOr, Nat.reduceShiftRight, Nat.reduceMod, Nat.reduceBNe, Nat.reduceBEq]
  rw [X_loop]
  change X _ _ _ (.seq _ _) _ _ _ _ _
  simp only [Int.lt_irrefl, go_sem, bin_add, bin_sub, bin_mul, Nat.reduceAdd, Nat.reduceMul, Nat.reduceEqDiff, Nat.reduceLeDiff, Nat.reduceLT, Nat.reduceSub, reduceIte, reduceCtorEq, Int.reduceToNat, Int.reduceNeg, Int.reduceLE, Int.reduceLT, Int.reduceEq, Nat.reduceOr, Nat.reduceShiftRight, Nat.reduceMod, Nat.reduceBNe, Nat.reduceBEq]
theorem c13_0 {env : List Lp} (H : AH) (Q : AEnd → AH → Prop) : C T env 13 [.slice none 0 0] H Q = Q (.ret (.bool true)) H := by
  refine C_det ?_ Q
  rw [C_fn T13 rfl]
  simp only [a13, go_sem, bin_add, bin_sub, bin_mul, Nat.reduceAdd, Nat.reduceMul, Nat.reduceEqDiff, Nat.reduceLeDiff, Nat.reduceLT, Nat.reduceSub, reduceIte, reduceCtorEq, Int.reduceToNat, Int.reduceNeg, Int.reduceLE, Int.reduceLT, Int.reduceEq, Nat.reduceOr, Nat.reduceShiftRight, Nat.reduceMod, Nat.reduceBNe, Nat.reduceBEq]
  rw [X_loop]
  change X _ _ _ (.seq _ _) _ _ _ _ _
  simp only [Int.lt_irrefl, go_sem, bin_add, bin_sub, bin_mul, Nat.reduceAdd, Nat.reduceMul, Nat.reduceEqDiff, Nat.reduceLeDiff, Nat.reduceLT, Nat.reduceSub, reduceIte, reduceCtorEq, Int.reduceToNat, Int.reduceNeg, Int.reduceLE, Int.reduceLT, Int.reduceEq, Nat.reduceOr, Nat.reduceShiftRight, Nat.reduceMod, Nat.reduceBNe, Nat.reduceBEq]

theorem law3 (H : AH) (v : Value) (hv : WsIn H v) : C T [] 3 [v] H fun x H' => x = .ret (.bool true) ∧ H' = H := by
  rw [C_fn T3 rfl]
  rcases hv with rfl | ⟨b, o, c, ws, rfl, hc, hb, hw⟩
  · simp only [a3, c11, c12_0, c13_0, slS_0, bin_eql_b, show min (0 : Int) 8 = 0 from rfl, go_sem, bin_add, bin_sub, bin_mul, Nat.reduceAdd, Nat.reduceMul, Nat.reduceEqDiff, Nat.reduceLeDiff, Nat.reduceLT, Nat.reduceSub, reduceIte, reduceCtorEq, Int.reduceToNat, Int.reduceNeg, Int.reduceLE, Int.reduceLT, Int.reduceEq, Nat.reduceOr, Nat.reduceShiftRight, Nat.reduceMod, Nat.reduceBNe, Nat.reduceBEq]
  · have hm : min ws.length 8 ≤ c := by omega
    have hl : (ws.take 8).length = min ws.length 8 := by simp; omega
    have hw8 : WsAt H.now b o (ws.take 8) := by
      intro i a hi
      have : i < 8 := by have := (List.getElem?_eq_some_iff.1 hi).1; simp at this; omega
      rw [rd_now]; exact hw i a (by rw [List.getElem?_take] at hi; simpa [this] using hi)
    have k12 := fun (Q : AEnd → AH → Prop) => c12 (env := []) b o c (ws.take 8) H.now hb hw8 (by rw [hl]; omega) Q
    have k13 := fun (Q : AEnd → AH → Prop) => c13 (env := []) b o c (ws.take 8) H.now hb hw8 (by rw [hl]; omega) Q
    rw [hl] at k12 k13
    simp only [a3, c11, min_nat, slS_s _ _ _ _ _ _ _ hm, k12, k13, bin_eql_b, go_sem, bin_add, bin_sub, bin_mul, Nat.reduceAdd, Nat.reduceMul, Nat.reduceEqDiff, Nat.reduceLeDiff, Nat.reduceLT, Nat.reduceSub, reduceIte, reduceCtorEq, Int.reduceToNat, Int.reduceNeg, Int.reduceLE, Int.reduceLT, Int.reduceEq, Nat.reduceOr, Nat.reduceShiftRight, Nat.reduceMod, Nat.reduceBNe, Nat.reduceBEq]
    cases hbad : badL (ws.take 8)
    · simp only [errF, hbad, cond_false, bin_eql_b, go_sem, bin_add, bin_sub, bin_mul, Nat.reduceAdd, Nat.reduceMul, Nat.reduceEqDiff, Nat.reduceLeDiff, Nat.reduceLT, Nat.reduceSub, reduceIte, reduceCtorEq, Int.reduceToNat, Int.reduceNeg, Int.reduceLE, Int.reduceLT, Int.reduceEq, Nat.reduceOr, Nat.reduceShiftRight, Nat.reduceMod, Nat.reduceBNe, Nat.reduceBEq]
    · simp only [errF, hbad, cond_true, bin_eql_b, go_sem, bin_add, bin_sub, bin_mul, Nat.reduceAdd, Nat.reduceMul, Nat.reduceEqDiff, Nat.reduceLeDiff, Nat.reduceLT, Nat.reduceSub, reduceIte, reduceCtorEq, Int.reduceToNat, Int.reduceNeg, Int.reduceLE, Int.reduceLT, Int.reduceEq, Nat.reduceOr, Nat.reduceShiftRight, Nat.reduceMod, Nat.reduceBNe, Nat.reduceBEq]
end
end Go.AX.Tri
