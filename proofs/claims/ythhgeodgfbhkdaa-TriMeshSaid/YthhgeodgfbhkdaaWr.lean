/- Contracts: Fill. -/
import Derived.Test.YthhgeodgfbhkdaaWq
set_option linter.unusedVariables false
set_option linter.unusedSimpArgs false
set_option linter.unusedSectionVars false
namespace Go.AX.Tri
open Go.Proofs Go.AX.Mc
set_option linter.unusedSimpArgs false
set_option linter.unusedVariables false
noncomputable section

theorem check3 {env : List Lp} (a b c : Wn) {H : AH} {L : List (Option AB)} {i : Nat} {Q : AEnd → AH → Prop} (hL : L[i]? = some (some (.cells (a.cs ++ (b.cs ++ c.cs)) 0 0))) (hQ : Q (.ret (.int .i64 (errF [a, b, c]))) (ext H L)) :
    C T env 12 [.slice (some ⟨H.nx + i, 0, none⟩) 3 3] (ext H L) Q := by
  have hl := (List.getElem?_eq_some_iff.1 hL).1
  rw [show (3 : Nat) = [a, b, c].length from rfl, c12 (H.nx + i) 0 _ [a, b, c] (ext H L) (by rw [ext_nx]; omega) ?_ (by simp) Q]
  · exact hQ
  · intro j w hj
    rw [rd_new, hL]
    match j, hj with
    | 0, hj => cases hj; rfl
    | 1, hj => cases hj; rfl
    | 2, hj => cases hj; rfl
    | j + 3, hj => simp at hj

theorem trim_or {H : AH} (hlo : H.lo ≤ H.nx) (v : Value) (L : List (Option AB)) : ∃ L', trim H v (ext H.now L) = ext H L' := by
  cases hc : clo 5 v
  · exact ⟨L, trim_keep H v L hc hlo⟩
  · exact ⟨[], trim_ext_clo H v L hc⟩
theorem c33' {env : List Lp} (a b c : Wn) {H : AH} (hlo : H.lo ≤ H.nx) {Q : AEnd → AH → Prop} (hQ : ∀ L, Q (.ret (turnF a b c).v) (ext H L)) : C T env 33 [a.v, b.v, c.v] H Q := by
  refine c33 a b c H Q fun L => ?_
  obtain ⟨L', e⟩ := trim_or hlo (turnF a b c).v L
  rw [e]; exact hQ L'
theorem fc_length (f : Fc) : f.cs.length = 20 := rfl
theorem fc_flat (f : Fc) : f.cs.all flat = true := rfl
theorem fc_take (f : Fc) : f.cs.take 20 = f.cs := rfl
theorem c34 {env : List Lp} (px py pw ph : Int) {H : AH} (hlo : H.lo ≤ H.nx) (Q : AEnd → AH → Prop) :
    C T env 34 [.agg [.int .i64 px, .int .i64 py, .int .i64 pw, .int .i64 ph].toArray] H Q = Q (.ret (.func (.func 46) #[] #[.pointer (some ⟨H.nx, 0, none⟩)])) (ext H [blk [.int .i64 px, .int .i64 py, .int .i64 pw, .int .i64 ph]]) := by
  refine C_det ?_ Q
  rw [C_fn T34 rfl]
  simp only [a34, go_sem, bin_add, bin_sub, bin_mul, Nat.reduceAdd, Nat.reduceMul, Nat.reduceEqDiff, Nat.reduceLeDiff, Nat.reduceLT, Nat.reduceSub, reduceIte, reduceCtorEq, Int.reduceToNat, Int.reduceNeg, Int.reduceLE, Int.reduceLT, Int.reduceEq, Nat.reduceOr, Nat.reduceShiftRight, Nat.reduceMod, Nat.reduceBNe, Nat.reduceBEq]
  rw [trim_keep _ _ _ rfl hlo]
  exact ⟨rfl, rfl⟩

def fragsF (f : Fc) (px py pw ph : Nat) : List Fg := (cellsL px py pw ph).filterMap fun c => fragF f c.1 c.2
def boxF (px py pw ph : Int) : Bool := in1 px pw && in1 py ph

theorem in1_spec {a n : Int} (h : in1 a n = true) : 0 ≤ a ∧ 0 ≤ n ∧ a + n ≤ 64 := by
  simp only [in1, Bool.and_eq_true, decide_eq_true_eq] at h
  obtain ⟨⟨⟨h1, h2⟩, h3⟩, h4⟩ := h
  unfold w64 at h4
  rw [w64_id (by omega) (by omega)] at h4
  exact ⟨h1, h2, by omega⟩
theorem FL.mono {N M : Nat} {h h' : AH} {hd : Value} {l : List Fg} (hn : h.nx ≤ h'.nx) (hNM : N ≤ M) (hg : ∀ b cs k z, M ≤ b → b < h.nx → h.get b = some (.cells cs k z) → k = 1 → h'.get b = some (.cells cs k z)) (hL : FL M h hd l) : FL N h' hd l := by
  have V : ∀ {hd vs}, VsAt M h hd vs → VsAt N h' hd vs := by
    intro hd vs hv
    rcases hv with h | ⟨h0, b, h1, h2, h3, h4⟩
    · exact .inl h
    · exact .inr ⟨h0, b, by omega, by omega, hg b _ _ _ h1 h2 h3 rfl, h4⟩
  have F : ∀ {l cs}, FgsAt M h l cs → FgsAt N h' l cs := by
    intro l
    induction l with
    | nil => exact fun hl => hl
    | cons g l ih => rintro cs ⟨c, r, e, ⟨hd, h1, h2⟩, h3⟩; exact ⟨c, r, e, ⟨hd, h1, V h2⟩, ih h3⟩
  rcases hL with h | ⟨h0, b, cs, h1, h2, h3, h4, h5⟩
  · exact .inl h
  · exact .inr ⟨h0, b, cs, by omega, by omega, hg b _ _ _ h1 h2 h3 rfl, F h4, h5⟩

theorem bad3 {a b c : Wn} (h : badL [a, b, c] = false) : OkW a ∧ OkW b ∧ OkW c ∧ b.l = a.l ∧ c.l = a.l := by
  simp only [badL, List.any_cons, List.any_nil, Bool.or_false, Bool.or_eq_false_iff] at h
  obtain ⟨h1, h2, h3⟩ := h
  exact ⟨(ok_of_bad h1).1, (ok_of_bad h2).1, (ok_of_bad h3).1, (ok_of_bad h2).2, (ok_of_bad h3).2⟩

def K15 : ACode := .seq (.region [yR (oLoad1 (t 12)) 65 0, yP (oMov (t 65)) 8 0, yP (oMov (.c (.int .i64 0))) 9 0]) .ret

theorem fill_loop {env : List Lp} {f : Fc} {p12 bf pp px py pw ph : Nat} {H h0 : AH} {fr : Tr Value} {Q : AEnd → AH → Prop} (hlo : H.lo ≤ H.nx) (hok : OkF f) (hl : ∀ p, (p = f.a ∨ p = f.b ∨ p = f.c) → p.l = f.a.l)
    (ha : ∀ p, (p = f.a ∨ p = f.b ∨ p = f.c) → WnAt H p) (hx : px + pw ≤ 64) (hy : py + ph ≤ 64)
    (t12 : tmp fr (pa 12) = .pointer (some ⟨p12, 0, none⟩)) (t13 : tmp fr (pa 13) = .pointer (some ⟨bf, 0, none⟩)) (t47 : tmp fr (pa 47) = .func (.func 46) #[] #[.pointer (some ⟨pp, 0, none⟩)])
    (l0 : H.nx ≤ h0.lo) (l1 : h0.lo ≤ h0.nx) (old : ∀ b, b < H.nx → h0.get b = H.get b) (h12 : p12 < h0.nx) (n12 : H.nx ≤ p12) (g12 : h0.get p12 = some (.cells [.slice none 0 0] 0 0)) (hb : bf < h0.nx) (gb : h0.get bf = some (.cells f.cs 0 0))
    (hp : pp < h0.nx) (gp : h0.get pp = some (.cells (pcV px py pw ph) 0 0)) (hQ : ∀ h hd, Ext H h → FL H.nx h hd (fragsF f px py pw ph) → Q (.ret (.tuple #[hd, .int .i64 0])) h) :
    X T env false (.rangeF (t 47) [pa 48, pa 49] b15a b15b) [.blk 0, .seq K15] fr [] h0 (Fin H [.t (pa 8), .t (pa 9)] Q) := by
  have hnx : H.nx ≤ h0.nx := Nat.le_trans l0 l1
  have g0 : ((h0.push .dfr).push (.loop .ready none)).get h0.nx = some .dfr := by rw [AH.get_push_ne _ _ (by rw [AH.nx_push]; omega), AH.get_push_same]
  have g1 : ((h0.push .dfr).push (.loop .ready none)).get (h0.nx + 1) = some (.loop .ready none) := AH.get_push_same (h0.push .dfr) _
  have gold : ∀ b, b < h0.nx → ((h0.push .dfr).push (.loop .ready none)).get b = h0.get b := fun b hb => by rw [AH.get_push_ne _ _ (by rw [AH.nx_push]; omega), AH.get_push_ne _ _ (by omega)]
  have n2 : ((h0.push .dfr).push (.loop .ready none)).nx = h0.nx + 2 := rfl
  have l2 : ((h0.push .dfr).push (.loop .ready none)).lo = h0.lo := rfl
  refine X_range 46 #[] #[.pointer (some ⟨pp, 0, none⟩)] t47 ?_
  show C T _ 46 [.func (.yield (h0.nx + 1)) #[] #[], .pointer (some ⟨pp, 0, none⟩)] _ _
  generalize (h0.push .dfr).push (.loop .ready none) = H0 at *
  let J : List (Int × Int) → AH → Prop := fun pre h => (pre = [] → h = H0.now) ∧ (pre ≠ [] → h.lo < H0.nx) ∧ H.nx ≤ h.lo ∧ h.lo ≤ h.nx ∧ H0.nx ≤ h.nx ∧ (∀ b, b < H0.nx → b ≠ p12 → h.get b = H0.get b) ∧
    ∃ hd, h.get p12 = some (.cells [hd] 0 0) ∧ FL H0.nx h hd (pre.filterMap fun c => fragF f c.1 c.2)
  have hbp : bf ≠ p12 := by intro e; rw [e, g12] at gb; cases gb
  have hpp : pp ≠ p12 := by intro e; rw [e, g12] at gp; cases gp
  refine c46 (h0.nx + 1) pp px py pw ph hx hy J ?_ ?_ H0 ?_ _ ?_
  · rintro pre h ⟨_, _, _, _, _, hg, _⟩
    rw [rd_rdB, hg pp (by omega) hpp, gold pp hp, gp]; rfl
  · rintro pre x y h hlen hx1 hx2 hy1 hy2 ⟨e0, e1, j0, j1, j2, jg, hd, jd, jL⟩
    refine R_round (fr := (fr.put (pa 48) (.int .i64 (x : Int))).put (pa 49) (.int .i64 (y : Int))) (by rw [jg _ (by omega) (by omega)]; exact g1) (by rfl) ?_
    change X _ _ _ (.seq _ _) _ _ _ _ _
    simp only [t12, t13, go_sem, bin_add, bin_sub, bin_mul, Nat.reduceAdd, Nat.reduceMul, Nat.reduceEqDiff, Nat.reduceLeDiff, Nat.reduceLT, Nat.reduceSub, reduceIte, reduceCtorEq, Int.reduceToNat, Int.reduceNeg, Int.reduceLE, Int.reduceLT, Int.reduceEq, Nat.reduceOr, Nat.reduceShiftRight, Nat.reduceMod, Nat.reduceBNe, Nat.reduceBEq]
    refine ⟨by rw [jg _ (by omega) (by omega)]; exact g1, ?_⟩
    have hs : (AH.set h (h0.nx + 1) (.loop .busy none)).get p12 = some (.cells [hd] 0 0) := by rw [AH.get_set_ne _ _ _ (by omega)]; exact jd
    refine round15 (f := f) (bf := bf) (p12 := p12) (N := H.nx) (M := H0.nx) (h := AH.set h (h0.nx + 1) (.loop .busy none)) (x : Int) (y : Int) (by omega) (by omega) (by omega) (by omega) (by rw [AH.nx_set]; omega) ?_ hok hl ?_ ?_ ?_ (by rw [AH.nx_set]; omega) n12 (by omega) (by rw [AH.nx_set]; omega) hd hs (pre.filterMap fun c => fragF f c.1 c.2) ?_ ?_ _ ?_ ?_ ?_ ?_ ?_
    · rw [rd_rdB, AH.get_set_ne _ _ _ (by omega), jg bf (by omega) hbp, gold bf hb, gb]; rfl
    · intro p hp'
      have := ha p hp'
      exact ⟨this.len, this.vec.mono (by rw [AH.nx_set]; omega) (fun b hb o n => by rw [rd_rdB, AH.get_set_ne _ _ _ (by omega), jg b (by omega) (by omega), gold b (by omega), old b hb, rd_rdB]), this.num, this.z, this.w⟩
    · show H.nx ≤ min h.lo (h0.nx + 1); omega
    · rw [AH.nx_set]; show min h.lo (h0.nx + 1) ≤ _; omega
    · exact Nat.lt_of_le_of_lt (List.length_filterMap_le _ _) (by omega)
    · refine jL.mono (by rw [AH.nx_set]; omega) (Nat.le_refl _) ?_
      intro b cs k z hb1 hb2 hb3 _
      rw [AH.get_set_ne _ _ _ (by omega)]; exact hb3
    · simp only [t12, go_sem, bin_add, bin_sub, bin_mul, Nat.reduceAdd, Nat.reduceMul, Nat.reduceEqDiff, Nat.reduceLeDiff, Nat.reduceLT, Nat.reduceSub, reduceIte, reduceCtorEq, Int.reduceToNat, Int.reduceNeg, Int.reduceLE, Int.reduceLT, Int.reduceEq, Nat.reduceOr, Nat.reduceShiftRight, Nat.reduceMod, Nat.reduceBNe, Nat.reduceBEq]
    · simp only [t13, go_sem, bin_add, bin_sub, bin_mul, Nat.reduceAdd, Nat.reduceMul, Nat.reduceEqDiff, Nat.reduceLeDiff, Nat.reduceLT, Nat.reduceSub, reduceIte, reduceCtorEq, Int.reduceToNat, Int.reduceNeg, Int.reduceLE, Int.reduceLT, Int.reduceEq, Nat.reduceOr, Nat.reduceShiftRight, Nat.reduceMod, Nat.reduceBNe, Nat.reduceBEq]
    · simp only [go_sem, bin_add, bin_sub, bin_mul, Nat.reduceAdd, Nat.reduceMul, Nat.reduceEqDiff, Nat.reduceLeDiff, Nat.reduceLT, Nat.reduceSub, reduceIte, reduceCtorEq, Int.reduceToNat, Int.reduceNeg, Int.reduceLE, Int.reduceLT, Int.reduceEq, Nat.reduceOr, Nat.reduceShiftRight, Nat.reduceMod, Nat.reduceBNe, Nat.reduceBEq]
    · simp only [go_sem, bin_add, bin_sub, bin_mul, Nat.reduceAdd, Nat.reduceMul, Nat.reduceEqDiff, Nat.reduceLeDiff, Nat.reduceLT, Nat.reduceSub, reduceIte, reduceCtorEq, Int.reduceToNat, Int.reduceNeg, Int.reduceLE, Int.reduceLT, Int.reduceEq, Nat.reduceOr, Nat.reduceShiftRight, Nat.reduceMod, Nat.reduceBNe, Nat.reduceBEq]
    · intro fr2 h2 hd2 hr hg2 hL2
      obtain ⟨r1, r2, r3, r4⟩ := hr
      rw [AH.nx_set] at r1
      refine ⟨rfl, rfl, ⟨none, ?_⟩, ?_, ?_, ?_, ?_, ?_, ?_, hd2, ?_, ?_⟩
      · rw [r4 _ (by rw [AH.nx_set]; omega) (by omega) (by omega), AH.get_set_same]
      · simp
      · intro _; show min h2.lo (h0.nx + 1) < _; omega
      · show H.nx ≤ min h2.lo (h0.nx + 1); omega
      · rw [AH.nx_set]; show min h2.lo (h0.nx + 1) ≤ _; omega
      · rw [AH.nx_set]; omega
      · intro b hb1 hb2
        by_cases e : b = h0.nx + 1
        · subst e; rw [AH.get_set_same, g1]
        · rw [AH.get_set_ne _ _ _ e, r4 b (by rw [AH.nx_set]; omega) hb2 hb1, AH.get_set_ne _ _ _ e, jg b hb1 hb2]
      · rw [AH.get_set_ne _ _ _ (by omega)]; exact hg2
      · rw [List.filterMap_append]
        have : List.filterMap (fun c : Int × Int => fragF f c.1 c.2) [((x : Int), (y : Int))] = (fragF f x y).toList := by
          cases he : fragF f x y <;> simp [he]
        rw [this]
        refine hL2.mono (by rw [AH.nx_set]; omega) (Nat.le_refl _) ?_
        intro b cs k z hb1 hb2 hb3 _
        rw [AH.get_set_ne _ _ _ (by omega)]; exact hb3
  · refine ⟨fun _ => rfl, fun h => absurd rfl h, ?_, Nat.le_refl _, Nat.le_refl _, fun _ _ _ => rfl, .slice none 0 0, ?_, .inl ⟨rfl, rfl⟩⟩
    · show H.nx ≤ H0.nx; omega
    · show H0.get p12 = _; rw [gold p12 h12]; exact g12
  · rintro h ⟨e0, e1, j0, j1, j2, jg, hd, jd, jL⟩
    refine ⟨_, rfl, ?_⟩
    have T1 : ∃ h', trim H0 (.tuple #[]) h = h' ∧ H.nx ≤ h'.lo ∧ h'.lo ≤ h'.nx ∧ H0.nx ≤ h'.nx ∧ (∀ b, b < H0.nx → b ≠ p12 → h'.get b = H0.get b) ∧ h'.get p12 = some (.cells [hd] 0 0) ∧ FL H0.nx h' hd (fragsF f px py pw ph) := by
      by_cases hc : cellsL px py pw ph = []
      · rw [e0 hc] at jd jL j0 j1 j2 jg ⊢
        refine ⟨H0, trim_now_clo rfl, by omega, by omega, Nat.le_refl _, jg, jd, ?_⟩
        exact FL.mono (h := H0.now) (h' := H0) (Nat.le_refl _) (Nat.le_refl _) (fun b cs k z _ _ h _ => h) jL
      · have := e1 hc
        refine ⟨⟨h.bl, h.nx, min H0.lo h.lo⟩, ?_, ?_, ?_, j2, jg, jd, ?_⟩
        · unfold trim
          rw [show Nat.ble H0.nx h.lo = false from Bool.eq_false_iff.2 fun e => absurd (Nat.le_of_ble_eq_true e) (by omega)]; rfl
        · show H.nx ≤ min H0.lo h.lo; omega
        · show min H0.lo h.lo ≤ h.nx; omega
        · exact FL.mono (h := h) (h' := ⟨h.bl, h.nx, min H0.lo h.lo⟩) (Nat.le_refl _) (Nat.le_refl _) (fun b cs k z _ _ h _ => h) jL
    obtain ⟨h', e, q0, q1, q2, qg, qd, qL⟩ := T1
    rw [e]
    clear e e0 e1 j0 j1 j2 jg jd jL
    refine ⟨by rw [qg _ (by omega) (by omega)]; exact g1, ?_⟩
    have r12 : rd (AH.set h' (h0.nx + 1) (.loop .exhausted none)) p12 0 1 = some [hd] := by rw [rd_rdB, AH.get_set_ne _ _ _ (by omega), qd]; rfl
    have gd : (AH.set h' (h0.nx + 1) (.loop .exhausted none)).get h0.nx = some .dfr := by rw [AH.get_set_ne _ _ _ (by omega), qg _ (by omega) (by omega)]; exact g0
    unfold K15
    simp only [t12, r12, Fin_ret1 _ _ _ _ _ _ gd, go_sem, bin_add, bin_sub, bin_mul, Nat.reduceAdd, Nat.reduceMul, Nat.reduceEqDiff, Nat.reduceLeDiff, Nat.reduceLT, Nat.reduceSub, reduceIte, reduceCtorEq, Int.reduceToNat, Int.reduceNeg, Int.reduceLE, Int.reduceLT, Int.reduceEq, Nat.reduceOr, Nat.reduceShiftRight, Nat.reduceMod, Nat.reduceBNe, Nat.reduceBEq]
    have S : ∀ b, b ≠ h0.nx → b ≠ h0.nx + 1 → (AH.set (AH.set h' (h0.nx + 1) (.loop .exhausted none)) h0.nx .dead).get b = h'.get b := fun b h1 h2 => by rw [AH.get_set_ne _ _ _ h1, AH.get_set_ne _ _ _ h2]
    have slo : H.nx ≤ (AH.set (AH.set h' (h0.nx + 1) (.loop .exhausted none)) h0.nx .dead).lo := by show H.nx ≤ min (min h'.lo (h0.nx + 1)) h0.nx; omega
    have snx : (AH.set (AH.set h' (h0.nx + 1) (.loop .exhausted none)) h0.nx .dead).nx = h'.nx := rfl
    generalize AH.set (AH.set h' (h0.nx + 1) (.loop .exhausted none)) h0.nx .dead = h'' at *
    rcases qL with ⟨ql0, rfl⟩ | qL
    · rw [trim_clo H _ h'' rfl slo]
      exact hQ H _ (Ext.refl H) (.inl ⟨ql0, rfl⟩)
    · obtain ⟨ql0, b, cs, b1, b2, b3, b4, rfl⟩ := qL
      have et : trim H (.tuple #[.slice (some ⟨b, 0, some 0⟩) (fragsF f px py pw ph).length (fragsF f px py pw ph).length, .int .i64 0]) h'' = ⟨h''.bl, h''.nx, min H.lo h''.lo⟩ := by
        unfold trim
        rw [show clo 5 (Value.tuple #[.slice (some ⟨b, 0, some 0⟩) (fragsF f px py pw ph).length (fragsF f px py pw ph).length, .int .i64 0]) = false from rfl, Bool.and_false]; rfl
      rw [et]
      refine hQ _ _ ⟨?_, ?_, ?_⟩ ?_
      · show H.nx ≤ h''.nx; omega
      · show min H.lo h''.lo = H.lo; omega
      · intro c hc
        show h''.get c = _
        rw [S c (by omega) (by omega), qg c (by omega) (by omega), gold c (by omega), old c hc]
      · refine FL.mono (h := h') (M := H0.nx) ?_ (by omega) ?_ (.inr ⟨ql0, b, cs, b1, b2, b3, b4, rfl⟩)
        · show h'.nx ≤ h''.nx; omega
        · intro c cs' k z hc1 hc2 hc3 _
          show h''.get c = _
          rw [S c (by omega) (by omega)]; exact hc3

theorem c15 {env : List Lp} (a b c : Wn) (px py pw ph : Int) {H : AH} (hlo : H.lo ≤ H.nx) (ha : WnAt H a) (hb : WnAt H b) (hc : WnAt H c) (Q : AEnd → AH → Prop)
    (h1 : badL [a, b, c] = true → Q (.ret (.tuple #[.slice none 0 0, .int .i64 320])) H)
    (h2 : badL [a, b, c] = false → boxF px py pw ph = false → Q (.ret (.tuple #[.slice none 0 0, .int .i64 2])) H)
    (h3 : badL [a, b, c] = false → boxF px py pw ph = true → ∀ h hd, Ext H h → FL H.nx h hd (fragsF (turnF a b c) px.toNat py.toNat pw.toNat ph.toNat) → Q (.ret (.tuple #[hd, .int .i64 0])) h) :
    C T env 15 [a.v, b.v, c.v, .agg [.int .i64 px, .int .i64 py, .int .i64 pw, .int .i64 ph].toArray] H Q := by
  rw [C_fn T15 rfl]
  simp only [a15, Wn.v, Wn.cs, go_sem, bin_add, bin_sub, bin_mul, Nat.reduceAdd, Nat.reduceMul, Nat.reduceEqDiff, Nat.reduceLeDiff, Nat.reduceLT, Nat.reduceSub, reduceIte, reduceCtorEq, Int.reduceToNat, Int.reduceNeg, Int.reduceLE, Int.reduceLT, Int.reduceEq, Nat.reduceOr, Nat.reduceShiftRight, Nat.reduceMod, Nat.reduceBNe, Nat.reduceBEq]
  refine check3 a b c (i := 4) (by rfl) ?_
  cases hbad : badL [a, b, c]
  · simp only [errF, hbad, cond_false, c32, go_sem, bin_add, bin_sub, bin_mul, Nat.reduceAdd, Nat.reduceMul, Nat.reduceEqDiff, Nat.reduceLeDiff, Nat.reduceLT, Nat.reduceSub, reduceIte, reduceCtorEq, Int.reduceToNat, Int.reduceNeg, Int.reduceLE, Int.reduceLT, Int.reduceEq, Nat.reduceOr, Nat.reduceShiftRight, Nat.reduceMod, Nat.reduceBNe, Nat.reduceBEq]
    cases hx : in1 px pw
    · simp only [hx, c32, go_sem, bin_add, bin_sub, bin_mul, Nat.reduceAdd, Nat.reduceMul, Nat.reduceEqDiff, Nat.reduceLeDiff, Nat.reduceLT, Nat.reduceSub, reduceIte, reduceCtorEq, Int.reduceToNat, Int.reduceNeg, Int.reduceLE, Int.reduceLT, Int.reduceEq, Nat.reduceOr, Nat.reduceShiftRight, Nat.reduceMod, Nat.reduceBNe, Nat.reduceBEq]
      exact h2 hbad (by simp [boxF, hx])
    simp only [hx, c32, go_sem, bin_add, bin_sub, bin_mul, Nat.reduceAdd, Nat.reduceMul, Nat.reduceEqDiff, Nat.reduceLeDiff, Nat.reduceLT, Nat.reduceSub, reduceIte, reduceCtorEq, Int.reduceToNat, Int.reduceNeg, Int.reduceLE, Int.reduceLT, Int.reduceEq, Nat.reduceOr, Nat.reduceShiftRight, Nat.reduceMod, Nat.reduceBNe, Nat.reduceBEq]
    cases hy : in1 py ph
    · simp only [hx, hy, c32, go_sem, bin_add, bin_sub, bin_mul, Nat.reduceAdd, Nat.reduceMul, Nat.reduceEqDiff, Nat.reduceLeDiff, Nat.reduceLT, Nat.reduceSub, reduceIte, reduceCtorEq, Int.reduceToNat, Int.reduceNeg, Int.reduceLE, Int.reduceLT, Int.reduceEq, Nat.reduceOr, Nat.reduceShiftRight, Nat.reduceMod, Nat.reduceBNe, Nat.reduceBEq]
      exact h2 hbad (by simp [boxF, hy])
    simp only [hx, hy, c32, go_sem, bin_add, bin_sub, bin_mul, Nat.reduceAdd, Nat.reduceMul, Nat.reduceEqDiff, Nat.reduceLeDiff, Nat.reduceLT, Nat.reduceSub, reduceIte, reduceCtorEq, Int.reduceToNat, Int.reduceNeg, Int.reduceLE, Int.reduceLT, Int.reduceEq, Nat.reduceOr, Nat.reduceShiftRight, Nat.reduceMod, Nat.reduceBNe, Nat.reduceBEq]
    refine c33' a b c (by rw [ext_lo, ext_nx]; exact Nat.le_add_right _ _) fun L => ?_
    have hbox : boxF px py pw ph = true := by simp [boxF, hx, hy]
    obtain ⟨oka, okb, okc, lb, lc⟩ := bad3 hbad
    have hok := turn_ok oka okb okc
    have hmem := @turn_mem a b c
    have h3' := h3 hbad hbox
    clear h1 h2 h3
    generalize turnF a b c = f at *
    simp only [Fc.v, fc_length, fc_flat, fc_take, ext_ext, go_sem, bin_add, bin_sub, bin_mul, Nat.reduceAdd, Nat.reduceMul, Nat.reduceEqDiff, Nat.reduceLeDiff, Nat.reduceLT, Nat.reduceSub, reduceIte, reduceCtorEq, Int.reduceToNat, Int.reduceNeg, Int.reduceLE, Int.reduceLT, Int.reduceEq, Nat.reduceOr, Nat.reduceShiftRight, Nat.reduceMod, Nat.reduceBNe, Nat.reduceBEq]
    rw [c34 px py pw ph (by rw [ext_lo, ext_nx]; exact Nat.le_add_right _ _)]
    simp only [ext_ext, go_sem, bin_add, bin_sub, bin_mul, Nat.reduceAdd, Nat.reduceMul, Nat.reduceEqDiff, Nat.reduceLeDiff, Nat.reduceLT, Nat.reduceSub, reduceIte, reduceCtorEq, Int.reduceToNat, Int.reduceNeg, Int.reduceLE, Int.reduceLT, Int.reduceEq, Nat.reduceOr, Nat.reduceShiftRight, Nat.reduceMod, Nat.reduceBNe, Nat.reduceBEq]
    obtain ⟨hx0, hx1, hx2⟩ : 0 ≤ px ∧ 0 ≤ pw ∧ px + pw ≤ 64 := in1_spec hx
    obtain ⟨hy0, hy1, hy2⟩ : 0 ≤ py ∧ 0 ≤ ph ∧ py + ph ≤ 64 := in1_spec hy
    refine fill_loop (f := f) (p12 := H.now.nx + 5) (bf := H.now.nx + (L.length + 1 + 1 + 1 + 1 + 1 + 1)) (pp := H.now.nx + (L.length + 1 + 1 + 1 + 1 + 1 + 1 + 1)) (px := px.toNat) (py := py.toNat) (pw := pw.toNat) (ph := ph.toNat) hlo hok ?_ ?_ (by omega) (by omega) ?_ ?_ ?_ ?_ ?_ ?_ ?_ ?_ ?_ ?_ ?_ ?_ ?_ ?_
    · intro p hp
      have ea := hmem f.a (.inl rfl)
      have e : ∀ q, (q = a ∨ q = b ∨ q = c) → q.l = a.l := by rintro q (rfl | rfl | rfl) <;> first | rfl | assumption
      rw [e p (hmem p hp), e f.a ea]
    · intro p hp
      rcases hmem p hp with rfl | rfl | rfl <;> assumption
    · simp only [go_sem, bin_add, bin_sub, bin_mul, Nat.reduceAdd, Nat.reduceMul, Nat.reduceEqDiff, Nat.reduceLeDiff, Nat.reduceLT, Nat.reduceSub, reduceIte, reduceCtorEq, Int.reduceToNat, Int.reduceNeg, Int.reduceLE, Int.reduceLT, Int.reduceEq, Nat.reduceOr, Nat.reduceShiftRight, Nat.reduceMod, Nat.reduceBNe, Nat.reduceBEq]
    · simp only [go_sem, bin_add, bin_sub, bin_mul, Nat.reduceAdd, Nat.reduceMul, Nat.reduceEqDiff, Nat.reduceLeDiff, Nat.reduceLT, Nat.reduceSub, reduceIte, reduceCtorEq, Int.reduceToNat, Int.reduceNeg, Int.reduceLE, Int.reduceLT, Int.reduceEq, Nat.reduceOr, Nat.reduceShiftRight, Nat.reduceMod, Nat.reduceBNe, Nat.reduceBEq]
    · simp only [go_sem, bin_add, bin_sub, bin_mul, Nat.reduceAdd, Nat.reduceMul, Nat.reduceEqDiff, Nat.reduceLeDiff, Nat.reduceLT, Nat.reduceSub, reduceIte, reduceCtorEq, Int.reduceToNat, Int.reduceNeg, Int.reduceLE, Int.reduceLT, Int.reduceEq, Nat.reduceOr, Nat.reduceShiftRight, Nat.reduceMod, Nat.reduceBNe, Nat.reduceBEq]
    · rw [ext_lo]; exact Nat.le_refl _
    · rw [ext_lo, ext_nx]; exact Nat.le_add_right _ _
    · intro b hb; exact ext_get_old H.now _ _ hb
    · rw [ext_nx]; simp only [List.length_cons]; omega
    · exact Nat.le_add_right _ _
    · simp only [go_sem, bin_add, bin_sub, bin_mul, Nat.reduceAdd, Nat.reduceMul, Nat.reduceEqDiff, Nat.reduceLeDiff, Nat.reduceLT, Nat.reduceSub, reduceIte, reduceCtorEq, Int.reduceToNat, Int.reduceNeg, Int.reduceLE, Int.reduceLT, Int.reduceEq, Nat.reduceOr, Nat.reduceShiftRight, Nat.reduceMod, Nat.reduceBNe, Nat.reduceBEq]
    · rw [ext_nx]; simp only [List.length_cons, List.length_append]; omega
    · simp only [go_sem, bin_add, bin_sub, bin_mul, Nat.reduceAdd, Nat.reduceMul, Nat.reduceEqDiff, Nat.reduceLeDiff, Nat.reduceLT, Nat.reduceSub, reduceIte, reduceCtorEq, Int.reduceToNat, Int.reduceNeg, Int.reduceLE, Int.reduceLT, Int.reduceEq, Nat.reduceOr, Nat.reduceShiftRight, Nat.reduceMod, Nat.reduceBNe, Nat.reduceBEq]
    · rw [ext_nx]; simp only [List.length_cons, List.length_append, List.length_nil]; omega
    · simp only [pcV, Int.toNat_of_nonneg hx0, Int.toNat_of_nonneg hx1, Int.toNat_of_nonneg hy0, Int.toNat_of_nonneg hy1, go_sem, bin_add, bin_sub, bin_mul, Nat.reduceAdd, Nat.reduceMul, Nat.reduceEqDiff, Nat.reduceLeDiff, Nat.reduceLT, Nat.reduceSub, reduceIte, reduceCtorEq, Int.reduceToNat, Int.reduceNeg, Int.reduceLE, Int.reduceLT, Int.reduceEq, Nat.reduceOr, Nat.reduceShiftRight, Nat.reduceMod, Nat.reduceBNe, Nat.reduceBEq]
    · exact h3'
  · simp only [errF, hbad, cond_true, go_sem, bin_add, bin_sub, bin_mul, Nat.reduceAdd, Nat.reduceMul, Nat.reduceEqDiff, Nat.reduceLeDiff, Nat.reduceLT, Nat.reduceSub, reduceIte, reduceCtorEq, Int.reduceToNat, Int.reduceNeg, Int.reduceLE, Int.reduceLT, Int.reduceEq, Nat.reduceOr, Nat.reduceShiftRight, Nat.reduceMod, Nat.reduceBNe, Nat.reduceBEq]
    exact h1 hbad
end
end Go.AX.Tri
/- Contracts: Area, wakes. -/
namespace Go.AX.Tri
open Go.Proofs Go.AX.Mc
set_option linter.unusedSimpArgs false
set_option linter.unusedVariables false
noncomputable section

def areaF (a b c : Wn) : Int := bif badL [a, b, c] then 0 else wayF a b c.x c.y
theorem c14 {env : List Lp} (a b c : Wn) (H : AH) (Q : AEnd → AH → Prop) : C T env 14 [a.v, b.v, c.v] H Q = Q (.ret (.int .i64 (areaF a b c))) H := by
  refine C_det ?_ Q
  rw [C_fn T14 rfl]
  have k31 := fun (x y : Int) (H : AH) (Q : AEnd → AH → Prop) => c31 (env := env) a b x y H Q
  simp only [Wn.v, Wn.cs] at k31
  simp only [a14, Wn.v, Wn.cs, go_sem, bin_add, bin_sub, bin_mul, Nat.reduceAdd, Nat.reduceMul, Nat.reduceEqDiff, Nat.reduceLeDiff, Nat.reduceLT, Nat.reduceSub, reduceIte, reduceCtorEq, Int.reduceToNat, Int.reduceNeg, Int.reduceLE, Int.reduceLT, Int.reduceEq, Nat.reduceOr, Nat.reduceShiftRight, Nat.reduceMod, Nat.reduceBNe, Nat.reduceBEq]
  refine check3 a b c (i := 3) (by rfl) ?_
  unfold areaF
  cases hbad : badL [a, b, c]
  · simp only [errF, hbad, cond_false, k31, go_sem, bin_add, bin_sub, bin_mul, Nat.reduceAdd, Nat.reduceMul, Nat.reduceEqDiff, Nat.reduceLeDiff, Nat.reduceLT, Nat.reduceSub, reduceIte, reduceCtorEq, Int.reduceToNat, Int.reduceNeg, Int.reduceLE, Int.reduceLT, Int.reduceEq, Nat.reduceOr, Nat.reduceShiftRight, Nat.reduceMod, Nat.reduceBNe, Nat.reduceBEq]
  · simp only [errF, hbad, cond_true, go_sem, bin_add, bin_sub, bin_mul, Nat.reduceAdd, Nat.reduceMul, Nat.reduceEqDiff, Nat.reduceLeDiff, Nat.reduceLT, Nat.reduceSub, reduceIte, reduceCtorEq, Int.reduceToNat, Int.reduceNeg, Int.reduceLE, Int.reduceLT, Int.reduceEq, Nat.reduceOr, Nat.reduceShiftRight, Nat.reduceMod, Nat.reduceBNe, Nat.reduceBEq]

def wA : Wn := ⟨0, 0, 0, 65536, 0, none, 0, 0, sl_none, []⟩
def wB : Wn := ⟨512, 0, 0, 65536, 0, none, 0, 0, sl_none, []⟩
def wC : Wn := ⟨0, 512, 65536, 65536, 0, none, 0, 0, sl_none, []⟩
def gW : Fg := ⟨0, 0, 16384, 65536, true, []⟩
set_option maxRecDepth 100000 in
theorem wake_frags : fragsF (turnF wA wB wC) 0 0 64 64 = [gW] := by kernel_rfl

end
end Go.AX.Tri
