/- Contracts: the fragment at a centre (6): the contract. -/
import Derived.Test.YthhgeodgfbhkdaaWk
import Derived.Test.YthhgeodgfbhkdaaAxRe
set_option linter.unusedVariables false
set_option linter.unusedSimpArgs false
set_option linter.unusedSectionVars false
namespace Go.AX.Tri
open Go.Proofs Go.AX.Mc
set_option linter.unusedSimpArgs false
set_option linter.unusedVariables false
noncomputable section

/-- vectors in blocks that a call leaves behind it. -/
def VsOut (N : Nat) (L : List (Option AB)) (hd : Value) (vs : List V4) : Prop :=
  (vs = [] ∧ hd = .slice none 0 0) ∨ (vs ≠ [] ∧ ∃ i, L[i]? = some (some (.cells (vs.flatMap V4.cs) 1 4)) ∧ hd = .slice (some ⟨N + i, 0, some 0⟩) vs.length vs.length)
def vsF (f : Fc) (n0 n1 n2 m : Nat) : List V4 := (List.range m).map (vecF f n0 n1 n2)

theorem vloop {env : List Lp} {k0 : List KF} {Q : QF} {f : Fc} {bf n0 n1 n2 : Nat} {H : AH} (h : FrHyp f bf n0 n1 n2 H) (hsz : f.a.l < 1000) (b1 b2 b3 : Option AB) (x y z w : Int) (fb : Bool)
    (hQ : ∀ fr G hd, VsIn H.now.nx G hd (vsF f n0 n1 n2 f.a.l) → Fr36 H fr → Kt T env false k0 .normal fr [] (ext H.now (blk [.pointer (some ⟨bf, 0, none⟩)] :: b1 :: b2 :: b3 :: blk (byF f n0 n1 n2) :: blk (frV x y z w fb hd) :: G)) Q) :
    ∀ (r m : Nat), m + r = f.a.l → ∀ fr G hd, VsIn H.now.nx G hd (vsF f n0 n1 n2 m) → Fr36 H fr → tmp fr (pa 78) = .int .i64 f.a.l → tmp fr (pa 79) = .int .i64 (m : Int) →
      X T env false (.loop a36l1) (.blk 2 :: k0) fr [] (ext H.now (blk [.pointer (some ⟨bf, 0, none⟩)] :: b1 :: b2 :: b3 :: blk (byF f n0 n1 n2) :: blk (frV x y z w fb hd) :: G)) Q := by
  intro r
  induction r with
  | zero =>
    intro m hm fr G hd hV hf t78 t79
    obtain rfl : m = f.a.l := by omega
    rw [X_loop]
    change X _ _ _ (.seq _ _) _ _ _ _ _
    simp only [t78, t79, show ¬ ((f.a.l : Int) < f.a.l) by omega, go_sem, bin_add, bin_sub, bin_mul, Nat.reduceAdd, Nat.reduceMul, Nat.reduceEqDiff, Nat.reduceLeDiff, Nat.reduceLT, Nat.reduceSub, reduceIte, reduceCtorEq, Int.reduceToNat, Int.reduceNeg, Int.reduceLE, Int.reduceLT, Int.reduceEq, Nat.reduceOr, Nat.reduceShiftRight, Nat.reduceMod, Nat.reduceBNe, Nat.reduceBEq]
    exact hQ _ _ _ hV ⟨by simp only [hf.t4, go_sem, bin_add, bin_sub, bin_mul, Nat.reduceAdd, Nat.reduceMul, Nat.reduceEqDiff, Nat.reduceLeDiff, Nat.reduceLT, Nat.reduceSub, reduceIte, reduceCtorEq, Int.reduceToNat, Int.reduceNeg, Int.reduceLE, Int.reduceLT, Int.reduceEq, Nat.reduceOr, Nat.reduceShiftRight, Nat.reduceMod, Nat.reduceBNe, Nat.reduceBEq], by simp only [hf.t8, go_sem, bin_add, bin_sub, bin_mul, Nat.reduceAdd, Nat.reduceMul, Nat.reduceEqDiff, Nat.reduceLeDiff, Nat.reduceLT, Nat.reduceSub, reduceIte, reduceCtorEq, Int.reduceToNat, Int.reduceNeg, Int.reduceLE, Int.reduceLT, Int.reduceEq, Nat.reduceOr, Nat.reduceShiftRight, Nat.reduceMod, Nat.reduceBNe, Nat.reduceBEq], by simp only [hf.t10, go_sem, bin_add, bin_sub, bin_mul, Nat.reduceAdd, Nat.reduceMul, Nat.reduceEqDiff, Nat.reduceLeDiff, Nat.reduceLT, Nat.reduceSub, reduceIte, reduceCtorEq, Int.reduceToNat, Int.reduceNeg, Int.reduceLE, Int.reduceLT, Int.reduceEq, Nat.reduceOr, Nat.reduceShiftRight, Nat.reduceMod, Nat.reduceBNe, Nat.reduceBEq], by simp only [hf.t13, go_sem, bin_add, bin_sub, bin_mul, Nat.reduceAdd, Nat.reduceMul, Nat.reduceEqDiff, Nat.reduceLeDiff, Nat.reduceLT, Nat.reduceSub, reduceIte, reduceCtorEq, Int.reduceToNat, Int.reduceNeg, Int.reduceLE, Int.reduceLT, Int.reduceEq, Nat.reduceOr, Nat.reduceShiftRight, Nat.reduceMod, Nat.reduceBNe, Nat.reduceBEq], by simp only [hf.t14, go_sem, bin_add, bin_sub, bin_mul, Nat.reduceAdd, Nat.reduceMul, Nat.reduceEqDiff, Nat.reduceLeDiff, Nat.reduceLT, Nat.reduceSub, reduceIte, reduceCtorEq, Int.reduceToNat, Int.reduceNeg, Int.reduceLE, Int.reduceLT, Int.reduceEq, Nat.reduceOr, Nat.reduceShiftRight, Nat.reduceMod, Nat.reduceBNe, Nat.reduceBEq]⟩
  | succ r ih =>
    intro m hm fr G hd hV hf t78 t79
    have hl : (vsF f n0 n1 n2 m).length = m := by simp [vsF]
    refine vouter h b1 b2 b3 x y z w fb hd (vsF f n0 n1 n2 m) (by omega) hsz G hV fr hf t78 (by rw [hl]; exact t79) ?_
    intro fr G hd hV hf t78 t79
    rw [hl] at hV t79
    rw [show vsF f n0 n1 n2 m ++ [vecF f n0 n1 n2 m] = vsF f n0 n1 n2 (m + 1) by simp [vsF, List.range_succ]] at hV
    exact ih (m + 1) (by omega) fr G hd hV hf t78 t79

theorem c36 {env : List Lp} {f : Fc} {bf n0 n1 n2 : Nat} {H : AH} (h : FrHyp f bf n0 n1 n2 H) (hsz : f.a.l < 1000) (hlo : H.lo ≤ H.nx) (x y : Int) (Q : AEnd → AH → Prop)
    (hQ : ∀ L hd, VsOut H.nx L hd (vsF f n0 n1 n2 f.a.l) → Q (.ret (.agg (frV x y (nearZ f n0 n1 n2) (nearW f n0 n1 n2) f.front hd).toArray)) (ext H L)) :
    C T env 36 [.pointer (some ⟨bf, 0, none⟩), .int .i64 x, .int .i64 y, .agg (s3V (n0, n1, n2)).toArray] H Q := by
  refine frag_pre f bf x y n0 n1 n2 H h.hb h.hf h.h0 h.h1 h.h2 h.hA (fun p hp => ⟨h.hw p hp, (h.ha p hp).w.2⟩) (fun p hp => (h.ha p hp).z) Q ?_
  intro fr t4 t8 t10 t13 t14 t78 t79
  refine vloop h hsz _ _ _ _ _ _ _ _ ?_ f.a.l 0 (by omega) fr [] (.slice none 0 0) (.inl ⟨rfl, rfl⟩) ⟨t4, t8, t10, t13, t14⟩ t78 t79
  intro fr G hd hV hf
  obtain ⟨t4, t8, t10, t13, t14⟩ := hf
  have hfl := flat_hd hV
  simp only [K36, t4, t8, t10, t13, t14, frV, hfl, go_sem, bin_add, bin_sub, bin_mul, Nat.reduceAdd, Nat.reduceMul, Nat.reduceEqDiff, Nat.reduceLeDiff, Nat.reduceLT, Nat.reduceSub, reduceIte, reduceCtorEq, Int.reduceToNat, Int.reduceNeg, Int.reduceLE, Int.reduceLT, Int.reduceEq, Nat.reduceOr, Nat.reduceShiftRight, Nat.reduceMod, Nat.reduceBNe, Nat.reduceBEq]
  generalize hvs : vsF f n0 n1 n2 f.a.l = vs at *
  rcases hV with ⟨hv0, rfl⟩ | ⟨hv0, G0, G2, hG, rfl⟩
  · rw [trim_ext_clo _ _ _ rfl]
    exact hQ [] _ (.inl ⟨hv0, rfl⟩)
  · rw [trim_keep _ _ _ rfl hlo]
    refine hQ _ _ (.inr ⟨hv0, _, ?_, rfl⟩)
    simp only [hG, go_sem, bin_add, bin_sub, bin_mul, Nat.reduceAdd, Nat.reduceMul, Nat.reduceEqDiff, Nat.reduceLeDiff, Nat.reduceLT, Nat.reduceSub, reduceIte, reduceCtorEq, Int.reduceToNat, Int.reduceNeg, Int.reduceLE, Int.reduceLT, Int.reduceEq, Nat.reduceOr, Nat.reduceShiftRight, Nat.reduceMod, Nat.reduceBNe, Nat.reduceBEq]
end
end Go.AX.Tri
/- Sides: numbers that do not leave their kind; which fragments there are. -/
namespace Go.AX.Tri
open Go.Proofs Go.AX.Mc
set_option linter.unusedSimpArgs false
set_option linter.unusedVariables false
noncomputable section

/-- a corner that may be. -/
structure OkW (p : Wn) : Prop where
  x0 : 0 ≤ p.x
  x1 : p.x ≤ 16384
  y0 : 0 ≤ p.y
  y1 : p.y ≤ 16384
  w0 : 0 < p.w
  l4 : p.l ≤ 4
theorem ok_of_bad {n : Nat} {p : Wn} (h : badW n p = false) : OkW p ∧ p.l = n := by
  simp only [badW, Bool.or_eq_false_iff, decide_eq_false_iff_not, Bool.not_eq_false', decide_eq_true_eq] at h
  obtain ⟨⟨⟨⟨⟨⟨h1, h2⟩, h3⟩, h4⟩, h5⟩, h6⟩, h7⟩ := h
  exact ⟨⟨by omega, by omega, by omega, by omega, by omega, by omega⟩, by omega⟩
theorem bad_iff {n : Nat} {p : Wn} : badW n p = false ↔ OkW p ∧ p.l = n := by
  refine ⟨ok_of_bad, fun ⟨h, e⟩ => ?_⟩
  obtain ⟨h1, h2, h3, h4, h5, h6⟩ := h
  simp only [badW, Bool.or_eq_false_iff, decide_eq_false_iff_not, Bool.not_eq_false', decide_eq_true_eq]
  omega

/-- the side from p to q. -/
def wayI (p q : Wn) (x y : Int) : Int := (q.x - p.x) * (y - p.y) - (q.y - p.y) * (x - p.x)
theorem mul_bd {a b : Int} (h1 : -16384 ≤ a) (h2 : a ≤ 16384) (h3 : -16384 ≤ b) (h4 : b ≤ 16384) : -268435456 ≤ a * b ∧ a * b ≤ 268435456 := by
  have k : (a * b).natAbs ≤ 16384 * 16384 := by rw [Int.natAbs_mul]; exact Nat.mul_le_mul (by omega) (by omega)
  omega
theorem wayI_bd {p q : Wn} {x y : Int} (hp : OkW p) (hq : OkW q) (x0 : 0 ≤ x) (x1 : x ≤ 16384) (y0 : 0 ≤ y) (y1 : y ≤ 16384) : -536870912 ≤ wayI p q x y ∧ wayI p q x y ≤ 536870912 := by
  obtain ⟨p1, p2, p3, p4, _, _⟩ := hp
  obtain ⟨q1, q2, q3, q4, _, _⟩ := hq
  have h1 := mul_bd (a := q.x - p.x) (b := y - p.y) (by omega) (by omega) (by omega) (by omega)
  have h2 := mul_bd (a := q.y - p.y) (b := x - p.x) (by omega) (by omega) (by omega) (by omega)
  unfold wayI
  omega
theorem wayF_eq {p q : Wn} {x y : Int} (hp : OkW p) (hq : OkW q) (x0 : 0 ≤ x) (x1 : x ≤ 16384) (y0 : 0 ≤ y) (y1 : y ≤ 16384) : wayF p q x y = wayI p q x y := by
  have hb := wayI_bd hp hq x0 x1 y0 y1
  obtain ⟨p1, p2, p3, p4, _, _⟩ := hp
  obtain ⟨q1, q2, q3, q4, _, _⟩ := hq
  have h1 := mul_bd (a := q.x - p.x) (b := y - p.y) (by omega) (by omega) (by omega) (by omega)
  have h2 := mul_bd (a := q.y - p.y) (b := x - p.x) (by omega) (by omega) (by omega) (by omega)
  unfold wayF w64
  rw [w64_id (n := q.x - p.x) (by omega) (by omega), w64_id (n := y - p.y) (by omega) (by omega), w64_id (n := q.y - p.y) (by omega) (by omega), w64_id (n := x - p.x) (by omega) (by omega),
    w64_id (n := (q.x - p.x) * (y - p.y)) (by omega) (by omega), w64_id (n := (q.y - p.y) * (x - p.x)) (by omega) (by omega)]
  unfold wayI at hb ⊢
  rw [w64_id (by omega) (by omega)]
theorem ctr_eq {x : Int} (h0 : 0 ≤ x) (h1 : x < 64) : ctr x = 256 * x + 128 := by
  unfold ctr w64
  rw [w64_id (n := 256 * x) (by omega) (by omega), w64_id (by omega) (by omega)]
theorem way_sum (a b c : Wn) (x y : Int) : wayI b c x y + wayI c a x y + wayI a b x y = wayI a b c.x c.y := by
  unfold wayI; grind
theorem wayI_anti (a b : Wn) (x y : Int) : wayI b a x y = -wayI a b x y := by unfold wayI; grind
theorem area_swap (a b c : Wn) : wayI a c b.x b.y = -wayI a b c.x c.y := by unfold wayI; grind
theorem area_rot (a b c : Wn) : wayI b c a.x a.y = wayI a b c.x c.y := by unfold wayI; grind
theorem inF_pos {p q : Wn} {u v : Int} (h : inF p q u v = true) : 0 ≤ wayF p q u v := by
  simp only [inF, Bool.or_eq_true, decide_eq_true_eq, Bool.and_eq_true] at h
  omega

/-- a triangle of corners that may be, turned. -/
structure OkF (f : Fc) : Prop where
  a : OkW f.a
  b : OkW f.b
  c : OkW f.c
  area : f.area = wayI f.a f.b f.c.x f.c.y
theorem turn_ok {a b c : Wn} (ha : OkW a) (hb : OkW b) (hc : OkW c) : OkF (turnF a b c) := by
  have e := wayF_eq ha hb hc.x0 hc.x1 hc.y0 hc.y1
  have bd := wayI_bd ha hb hc.x0 hc.x1 hc.y0 hc.y1
  unfold turnF
  rw [e]
  cases h : decide (wayI a b c.x c.y < 0)
  · exact ⟨ha, hb, hc, rfl⟩
  · refine ⟨ha, hc, hb, ?_⟩
    show w64 (-(wayI a b c.x c.y)) = wayI a c b.x b.y
    unfold w64
    rw [w64_id (by omega) (by omega)]
    have := area_swap a b c
    omega
theorem turn_mem {a b c : Wn} : ∀ p, (p = (turnF a b c).a ∨ p = (turnF a b c).b ∨ p = (turnF a b c).c) → (p = a ∨ p = b ∨ p = c) := by
  intro p hp
  unfold turnF at hp
  cases h : decide (wayF a b c.x c.y < 0) <;> rw [h] at hp
  · exact hp
  · rcases hp with h | h | h
    · exact .inl h
    · exact .inr (.inr h)
    · exact .inr (.inl h)

theorem sides_ok {f : Fc} (hf : OkF f) {x y : Int} (x0 : 0 ≤ x) (x1 : x < 64) (y0 : 0 ≤ y) (y1 : y < 64) (h : (sidesF f x y).2 = true) :
    ∃ n0 n1 n2 : Nat, (sidesF f x y).1 = ((n0 : Int), (n1 : Int), (n2 : Int)) ∧ n0 < 1073741824 ∧ n1 < 1073741824 ∧ n2 < 1073741824 ∧ 0 < n0 + n1 + n2 ∧ (n0 : Int) = wayI f.b f.c (256 * x + 128) (256 * y + 128) ∧ (n1 : Int) = wayI f.c f.a (256 * x + 128) (256 * y + 128) ∧ (n2 : Int) = wayI f.a f.b (256 * x + 128) (256 * y + 128) := by
  obtain ⟨ha, hb, hc, har⟩ := hf
  unfold sidesF at h ⊢
  rw [ctr_eq x0 x1, ctr_eq y0 y1] at h ⊢
  have u := way_sum f.a f.b f.c (256 * x + 128) (256 * y + 128)
  have b0 := wayI_bd hb hc (x := 256 * x + 128) (y := 256 * y + 128) (by omega) (by omega) (by omega) (by omega)
  have b1 := wayI_bd hc ha (x := 256 * x + 128) (y := 256 * y + 128) (by omega) (by omega) (by omega) (by omega)
  have b2 := wayI_bd ha hb (x := 256 * x + 128) (y := 256 * y + 128) (by omega) (by omega) (by omega) (by omega)
  have e0 := wayF_eq hb hc (x := 256 * x + 128) (y := 256 * y + 128) (by omega) (by omega) (by omega) (by omega)
  have e1 := wayF_eq hc ha (x := 256 * x + 128) (y := 256 * y + 128) (by omega) (by omega) (by omega) (by omega)
  have e2 := wayF_eq ha hb (x := 256 * x + 128) (y := 256 * y + 128) (by omega) (by omega) (by omega) (by omega)
  cases g1 : decide (0 < f.area) <;> rw [g1] at h
  · simp at h
  simp only [decide_eq_true_eq] at g1
  cases g2 : inF f.b f.c (256 * x + 128) (256 * y + 128) <;> rw [g2] at h
  · simp at h
  cases g3 : inF f.c f.a (256 * x + 128) (256 * y + 128) <;> rw [g3] at h
  · simp at h
  simp only [cond_true] at h ⊢
  have p0 := inF_pos g2
  have p1 := inF_pos g3
  have p2 := inF_pos h
  rw [e0] at p0
  rw [e1] at p1
  rw [e2] at p2
  rw [e0, e1, e2]
  exact ⟨(wayI f.b f.c (256 * x + 128) (256 * y + 128)).toNat, (wayI f.c f.a (256 * x + 128) (256 * y + 128)).toNat, (wayI f.a f.b (256 * x + 128) (256 * y + 128)).toNat,
    by rw [Int.toNat_of_nonneg p0, Int.toNat_of_nonneg p1, Int.toNat_of_nonneg p2], by omega, by omega, by omega, by omega, by omega, by omega, by omega⟩

/-! ## Fragments -/
structure Fg where
  x : Int
  y : Int
  z : Int
  iw : Int
  fr : Bool
  vs : List V4
def fgOf (f : Fc) (x y : Int) (s : Int × Int × Int) : Fg :=
  ⟨x, y, nearZ f s.1.toNat s.2.1.toNat s.2.2.toNat, nearW f s.1.toNat s.2.1.toNat s.2.2.toNat, f.front, vsF f s.1.toNat s.2.1.toNat s.2.2.toNat f.a.l⟩
def fragF (f : Fc) (x y : Int) : Option Fg := bif (sidesF f x y).2 then some (fgOf f x y (sidesF f x y).1) else none

/-- vectors, in a heap, in blocks from N on. -/
def VsAt (N : Nat) (h : AH) (hd : Value) (vs : List V4) : Prop :=
  (vs = [] ∧ hd = .slice none 0 0) ∨ (vs ≠ [] ∧ ∃ b, N ≤ b ∧ b < h.nx ∧ h.get b = some (.cells (vs.flatMap V4.cs) 1 4) ∧ hd = .slice (some ⟨b, 0, some 0⟩) vs.length vs.length)
def FgAt (N : Nat) (h : AH) (g : Fg) (c : List Value) : Prop := ∃ hd, c = frV g.x g.y g.z g.iw g.fr hd ∧ VsAt N h hd g.vs
def FgsAt (N : Nat) (h : AH) : List Fg → List Value → Prop
  | [], cs => cs = []
  | g :: l, cs => ∃ c r, cs = c ++ r ∧ FgAt N h g c ∧ FgsAt N h l r
def FL (N : Nat) (h : AH) (hd : Value) (l : List Fg) : Prop :=
  (l = [] ∧ hd = .slice none 0 0) ∨ (l ≠ [] ∧ ∃ b cs, N ≤ b ∧ b < h.nx ∧ h.get b = some (.cells cs 1 10) ∧ FgsAt N h l cs ∧ hd = .slice (some ⟨b, 0, some 0⟩) l.length l.length)

theorem VsAt.mono {N : Nat} {h h' : AH} (hn : h.nx ≤ h'.nx) (hg : ∀ b cs, N ≤ b → b < h.nx → h.get b = some (.cells cs 1 4) → h'.get b = some (.cells cs 1 4)) {hd : Value} {vs : List V4} (hv : VsAt N h hd vs) : VsAt N h' hd vs := by
  rcases hv with hv | ⟨h0, b, h1, h2, h3, h4⟩
  · exact .inl hv
  · exact .inr ⟨h0, b, h1, by omega, hg b _ h1 h2 h3, h4⟩
theorem FgsAt.mono {N : Nat} {h h' : AH} (hn : h.nx ≤ h'.nx) (hg : ∀ b cs, N ≤ b → b < h.nx → h.get b = some (.cells cs 1 4) → h'.get b = some (.cells cs 1 4)) : ∀ {l : List Fg} {cs : List Value}, FgsAt N h l cs → FgsAt N h' l cs
  | [], _, hl => hl
  | g :: l, _, ⟨c, r, e, ⟨hd, h1, h2⟩, h3⟩ => ⟨c, r, e, ⟨hd, h1, h2.mono hn hg⟩, FgsAt.mono hn hg h3⟩
theorem FgsAt.snoc {N : Nat} {h : AH} {g : Fg} {c : List Value} (hc : FgAt N h g c) : ∀ {l : List Fg} {cs : List Value}, FgsAt N h l cs → FgsAt N h (l ++ [g]) (cs ++ c)
  | [], cs, hl => ⟨c, [], by rw [show cs = [] from hl]; simp, hc, rfl⟩
  | g' :: l, cs, ⟨c', r, e, h1, h2⟩ => ⟨c', r ++ c, by rw [e]; simp, h1, FgsAt.snoc hc h2⟩
theorem FgAt.length {N : Nat} {h : AH} {g : Fg} {c : List Value} (hc : FgAt N h g c) : c.length = 10 := by obtain ⟨hd, rfl, _⟩ := hc; rfl
theorem FgsAt.length {N : Nat} {h : AH} : ∀ {l : List Fg} {cs : List Value}, FgsAt N h l cs → cs.length = l.length * 10
  | [], cs, hl => by rw [show cs = [] from hl]; rfl
  | g :: l, _, ⟨c, r, e, h1, h2⟩ => by rw [e, List.length_append, h1.length, FgsAt.length h2]; simp only [List.length_cons]; omega
end
end Go.AX.Tri
