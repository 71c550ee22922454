/- Sides: numbers that do not leave their kind; which fragments there are. -/
import Derived.Test.YthhgeodgfbhkdaaWl
import Derived.Test.YthhgeodgfbhkdaaAxRe
set_option linter.unusedVariables false
set_option linter.unusedSimpArgs false
set_option linter.unusedSectionVars false
namespace Go.AX.Tri
open Go.Proofs Go.AX.Mc
set_option linter.unusedSimpArgs false
set_option linter.unusedVariables false
noncomputable section

/-- a corner that may be. -/
structure OkW (p : Wn) : Prop where
  x0 : 0 ≤ p.x
  x1 : p.x ≤ 16384
  y0 : 0 ≤ p.y
  y1 : p.y ≤ 16384
  w0 : 0 < p.w
  l4 : p.l ≤ 4
theorem ok_of_bad {n : Nat} {p : Wn} (h : badW n p = false) : OkW p ∧ p.l = n := by
  simp only [badW, Bool.or_eq_false_iff, decide_eq_false_iff_not, Bool.not_eq_false', decide_eq_true_eq] at h
  obtain ⟨⟨⟨⟨⟨⟨h1, h2⟩, h3⟩, h4⟩, h5⟩, h6⟩, h7⟩ := h
  exact ⟨⟨by omega, by omega, by omega, by omega, by omega, by omega⟩, by omega⟩
theorem bad_iff {n : Nat} {p : Wn} : badW n p = false ↔ OkW p ∧ p.l = n := by
  refine ⟨ok_of_bad, fun ⟨h, e⟩ => ?_⟩
  obtain ⟨h1, h2, h3, h4, h5, h6⟩ := h
  simp only [badW, Bool.or_eq_false_iff, decide_eq_false_iff_not, Bool.not_eq_false', decide_eq_true_eq]
  omega

/-- the side from p to q. -/
def wayI (p q : Wn) (x y : Int) : Int := (q.x - p.x) * (y - p.y) - (q.y - p.y) * (x - p.x)
theorem mul_bd {a b : Int} (h1 : -16384 ≤ a) (h2 : a ≤ 16384) (h3 : -16384 ≤ b) (h4 : b ≤ 16384) : -268435456 ≤ a * b ∧ a * b ≤ 268435456 := by
  have k : (a * b).natAbs ≤ 16384 * 16384 := by rw [Int.natAbs_mul]; exact Nat.mul_le_mul (by omega) (by omega)
  omega
theorem wayI_bd {p q : Wn} {x y : Int} (hp : OkW p) (hq : OkW q) (x0 : 0 ≤ x) (x1 : x ≤ 16384) (y0 : 0 ≤ y) (y1 : y ≤ 16384) : -536870912 ≤ wayI p q x y ∧ wayI p q x y ≤ 536870912 := by
  obtain ⟨p1, p2, p3, p4, _, _⟩ := hp
  obtain ⟨q1, q2, q3, q4, _, _⟩ := hq
  have h1 := mul_bd (a := q.x - p.x) (b := y - p.y) (by omega) (by omega) (by omega) (by omega)
  have h2 := mul_bd (a := q.y - p.y) (b := x - p.x) (by omega) (by omega) (by omega) (by omega)
  unfold wayI
  omega
theorem wayF_eq {p q : Wn} {x y : Int} (hp : OkW p) (hq : OkW q) (x0 : 0 ≤ x) (x1 : x ≤ 16384) (y0 : 0 ≤ y) (y1 : y ≤ 16384) : wayF p q x y = wayI p q x y := by
  have hb := wayI_bd hp hq x0 x1 y0 y1
  obtain ⟨p1, p2, p3, p4, _, _⟩ := hp
  obtain ⟨q1, q2, q3, q4, _, _⟩ := hq
  have h1 := mul_bd (a := q.x - p.x) (b := y - p.y) (by omega) (by omega) (by omega) (by omega)
  have h2 := mul_bd (a := q.y - p.y) (b := x - p.x) (by omega) (by omega) (by omega) (by omega)
  unfold wayF w64
  rw [w64_id (n := q.x - p.x) (by omega) (by omega), w64_id (n := y - p.y) (by omega) (by omega), w64_id (n := q.y - p.y) (by omega) (by omega), w64_id (n := x - p.x) (by omega) (by omega),
    w64_id (n := (q.x - p.x) * (y - p.y)) (by omega) (by omega), w64_id (n := (q.y - p.y) * (x - p.x)) (by omega) (by omega)]
  unfold wayI at hb ⊢
  rw [w64_id (by omega) (by omega)]
theorem ctr_eq {x : Int} (h0 : 0 ≤ x) (h1 : x < 64) : ctr x = 256 * x + 128 := by
  unfold ctr w64
  rw [w64_id (n := 256 * x) (by omega) (by omega), w64_id (by omega) (by omega)]
theorem way_sum (a b c : Wn) (x y : Int) : wayI b c x y + wayI c a x y + wayI a b x y = wayI a b c.x c.y := by
  unfold wayI; grind
theorem wayI_anti (a b : Wn) (x y : Int) : wayI b a x y = -wayI a b x y := by unfold wayI; grind
theorem area_swap (a b c : Wn) : wayI a c b.x b.y = -wayI a b c.x c.y := by unfold wayI; grind
theorem area_rot (a b c : Wn) : wayI b c a.x a.y = wayI a b c.x c.y := by unfold wayI; grind
theorem inF_pos {p q : Wn} {u v : Int} (h : inF p q u v = true) : 0 ≤ wayF p q u v := by
  simp only [inF, Bool.or_eq_true, decide_eq_true_eq, Bool.and_eq_true] at h
  omega

/-- a triangle of corners that may be, turned. -/
structure OkF (f : Fc) : Prop where
  a : OkW f.a
  b : OkW f.b
  c : OkW f.c
  area : f.area = wayI f.a f.b f.c.x f.c.y
theorem turn_ok {a b c : Wn} (ha : OkW a) (hb : OkW b) (hc : OkW c) : OkF (turnF a b c) := by
  have e := wayF_eq ha hb hc.x0 hc.x1 hc.y0 hc.y1
  have bd := wayI_bd ha hb hc.x0 hc.x1 hc.y0 hc.y1
  unfold turnF
  rw [e]
  cases h : decide (wayI a b c.x c.y < 0)
  · exact ⟨ha, hb, hc, rfl⟩
  · refine ⟨ha, hc, hb, ?_⟩
    show w64 (-(wayI a b c.x c.y)) = wayI a c b.x b.y
    unfold w64
    rw [w64_id (by omega) (by omega)]
    have := area_swap a b c
    omega
theorem turn_mem {a b c : Wn} : ∀ p, (p = (turnF a b c).a ∨ p = (turnF a b c).b ∨ p = (turnF a b c).c) → (p = a ∨ p = b ∨ p = c) := by
  intro p hp
  unfold turnF at hp
  cases h : decide (wayF a b c.x c.y < 0) <;> rw [h] at hp
  · exact hp
  · rcases hp with h | h | h
    · exact .inl h
    · exact .inr (.inr h)
    · exact .inr (.inl h)

theorem sides_ok {f : Fc} (hf : OkF f) {x y : Int} (x0 : 0 ≤ x) (x1 : x < 64) (y0 : 0 ≤ y) (y1 : y < 64) (h : (sidesF f x y).2 = true) :
    ∃ n0 n1 n2 : Nat, (sidesF f x y).1 = ((n0 : Int), (n1 : Int), (n2 : Int)) ∧ n0 < 1073741824 ∧ n1 < 1073741824 ∧ n2 < 1073741824 ∧ 0 < n0 + n1 + n2 ∧ (n0 : Int) = wayI f.b f.c (256 * x + 128) (256 * y + 128) ∧ (n1 : Int) = wayI f.c f.a (256 * x + 128) (256 * y + 128) ∧ (n2 : Int) = wayI f.a f.b (256 * x + 128) (256 * y + 128) := by
  obtain ⟨ha, hb, hc, har⟩ := hf
  unfold sidesF at h ⊢
  rw [ctr_eq x0 x1, ctr_eq y0 y1] at h ⊢
  have u := way_sum f.a f.b f.c (256 * x + 128) (256 * y + 128)
  have b0 := wayI_bd hb hc (x := 256 * x + 128) (y := 256 * y + 128) (by omega) (by omega) (by omega) (by omega)
  have b1 := wayI_bd hc ha (x := 256 * x + 128) (y := 256 * y + 128) (by omega) (by omega) (by omega) (by omega)
  have b2 := wayI_bd ha hb (x := 256 * x + 128) (y := 256 * y + 128) (by omega) (by omega) (by omega) (by omega)
  have e0 := wayF_eq hb hc (x := 256 * x + 128) (y := 256 * y + 128) (by omega) (by omega) (by omega) (by omega)
  have e1 := wayF_eq hc ha (x := 256 * x + 128) (y := 256 * y + 128) (by omega) (by omega) (by omega) (by omega)
  have e2 := wayF_eq ha hb (x := 256 * x + 128) (y := 256 * y + 128) (by omega) (by omega) (by omega) (by omega)
  cases g1 : decide (0 < f.area) <;> rw [g1] at h
  · simp at h
  simp only [decide_eq_true_eq] at g1
  cases g2 : inF f.b f.c (256 * x + 128) (256 * y + 128) <;> rw [g2] at h
  · simp at h
  cases g3 : inF f.c f.a (256 * x + 128) (256 * y + 128) <;> rw [g3] at h
  · simp at h
  simp only [cond_true] at h ⊢
  have p0 := inF_pos g2
  have p1 := inF_pos g3
  have p2 := inF_pos h
  rw [e0] at p0
  rw [e1] at p1
  rw [e2] at p2
  rw [e0, e1, e2]
  exact ⟨(wayI f.b f.c (256 * x + 128) (256 * y + 128)).toNat, (wayI f.c f.a (256 * x + 128) (256 * y + 128)).toNat, (wayI f.a f.b (256 * x + 128) (256 * y + 128)).toNat,
    by rw [Int.toNat_of_nonneg p0, Int.toNat_of_nonneg p1, Int.toNat_of_nonneg p2], by omega, by omega, by omega, by omega, by omega, by omega, by omega⟩

/-! ## Fragments -/
structure Fg where
  x : Int
  y : Int
  z : Int
  iw : Int
  fr : Bool
  vs : List V4
def fgOf (f : Fc) (x y : Int) (s : Int × Int × Int) : Fg :=
  ⟨x, y, nearZ f s.1.toNat s.2.1.toNat s.2.2.toNat, nearW f s.1.toNat s.2.1.toNat s.2.2.toNat, f.front, vsF f s.1.toNat s.2.1.toNat s.2.2.toNat f.a.l⟩
def fragF (f : Fc) (x y : Int) : Option Fg := bif (sidesF f x y).2 then some (fgOf f x y (sidesF f x y).1) else none

/-- vectors, in a heap, in blocks from N on. -/
def VsAt (N : Nat) (h : AH) (hd : Value) (vs : List V4) : Prop :=
  (vs = [] ∧ hd = .slice none 0 0) ∨ (vs ≠ [] ∧ ∃ b, N ≤ b ∧ b < h.nx ∧ h.get b = some (.cells (vs.flatMap V4.cs) 1 4) ∧ hd = .slice (some ⟨b, 0, some 0⟩) vs.length vs.length)
def FgAt (N : Nat) (h : AH) (g : Fg) (c : List Value) : Prop := ∃ hd, c = frV g.x g.y g.z g.iw g.fr hd ∧ VsAt N h hd g.vs
def FgsAt (N : Nat) (h : AH) : List Fg → List Value → Prop
  | [], cs => cs = []
  | g :: l, cs => ∃ c r, cs = c ++ r ∧ FgAt N h g c ∧ FgsAt N h l r
def FL (N : Nat) (h : AH) (hd : Value) (l : List Fg) : Prop :=
  (l = [] ∧ hd = .slice none 0 0) ∨ (l ≠ [] ∧ ∃ b cs, N ≤ b ∧ b < h.nx ∧ h.get b = some (.cells cs 1 10) ∧ FgsAt N h l cs ∧ hd = .slice (some ⟨b, 0, some 0⟩) l.length l.length)

theorem VsAt.mono {N : Nat} {h h' : AH} (hn : h.nx ≤ h'.nx) (hg : ∀ b cs, N ≤ b → b < h.nx → h.get b = some (.cells cs 1 4) → h'.get b = some (.cells cs 1 4)) {hd : Value} {vs : List V4} (hv : VsAt N h hd vs) : VsAt N h' hd vs := by
  rcases hv with hv | ⟨h0, b, h1, h2, h3, h4⟩
  · exact .inl hv
  · exact .inr ⟨h0, b, h1, by omega, hg b _ h1 h2 h3, h4⟩
theorem FgsAt.mono {N : Nat} {h h' : AH} (hn : h.nx ≤ h'.nx) (hg : ∀ b cs, N ≤ b → b < h.nx → h.get b = some (.cells cs 1 4) → h'.get b = some (.cells cs 1 4)) : ∀ {l : List Fg} {cs : List Value}, FgsAt N h l cs → FgsAt N h' l cs
  | [], _, hl => hl
  | g :: l, _, ⟨c, r, e, ⟨hd, h1, h2⟩, h3⟩ => ⟨c, r, e, ⟨hd, h1, h2.mono hn hg⟩, FgsAt.mono hn hg h3⟩
theorem FgsAt.snoc {N : Nat} {h : AH} {g : Fg} {c : List Value} (hc : FgAt N h g c) : ∀ {l : List Fg} {cs : List Value}, FgsAt N h l cs → FgsAt N h (l ++ [g]) (cs ++ c)
  | [], cs, hl => ⟨c, [], by rw [show cs = [] from hl]; simp, hc, rfl⟩
  | g' :: l, cs, ⟨c', r, e, h1, h2⟩ => ⟨c', r ++ c, by rw [e]; simp, h1, FgsAt.snoc hc h2⟩
theorem FgAt.length {N : Nat} {h : AH} {g : Fg} {c : List Value} (hc : FgAt N h g c) : c.length = 10 := by obtain ⟨hd, rfl, _⟩ := hc; rfl
theorem FgsAt.length {N : Nat} {h : AH} : ∀ {l : List Fg} {cs : List Value}, FgsAt N h l cs → cs.length = l.length * 10
  | [], cs, hl => by rw [show cs = [] from hl]; rfl
  | g :: l, _, ⟨c, r, e, h1, h2⟩ => by rw [e, List.length_append, h1.length, FgsAt.length h2]; simp only [List.length_cons]; omega
end
end Go.AX.Tri
/- Contracts: Fill's rounds. -/
namespace Go.AX.Tri
open Go.Proofs Go.AX.Mc
set_option linter.unusedSimpArgs false
set_option linter.unusedVariables false
noncomputable section

def b15a : ACode := (.seq (.region [yP (oMov (t 48)) 14 0])
        (.region [yP (oMov (t 49)) 15 0]))
def b15b : ACode := (.block 1
          (.seq (.region [yP (oMov (t 14)) 51 0,
            yP (oMov (t 15)) 52 0,
            yE (oEnter 35 [(t 13), (t 51), (t 52)]) 53 0,
            yP (oMov (t 53)) 50 0,
            yP (oExtract 0 (t 50)) 54 0,
            yP (oExtract 1 (t 50)) 55 0,
            yN (oAlloc [(.int .i64 0), (.int .i64 0), (.int .i64 0)]) 16 0,
            zE (oStore 3 (t 16) (t 54)) 0,
            yP (oMov (t 55)) 17 0])
          (.seq (.seq (.region [yP (oMov (t 17)) 56 0,
            yP (oUn Try.prog .not (t 56)) 57 0])
          (.cond (t 57)
            (.exit 1)
            .skip))
          (.draw [yR (oLoad1 (t 12)) 58 0,
            yP (oMov (t 14)) 59 0,
            yP (oMov (t 15)) 60 0,
            yR (oLoadA 3 (t 16)) 61 0,
            yE (oEnter 36 [(t 13), (t 59), (t 60), (t 61)]) 62 14,
            yN (oBuildSlice 1 [(.int .i64 0), (.int .i64 0), (.int .i32 0), (.int .i32 0), (.bool .false), (.int .i32 0), (.int .i32 0), (.int .i32 0), (.int .i32 0), (.slice .none 0 0)] [(0, (10, (t 62)))]) 63 30,
            yE (oAppend 10 72 (t 58) (t 63)) 64 63,
            zE (oStore 1 (t 12) (t 64)) 127]))))

/-- what a round leaves. -/
structure Rnd (N M : Nat) (p12 : Nat) (h h2 : AH) : Prop where
  nx : h.nx ≤ h2.nx
  lo : N ≤ h2.lo
  le : h2.lo ≤ h2.nx
  get : ∀ b, b < h.nx → b ≠ p12 → b < M → h2.get b = h.get b

theorem vs_out {N N' : Nat} {base : AH} {L M : List (Option AB)} {a b : Option AB} {hd : Value} {vs : List V4} (hV : VsOut N' L hd vs) (e : N' = base.nx + 2) (hN : N ≤ base.nx) : VsAt N (ext base (a :: b :: (L ++ M))) hd vs := by
  rcases hV with h | ⟨h0, i, hi, rfl⟩
  · exact .inl h
  · have hl := (List.getElem?_eq_some_iff.1 hi).1
    refine .inr ⟨h0, N' + i, by omega, ?_, ?_, rfl⟩
    · rw [ext_nx, e]; simp only [List.length_cons, List.length_append]; omega
    · rw [e, show base.nx + 2 + i = base.nx + (i + 1 + 1) by omega, ext_get_new, List.getElem?_cons_succ, List.getElem?_cons_succ, List.getElem?_append_left hl, hi]; rfl

theorem round15 {env : List Lp} {Q : QF} {f : Fc} {bf p12 N M : Nat} {h : AH} (x y : Int) (x0 : 0 ≤ x) (x1 : x < 64) (y0 : 0 ≤ y) (y1 : y < 64) (hb : bf < h.nx) (hf : rd h bf 0 20 = some f.cs) (hok : OkF f) (hl : ∀ p, (p = f.a ∨ p = f.b ∨ p = f.c) → p.l = f.a.l)
    (ha : ∀ p, (p = f.a ∨ p = f.b ∨ p = f.c) → WnAt h p) (hNlo : N ≤ h.lo) (hlo : h.lo ≤ h.nx) (h12 : p12 < h.nx) (hN12 : N ≤ p12) (hNM : N ≤ M) (hM : M ≤ h.nx) (hd : Value) (g12 : h.get p12 = some (.cells [hd] 0 0)) (l : List Fg) (hsz : l.length < 10000) (hL : FL M h hd l)
    (fr : Tr Value) (t12 : tmp fr (pa 12) = .pointer (some ⟨p12, 0, none⟩)) (t13 : tmp fr (pa 13) = .pointer (some ⟨bf, 0, none⟩)) (t14 : tmp fr (pa 14) = .int .i64 x) (t15 : tmp fr (pa 15) = .int .i64 y)
    (hQ : ∀ fr h2 hd2, Rnd N M p12 h h2 → h2.get p12 = some (.cells [hd2] 0 0) → FL M h2 hd2 (l ++ (fragF f x y).toList) → Q .normal fr [] h2) :
    X T env true b15b [] fr [] (ext h []) Q := by
  have r12 : rd h p12 0 1 = some [hd] := by rw [rd_rdB, g12]; rfl
  have k35 := fun (L : List (Option AB)) (Q : AEnd → AH → Prop) => c35 (env := env) f bf x y (ext h L) (by rw [ext_nx]; omega) (by rw [rd_old _ _ _ _ _ hb]; exact hf) Q
  change X _ _ _ (.block _ _) _ _ _ _ _
  cases hs : (sidesF f x y).2
  · simp only [t12, t13, t14, t15, k35, hs, s3V, hlo, go_sem, bin_add, bin_sub, bin_mul, Nat.reduceAdd, Nat.reduceMul, Nat.reduceEqDiff, Nat.reduceLeDiff, Nat.reduceLT, Nat.reduceSub, reduceIte, reduceCtorEq, Int.reduceToNat, Int.reduceNeg, Int.reduceLE, Int.reduceLT, Int.reduceEq, Nat.reduceOr, Nat.reduceShiftRight, Nat.reduceMod, Nat.reduceBNe, Nat.reduceBEq]
    refine hQ _ _ hd ⟨?_, ?_, ?_, ?_⟩ ?_ ?_
    · rw [ext_nx]; omega
    · rw [ext_lo]; exact hNlo
    · rw [ext_lo, ext_nx]; omega
    · intro b hb _ _; exact ext_get_old _ _ _ hb
    · rw [ext_get_old _ _ _ h12]; exact g12
    · have e : (fragF f x y).toList = [] := by simp only [fragF, hs]; rfl
      rw [e, List.append_nil]
      rcases hL with hL | ⟨h0, b, cs, h1, h2, h3, h4, h5⟩
      · exact .inl hL
      · exact .inr ⟨h0, b, cs, h1, by rw [ext_nx]; omega, by rw [ext_get_old _ _ _ h2]; exact h3, h4.mono (by rw [ext_nx]; omega) (fun b cs _ h2 h3 => by rw [ext_get_old _ _ _ h2]; exact h3), h5⟩
  · obtain ⟨n0, n1, n2, e1, h0, h1, h2, hA, _, _, _⟩ := sides_ok hok x0 x1 y0 y1 hs
    have eg : (fragF f x y).toList = [fgOf f x y ((n0 : Int), (n1 : Int), (n2 : Int))] := by simp only [fragF, hs, e1]; rfl
    have eF : fgOf f x y ((n0 : Int), (n1 : Int), (n2 : Int)) = ⟨x, y, nearZ f n0 n1 n2, nearW f n0 n1 n2, f.front, vsF f n0 n1 n2 f.a.l⟩ := by simp only [fgOf, Int.toNat_natCast]
    rw [eg, eF] at hQ
    have hl4 : f.a.l < 1000 := by have := hok.a.l4; omega
    have hF : FrHyp f bf n0 n1 n2 (ext h [some (.cells [.int .i64 n0, .int .i64 n1, .int .i64 n2] 0 0), none]) := by
      refine ⟨by rw [ext_nx]; omega, by rw [rd_old _ _ _ _ _ hb]; exact hf, h0, h1, h2, hA, ?_, ?_, hl⟩
      · intro p hp
        rcases hp with rfl | rfl | rfl
        · exact hok.a.w0
        · exact hok.b.w0
        · exact hok.c.w0
      · intro p hp
        have := ha p hp
        exact ⟨this.len, this.vec.mono (by rw [ext_nx]; omega) (fun b hb o n => rd_old _ _ _ _ _ hb), this.num, this.z, this.w⟩
    have hlo2 : (ext h [some (AB.cells [.int .i64 (n0 : Int), .int .i64 (n1 : Int), .int .i64 (n2 : Int)] 0 0), none]).lo ≤ (ext h [some (AB.cells [.int .i64 (n0 : Int), .int .i64 (n1 : Int), .int .i64 (n2 : Int)] 0 0), none]).nx := by rw [ext_lo, ext_nx]; omega
    simp only [t12, t13, t14, t15, k35, hs, e1, s3V, hlo, go_sem, bin_add, bin_sub, bin_mul, Nat.reduceAdd, Nat.reduceMul, Nat.reduceEqDiff, Nat.reduceLeDiff, Nat.reduceLT, Nat.reduceSub, reduceIte, reduceCtorEq, Int.reduceToNat, Int.reduceNeg, Int.reduceLE, Int.reduceLT, Int.reduceEq, Nat.reduceOr, Nat.reduceShiftRight, Nat.reduceMod, Nat.reduceBNe, Nat.reduceBEq]
    refine X_drawE 1 (by rfl) ?_
    rcases hL with ⟨rfl, rfl⟩ | ⟨hl0, b, cs, hb1, hb2, hb3, hb4, rfl⟩
    · simp only [t12, t13, t14, t15, h12, r12, hlo, go_sem, bin_add, bin_sub, bin_mul, Nat.reduceAdd, Nat.reduceMul, Nat.reduceEqDiff, Nat.reduceLeDiff, Nat.reduceLT, Nat.reduceSub, reduceIte, reduceCtorEq, Int.reduceToNat, Int.reduceNeg, Int.reduceLE, Int.reduceLT, Int.reduceEq, Nat.reduceOr, Nat.reduceShiftRight, Nat.reduceMod, Nat.reduceBNe, Nat.reduceBEq]
      refine c36 hF hl4 hlo2 x y _ ?_
      intro L hdv hV
      simp only [t12, t13, t14, t15, h12, r12, hlo, ext_ext, frV, go_sem, bin_add, bin_sub, bin_mul, Nat.reduceAdd, Nat.reduceMul, Nat.reduceEqDiff, Nat.reduceLeDiff, Nat.reduceLT, Nat.reduceSub, reduceIte, reduceCtorEq, Int.reduceToNat, Int.reduceNeg, Int.reduceLE, Int.reduceLT, Int.reduceEq, Nat.reduceOr, Nat.reduceShiftRight, Nat.reduceMod, Nat.reduceBNe, Nat.reduceBEq]
      rw [app_nil _ 10 72 _ 0 (frV x y (nearZ f n0 n1 n2) (nearW f n0 n1 n2) f.front hdv) (aSource_s _ 10 _ 0 1 1 _ (by simp only [frV, go_sem, bin_add, bin_sub, bin_mul, Nat.reduceAdd, Nat.reduceMul, Nat.reduceEqDiff, Nat.reduceLeDiff, Nat.reduceLT, Nat.reduceSub, reduceIte, reduceCtorEq, Int.reduceToNat, Int.reduceNeg, Int.reduceLE, Int.reduceLT, Int.reduceEq, Nat.reduceOr, Nat.reduceShiftRight, Nat.reduceMod, Nat.reduceBNe, Nat.reduceBEq])) (room_of (by omega) (by omega)) (by rcases hV with ⟨_, rfl⟩ | ⟨_, _, _, rfl⟩ <;> rfl)]
      simp only [t12, t13, t14, t15, h12, r12, g12, hlo, ext_ext, frV, go_sem, bin_add, bin_sub, bin_mul, Nat.reduceAdd, Nat.reduceMul, Nat.reduceEqDiff, Nat.reduceLeDiff, Nat.reduceLT, Nat.reduceSub, reduceIte, reduceCtorEq, Int.reduceToNat, Int.reduceNeg, Int.reduceLE, Int.reduceLT, Int.reduceEq, Nat.reduceOr, Nat.reduceShiftRight, Nat.reduceMod, Nat.reduceBNe, Nat.reduceBEq]
      refine hQ _ _ (.slice (some ⟨h.nx + (L.length + 1 + 1), 0, some 0⟩) 1 1) ⟨?_, ?_, ?_, ?_⟩ ?_ ?_
      · rw [ext_nx, AH.nx_set]; omega
      · rw [ext_lo]; show N ≤ min h.lo p12; omega
      · rw [ext_lo, ext_nx, AH.nx_set]; show min h.lo p12 ≤ _; omega
      · intro b hb hne _
        rw [ext_get_old _ _ _ (by rw [AH.nx_set]; exact hb), AH.get_set_ne _ _ _ hne]
      · rw [ext_get_old _ _ _ (by rw [AH.nx_set]; exact h12), AH.get_set_same]
      · refine .inr ⟨by simp, h.nx + (L.length + 1 + 1), _, by omega, ?_, ?_, ⟨_, [], (List.append_nil _).symm, ⟨hdv, rfl, vs_out hV (by rw [ext_nx, AH.nx_set]; rfl) (by rw [AH.nx_set]; omega)⟩, rfl⟩, rfl⟩
        · rw [ext_nx, AH.nx_set]; simp only [List.length_cons, List.length_append]; omega
        · rw [ext_get_at (AH.set _ p12 _) _ h.nx _ rfl]
          simp only [go_sem, bin_add, bin_sub, bin_mul, Nat.reduceAdd, Nat.reduceMul, Nat.reduceEqDiff, Nat.reduceLeDiff, Nat.reduceLT, Nat.reduceSub, reduceIte, reduceCtorEq, Int.reduceToNat, Int.reduceNeg, Int.reduceLE, Int.reduceLT, Int.reduceEq, Nat.reduceOr, Nat.reduceShiftRight, Nat.reduceMod, Nat.reduceBNe, Nat.reduceBEq]
          rfl
    · have hbp : p12 ≠ b := by
        intro e; rw [e, hb3] at g12; cases g12
      have hbp' : b ≠ p12 := fun e => hbp e.symm
      have hcl := hb4.length
      simp only [t12, t13, t14, t15, h12, r12, hlo, go_sem, bin_add, bin_sub, bin_mul, Nat.reduceAdd, Nat.reduceMul, Nat.reduceEqDiff, Nat.reduceLeDiff, Nat.reduceLT, Nat.reduceSub, reduceIte, reduceCtorEq, Int.reduceToNat, Int.reduceNeg, Int.reduceLE, Int.reduceLT, Int.reduceEq, Nat.reduceOr, Nat.reduceShiftRight, Nat.reduceMod, Nat.reduceBNe, Nat.reduceBEq]
      refine c36 hF hl4 hlo2 x y _ ?_
      intro L hdv hV
      simp only [t12, t13, t14, t15, h12, r12, hlo, ext_ext, frV, go_sem, bin_add, bin_sub, bin_mul, Nat.reduceAdd, Nat.reduceMul, Nat.reduceEqDiff, Nat.reduceLeDiff, Nat.reduceLT, Nat.reduceSub, reduceIte, reduceCtorEq, Int.reduceToNat, Int.reduceNeg, Int.reduceLE, Int.reduceLT, Int.reduceEq, Nat.reduceOr, Nat.reduceShiftRight, Nat.reduceMod, Nat.reduceBNe, Nat.reduceBEq]
      rw [app_slr _ 10 72 b l.length cs _ 0 (frV x y (nearZ f n0 n1 n2) (nearW f n0 n1 n2) f.front hdv) (aSource_s _ 10 _ 0 1 1 _ (by simp only [frV, go_sem, bin_add, bin_sub, bin_mul, Nat.reduceAdd, Nat.reduceMul, Nat.reduceEqDiff, Nat.reduceLeDiff, Nat.reduceLT, Nat.reduceSub, reduceIte, reduceCtorEq, Int.reduceToNat, Int.reduceNeg, Int.reduceLE, Int.reduceLT, Int.reduceEq, Nat.reduceOr, Nat.reduceShiftRight, Nat.reduceMod, Nat.reduceBNe, Nat.reduceBEq])) (by rw [ext_get_old _ _ _ hb2]; exact hb3) hcl (room_of (by omega) (by omega)) (by rcases hV with ⟨_, rfl⟩ | ⟨_, _, _, rfl⟩ <;> rfl)]
      rw [ext_set_old _ _ _ _ hb2]
      simp only [t12, t13, t14, t15, h12, r12, AH.get_set_ne _ _ _ hbp, g12, hlo, ext_ext, frV, go_sem, bin_add, bin_sub, bin_mul, Nat.reduceAdd, Nat.reduceMul, Nat.reduceEqDiff, Nat.reduceLeDiff, Nat.reduceLT, Nat.reduceSub, reduceIte, reduceCtorEq, Int.reduceToNat, Int.reduceNeg, Int.reduceLE, Int.reduceLT, Int.reduceEq, Nat.reduceOr, Nat.reduceShiftRight, Nat.reduceMod, Nat.reduceBNe, Nat.reduceBEq]
      refine hQ _ _ (.slice (some ⟨h.nx + (L.length + 1 + 1), 0, some 0⟩) (l.length + 1) (l.length + 1)) ⟨?_, ?_, ?_, ?_⟩ ?_ ?_
      · rw [ext_nx, AH.nx_set, AH.nx_set]; omega
      · rw [ext_lo]; show N ≤ min (min h.lo b) p12; omega
      · rw [ext_lo, ext_nx, AH.nx_set, AH.nx_set]; show min (min h.lo b) p12 ≤ _; omega
      · intro c hc hne hcs
        rw [ext_get_old _ _ _ (by rw [AH.nx_set, AH.nx_set]; exact hc), AH.get_set_ne _ _ _ hne, AH.get_set_ne _ _ _ (by omega)]
      · rw [ext_get_old _ _ _ (by rw [AH.nx_set, AH.nx_set]; exact h12), AH.get_set_same]
      · refine .inr ⟨by simp, h.nx + (L.length + 1 + 1), _, by omega, ?_, ?_, FgsAt.snoc ⟨hdv, rfl, vs_out hV (by rw [ext_nx, AH.nx_set, AH.nx_set]; rfl) (by rw [AH.nx_set, AH.nx_set]; omega)⟩ (hb4.mono ?_ ?_), by simp⟩
        · rw [ext_nx, AH.nx_set, AH.nx_set]; simp only [List.length_cons, List.length_append]; omega
        · rw [ext_get_at (AH.set (AH.set h b .dead) p12 _) _ h.nx _ rfl]
          simp only [go_sem, bin_add, bin_sub, bin_mul, Nat.reduceAdd, Nat.reduceMul, Nat.reduceEqDiff, Nat.reduceLeDiff, Nat.reduceLT, Nat.reduceSub, reduceIte, reduceCtorEq, Int.reduceToNat, Int.reduceNeg, Int.reduceLE, Int.reduceLT, Int.reduceEq, Nat.reduceOr, Nat.reduceShiftRight, Nat.reduceMod, Nat.reduceBNe, Nat.reduceBEq]
          rfl
        · rw [ext_nx, AH.nx_set, AH.nx_set]; omega
        · intro c cs' _ hc hcs
          rw [ext_get_old _ _ _ (by rw [AH.nx_set, AH.nx_set]; exact hc), AH.get_set_ne _ _ _ (by intro e; rw [e, g12] at hcs; cases hcs), AH.get_set_ne _ _ _ (by intro e; rw [e, hb3] at hcs; cases hcs)]
          exact hcs
end
end Go.AX.Tri
