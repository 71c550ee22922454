/- Contracts: the fragment at a centre (3): its vectors. -/
import Derived.Test.YthhgeodgfbhkdaaWh
set_option linter.unusedVariables false
set_option linter.unusedSimpArgs false
set_option linter.unusedSectionVars false
namespace Go.AX.Tri
open Go.Proofs Go.AX.Mc
set_option linter.unusedSimpArgs false
set_option linter.unusedVariables false
noncomputable section

/-- vectors in a heap, behind a slice's header. -/
def VecAt (h : AH) (a : Option Addr) (vs : List V4) : Prop :=
  ∀ k v, vs[k]? = some v → ∃ b o r, a = some ⟨b, o, r⟩ ∧ (r = none ∨ r = some 0) ∧ b < h.nx ∧ rd h b (o + k * 4) 4 = some v.cs

theorem c54 {env : List Lp} (p : Wn) (vs : List V4) (k n : Nat) (v : V4) (pk pn : Nat) (H : AH) (hv : VecAt H p.a vs) (hl : p.l = vs.length) (hk : vs[k]? = some v) (hn : n < 4)
    (bk : pk < H.nx) (bn : pn < H.nx) (rk : rd H pk 0 1 = some [.int .i64 (k : Int)]) (rn : rd H pn 0 1 = some [.int .i64 (n : Int)]) (Q : AEnd → AH → Prop) :
    C T env 54 [p.v, .pointer (some ⟨pk, 0, none⟩), .pointer (some ⟨pn, 0, none⟩)] H Q = Q (.ret (.int .i32 (v.at n))) H := by
  refine C_det ?_ Q
  rw [C_fn T54 rfl]
  obtain ⟨b, o, r, ha, hr, hb, h4⟩ := hv k v hk
  have hkl : k < p.l := by rw [hl]; exact (List.getElem?_eq_some_iff.1 hk).1
  have h1 : rd H b (o + k * 4 + n * 1) 1 = some [.int .i32 (v.at n)] := by
    rw [rd_part h4 (n * 1) 1 (by omega)]
    have : n = 0 ∨ n = 1 ∨ n = 2 ∨ n = 3 := by omega
    rcases this with rfl | rfl | rfl | rfl <;> rfl
  rcases hr with rfl | rfl
  all_goals
    simp only [a54, Wn.v, Wn.cs, go_sem, bin_add, bin_sub, bin_mul, Nat.reduceAdd, Nat.reduceMul, Nat.reduceEqDiff, Nat.reduceLeDiff, Nat.reduceLT, Nat.reduceSub, reduceIte, reduceCtorEq, Int.reduceToNat, Int.reduceNeg, Int.reduceLE, Int.reduceLT, Int.reduceEq, Nat.reduceOr, Nat.reduceShiftRight, Nat.reduceMod, Nat.reduceBNe, Nat.reduceBEq]
    refine X_drawE 0 (by rfl) ?_
    simp only [Wn.cs, bk, bn, rk, rn, hb, h1, ha, hkl, hn, go_sem, bin_add, bin_sub, bin_mul, Nat.reduceAdd, Nat.reduceMul, Nat.reduceEqDiff, Nat.reduceLeDiff, Nat.reduceLT, Nat.reduceSub, reduceIte, reduceCtorEq, Int.reduceToNat, Int.reduceNeg, Int.reduceLE, Int.reduceLT, Int.reduceEq, Nat.reduceOr, Nat.reduceShiftRight, Nat.reduceMod, Nat.reduceBNe, Nat.reduceBEq]

theorem VecAt.mono {h h' : AH} {a : Option Addr} {vs : List V4} (hv : VecAt h a vs) (hn : h.nx ≤ h'.nx) (hr : ∀ b, b < h.nx → ∀ o n, rd h' b o n = rd h b o n) : VecAt h' a vs := by
  intro k v hk
  obtain ⟨b, o, r, h1, h2, h3, h4⟩ := hv k v hk
  exact ⟨b, o, r, h1, h2, by omega, by rw [hr b h3]; exact h4⟩

/-- a corner whose vectors stand in a heap, its numbers of their kinds. -/
structure WnAt (h : AH) (p : Wn) : Prop where
  len : p.l = p.vs.length
  vec : VecAt h p.a p.vs
  num : ∀ v ∈ p.vs, ∀ n, -2147483648 ≤ v.at n ∧ v.at n < 2147483648
  z : -2147483648 ≤ p.z ∧ p.z < 2147483648
  w : -2147483648 ≤ p.w ∧ p.w < 2147483648
def atV (p : Wn) (k n : Nat) : Int := match p.vs[k]? with
  | some v => v.at n
  | none => 0
def vecN (f : Fc) (n0 n1 n2 k n : Nat) : Int := nearF (n0 * f.b.w.toNat * f.c.w.toNat) (n1 * f.c.w.toNat * f.a.w.toNat) (n2 * f.a.w.toNat * f.b.w.toNat) (atV f.a k n) (atV f.b k n) (atV f.c k n)
theorem mul3_lt (n v w : Nat) (hn : n < 1073741824) (hv : v < 2147483648) (hw : w < 2147483648) : n * v * w ≤ 4951760157141521099596496896 := by
  have h1 : n * v ≤ 1073741824 * 2147483648 := Nat.mul_le_mul (by omega) (by omega)
  exact Nat.le_trans (Nat.mul_le_mul h1 (show w ≤ 2147483648 by omega)) (by omega)
theorem mul3_pos (n v w : Nat) (hn : 0 < n) (hv : 0 < v) (hw : 0 < w) : 0 < n * v * w := Nat.mul_pos (Nat.mul_pos hn hv) hw

/-- what all the fragment's parts stand on. -/
structure FrHyp (f : Fc) (bf n0 n1 n2 : Nat) (H : AH) : Prop where
  hb : bf < H.nx
  hf : rd H bf 0 20 = some f.cs
  h0 : n0 < 1073741824
  h1 : n1 < 1073741824
  h2 : n2 < 1073741824
  hA : 0 < n0 + n1 + n2
  hw : ∀ p, (p = f.a ∨ p = f.b ∨ p = f.c) → 0 < p.w
  ha : ∀ p, (p = f.a ∨ p = f.b ∨ p = f.c) → WnAt H p
  hl : ∀ p, (p = f.a ∨ p = f.b ∨ p = f.c) → p.l = f.a.l

theorem of_vec {env : List Lp} {f : Fc} {bf n0 n1 n2 : Nat} {H : AH} (h : FrHyp f bf n0 n1 n2 H) (k n : Nat) (hk : k < f.a.l) (hn : n < 4) (L : List (Option AB)) (pk pn : Nat)
    (bk : pk < (ext H.now (blk [.pointer (some ⟨bf, 0, none⟩)] :: L)).nx) (bn : pn < (ext H.now (blk [.pointer (some ⟨bf, 0, none⟩)] :: L)).nx)
    (rk : rd (ext H.now (blk [.pointer (some ⟨bf, 0, none⟩)] :: L)) pk 0 1 = some [.int .i64 (k : Int)]) (rn : rd (ext H.now (blk [.pointer (some ⟨bf, 0, none⟩)] :: L)) pn 0 1 = some [.int .i64 (n : Int)]) (Q : AEnd → AH → Prop) :
    C T env 49 [.agg (byF f n0 n1 n2).toArray, .func (.func 54) #[] #[.pointer (some ⟨pk, 0, none⟩), .pointer (some ⟨pn, 0, none⟩)], .pointer (some ⟨H.now.nx, 0, none⟩)] (ext H.now (blk [.pointer (some ⟨bf, 0, none⟩)] :: L)) Q =
      Q (.ret (.int .i32 (vecN f n0 n1 n2 k n))) (ext H.now (blk [.pointer (some ⟨bf, 0, none⟩)] :: L)) := by
  have W : ∀ p, (p = f.a ∨ p = f.b ∨ p = f.c) → 0 < p.w.toNat ∧ p.w.toNat < 2147483648 := fun p hp => by have := h.hw p hp; have := (h.ha p hp).w; omega
  have wa := W f.a (.inl rfl)
  have wb := W f.b (.inr (.inl rfl))
  have wc := W f.c (.inr (.inr rfl))
  have m0 := mul3_lt n0 _ _ h.h0 wb.2 wc.2
  have m1 := mul3_lt n1 _ _ h.h1 wc.2 wa.2
  have m2 := mul3_lt n2 _ _ h.h2 wa.2 wb.2
  have hpos : 0 < n0 * f.b.w.toNat * f.c.w.toNat + n1 * f.c.w.toNat * f.a.w.toNat + n2 * f.a.w.toNat * f.b.w.toNat := by
    have := h.hA
    by_cases e0 : 0 < n0
    · have := mul3_pos n0 _ _ e0 wb.1 wc.1; omega
    · by_cases e1 : 0 < n1
      · have := mul3_pos n1 _ _ e1 wc.1 wa.1; omega
      · have := mul3_pos n2 _ _ (by omega) wa.1 wb.1; omega
  have hb0 : H.now.nx < (ext H.now (blk [.pointer (some ⟨bf, 0, none⟩)] :: L)).nx := by rw [ext_nx]; simp only [List.length_cons]; omega
  have hle : H.nx ≤ (ext H.now (blk [.pointer (some ⟨bf, 0, none⟩)] :: L)).nx := by rw [ext_nx]; exact Nat.le_add_right _ _
  have hv : ∀ p, (p = f.a ∨ p = f.b ∨ p = f.c) → ∃ v, p.vs[k]? = some v := fun p hp => by
    have h1 := h.hl p hp
    have h2 := (h.ha p hp).len
    exact ⟨_, List.getElem?_eq_getElem (by omega)⟩
  refine c49 f bf H.now.nx 54 [_, _] (fun p => atV p k n) _ _ _ hpos (by omega) _ (Nat.lt_of_lt_of_le h.hb hle) hb0 ?_ ?_ ?_ ?_ Q
  · rw [rd_old H.now _ _ _ _ h.hb]; exact h.hf
  · simp only [go_sem, bin_add, bin_sub, bin_mul, Nat.reduceAdd, Nat.reduceMul, Nat.reduceEqDiff, Nat.reduceLeDiff, Nat.reduceLT, Nat.reduceSub, reduceIte, reduceCtorEq, Int.reduceToNat, Int.reduceNeg, Int.reduceLE, Int.reduceLT, Int.reduceEq, Nat.reduceOr, Nat.reduceShiftRight, Nat.reduceMod, Nat.reduceBNe, Nat.reduceBEq]
  · intro p hp L' Q'
    obtain ⟨v, hvk⟩ := hv p hp
    have := c54 (env := env) p p.vs k n v pk pn (ext (ext H.now (blk [.pointer (some ⟨bf, 0, none⟩)] :: L)).now L') ((h.ha p hp).vec.mono (by rw [ext_nx]; exact Nat.le_trans hle (Nat.le_add_right _ _)) ?_) (h.ha p hp).len hvk hn ?_ ?_ ?_ ?_ Q'
    · rw [show atV p k n = v.at n by unfold atV; rw [hvk]]; exact this
    · intro b hb o m
      rw [rd_old (ext H.now _).now _ _ _ _ (Nat.lt_of_lt_of_le hb hle), rd_now, rd_old H.now _ _ _ _ hb, rd_now]
    · rw [ext_nx]; exact Nat.lt_of_lt_of_le bk (Nat.le_add_right _ _)
    · rw [ext_nx]; exact Nat.lt_of_lt_of_le bn (Nat.le_add_right _ _)
    · rw [rd_old (ext H.now _).now _ _ _ _ bk, rd_now]; exact rk
    · rw [rd_old (ext H.now _).now _ _ _ _ bn, rd_now]; exact rn
  · intro p hp
    obtain ⟨v, hvk⟩ := hv p hp
    show _ ≤ atV p k n ∧ atV p k n < _
    unfold atV; rw [hvk]
    exact (h.ha p hp).num v (List.mem_of_getElem? hvk) n
end
end Go.AX.Tri
/- Contracts: the fragment at a centre (4): the loops over its vectors. -/
namespace Go.AX.Tri
open Go.Proofs Go.AX.Mc
set_option linter.unusedSimpArgs false
set_option linter.unusedVariables false
noncomputable section

/-- the frame's constant part. -/
structure Fr36 (H : AH) (fr : Tr Value) : Prop where
  t4 : tmp fr (pa 4) = .pointer (some ⟨H.now.nx, 0, none⟩)
  t8 : tmp fr (pa 8) = .pointer (some ⟨H.now.nx + 2, 0, none⟩)
  t10 : tmp fr (pa 10) = .pointer (some ⟨H.now.nx + 4, 0, none⟩)
  t13 : tmp fr (pa 13) = .func (.func 49) #[] #[.pointer (some ⟨H.now.nx, 0, none⟩)]
  t14 : tmp fr (pa 14) = .pointer (some ⟨H.now.nx + 5, 0, none⟩)

theorem byF_length (f : Fc) (a b c : Nat) : (byF f a b c).length = 6 := rfl
theorem byF_take (f : Fc) (a b c : Nat) : (byF f a b c).take 6 = byF f a b c := rfl
theorem veq_byF (f : Fc) (a b c : Nat) : ((byF f a b c).zip (byF f a b c)).all (fun x => veq 5 x.1 x.2) = true := veq_wsV _ _ _

theorem vstep {env : List Lp} {k0 : List KF} {Q : QF} {f : Fc} {bf n0 n1 n2 : Nat} {H : AH} (h : FrHyp f bf n0 n1 n2 H) (b1 b2 b3 b5 : Option AB) (k : Nat) (hk : k < f.a.l) (n : Nat) (hn : n < 4) (vc : List Value) (hvc : vc.length = 4)
    (G0 G1 : List (Option AB)) (fr : Tr Value) (hf : Fr36 H fr) (v78 v79 : Value) (t78 : tmp fr (pa 78) = v78) (t79 : tmp fr (pa 79) = v79)
    (t15 : tmp fr (pa 15) = .pointer (some ⟨H.now.nx + (G0.length + 1 + 1 + 1 + 1 + 1 + 1), 0, none⟩)) (t16 : tmp fr (pa 16) = .pointer (some ⟨H.now.nx + (G0.length + 1 + 1 + 1 + 1 + 1 + 1 + 1), 0, none⟩)) (t82 : tmp fr (pa 82) = .int .i64 (n : Int))
    (hQ : ∀ fr G1, Fr36 H fr → tmp fr (pa 78) = v78 → tmp fr (pa 79) = v79 → tmp fr (pa 15) = .pointer (some ⟨H.now.nx + (G0.length + 1 + 1 + 1 + 1 + 1 + 1), 0, none⟩) → tmp fr (pa 16) = .pointer (some ⟨H.now.nx + (G0.length + 1 + 1 + 1 + 1 + 1 + 1 + 1), 0, none⟩) →
      tmp fr (pa 82) = .int .i64 ((n + 1 : Nat) : Int) →
      X T env false (.loop a36l0) k0 fr [] (ext H.now (blk [.pointer (some ⟨bf, 0, none⟩)] :: b1 :: b2 :: b3 :: blk (byF f n0 n1 n2) :: b5 :: (G0 ++ blk [.int .i64 (k : Int)] :: blk (vc.take (n * 1) ++ .int .i32 (vecN f n0 n1 n2 k n) :: vc.drop (n * 1 + 1)) :: G1))) Q) :
    X T env false (.loop a36l0) k0 fr [] (ext H.now (blk [.pointer (some ⟨bf, 0, none⟩)] :: b1 :: b2 :: b3 :: blk (byF f n0 n1 n2) :: b5 :: (G0 ++ blk [.int .i64 (k : Int)] :: blk vc :: G1))) Q := by
  obtain ⟨t4, t8, t10, t13, t14⟩ := hf
  have hn4 : (n : Int) < 4 := by omega
  have hl : n * 1 + 1 ≤ vc.length := by omega
  rw [X_loop]
  change X _ _ _ (.seq _ _) _ _ _ _ _
  simp only [t4, t8, t10, t13, t14, t15, t16, t78, t79, t82, hn4, go_sem, bin_add, bin_sub, bin_mul, Nat.reduceAdd, Nat.reduceMul, Nat.reduceEqDiff, Nat.reduceLeDiff, Nat.reduceLT, Nat.reduceSub, reduceIte, reduceCtorEq, Int.reduceToNat, Int.reduceNeg, Int.reduceLE, Int.reduceLT, Int.reduceEq, Nat.reduceOr, Nat.reduceShiftRight, Nat.reduceMod, Nat.reduceBNe, Nat.reduceBEq]
  refine X_drawE 0 (by rfl) ?_
  have K := of_vec (env := env) h k n hk hn (b1 :: b2 :: b3 :: blk (byF f n0 n1 n2) :: b5 :: (G0 ++ blk [.int .i64 (k : Int)] :: blk vc :: (G1 ++ [blk [.int .i64 (n : Int)]]))) (H.now.nx + (G0.length + 1 + 1 + 1 + 1 + 1 + 1)) (H.now.nx + (G0.length + (G1.length + 1 + 1) + 1 + 1 + 1 + 1 + 1 + 1))
    (by rw [ext_nx]; simp only [List.length_cons, List.length_append]; omega) (by rw [ext_nx]; simp only [List.length_cons, List.length_append]; omega) (by simp only [go_sem, bin_add, bin_sub, bin_mul, Nat.reduceAdd, Nat.reduceMul, Nat.reduceEqDiff, Nat.reduceLeDiff, Nat.reduceLT, Nat.reduceSub, reduceIte, reduceCtorEq, Int.reduceToNat, Int.reduceNeg, Int.reduceLE, Int.reduceLT, Int.reduceEq, Nat.reduceOr, Nat.reduceShiftRight, Nat.reduceMod, Nat.reduceBNe, Nat.reduceBEq]) (by simp only [go_sem, bin_add, bin_sub, bin_mul, Nat.reduceAdd, Nat.reduceMul, Nat.reduceEqDiff, Nat.reduceLeDiff, Nat.reduceLT, Nat.reduceSub, reduceIte, reduceCtorEq, Int.reduceToNat, Int.reduceNeg, Int.reduceLE, Int.reduceLT, Int.reduceEq, Nat.reduceOr, Nat.reduceShiftRight, Nat.reduceMod, Nat.reduceBNe, Nat.reduceBEq])
  simp only [t4, t8, t10, t13, t14, t15, t16, t78, t79, t82, hn, hl, K, byF_length, byF_take, veq_byF, go_sem, bin_add, bin_sub, bin_mul, Nat.reduceAdd, Nat.reduceMul, Nat.reduceEqDiff, Nat.reduceLeDiff, Nat.reduceLT, Nat.reduceSub, reduceIte, reduceCtorEq, Int.reduceToNat, Int.reduceNeg, Int.reduceLE, Int.reduceLT, Int.reduceEq, Nat.reduceOr, Nat.reduceShiftRight, Nat.reduceMod, Nat.reduceBNe, Nat.reduceBEq]
  refine hQ _ _ ⟨?_, ?_, ?_, ?_, ?_⟩ ?_ ?_ ?_ ?_ ?_ <;> simp only [t4, t8, t10, t13, t14, t15, t16, t78, t79, t82, w64_succ n (by omega), go_sem, bin_add, bin_sub, bin_mul, Nat.reduceAdd, Nat.reduceMul, Nat.reduceEqDiff, Nat.reduceLeDiff, Nat.reduceLT, Nat.reduceSub, reduceIte, reduceCtorEq, Int.reduceToNat, Int.reduceNeg, Int.reduceLE, Int.reduceLT, Int.reduceEq, Nat.reduceOr, Nat.reduceShiftRight, Nat.reduceMod, Nat.reduceBNe, Nat.reduceBEq]
end
end Go.AX.Tri
/- Contracts: the fragment at a centre (5). -/
namespace Go.AX.Tri
open Go.Proofs Go.AX.Mc
set_option linter.unusedSimpArgs false
set_option linter.unusedVariables false
noncomputable section

/-- vectors that a call has laid in blocks of its own. -/
def VsIn (N : Nat) (G : List (Option AB)) (hd : Value) (vs : List V4) : Prop :=
  (vs = [] ∧ hd = .slice none 0 0) ∨ (vs ≠ [] ∧ ∃ G0 G1, G = G0 ++ some (.cells (vs.flatMap V4.cs) 1 4) :: G1 ∧ hd = .slice (some ⟨N + (G0.length + 1 + 1 + 1 + 1 + 1 + 1), 0, some 0⟩) vs.length vs.length)
def vecF (f : Fc) (n0 n1 n2 k : Nat) : V4 := ⟨vecN f n0 n1 n2 k 0, vecN f n0 n1 n2 k 1, vecN f n0 n1 n2 k 2, vecN f n0 n1 n2 k 3⟩
theorem flat_hd {N : Nat} {G : List (Option AB)} {hd : Value} {vs : List V4} (h : VsIn N G hd vs) : flat hd = true ∧ hd.cells.toList = [hd] := by
  rcases h with ⟨_, rfl⟩ | ⟨_, _, _, _, rfl⟩ <;> exact ⟨rfl, rfl⟩
theorem v4_length (vs : List V4) : (vs.flatMap V4.cs).length = vs.length * 4 := by
  induction vs with
  | nil => rfl
  | cons v l ih => rw [List.flatMap_cons, List.length_append, ih]; simp only [V4.cs, List.length_cons, List.length_nil]; omega

theorem vouter {env : List Lp} {k0 : List KF} {Q : QF} {f : Fc} {bf n0 n1 n2 : Nat} {H : AH} (h : FrHyp f bf n0 n1 n2 H) (b1 b2 b3 : Option AB) (x y z w : Int) (fb : Bool) (hd : Value) (vs : List V4) (hvs : vs.length < f.a.l) (hsz : f.a.l < 1000)
    (G : List (Option AB)) (hV : VsIn H.now.nx G hd vs) (fr : Tr Value) (hf : Fr36 H fr) (t78 : tmp fr (pa 78) = .int .i64 f.a.l) (t79 : tmp fr (pa 79) = .int .i64 (vs.length : Int))
    (hQ : ∀ fr G hd, VsIn H.now.nx G hd (vs ++ [vecF f n0 n1 n2 vs.length]) → Fr36 H fr → tmp fr (pa 78) = .int .i64 f.a.l → tmp fr (pa 79) = .int .i64 ((vs.length + 1 : Nat) : Int) →
      X T env false (.loop a36l1) k0 fr [] (ext H.now (blk [.pointer (some ⟨bf, 0, none⟩)] :: b1 :: b2 :: b3 :: blk (byF f n0 n1 n2) :: blk (frV x y z w fb hd) :: G)) Q) :
    X T env false (.loop a36l1) k0 fr [] (ext H.now (blk [.pointer (some ⟨bf, 0, none⟩)] :: b1 :: b2 :: b3 :: blk (byF f n0 n1 n2) :: blk (frV x y z w fb hd) :: G)) Q := by
  obtain ⟨t4, t8, t10, t13, t14⟩ := hf
  have hlt : (vs.length : Int) < f.a.l := by omega
  rw [X_loop]
  change X _ _ _ (.seq _ _) _ _ _ _ _
  simp only [t4, t8, t10, t13, t14, t78, t79, hlt, go_sem, bin_add, bin_sub, bin_mul, Nat.reduceAdd, Nat.reduceMul, Nat.reduceEqDiff, Nat.reduceLeDiff, Nat.reduceLT, Nat.reduceSub, reduceIte, reduceCtorEq, Int.reduceToNat, Int.reduceNeg, Int.reduceLE, Int.reduceLT, Int.reduceEq, Nat.reduceOr, Nat.reduceShiftRight, Nat.reduceMod, Nat.reduceBNe, Nat.reduceBEq]
  have z4 : (4 : Nat) = [Value.int .i32 0, Value.int .i32 0, Value.int .i32 0, Value.int .i32 0].length := rfl
  refine vstep h b1 b2 b3 _ vs.length hvs 0 (by omega) [.int .i32 0, .int .i32 0, .int .i32 0, .int .i32 0] rfl G [] _ ⟨by simp only [t4, go_sem, bin_add, bin_sub, bin_mul, Nat.reduceAdd, Nat.reduceMul, Nat.reduceEqDiff, Nat.reduceLeDiff, Nat.reduceLT, Nat.reduceSub, reduceIte, reduceCtorEq, Int.reduceToNat, Int.reduceNeg, Int.reduceLE, Int.reduceLT, Int.reduceEq, Nat.reduceOr, Nat.reduceShiftRight, Nat.reduceMod, Nat.reduceBNe, Nat.reduceBEq], by simp only [t8, go_sem, bin_add, bin_sub, bin_mul, Nat.reduceAdd, Nat.reduceMul, Nat.reduceEqDiff, Nat.reduceLeDiff, Nat.reduceLT, Nat.reduceSub, reduceIte, reduceCtorEq, Int.reduceToNat, Int.reduceNeg, Int.reduceLE, Int.reduceLT, Int.reduceEq, Nat.reduceOr, Nat.reduceShiftRight, Nat.reduceMod, Nat.reduceBNe, Nat.reduceBEq], by simp only [t10, go_sem, bin_add, bin_sub, bin_mul, Nat.reduceAdd, Nat.reduceMul, Nat.reduceEqDiff, Nat.reduceLeDiff, Nat.reduceLT, Nat.reduceSub, reduceIte, reduceCtorEq, Int.reduceToNat, Int.reduceNeg, Int.reduceLE, Int.reduceLT, Int.reduceEq, Nat.reduceOr, Nat.reduceShiftRight, Nat.reduceMod, Nat.reduceBNe, Nat.reduceBEq], by simp only [t13, go_sem, bin_add, bin_sub, bin_mul, Nat.reduceAdd, Nat.reduceMul, Nat.reduceEqDiff, Nat.reduceLeDiff, Nat.reduceLT, Nat.reduceSub, reduceIte, reduceCtorEq, Int.reduceToNat, Int.reduceNeg, Int.reduceLE, Int.reduceLT, Int.reduceEq, Nat.reduceOr, Nat.reduceShiftRight, Nat.reduceMod, Nat.reduceBNe, Nat.reduceBEq], by simp only [t14, go_sem, bin_add, bin_sub, bin_mul, Nat.reduceAdd, Nat.reduceMul, Nat.reduceEqDiff, Nat.reduceLeDiff, Nat.reduceLT, Nat.reduceSub, reduceIte, reduceCtorEq, Int.reduceToNat, Int.reduceNeg, Int.reduceLE, Int.reduceLT, Int.reduceEq, Nat.reduceOr, Nat.reduceShiftRight, Nat.reduceMod, Nat.reduceBNe, Nat.reduceBEq]⟩
    (.int .i64 f.a.l) (.int .i64 (vs.length : Int)) (by simp only [t78, go_sem, bin_add, bin_sub, bin_mul, Nat.reduceAdd, Nat.reduceMul, Nat.reduceEqDiff, Nat.reduceLeDiff, Nat.reduceLT, Nat.reduceSub, reduceIte, reduceCtorEq, Int.reduceToNat, Int.reduceNeg, Int.reduceLE, Int.reduceLT, Int.reduceEq, Nat.reduceOr, Nat.reduceShiftRight, Nat.reduceMod, Nat.reduceBNe, Nat.reduceBEq]) (by simp only [t79, go_sem, bin_add, bin_sub, bin_mul, Nat.reduceAdd, Nat.reduceMul, Nat.reduceEqDiff, Nat.reduceLeDiff, Nat.reduceLT, Nat.reduceSub, reduceIte, reduceCtorEq, Int.reduceToNat, Int.reduceNeg, Int.reduceLE, Int.reduceLT, Int.reduceEq, Nat.reduceOr, Nat.reduceShiftRight, Nat.reduceMod, Nat.reduceBNe, Nat.reduceBEq]) (by simp only [go_sem, bin_add, bin_sub, bin_mul, Nat.reduceAdd, Nat.reduceMul, Nat.reduceEqDiff, Nat.reduceLeDiff, Nat.reduceLT, Nat.reduceSub, reduceIte, reduceCtorEq, Int.reduceToNat, Int.reduceNeg, Int.reduceLE, Int.reduceLT, Int.reduceEq, Nat.reduceOr, Nat.reduceShiftRight, Nat.reduceMod, Nat.reduceBNe, Nat.reduceBEq]) (by simp only [go_sem, bin_add, bin_sub, bin_mul, Nat.reduceAdd, Nat.reduceMul, Nat.reduceEqDiff, Nat.reduceLeDiff, Nat.reduceLT, Nat.reduceSub, reduceIte, reduceCtorEq, Int.reduceToNat, Int.reduceNeg, Int.reduceLE, Int.reduceLT, Int.reduceEq, Nat.reduceOr, Nat.reduceShiftRight, Nat.reduceMod, Nat.reduceBNe, Nat.reduceBEq]) (by simp only [go_sem, bin_add, bin_sub, bin_mul, Nat.reduceAdd, Nat.reduceMul, Nat.reduceEqDiff, Nat.reduceLeDiff, Nat.reduceLT, Nat.reduceSub, reduceIte, reduceCtorEq, Int.reduceToNat, Int.reduceNeg, Int.reduceLE, Int.reduceLT, Int.reduceEq, Nat.reduceOr, Nat.reduceShiftRight, Nat.reduceMod, Nat.reduceBNe, Nat.reduceBEq]) ?_
  intro fr G1 hf t78 t79 t15 t16 t82
  refine vstep h b1 b2 b3 _ vs.length hvs 1 (by omega) [.int .i32 (vecN f n0 n1 n2 vs.length 0), .int .i32 0, .int .i32 0, .int .i32 0] rfl G G1 fr hf _ _ t78 t79 t15 t16 t82 ?_
  clear hf t78 t79 t15 t16 t82 fr G1
  intro fr G1 hf t78 t79 t15 t16 t82
  refine vstep h b1 b2 b3 _ vs.length hvs 2 (by omega) [.int .i32 (vecN f n0 n1 n2 vs.length 0), .int .i32 (vecN f n0 n1 n2 vs.length 1), .int .i32 0, .int .i32 0] rfl G G1 fr hf _ _ t78 t79 t15 t16 t82 ?_
  clear hf t78 t79 t15 t16 t82 fr G1
  intro fr G1 hf t78 t79 t15 t16 t82
  refine vstep h b1 b2 b3 _ vs.length hvs 3 (by omega) [.int .i32 (vecN f n0 n1 n2 vs.length 0), .int .i32 (vecN f n0 n1 n2 vs.length 1), .int .i32 (vecN f n0 n1 n2 vs.length 2), .int .i32 0] rfl G G1 fr hf _ _ t78 t79 t15 t16 t82 ?_
  clear hf t78 t79 t15 t16 t82 fr G1
  intro fr G1 hf t78 t79 t15 t16 t82
  obtain ⟨t4, t8, t10, t13, t14⟩ := hf
  rw [X_loop]
  change X _ _ _ (.seq _ _) _ _ _ _ _
  have hfl := flat_hd hV
  simp only [t4, t8, t10, t13, t14, t15, t16, t78, t79, t82, show ¬ ((3 + 1 : Nat) : Int) < 4 by omega, frV, go_sem, bin_add, bin_sub, bin_mul, Nat.reduceAdd, Nat.reduceMul, Nat.reduceEqDiff, Nat.reduceLeDiff, Nat.reduceLT, Nat.reduceSub, reduceIte, reduceCtorEq, Int.reduceToNat, Int.reduceNeg, Int.reduceLE, Int.reduceLT, Int.reduceEq, Nat.reduceOr, Nat.reduceShiftRight, Nat.reduceMod, Nat.reduceBNe, Nat.reduceBEq]
  have hl4 : (vecF f n0 n1 n2 vs.length).cs = [.int .i32 (vecN f n0 n1 n2 vs.length 0), .int .i32 (vecN f n0 n1 n2 vs.length 1), .int .i32 (vecN f n0 n1 n2 vs.length 2), .int .i32 (vecN f n0 n1 n2 vs.length 3)] := rfl
  have hx := fun (HH : AH) (b : Nat) (hr : rd HH b 0 (1 * 4) = some (vecF f n0 n1 n2 vs.length).cs) => aSource_s HH 4 b 0 1 1 _ hr
  rcases hV with ⟨hv0, rfl⟩ | ⟨hv0, G0, G2, hG, rfl⟩
  · rw [app_nil _ 4 16 _ 0 (vecF f n0 n1 n2 vs.length).cs (aSource_s _ 4 _ 0 1 1 _ (by simp only [hl4, go_sem, bin_add, bin_sub, bin_mul, Nat.reduceAdd, Nat.reduceMul, Nat.reduceEqDiff, Nat.reduceLeDiff, Nat.reduceLT, Nat.reduceSub, reduceIte, reduceCtorEq, Int.reduceToNat, Int.reduceNeg, Int.reduceLE, Int.reduceLT, Int.reduceEq, Nat.reduceOr, Nat.reduceShiftRight, Nat.reduceMod, Nat.reduceBNe, Nat.reduceBEq])) (room_of (by omega) (by omega)) rfl]
    simp only [t4, t8, t10, t13, t14, t15, t16, t78, t79, t82, frV, go_sem, bin_add, bin_sub, bin_mul, Nat.reduceAdd, Nat.reduceMul, Nat.reduceEqDiff, Nat.reduceLeDiff, Nat.reduceLT, Nat.reduceSub, reduceIte, reduceCtorEq, Int.reduceToNat, Int.reduceNeg, Int.reduceLE, Int.reduceLT, Int.reduceEq, Nat.reduceOr, Nat.reduceShiftRight, Nat.reduceMod, Nat.reduceBNe, Nat.reduceBEq]
    refine hQ _ _ _ ?_ ⟨?_, ?_, ?_, ?_, ?_⟩ ?_ ?_
    · subst hv0
      refine .inr ⟨by simp, G ++ blk [.int .i64 (([] : List V4).length : Int)] :: blk (vecF f n0 n1 n2 ([] : List V4).length).cs :: (G1 ++ [blk (vecF f n0 n1 n2 ([] : List V4).length).cs]), [], ?_, ?_⟩
      · simp [V4.cs, vecF]
      · simp
    all_goals simp only [t4, t8, t10, t13, t14, t15, t16, t78, t79, w64_succ vs.length (by omega), go_sem, bin_add, bin_sub, bin_mul, Nat.reduceAdd, Nat.reduceMul, Nat.reduceEqDiff, Nat.reduceLeDiff, Nat.reduceLT, Nat.reduceSub, reduceIte, reduceCtorEq, Int.reduceToNat, Int.reduceNeg, Int.reduceLE, Int.reduceLT, Int.reduceEq, Nat.reduceOr, Nat.reduceShiftRight, Nat.reduceMod, Nat.reduceBNe, Nat.reduceBEq]
  · have hlt : G0.length < G.length := by rw [hG]; simp
    rw [app_slr _ 4 16 _ vs.length (vs.flatMap V4.cs) _ 0 (vecF f n0 n1 n2 vs.length).cs (aSource_s _ 4 _ 0 1 1 _ (by simp only [hl4, go_sem, bin_add, bin_sub, bin_mul, Nat.reduceAdd, Nat.reduceMul, Nat.reduceEqDiff, Nat.reduceLeDiff, Nat.reduceLT, Nat.reduceSub, reduceIte, reduceCtorEq, Int.reduceToNat, Int.reduceNeg, Int.reduceLE, Int.reduceLT, Int.reduceEq, Nat.reduceOr, Nat.reduceShiftRight, Nat.reduceMod, Nat.reduceBNe, Nat.reduceBEq])) (by simp only [hG, go_sem, bin_add, bin_sub, bin_mul, Nat.reduceAdd, Nat.reduceMul, Nat.reduceEqDiff, Nat.reduceLeDiff, Nat.reduceLT, Nat.reduceSub, reduceIte, reduceCtorEq, Int.reduceToNat, Int.reduceNeg, Int.reduceLE, Int.reduceLT, Int.reduceEq, Nat.reduceOr, Nat.reduceShiftRight, Nat.reduceMod, Nat.reduceBNe, Nat.reduceBEq]) (v4_length vs) (room_of (by omega) (by omega)) rfl]
    rw [ext_set_new H.now (Nat.le_refl _) _ _ _ (by simp only [List.length_cons, List.length_append]; omega)]
    simp only [t4, t8, t10, t13, t14, t15, t16, t78, t79, t82, frV, List.set_append_left _ _ hlt, List.length_set, go_sem, bin_add, bin_sub, bin_mul, Nat.reduceAdd, Nat.reduceMul, Nat.reduceEqDiff, Nat.reduceLeDiff, Nat.reduceLT, Nat.reduceSub, reduceIte, reduceCtorEq, Int.reduceToNat, Int.reduceNeg, Int.reduceLE, Int.reduceLT, Int.reduceEq, Nat.reduceOr, Nat.reduceShiftRight, Nat.reduceMod, Nat.reduceBNe, Nat.reduceBEq]
    refine hQ _ _ _ ?_ ⟨?_, ?_, ?_, ?_, ?_⟩ ?_ ?_
    · refine .inr ⟨by simp, G.set G0.length (some .dead) ++ blk [.int .i64 (vs.length : Int)] :: blk (vecF f n0 n1 n2 vs.length).cs :: (G1 ++ [blk (vecF f n0 n1 n2 vs.length).cs]), [], ?_, ?_⟩
      · simp [V4.cs, vecF]
      · simp
    all_goals simp only [t4, t8, t10, t13, t14, t15, t16, t78, t79, w64_succ vs.length (by omega), go_sem, bin_add, bin_sub, bin_mul, Nat.reduceAdd, Nat.reduceMul, Nat.reduceEqDiff, Nat.reduceLeDiff, Nat.reduceLT, Nat.reduceSub, reduceIte, reduceCtorEq, Int.reduceToNat, Int.reduceNeg, Int.reduceLE, Int.reduceLT, Int.reduceEq, Nat.reduceOr, Nat.reduceShiftRight, Nat.reduceMod, Nat.reduceBNe, Nat.reduceBEq]
end
end Go.AX.Tri
