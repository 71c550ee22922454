/- Contracts: the fragment at a centre. -/
import Derived.Test.YthhgeodgfbhkdaaWf
set_option linter.unusedVariables false
set_option linter.unusedSimpArgs false
set_option linter.unusedSectionVars false
namespace Go.AX.Tri
open Go.Proofs Go.AX.Mc
set_option linter.unusedSimpArgs false
set_option linter.unusedVariables false
noncomputable section

def frV (x y z iw : Int) (fr : Bool) (s : Value) : List Value := [.int .i64 x, .int .i64 y, .int .i32 z, .int .i32 iw, .bool fr, .int .i32 0, .int .i32 0, .int .i32 0, .int .i32 0, s]
theorem w_u64_pos (w : Int) (h : 0 ≤ w) (h2 : w < 18446744073709551616) : wrapF .u64 w = ((w.toNat : Nat) : Int) := by
  rw [show w = (w.toNat : Int) by omega, w_u64]; simp only [Int.toNat_natCast]; congr 1; omega
theorem wd_small (n : Nat) (h : n < 18446744073709551616) : [Value.int .u64 0, Value.int .u64 (n : Int)] = wd n := by
  unfold wd; rw [show n / B64 = 0 by simp only [B64]; omega, show n % B64 = n by simp only [B64]; omega]; rfl

theorem wd_tk (N n : Nat) (l : List Value) : (wd N ++ l).take (n + 2) = wd N ++ l.take n := rfl
theorem wd_dr (N n : Nat) (l : List Value) : (wd N ++ l).drop (n + 2) = l.drop n := rfl
theorem wd_tk1 (N n : Nat) : (wd N).take (n + 2) = wd N := by show _ :: _ :: List.take n [] = _; simp; rfl
theorem wd_dr1 (N n : Nat) : (wd N).drop (n + 2) = [] := by show List.drop n [] = _; simp
theorem by_mod (n v w : Nat) (hn : n < 1073741824) (hv : v < 2147483648) (hw : w < 2147483648) : n * v % B128 * w % B128 = n * v * w := by
  have h1 : n * v ≤ 1073741824 * 2147483648 := Nat.mul_le_mul (by omega) (by omega)
  have h2 : n * v * w ≤ 1073741824 * 2147483648 * 2147483648 := Nat.mul_le_mul h1 (by omega)
  rw [Nat.mod_eq_of_lt (a := n * v) (by simp only [B128]; omega), Nat.mod_eq_of_lt (by simp only [B128]; omega)]
def byF (f : Fc) (n0 n1 n2 : Nat) : List Value := wsV (n0 * f.b.w.toNat * f.c.w.toNat) (n1 * f.c.w.toNat * f.a.w.toNat) (n2 * f.a.w.toNat * f.b.w.toNat)
def z6 : List Value := [.int .u64 0, .int .u64 0, .int .u64 0, .int .u64 0, .int .u64 0, .int .u64 0]
theorem frag_loop {env : List Lp} {k : List KF} {Q : QF} (f : Fc) (bf : Nat) (x y : Int) (n0 n1 n2 : Nat) (H : AH) (hb : bf < H.nx) (hf : rd H bf 0 20 = some f.cs)
    (h0 : n0 < 1073741824) (h1 : n1 < 1073741824) (h2 : n2 < 1073741824)
    (hw : ∀ p, (p = f.a ∨ p = f.b ∨ p = f.c) → 0 < p.w ∧ p.w < 2147483648) (b1 b2 : Option AB)
    (hQ : ∀ fr, tmp fr (pa 1) = .int .i64 x → tmp fr (pa 2) = .int .i64 y → tmp fr (pa 4) = .pointer (some ⟨H.now.nx, 0, none⟩) → tmp fr (pa 8) = .pointer (some ⟨H.now.nx + 2, 0, none⟩) → tmp fr (pa 9) = .pointer (some ⟨H.now.nx + 3, 0, none⟩) → tmp fr (pa 10) = .pointer (some ⟨H.now.nx + 4, 0, none⟩) → tmp fr (pa 18) = .agg (s3V (n0, n1, n2)).toArray → tmp fr (pa 19) = .int .i64 3 → X T env false (.loop a36l2) k fr [] (ext H.now [blk [.pointer (some ⟨bf, 0, none⟩)], b1, b2, blk (wsV n0 n1 n2), blk (byF f n0 n1 n2)]) Q) :
    ∀ fr, tmp fr (pa 1) = .int .i64 x → tmp fr (pa 2) = .int .i64 y → tmp fr (pa 4) = .pointer (some ⟨H.now.nx, 0, none⟩) → tmp fr (pa 8) = .pointer (some ⟨H.now.nx + 2, 0, none⟩) → tmp fr (pa 9) = .pointer (some ⟨H.now.nx + 3, 0, none⟩) → tmp fr (pa 10) = .pointer (some ⟨H.now.nx + 4, 0, none⟩) → tmp fr (pa 18) = .agg (s3V (n0, n1, n2)).toArray → tmp fr (pa 19) = .int .i64 0 → X T env false (.loop a36l2) k fr [] (ext H.now [blk [.pointer (some ⟨bf, 0, none⟩)], b1, b2, blk z6, blk z6]) Q := by
  intro fr t1 t2 t4 t8 t9 t10 t18 t19
  obtain ⟨wa, wa'⟩ := hw f.a (.inl rfl)
  obtain ⟨wb, wb'⟩ := hw f.b (.inr (.inl rfl))
  obtain ⟨wc, wc'⟩ := hw f.c (.inr (.inr rfl))
  have r0 : rd H bf 0 6 = some f.a.cs := rd_part hf 0 6 (by omega)
  have r1 : rd H bf 6 6 = some f.b.cs := by have := rd_part hf 6 6 (by omega); rwa [Nat.zero_add] at this
  have r2 : rd H bf 12 6 = some f.c.cs := by have := rd_part hf 12 6 (by omega); rwa [Nat.zero_add] at this
  have q0 : rd H bf 3 1 = some [.int .i32 f.a.w] := by have := rd_part r0 3 1 (by omega); exact this
  have q1 : rd H bf 9 1 = some [.int .i32 f.b.w] := by have := rd_part r1 3 1 (by omega); exact this
  have q2 : rd H bf 15 1 = some [.int .i32 f.c.w] := by have := rd_part r2 3 1 (by omega); exact this
  have e0 := w_u64_pos f.a.w (by omega) (by omega)
  have e1 := w_u64_pos f.b.w (by omega) (by omega)
  have e2 := w_u64_pos f.c.w (by omega) (by omega)
  have i0 : wrapF .u64 (n0 : Int) = (n0 : Int) := by rw [w_u64]; omega
  have i1 : wrapF .u64 (n1 : Int) = (n1 : Int) := by rw [w_u64]; omega
  have i2 : wrapF .u64 (n2 : Int) = (n2 : Int) := by rw [w_u64]; omega
  have d0 := wd_small n0 (by omega)
  have d1 := wd_small n1 (by omega)
  have d2 := wd_small n2 (by omega)
  have ka := fun (N : Nat) (H : AH) (Q : AEnd → AH → Prop) => c48 (env := env) N f.a.w.toNat (by simp only [B64]; omega) H Q
  have kb := fun (N : Nat) (H : AH) (Q : AEnd → AH → Prop) => c48 (env := env) N f.b.w.toNat (by simp only [B64]; omega) H Q
  have kc := fun (N : Nat) (H : AH) (Q : AEnd → AH → Prop) => c48 (env := env) N f.c.w.toNat (by simp only [B64]; omega) H Q
  unfold z6
  unfold s3V at t18
  rw [X_loop]
  change X _ _ _ (.seq _ _) _ _ _ _ _
  simp only [t1, t2, t4, t8, t9, t10, t18, t19, i0, i1, i2, d0, d1, d2, w64_id, Int.reduceAdd, wd_length, wd_flat, wd_tk, wd_dr, wd_tk1, wd_dr1, go_sem, bin_add, bin_sub, bin_mul, Nat.reduceAdd, Nat.reduceMul, Nat.reduceEqDiff, Nat.reduceLeDiff, Nat.reduceLT, Nat.reduceSub, reduceIte, reduceCtorEq, Int.reduceToNat, Int.reduceNeg, Int.reduceLE, Int.reduceLT, Int.reduceEq, Nat.reduceOr, Nat.reduceShiftRight, Nat.reduceMod, Nat.reduceBNe, Nat.reduceBEq]
  refine X_drawE 0 (by rfl) ?_
  simp only [t1, t2, t4, t8, t9, t10, t18, t19, hb, q0, q1, q2, e0, e1, e2, ka, kb, kc, bin_rem, w64_id, Int.reduceAdd, Int.reduceTMod, Int.reduceEq, wd_length, wd_flat, wd_tk, wd_dr, wd_tk1, wd_dr1, veq_wd, go_sem, bin_add, bin_sub, bin_mul, Nat.reduceAdd, Nat.reduceMul, Nat.reduceEqDiff, Nat.reduceLeDiff, Nat.reduceLT, Nat.reduceSub, reduceIte, reduceCtorEq, Int.reduceToNat, Int.reduceNeg, Int.reduceLE, Int.reduceLT, Int.reduceEq, Nat.reduceOr, Nat.reduceShiftRight, Nat.reduceMod, Nat.reduceBNe, Nat.reduceBEq]
  rw [X_loop]
  change X _ _ _ (.seq _ _) _ _ _ _ _
  simp only [t1, t2, t4, t8, t9, t10, t18, t19, i0, i1, i2, d0, d1, d2, w64_id, Int.reduceAdd, wd_length, wd_flat, wd_tk, wd_dr, wd_tk1, wd_dr1, go_sem, bin_add, bin_sub, bin_mul, Nat.reduceAdd, Nat.reduceMul, Nat.reduceEqDiff, Nat.reduceLeDiff, Nat.reduceLT, Nat.reduceSub, reduceIte, reduceCtorEq, Int.reduceToNat, Int.reduceNeg, Int.reduceLE, Int.reduceLT, Int.reduceEq, Nat.reduceOr, Nat.reduceShiftRight, Nat.reduceMod, Nat.reduceBNe, Nat.reduceBEq]
  refine X_drawE 0 (by rfl) ?_
  simp only [t1, t2, t4, t8, t9, t10, t18, t19, hb, q0, q1, q2, e0, e1, e2, ka, kb, kc, bin_rem, w64_id, Int.reduceAdd, Int.reduceTMod, Int.reduceEq, wd_length, wd_flat, wd_tk, wd_dr, wd_tk1, wd_dr1, veq_wd, go_sem, bin_add, bin_sub, bin_mul, Nat.reduceAdd, Nat.reduceMul, Nat.reduceEqDiff, Nat.reduceLeDiff, Nat.reduceLT, Nat.reduceSub, reduceIte, reduceCtorEq, Int.reduceToNat, Int.reduceNeg, Int.reduceLE, Int.reduceLT, Int.reduceEq, Nat.reduceOr, Nat.reduceShiftRight, Nat.reduceMod, Nat.reduceBNe, Nat.reduceBEq]
  rw [X_loop]
  change X _ _ _ (.seq _ _) _ _ _ _ _
  simp only [t1, t2, t4, t8, t9, t10, t18, t19, i0, i1, i2, d0, d1, d2, w64_id, Int.reduceAdd, wd_length, wd_flat, wd_tk, wd_dr, wd_tk1, wd_dr1, go_sem, bin_add, bin_sub, bin_mul, Nat.reduceAdd, Nat.reduceMul, Nat.reduceEqDiff, Nat.reduceLeDiff, Nat.reduceLT, Nat.reduceSub, reduceIte, reduceCtorEq, Int.reduceToNat, Int.reduceNeg, Int.reduceLE, Int.reduceLT, Int.reduceEq, Nat.reduceOr, Nat.reduceShiftRight, Nat.reduceMod, Nat.reduceBNe, Nat.reduceBEq]
  refine X_drawE 0 (by rfl) ?_
  simp only [t1, t2, t4, t8, t9, t10, t18, t19, hb, q0, q1, q2, e0, e1, e2, ka, kb, kc, bin_rem, w64_id, Int.reduceAdd, Int.reduceTMod, Int.reduceEq, wd_length, wd_flat, wd_tk, wd_dr, wd_tk1, wd_dr1, veq_wd, go_sem, bin_add, bin_sub, bin_mul, Nat.reduceAdd, Nat.reduceMul, Nat.reduceEqDiff, Nat.reduceLeDiff, Nat.reduceLT, Nat.reduceSub, reduceIte, reduceCtorEq, Int.reduceToNat, Int.reduceNeg, Int.reduceLE, Int.reduceLT, Int.reduceEq, Nat.reduceOr, Nat.reduceShiftRight, Nat.reduceMod, Nat.reduceBNe, Nat.reduceBEq]
  have p1 : f.b.w.toNat * f.c.w.toNat ≤ 2147483648 * 2147483648 := Nat.mul_le_mul (by omega) (by omega)
  have p2 : f.c.w.toNat * f.a.w.toNat ≤ 2147483648 * 2147483648 := Nat.mul_le_mul (by omega) (by omega)
  have p3 : f.a.w.toNat * f.b.w.toNat ≤ 2147483648 * 2147483648 := Nat.mul_le_mul (by omega) (by omega)
  rw [by_mod n0 f.b.w.toNat f.c.w.toNat h0 (by omega) (by omega), by_mod n1 f.c.w.toNat f.a.w.toNat h1 (by omega) (by omega), by_mod n2 f.a.w.toNat f.b.w.toNat h2 (by omega) (by omega)]
  refine hQ _ ?_ ?_ ?_ ?_ ?_ ?_ ?_ ?_ <;> simp only [t1, t2, t4, t8, t9, t10, t18, s3V, go_sem, bin_add, bin_sub, bin_mul, Nat.reduceAdd, Nat.reduceMul, Nat.reduceEqDiff, Nat.reduceLeDiff, Nat.reduceLT, Nat.reduceSub, reduceIte, reduceCtorEq, Int.reduceToNat, Int.reduceNeg, Int.reduceLE, Int.reduceLT, Int.reduceEq, Nat.reduceOr, Nat.reduceShiftRight, Nat.reduceMod, Nat.reduceBNe, Nat.reduceBEq]

end
end Go.AX.Tri
/- Contracts: the fragment at a centre (2). -/
namespace Go.AX.Tri
open Go.Proofs Go.AX.Mc
set_option linter.unusedSimpArgs false
set_option linter.unusedVariables false
noncomputable section

def K36 : ACode := .seq (.region [yR (oLoadA 10 (t 14)) 99 0, zE (oStore 10 (t 8) (t 99)) 0]) .ret
def nearZ (f : Fc) (n0 n1 n2 : Nat) : Int := nearF n0 n1 n2 f.a.z f.b.z f.c.z
def nearW (f : Fc) (n0 n1 n2 : Nat) : Int := nearF n0 n1 n2 (overF f.a.w) (overF f.b.w) (overF f.c.w)

theorem frag_pre {env : List Lp} (f : Fc) (bf : Nat) (x y : Int) (n0 n1 n2 : Nat) (H : AH) (hb : bf < H.nx) (hf : rd H bf 0 20 = some f.cs)
    (h0 : n0 < 1073741824) (h1 : n1 < 1073741824) (h2 : n2 < 1073741824) (hA : 0 < n0 + n1 + n2)
    (hw : ∀ p, (p = f.a ∨ p = f.b ∨ p = f.c) → 0 < p.w ∧ p.w < 2147483648) (hz : ∀ p, (p = f.a ∨ p = f.b ∨ p = f.c) → -2147483648 ≤ p.z ∧ p.z < 2147483648) (Q : AEnd → AH → Prop)
    (hQ : ∀ fr, tmp fr (pa 4) = .pointer (some ⟨H.now.nx, 0, none⟩) → tmp fr (pa 8) = .pointer (some ⟨H.now.nx + 2, 0, none⟩) → tmp fr (pa 10) = .pointer (some ⟨H.now.nx + 4, 0, none⟩) →
      tmp fr (pa 13) = .func (.func 49) #[] #[.pointer (some ⟨H.now.nx, 0, none⟩)] → tmp fr (pa 14) = .pointer (some ⟨H.now.nx + 5, 0, none⟩) → tmp fr (pa 78) = .int .i64 f.a.l → tmp fr (pa 79) = .int .i64 0 →
      X T env false (.loop a36l1) [.blk 2, .seq K36] fr [] (ext H.now [blk [.pointer (some ⟨bf, 0, none⟩)], blk (s3V (n0, n1, n2)), blk (frV 0 0 0 0 false (.slice none 0 0)), blk (wsV n0 n1 n2), blk (byF f n0 n1 n2), blk (frV x y (nearZ f n0 n1 n2) (nearW f n0 n1 n2) f.front (.slice none 0 0))])
        (Fin H [.cA 10 (pa 8)] Q)) :
    C T env 36 [.pointer (some ⟨bf, 0, none⟩), .int .i64 x, .int .i64 y, .agg (s3V (n0, n1, n2)).toArray] H Q := by
  rw [C_fn T36 rfl]
  have r0 : rd H bf 0 6 = some f.a.cs := rd_part hf 0 6 (by omega)
  have r3 : rd H bf 19 1 = some [.bool f.front] := by have := rd_part hf 19 1 (by omega); rwa [Nat.zero_add] at this
  have r4 : rd H bf 5 1 = some [.slice f.a.a f.a.l f.a.c] := by have := rd_part r0 5 1 (by omega); exact this
  have K49 : ∀ (g : FuncId) (num : Wn → Int), (∀ p, (p = f.a ∨ p = f.b ∨ p = f.c) → ∀ H Q, C T env g [p.v] H Q = Q (.ret (.int .i32 (num p))) H) → (∀ p, (p = f.a ∨ p = f.b ∨ p = f.c) → -2147483648 ≤ num p ∧ num p < 2147483648) →
      ∀ L Q, C T env 49 [.agg (wsV n0 n1 n2).toArray, .func (.func g) #[] #[], .pointer (some ⟨H.now.nx, 0, none⟩)] (ext H.now (blk [.pointer (some ⟨bf, 0, none⟩)] :: L)) Q =
        Q (.ret (.int .i32 (nearF n0 n1 n2 (num f.a) (num f.b) (num f.c)))) (ext H.now (blk [.pointer (some ⟨bf, 0, none⟩)] :: L)) := by
    intro g num hg hn L Q
    refine c49 f bf H.now.nx g [] num n0 n1 n2 hA (by omega) _ (by rw [ext_nx]; exact Nat.lt_of_lt_of_le hb (Nat.le_add_right _ _)) (by rw [ext_nx]; simp only [List.length_cons]; omega) ?_ ?_ (fun p hp L Q => hg p hp _ Q) hn Q
    · rw [rd_old H.now _ _ _ _ hb]; exact hf
    · simp only [go_sem, bin_add, bin_sub, bin_mul, Nat.reduceAdd, Nat.reduceMul, Nat.reduceEqDiff, Nat.reduceLeDiff, Nat.reduceLT, Nat.reduceSub, reduceIte, reduceCtorEq, Int.reduceToNat, Int.reduceNeg, Int.reduceLE, Int.reduceLT, Int.reduceEq, Nat.reduceOr, Nat.reduceShiftRight, Nat.reduceMod, Nat.reduceBNe, Nat.reduceBEq]
  have kz := K49 51 Wn.z (fun p _ H Q => c51 p H Q) hz
  have ko := K49 52 (fun p => overF p.w) (fun p hp H Q => c52 p (hw p hp).1 (hw p hp).2 H Q) (fun p hp => by unfold overF rawF; omega)
  rw [show nearF n0 n1 n2 f.a.z f.b.z f.c.z = nearZ f n0 n1 n2 from rfl] at kz
  rw [show nearF n0 n1 n2 (overF f.a.w) (overF f.b.w) (overF f.c.w) = nearW f n0 n1 n2 from rfl] at ko
  simp only [a36, s3V, go_sem, bin_add, bin_sub, bin_mul, Nat.reduceAdd, Nat.reduceMul, Nat.reduceEqDiff, Nat.reduceLeDiff, Nat.reduceLT, Nat.reduceSub, reduceIte, reduceCtorEq, Int.reduceToNat, Int.reduceNeg, Int.reduceLE, Int.reduceLT, Int.reduceEq, Nat.reduceOr, Nat.reduceShiftRight, Nat.reduceMod, Nat.reduceBNe, Nat.reduceBEq]
  refine frag_loop f bf x y n0 n1 n2 H hb hf h0 h1 h2 hw _ _ ?_ _ (by simp only [go_sem, bin_add, bin_sub, bin_mul, Nat.reduceAdd, Nat.reduceMul, Nat.reduceEqDiff, Nat.reduceLeDiff, Nat.reduceLT, Nat.reduceSub, reduceIte, reduceCtorEq, Int.reduceToNat, Int.reduceNeg, Int.reduceLE, Int.reduceLT, Int.reduceEq, Nat.reduceOr, Nat.reduceShiftRight, Nat.reduceMod, Nat.reduceBNe, Nat.reduceBEq]) (by simp only [go_sem, bin_add, bin_sub, bin_mul, Nat.reduceAdd, Nat.reduceMul, Nat.reduceEqDiff, Nat.reduceLeDiff, Nat.reduceLT, Nat.reduceSub, reduceIte, reduceCtorEq, Int.reduceToNat, Int.reduceNeg, Int.reduceLE, Int.reduceLT, Int.reduceEq, Nat.reduceOr, Nat.reduceShiftRight, Nat.reduceMod, Nat.reduceBNe, Nat.reduceBEq]) (by simp only [go_sem, bin_add, bin_sub, bin_mul, Nat.reduceAdd, Nat.reduceMul, Nat.reduceEqDiff, Nat.reduceLeDiff, Nat.reduceLT, Nat.reduceSub, reduceIte, reduceCtorEq, Int.reduceToNat, Int.reduceNeg, Int.reduceLE, Int.reduceLT, Int.reduceEq, Nat.reduceOr, Nat.reduceShiftRight, Nat.reduceMod, Nat.reduceBNe, Nat.reduceBEq]) (by simp only [go_sem, bin_add, bin_sub, bin_mul, Nat.reduceAdd, Nat.reduceMul, Nat.reduceEqDiff, Nat.reduceLeDiff, Nat.reduceLT, Nat.reduceSub, reduceIte, reduceCtorEq, Int.reduceToNat, Int.reduceNeg, Int.reduceLE, Int.reduceLT, Int.reduceEq, Nat.reduceOr, Nat.reduceShiftRight, Nat.reduceMod, Nat.reduceBNe, Nat.reduceBEq]) (by simp only [go_sem, bin_add, bin_sub, bin_mul, Nat.reduceAdd, Nat.reduceMul, Nat.reduceEqDiff, Nat.reduceLeDiff, Nat.reduceLT, Nat.reduceSub, reduceIte, reduceCtorEq, Int.reduceToNat, Int.reduceNeg, Int.reduceLE, Int.reduceLT, Int.reduceEq, Nat.reduceOr, Nat.reduceShiftRight, Nat.reduceMod, Nat.reduceBNe, Nat.reduceBEq]) (by simp only [go_sem, bin_add, bin_sub, bin_mul, Nat.reduceAdd, Nat.reduceMul, Nat.reduceEqDiff, Nat.reduceLeDiff, Nat.reduceLT, Nat.reduceSub, reduceIte, reduceCtorEq, Int.reduceToNat, Int.reduceNeg, Int.reduceLE, Int.reduceLT, Int.reduceEq, Nat.reduceOr, Nat.reduceShiftRight, Nat.reduceMod, Nat.reduceBNe, Nat.reduceBEq]) (by simp only [s3V, go_sem, bin_add, bin_sub, bin_mul, Nat.reduceAdd, Nat.reduceMul, Nat.reduceEqDiff, Nat.reduceLeDiff, Nat.reduceLT, Nat.reduceSub, reduceIte, reduceCtorEq, Int.reduceToNat, Int.reduceNeg, Int.reduceLE, Int.reduceLT, Int.reduceEq, Nat.reduceOr, Nat.reduceShiftRight, Nat.reduceMod, Nat.reduceBNe, Nat.reduceBEq]) (by simp only [go_sem, bin_add, bin_sub, bin_mul, Nat.reduceAdd, Nat.reduceMul, Nat.reduceEqDiff, Nat.reduceLeDiff, Nat.reduceLT, Nat.reduceSub, reduceIte, reduceCtorEq, Int.reduceToNat, Int.reduceNeg, Int.reduceLE, Int.reduceLT, Int.reduceEq, Nat.reduceOr, Nat.reduceShiftRight, Nat.reduceMod, Nat.reduceBNe, Nat.reduceBEq])
  intro fr t1 t2 t4 t8 t9 t10 t18 t19
  rw [X_loop]
  change X _ _ _ (.seq _ _) _ _ _ _ _
  simp only [t1, t2, t4, t8, t9, t10, t18, t19, hb, r3, r4, kz, ko, lnS_wn, wsV_length, wsV_take, go_sem, bin_add, bin_sub, bin_mul, Nat.reduceAdd, Nat.reduceMul, Nat.reduceEqDiff, Nat.reduceLeDiff, Nat.reduceLT, Nat.reduceSub, reduceIte, reduceCtorEq, Int.reduceToNat, Int.reduceNeg, Int.reduceLE, Int.reduceLT, Int.reduceEq, Nat.reduceOr, Nat.reduceShiftRight, Nat.reduceMod, Nat.reduceBNe, Nat.reduceBEq]
  refine hQ _ ?_ ?_ ?_ ?_ ?_ ?_ ?_ <;> simp only [t1, t2, t4, t8, t9, t10, t18, go_sem, bin_add, bin_sub, bin_mul, Nat.reduceAdd, Nat.reduceMul, Nat.reduceEqDiff, Nat.reduceLeDiff, Nat.reduceLT, Nat.reduceSub, reduceIte, reduceCtorEq, Int.reduceToNat, Int.reduceNeg, Int.reduceLE, Int.reduceLT, Int.reduceEq, Nat.reduceOr, Nat.reduceShiftRight, Nat.reduceMod, Nat.reduceBNe, Nat.reduceBEq]
end
end Go.AX.Tri
/- Contracts: the fragment at a centre (3): its vectors. -/
namespace Go.AX.Tri
open Go.Proofs Go.AX.Mc
set_option linter.unusedSimpArgs false
set_option linter.unusedVariables false
noncomputable section

/-- vectors in a heap, behind a slice's header. -/
def VecAt (h : AH) (a : Option Addr) (vs : List V4) : Prop :=
  ∀ k v, vs[k]? = some v → ∃ b o r, a = some ⟨b, o, r⟩ ∧ (r = none ∨ r = some 0) ∧ b < h.nx ∧ rd h b (o + k * 4) 4 = some v.cs

theorem c54 {env : List Lp} (p : Wn) (vs : List V4) (k n : Nat) (v : V4) (pk pn : Nat) (H : AH) (hv : VecAt H p.a vs) (hl : p.l = vs.length) (hk : vs[k]? = some v) (hn : n < 4)
    (bk : pk < H.nx) (bn : pn < H.nx) (rk : rd H pk 0 1 = some [.int .i64 (k : Int)]) (rn : rd H pn 0 1 = some [.int .i64 (n : Int)]) (Q : AEnd → AH → Prop) :
    C T env 54 [p.v, .pointer (some ⟨pk, 0, none⟩), .pointer (some ⟨pn, 0, none⟩)] H Q = Q (.ret (.int .i32 (v.at n))) H := by
  refine C_det ?_ Q
  rw [C_fn T54 rfl]
  obtain ⟨b, o, r, ha, hr, hb, h4⟩ := hv k v hk
  have hkl : k < p.l := by rw [hl]; exact (List.getElem?_eq_some_iff.1 hk).1
  have h1 : rd H b (o + k * 4 + n * 1) 1 = some [.int .i32 (v.at n)] := by
    rw [rd_part h4 (n * 1) 1 (by omega)]
    have : n = 0 ∨ n = 1 ∨ n = 2 ∨ n = 3 := by omega
    rcases this with rfl | rfl | rfl | rfl <;> rfl
  rcases hr with rfl | rfl
  all_goals
    simp only [a54, Wn.v, Wn.cs, go_sem, bin_add, bin_sub, bin_mul, Nat.reduceAdd, Nat.reduceMul, Nat.reduceEqDiff, Nat.reduceLeDiff, Nat.reduceLT, Nat.reduceSub, reduceIte, reduceCtorEq, Int.reduceToNat, Int.reduceNeg, Int.reduceLE, Int.reduceLT, Int.reduceEq, Nat.reduceOr, Nat.reduceShiftRight, Nat.reduceMod, Nat.reduceBNe, Nat.reduceBEq]
    refine X_drawE 0 (by rfl) ?_
    simp only [Wn.cs, bk, bn, rk, rn, hb, h1, ha, hkl, hn, go_sem, bin_add, bin_sub, bin_mul, Nat.reduceAdd, Nat.reduceMul, Nat.reduceEqDiff, Nat.reduceLeDiff, Nat.reduceLT, Nat.reduceSub, reduceIte, reduceCtorEq, Int.reduceToNat, Int.reduceNeg, Int.reduceLE, Int.reduceLT, Int.reduceEq, Nat.reduceOr, Nat.reduceShiftRight, Nat.reduceMod, Nat.reduceBNe, Nat.reduceBEq]

theorem VecAt.mono {h h' : AH} {a : Option Addr} {vs : List V4} (hv : VecAt h a vs) (hn : h.nx ≤ h'.nx) (hr : ∀ b, b < h.nx → ∀ o n, rd h' b o n = rd h b o n) : VecAt h' a vs := by
  intro k v hk
  obtain ⟨b, o, r, h1, h2, h3, h4⟩ := hv k v hk
  exact ⟨b, o, r, h1, h2, by omega, by rw [hr b h3]; exact h4⟩

/-- a corner whose vectors stand in a heap, its numbers of their kinds. -/
structure WnAt (h : AH) (p : Wn) : Prop where
  len : p.l = p.vs.length
  vec : VecAt h p.a p.vs
  num : ∀ v ∈ p.vs, ∀ n, -2147483648 ≤ v.at n ∧ v.at n < 2147483648
  z : -2147483648 ≤ p.z ∧ p.z < 2147483648
  w : -2147483648 ≤ p.w ∧ p.w < 2147483648
def atV (p : Wn) (k n : Nat) : Int := match p.vs[k]? with
  | some v => v.at n
  | none => 0
def vecN (f : Fc) (n0 n1 n2 k n : Nat) : Int := nearF (n0 * f.b.w.toNat * f.c.w.toNat) (n1 * f.c.w.toNat * f.a.w.toNat) (n2 * f.a.w.toNat * f.b.w.toNat) (atV f.a k n) (atV f.b k n) (atV f.c k n)
theorem mul3_lt (n v w : Nat) (hn : n < 1073741824) (hv : v < 2147483648) (hw : w < 2147483648) : n * v * w ≤ 4951760157141521099596496896 := by
  have h1 : n * v ≤ 1073741824 * 2147483648 := Nat.mul_le_mul (by omega) (by omega)
  exact Nat.le_trans (Nat.mul_le_mul h1 (show w ≤ 2147483648 by omega)) (by omega)
theorem mul3_pos (n v w : Nat) (hn : 0 < n) (hv : 0 < v) (hw : 0 < w) : 0 < n * v * w := Nat.mul_pos (Nat.mul_pos hn hv) hw

/-- what all the fragment's parts stand on. -/
structure FrHyp (f : Fc) (bf n0 n1 n2 : Nat) (H : AH) : Prop where
  hb : bf < H.nx
  hf : rd H bf 0 20 = some f.cs
  h0 : n0 < 1073741824
  h1 : n1 < 1073741824
  h2 : n2 < 1073741824
  hA : 0 < n0 + n1 + n2
  hw : ∀ p, (p = f.a ∨ p = f.b ∨ p = f.c) → 0 < p.w
  ha : ∀ p, (p = f.a ∨ p = f.b ∨ p = f.c) → WnAt H p
  hl : ∀ p, (p = f.a ∨ p = f.b ∨ p = f.c) → p.l = f.a.l

theorem of_vec {env : List Lp} {f : Fc} {bf n0 n1 n2 : Nat} {H : AH} (h : FrHyp f bf n0 n1 n2 H) (k n : Nat) (hk : k < f.a.l) (hn : n < 4) (L : List (Option AB)) (pk pn : Nat)
    (bk : pk < (ext H.now (blk [.pointer (some ⟨bf, 0, none⟩)] :: L)).nx) (bn : pn < (ext H.now (blk [.pointer (some ⟨bf, 0, none⟩)] :: L)).nx)
    (rk : rd (ext H.now (blk [.pointer (some ⟨bf, 0, none⟩)] :: L)) pk 0 1 = some [.int .i64 (k : Int)]) (rn : rd (ext H.now (blk [.pointer (some ⟨bf, 0, none⟩)] :: L)) pn 0 1 = some [.int .i64 (n : Int)]) (Q : AEnd → AH → Prop) :
    C T env 49 [.agg (byF f n0 n1 n2).toArray, .func (.func 54) #[] #[.pointer (some ⟨pk, 0, none⟩), .pointer (some ⟨pn, 0, none⟩)], .pointer (some ⟨H.now.nx, 0, none⟩)] (ext H.now (blk [.pointer (some ⟨bf, 0, none⟩)] :: L)) Q =
      Q (.ret (.int .i32 (vecN f n0 n1 n2 k n))) (ext H.now (blk [.pointer (some ⟨bf, 0, none⟩)] :: L)) := by
  have W : ∀ p, (p = f.a ∨ p = f.b ∨ p = f.c) → 0 < p.w.toNat ∧ p.w.toNat < 2147483648 := fun p hp => by have := h.hw p hp; have := (h.ha p hp).w; omega
  have wa := W f.a (.inl rfl)
  have wb := W f.b (.inr (.inl rfl))
  have wc := W f.c (.inr (.inr rfl))
  have m0 := mul3_lt n0 _ _ h.h0 wb.2 wc.2
  have m1 := mul3_lt n1 _ _ h.h1 wc.2 wa.2
  have m2 := mul3_lt n2 _ _ h.h2 wa.2 wb.2
  have hpos : 0 < n0 * f.b.w.toNat * f.c.w.toNat + n1 * f.c.w.toNat * f.a.w.toNat + n2 * f.a.w.toNat * f.b.w.toNat := by
    have := h.hA
    by_cases e0 : 0 < n0
    · have := mul3_pos n0 _ _ e0 wb.1 wc.1; omega
    · by_cases e1 : 0 < n1
      · have := mul3_pos n1 _ _ e1 wc.1 wa.1; omega
      · have := mul3_pos n2 _ _ (by omega) wa.1 wb.1; omega
  have hb0 : H.now.nx < (ext H.now (blk [.pointer (some ⟨bf, 0, none⟩)] :: L)).nx := by rw [ext_nx]; simp only [List.length_cons]; omega
  have hle : H.nx ≤ (ext H.now (blk [.pointer (some ⟨bf, 0, none⟩)] :: L)).nx := by rw [ext_nx]; exact Nat.le_add_right _ _
  have hv : ∀ p, (p = f.a ∨ p = f.b ∨ p = f.c) → ∃ v, p.vs[k]? = some v := fun p hp => by
    have h1 := h.hl p hp
    have h2 := (h.ha p hp).len
    exact ⟨_, List.getElem?_eq_getElem (by omega)⟩
  refine c49 f bf H.now.nx 54 [_, _] (fun p => atV p k n) _ _ _ hpos (by omega) _ (Nat.lt_of_lt_of_le h.hb hle) hb0 ?_ ?_ ?_ ?_ Q
  · rw [rd_old H.now _ _ _ _ h.hb]; exact h.hf
  · simp only [go_sem, bin_add, bin_sub, bin_mul, Nat.reduceAdd, Nat.reduceMul, Nat.reduceEqDiff, Nat.reduceLeDiff, Nat.reduceLT, Nat.reduceSub, reduceIte, reduceCtorEq, Int.reduceToNat, Int.reduceNeg, Int.reduceLE, Int.reduceLT, Int.reduceEq, Nat.reduceOr, Nat.reduceShiftRight, Nat.reduceMod, Nat.reduceBNe, Nat.reduceBEq]
  · intro p hp L' Q'
    obtain ⟨v, hvk⟩ := hv p hp
    have := c54 (env := env) p p.vs k n v pk pn (ext (ext H.now (blk [.pointer (some ⟨bf, 0, none⟩)] :: L)).now L') ((h.ha p hp).vec.mono (by rw [ext_nx]; exact Nat.le_trans hle (Nat.le_add_right _ _)) ?_) (h.ha p hp).len hvk hn ?_ ?_ ?_ ?_ Q'
    · rw [show atV p k n = v.at n by unfold atV; rw [hvk]]; exact this
    · intro b hb o m
      rw [rd_old (ext H.now _).now _ _ _ _ (Nat.lt_of_lt_of_le hb hle), rd_now, rd_old H.now _ _ _ _ hb, rd_now]
    · rw [ext_nx]; exact Nat.lt_of_lt_of_le bk (Nat.le_add_right _ _)
    · rw [ext_nx]; exact Nat.lt_of_lt_of_le bn (Nat.le_add_right _ _)
    · rw [rd_old (ext H.now _).now _ _ _ _ bk, rd_now]; exact rk
    · rw [rd_old (ext H.now _).now _ _ _ _ bn, rd_now]; exact rn
  · intro p hp
    obtain ⟨v, hvk⟩ := hv p hp
    show _ ≤ atV p k n ∧ atV p k n < _
    unfold atV; rw [hvk]
    exact (h.ha p hp).num v (List.mem_of_getElem? hvk) n
end
end Go.AX.Tri
