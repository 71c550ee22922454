/- Contracts: what stands at a centre. -/
import Derived.Test.YthhgeodgfbhkdaaWf
set_option linter.unusedVariables false
set_option linter.unusedSimpArgs false
set_option linter.unusedSectionVars false
namespace Go.AX.Tri
open Go.Proofs Go.AX.Mc
set_option linter.unusedSimpArgs false
set_option linter.unusedVariables false
noncomputable section

theorem c51 {env : List Lp} (p : Wn) (H : AH) (Q : AEnd → AH → Prop) : C T env 51 [p.v] H Q = Q (.ret (.int .i32 p.z)) H := by
  refine C_det ?_ Q
  rw [C_fn T51 rfl]
  simp only [a51, Wn.v, Wn.cs, go_sem, bin_add, bin_sub, bin_mul, Nat.reduceAdd, Nat.reduceMul, Nat.reduceEqDiff, Nat.reduceLeDiff, Nat.reduceLT, Nat.reduceSub, reduceIte, reduceCtorEq, Int.reduceToNat, Int.reduceNeg, Int.reduceLE, Int.reduceLT, Int.reduceEq, Nat.reduceOr, Nat.reduceShiftRight, Nat.reduceMod, Nat.reduceBNe, Nat.reduceBEq]
theorem c52 {env : List Lp} (p : Wn) (h0 : 0 < p.w) (h1 : p.w < 2147483648) (H : AH) (Q : AEnd → AH → Prop) : C T env 52 [p.v] H Q = Q (.ret (.int .i32 (overF p.w))) H := by
  refine C_det ?_ Q
  rw [C_fn T52 rfl]
  simp only [a52, Wn.v, Wn.cs, c53 p.w h0 h1, go_sem, bin_add, bin_sub, bin_mul, Nat.reduceAdd, Nat.reduceMul, Nat.reduceEqDiff, Nat.reduceLeDiff, Nat.reduceLT, Nat.reduceSub, reduceIte, reduceCtorEq, Int.reduceToNat, Int.reduceNeg, Int.reduceLE, Int.reduceLT, Int.reduceEq, Nat.reduceOr, Nat.reduceShiftRight, Nat.reduceMod, Nat.reduceBNe, Nat.reduceBEq]

theorem wsV_length (a b c : Nat) : (wsV a b c).length = 6 := rfl
theorem wsV_take (a b c : Nat) : (wsV a b c).take 6 = wsV a b c := rfl
theorem wsV_flat (a b c : Nat) : (wsV a b c).all flat = true := rfl
theorem veq_wsV (a b c : Nat) : ((wsV a b c).zip (wsV a b c)).all (fun x => veq 5 x.1 x.2) = true := by simp only [wsV, wd, List.cons_append, List.nil_append, List.zip_cons_cons, List.zip_nil_right, List.all_cons, List.all_nil, veq_int]; rfl
theorem veq_wn (p : Wn) : (p.cs.zip p.cs).all (fun x => veq 5 x.1 x.2) = true := by simp only [Wn.cs, List.zip_cons_cons, List.zip_nil_right, List.all_cons, List.all_nil, veq_int, veq_slice, Bool.and_true]
theorem wn_length (p : Wn) : p.cs.length = 6 := rfl
theorem wn_flat (p : Wn) : p.cs.all flat = true := rfl
theorem wn_take (p : Wn) : p.cs.take 6 = p.cs := rfl

theorem c49 {env : List Lp} (f : Fc) (bf b0 : Nat) (g : FuncId) (cap : List Value) (num : Wn → Int) (N0 N1 N2 : Nat) (hA : 0 < N0 + N1 + N2) (hN : N0 + N1 + N2 < 19807040628566084398385987584)
    (H : AH) (hb : bf < H.nx) (hb0 : b0 < H.nx) (hf : rd H bf 0 20 = some f.cs) (hp : rd H b0 0 1 = some [.pointer (some ⟨bf, 0, none⟩)])
    (hg : ∀ p, (p = f.a ∨ p = f.b ∨ p = f.c) → ∀ L Q, C T env g (.agg p.cs.toArray :: cap) (ext H.now L) Q = Q (.ret (.int .i32 (num p))) (ext H.now L))
    (hn : ∀ p, (p = f.a ∨ p = f.b ∨ p = f.c) → -2147483648 ≤ num p ∧ num p < 2147483648) (Q : AEnd → AH → Prop) :
    C T env 49 [.agg (wsV N0 N1 N2).toArray, .func (.func g) #[] cap.toArray, .pointer (some ⟨b0, 0, none⟩)] H Q = Q (.ret (.int .i32 (nearF N0 N1 N2 (num f.a) (num f.b) (num f.c)))) H := by
  refine C_det ?_ Q
  rw [C_fn T49 rfl]
  have r0 : rd H bf 0 6 = some f.a.cs := rd_part hf 0 6 (by omega)
  have r1 : rd H bf 6 6 = some f.b.cs := by have := rd_part hf 6 6 (by omega); rwa [Nat.zero_add] at this
  have r2 : rd H bf 12 6 = some f.c.cs := by have := rd_part hf 12 6 (by omega); rwa [Nat.zero_add] at this
  have n0 := hn f.a (.inl rfl)
  have n1 := hn f.b (.inr (.inl rfl))
  have n2 := hn f.c (.inr (.inr rfl))
  have k50 := fun (H : AH) (Q : AEnd → AH → Prop) => c50 (env := env) N0 N1 N2 (num f.a) (num f.b) (num f.c) hA hN n0.1 n0.2 n1.1 n1.2 n2.1 n2.2 H Q
  unfold lsV at k50
  simp only [a49, wsV_length, wsV_take, go_sem, bin_add, bin_sub, bin_mul, Nat.reduceAdd, Nat.reduceMul, Nat.reduceEqDiff, Nat.reduceLeDiff, Nat.reduceLT, Nat.reduceSub, reduceIte, reduceCtorEq, Int.reduceToNat, Int.reduceNeg, Int.reduceLE, Int.reduceLT, Int.reduceEq, Nat.reduceOr, Nat.reduceShiftRight, Nat.reduceMod, Nat.reduceBNe, Nat.reduceBEq]
  refine X_drawE 0 (by rfl) ?_
  simp only [wsV_length, wsV_take, hb, hb0, hp, r0, r1, r2, hg f.a (.inl rfl), hg f.b (.inr (.inl rfl)), hg f.c (.inr (.inr rfl)), k50, veq_wsV, veq_wn, wn_length, go_sem, bin_add, bin_sub, bin_mul, Nat.reduceAdd, Nat.reduceMul, Nat.reduceEqDiff, Nat.reduceLeDiff, Nat.reduceLT, Nat.reduceSub, reduceIte, reduceCtorEq, Int.reduceToNat, Int.reduceNeg, Int.reduceLE, Int.reduceLT, Int.reduceEq, Nat.reduceOr, Nat.reduceShiftRight, Nat.reduceMod, Nat.reduceBNe, Nat.reduceBEq]
end
end Go.AX.Tri
/- Contracts: the fragment at a centre. -/
namespace Go.AX.Tri
open Go.Proofs Go.AX.Mc
set_option linter.unusedSimpArgs false
set_option linter.unusedVariables false
noncomputable section

def frV (x y z iw : Int) (fr : Bool) (s : Value) : List Value := [.int .i64 x, .int .i64 y, .int .i32 z, .int .i32 iw, .bool fr, .int .i32 0, .int .i32 0, .int .i32 0, .int .i32 0, s]
theorem w_u64_pos (w : Int) (h : 0 ≤ w) (h2 : w < 18446744073709551616) : wrapF .u64 w = ((w.toNat : Nat) : Int) := by
  rw [show w = (w.toNat : Int) by omega, w_u64]; simp only [Int.toNat_natCast]; congr 1; omega
theorem wd_small (n : Nat) (h : n < 18446744073709551616) : [Value.int .u64 0, Value.int .u64 (n : Int)] = wd n := by
  unfold wd; rw [show n / B64 = 0 by simp only [B64]; omega, show n % B64 = n by simp only [B64]; omega]; rfl

theorem wd_tk (N n : Nat) (l : List Value) : (wd N ++ l).take (n + 2) = wd N ++ l.take n := rfl
theorem wd_dr (N n : Nat) (l : List Value) : (wd N ++ l).drop (n + 2) = l.drop n := rfl
theorem wd_tk1 (N n : Nat) : (wd N).take (n + 2) = wd N := by show _ :: _ :: List.take n [] = _; simp; rfl
theorem wd_dr1 (N n : Nat) : (wd N).drop (n + 2) = [] := by show List.drop n [] = _; simp
theorem by_mod (n v w : Nat) (hn : n < 1073741824) (hv : v < 2147483648) (hw : w < 2147483648) : n * v % B128 * w % B128 = n * v * w := by
  have h1 : n * v ≤ 1073741824 * 2147483648 := Nat.mul_le_mul (by omega) (by omega)
  have h2 : n * v * w ≤ 1073741824 * 2147483648 * 2147483648 := Nat.mul_le_mul h1 (by omega)
  rw [Nat.mod_eq_of_lt (a := n * v) (by simp only [B128]; omega), Nat.mod_eq_of_lt (by simp only [B128]; omega)]
def byF (f : Fc) (n0 n1 n2 : Nat) : List Value := wsV (n0 * f.b.w.toNat * f.c.w.toNat) (n1 * f.c.w.toNat * f.a.w.toNat) (n2 * f.a.w.toNat * f.b.w.toNat)
def z6 : List Value := [.int .u64 0, .int .u64 0, .int .u64 0, .int .u64 0, .int .u64 0, .int .u64 0]
theorem frag_loop {env : List Lp} {k : List KF} {Q : QF} (f : Fc) (bf : Nat) (x y : Int) (n0 n1 n2 : Nat) (H : AH) (hb : bf < H.nx) (hf : rd H bf 0 20 = some f.cs)
    (h0 : n0 < 1073741824) (h1 : n1 < 1073741824) (h2 : n2 < 1073741824)
    (hw : ∀ p, (p = f.a ∨ p = f.b ∨ p = f.c) → 0 < p.w ∧ p.w < 2147483648) (b1 b2 : Option AB)
    (hQ : ∀ fr, tmp fr (pa 1) = .int .i64 x → tmp fr (pa 2) = .int .i64 y → tmp fr (pa 4) = .pointer (some ⟨H.now.nx, 0, none⟩) → tmp fr (pa 8) = .pointer (some ⟨H.now.nx + 2, 0, none⟩) → tmp fr (pa 9) = .pointer (some ⟨H.now.nx + 3, 0, none⟩) → tmp fr (pa 10) = .pointer (some ⟨H.now.nx + 4, 0, none⟩) → tmp fr (pa 18) = .agg (s3V (n0, n1, n2)).toArray → tmp fr (pa 19) = .int .i64 3 → X T env false (.loop a36l2) k fr [] (ext H.now [blk [.pointer (some ⟨bf, 0, none⟩)], b1, b2, blk (wsV n0 n1 n2), blk (byF f n0 n1 n2)]) Q) :
    ∀ fr, tmp fr (pa 1) = .int .i64 x → tmp fr (pa 2) = .int .i64 y → tmp fr (pa 4) = .pointer (some ⟨H.now.nx, 0, none⟩) → tmp fr (pa 8) = .pointer (some ⟨H.now.nx + 2, 0, none⟩) → tmp fr (pa 9) = .pointer (some ⟨H.now.nx + 3, 0, none⟩) → tmp fr (pa 10) = .pointer (some ⟨H.now.nx + 4, 0, none⟩) → tmp fr (pa 18) = .agg (s3V (n0, n1, n2)).toArray → tmp fr (pa 19) = .int .i64 0 → X T env false (.loop a36l2) k fr [] (ext H.now [blk [.pointer (some ⟨bf, 0, none⟩)], b1, b2, blk z6, blk z6]) Q := by
  intro fr t1 t2 t4 t8 t9 t10 t18 t19
  obtain ⟨wa, wa'⟩ := hw f.a (.inl rfl)
  obtain ⟨wb, wb'⟩ := hw f.b (.inr (.inl rfl))
  obtain ⟨wc, wc'⟩ := hw f.c (.inr (.inr rfl))
  have r0 : rd H bf 0 6 = some f.a.cs := rd_part hf 0 6 (by omega)
  have r1 : rd H bf 6 6 = some f.b.cs := by have := rd_part hf 6 6 (by omega); rwa [Nat.zero_add] at this
  have r2 : rd H bf 12 6 = some f.c.cs := by have := rd_part hf 12 6 (by omega); rwa [Nat.zero_add] at this
  have q0 : rd H bf 3 1 = some [.int .i32 f.a.w] := by have := rd_part r0 3 1 (by omega); exact this
  have q1 : rd H bf 9 1 = some [.int .i32 f.b.w] := by have := rd_part r1 3 1 (by omega); exact this
  have q2 : rd H bf 15 1 = some [.int .i32 f.c.w] := by have := rd_part r2 3 1 (by omega); exact this
  have e0 := w_u64_pos f.a.w (by omega) (by omega)
  have e1 := w_u64_pos f.b.w (by omega) (by omega)
  have e2 := w_u64_pos f.c.w (by omega) (by omega)
  have i0 : wrapF .u64 (n0 : Int) = (n0 : Int) := by rw [w_u64]; omega
  have i1 : wrapF .u64 (n1 : Int) = (n1 : Int) := by rw [w_u64]; omega
  have i2 : wrapF .u64 (n2 : Int) = (n2 : Int) := by rw [w_u64]; omega
  have d0 := wd_small n0 (by omega)
  have d1 := wd_small n1 (by omega)
  have d2 := wd_small n2 (by omega)
  have ka := fun (N : Nat) (H : AH) (Q : AEnd → AH → Prop) => c48 (env := env) N f.a.w.toNat (by simp only [B64]; omega) H Q
  have kb := fun (N : Nat) (H : AH) (Q : AEnd → AH → Prop) => c48 (env := env) N f.b.w.toNat (by simp only [B64]; omega) H Q
  have kc := fun (N : Nat) (H : AH) (Q : AEnd → AH → Prop) => c48 (env := env) N f.c.w.toNat (by simp only [B64]; omega) H Q
  unfold z6
  unfold s3V at t18
  rw [X_loop]
  change X _ _ _ (.seq _ _) _ _ _ _ _
  simp only [t1, t2, t4, t8, t9, t10, t18, t19, i0, i1, i2, d0, d1, d2, w64_id, Int.reduceAdd, wd_length, wd_flat, wd_tk, wd_dr, wd_tk1, wd_dr1, go_sem, bin_add, bin_sub, bin_mul, Nat.reduceAdd, Nat.reduceMul, Nat.reduceEqDiff, Nat.reduceLeDiff, Nat.reduceLT, Nat.reduceSub, reduceIte, reduceCtorEq, Int.reduceToNat, Int.reduceNeg, Int.reduceLE, Int.reduceLT, Int.reduceEq, Nat.reduceOr, Nat.reduceShiftRight, Nat.reduceMod, Nat.reduceBNe, Nat.reduceBEq]
  refine X_drawE 0 (by rfl) ?_
  simp only [t1, t2, t4, t8, t9, t10, t18, t19, hb, q0, q1, q2, e0, e1, e2, ka, kb, kc, bin_rem, w64_id, Int.reduceAdd, Int.reduceTMod, Int.reduceEq, wd_length, wd_flat, wd_tk, wd_dr, wd_tk1, wd_dr1, veq_wd, go_sem, bin_add, bin_sub, bin_mul, Nat.reduceAdd, Nat.reduceMul, Nat.reduceEqDiff, Nat.reduceLeDiff, Nat.reduceLT, Nat.reduceSub, reduceIte, reduceCtorEq, Int.reduceToNat, Int.reduceNeg, Int.reduceLE, Int.reduceLT, Int.reduceEq, Nat.reduceOr, Nat.reduceShiftRight, Nat.reduceMod, Nat.reduceBNe, Nat.reduceBEq]
  rw [X_loop]
  change X _ _ _ (.seq _ _) _ _ _ _ _
  simp only [t1, t2, t4, t8, t9, t10, t18, t19, i0, i1, i2, d0, d1, d2, w64_id, Int.reduceAdd, wd_length, wd_flat, wd_tk, wd_dr, wd_tk1, wd_dr1, go_sem, bin_add, bin_sub, bin_mul, Nat.reduceAdd, Nat.reduceMul, Nat.reduceEqDiff, Nat.reduceLeDiff, Nat.reduceLT, Nat.reduceSub, reduceIte, reduceCtorEq, Int.reduceToNat, Int.reduceNeg, Int.reduceLE, Int.reduceLT, Int.reduceEq, Nat.reduceOr, Nat.reduceShiftRight, Nat.reduceMod, Nat.reduceBNe, Nat.reduceBEq]
  refine X_drawE 0 (by rfl) ?_
  simp only [t1, t2, t4, t8, t9, t10, t18, t19, hb, q0, q1, q2, e0, e1, e2, ka, kb, kc, bin_rem, w64_id, Int.reduceAdd, Int.reduceTMod, Int.reduceEq, wd_length, wd_flat, wd_tk, wd_dr, wd_tk1, wd_dr1, veq_wd, go_sem, bin_add, bin_sub, bin_mul, Nat.reduceAdd, Nat.reduceMul, Nat.reduceEqDiff, Nat.reduceLeDiff, Nat.reduceLT, Nat.reduceSub, reduceIte, reduceCtorEq, Int.reduceToNat, Int.reduceNeg, Int.reduceLE, Int.reduceLT, Int.reduceEq, Nat.reduceOr, Nat.reduceShiftRight, Nat.reduceMod, Nat.reduceBNe, Nat.reduceBEq]
  rw [X_loop]
  change X _ _ _ (.seq _ _) _ _ _ _ _
  simp only [t1, t2, t4, t8, t9, t10, t18, t19, i0, i1, i2, d0, d1, d2, w64_id, Int.reduceAdd, wd_length, wd_flat, wd_tk, wd_dr, wd_tk1, wd_dr1, go_sem, bin_add, bin_sub, bin_mul, Nat.reduceAdd, Nat.reduceMul, Nat.reduceEqDiff, Nat.reduceLeDiff, Nat.reduceLT, Nat.reduceSub, reduceIte, reduceCtorEq, Int.reduceToNat, Int.reduceNeg, Int.reduceLE, Int.reduceLT, Int.reduceEq, Nat.reduceOr, Nat.reduceShiftRight, Nat.reduceMod, Nat.reduceBNe, Nat.reduceBEq]
  refine X_drawE 0 (by rfl) ?_
  simp only [t1, t2, t4, t8, t9, t10, t18, t19, hb, q0, q1, q2, e0, e1, e2, ka, kb, kc, bin_rem, w64_id, Int.reduceAdd, Int.reduceTMod, Int.reduceEq, wd_length, wd_flat, wd_tk, wd_dr, wd_tk1, wd_dr1, veq_wd, go_sem, bin_add, bin_sub, bin_mul, Nat.reduceAdd, Nat.reduceMul, Nat.reduceEqDiff, Nat.reduceLeDiff, Nat.reduceLT, Nat.reduceSub, reduceIte, reduceCtorEq, Int.reduceToNat, Int.reduceNeg, Int.reduceLE, Int.reduceLT, Int.reduceEq, Nat.reduceOr, Nat.reduceShiftRight, Nat.reduceMod, Nat.reduceBNe, Nat.reduceBEq]
  have p1 : f.b.w.toNat * f.c.w.toNat ≤ 2147483648 * 2147483648 := Nat.mul_le_mul (by omega) (by omega)
  have p2 : f.c.w.toNat * f.a.w.toNat ≤ 2147483648 * 2147483648 := Nat.mul_le_mul (by omega) (by omega)
  have p3 : f.a.w.toNat * f.b.w.toNat ≤ 2147483648 * 2147483648 := Nat.mul_le_mul (by omega) (by omega)
  rw [by_mod n0 f.b.w.toNat f.c.w.toNat h0 (by omega) (by omega), by_mod n1 f.c.w.toNat f.a.w.toNat h1 (by omega) (by omega), by_mod n2 f.a.w.toNat f.b.w.toNat h2 (by omega) (by omega)]
  refine hQ _ ?_ ?_ ?_ ?_ ?_ ?_ ?_ ?_ <;> simp only [t1, t2, t4, t8, t9, t10, t18, s3V, go_sem, bin_add, bin_sub, bin_mul, Nat.reduceAdd, Nat.reduceMul, Nat.reduceEqDiff, Nat.reduceLeDiff, Nat.reduceLT, Nat.reduceSub, reduceIte, reduceCtorEq, Int.reduceToNat, Int.reduceNeg, Int.reduceLE, Int.reduceLT, Int.reduceEq, Nat.reduceOr, Nat.reduceShiftRight, Nat.reduceMod, Nat.reduceBNe, Nat.reduceBEq]

end
end Go.AX.Tri
/- Contracts: the fragment at a centre (2). -/
namespace Go.AX.Tri
open Go.Proofs Go.AX.Mc
set_option linter.unusedSimpArgs false
set_option linter.unusedVariables false
noncomputable section

def K36 : ACode := .seq (.region [yR (oLoadA 10 (t 14)) 99 0, zE (oStore 10 (t 8) (t 99)) 0]) .ret
def nearZ (f : Fc) (n0 n1 n2 : Nat) : Int := nearF n0 n1 n2 f.a.z f.b.z f.c.z
def nearW (f : Fc) (n0 n1 n2 : Nat) : Int := nearF n0 n1 n2 (overF f.a.w) (overF f.b.w) (overF f.c.w)

theorem frag_pre {env : List Lp} (f : Fc) (bf : Nat) (x y : Int) (n0 n1 n2 : Nat) (H : AH) (hb : bf < H.nx) (hf : rd H bf 0 20 = some f.cs)
    (h0 : n0 < 1073741824) (h1 : n1 < 1073741824) (h2 : n2 < 1073741824) (hA : 0 < n0 + n1 + n2)
    (hw : ∀ p, (p = f.a ∨ p = f.b ∨ p = f.c) → 0 < p.w ∧ p.w < 2147483648) (hz : ∀ p, (p = f.a ∨ p = f.b ∨ p = f.c) → -2147483648 ≤ p.z ∧ p.z < 2147483648) (Q : AEnd → AH → Prop)
    (hQ : ∀ fr, tmp fr (pa 4) = .pointer (some ⟨H.now.nx, 0, none⟩) → tmp fr (pa 8) = .pointer (some ⟨H.now.nx + 2, 0, none⟩) → tmp fr (pa 10) = .pointer (some ⟨H.now.nx + 4, 0, none⟩) →
      tmp fr (pa 13) = .func (.func 49) #[] #[.pointer (some ⟨H.now.nx, 0, none⟩)] → tmp fr (pa 14) = .pointer (some ⟨H.now.nx + 5, 0, none⟩) → tmp fr (pa 78) = .int .i64 f.a.l → tmp fr (pa 79) = .int .i64 0 →
      X T env false (.loop a36l1) [.blk 2, .seq K36] fr [] (ext H.now [blk [.pointer (some ⟨bf, 0, none⟩)], blk (s3V (n0, n1, n2)), blk (frV 0 0 0 0 false (.slice none 0 0)), blk (wsV n0 n1 n2), blk (byF f n0 n1 n2), blk (frV x y (nearZ f n0 n1 n2) (nearW f n0 n1 n2) f.front (.slice none 0 0))])
        (Fin H [.cA 10 (pa 8)] Q)) :
    C T env 36 [.pointer (some ⟨bf, 0, none⟩), .int .i64 x, .int .i64 y, .agg (s3V (n0, n1, n2)).toArray] H Q := by
  rw [C_fn T36 rfl]
  have r0 : rd H bf 0 6 = some f.a.cs := rd_part hf 0 6 (by omega)
  have r3 : rd H bf 19 1 = some [.bool f.front] := by have := rd_part hf 19 1 (by omega); rwa [Nat.zero_add] at this
  have r4 : rd H bf 5 1 = some [.slice f.a.a f.a.l f.a.c] := by have := rd_part r0 5 1 (by omega); exact this
  have K49 : ∀ (g : FuncId) (num : Wn → Int), (∀ p, (p = f.a ∨ p = f.b ∨ p = f.c) → ∀ H Q, C T env g [p.v] H Q = Q (.ret (.int .i32 (num p))) H) → (∀ p, (p = f.a ∨ p = f.b ∨ p = f.c) → -2147483648 ≤ num p ∧ num p < 2147483648) →
      ∀ L Q, C T env 49 [.agg (wsV n0 n1 n2).toArray, .func (.func g) #[] #[], .pointer (some ⟨H.now.nx, 0, none⟩)] (ext H.now (blk [.pointer (some ⟨bf, 0, none⟩)] :: L)) Q =
        Q (.ret (.int .i32 (nearF n0 n1 n2 (num f.a) (num f.b) (num f.c)))) (ext H.now (blk [.pointer (some ⟨bf, 0, none⟩)] :: L)) := by
    intro g num hg hn L Q
    refine c49 f bf H.now.nx g [] num n0 n1 n2 hA (by omega) _ (by rw [ext_nx]; exact Nat.lt_of_lt_of_le hb (Nat.le_add_right _ _)) (by rw [ext_nx]; simp only [List.length_cons]; omega) ?_ ?_ (fun p hp L Q => hg p hp _ Q) hn Q
    · rw [rd_old H.now _ _ _ _ hb]; exact hf
    · simp only [go_sem, bin_add, bin_sub, bin_mul, Nat.reduceAdd, Nat.reduceMul, Nat.reduceEqDiff, Nat.reduceLeDiff, Nat.reduceLT, Nat.reduceSub, reduceIte, reduceCtorEq, Int.reduceToNat, Int.reduceNeg, Int.reduceLE, Int.reduceLT, Int.reduceEq, Nat.reduceOr, Nat.reduceShiftRight, Nat.reduceMod, Nat.reduceBNe, Nat.reduceBEq]
  have kz := K49 51 Wn.z (fun p _ H Q => c51 p H Q) hz
  have ko := K49 52 (fun p => overF p.w) (fun p hp H Q => c52 p (hw p hp).1 (hw p hp).2 H Q) (fun p hp => by unfold overF rawF; omega)
  rw [show nearF n0 n1 n2 f.a.z f.b.z f.c.z = nearZ f n0 n1 n2 from rfl] at kz
  rw [show nearF n0 n1 n2 (overF f.a.w) (overF f.b.w) (overF f.c.w) = nearW f n0 n1 n2 from rfl] at ko
  simp only [a36, s3V, go_sem, bin_add, bin_sub, bin_mul, Nat.reduceAdd, Nat.reduceMul, Nat.reduceEqDiff, Nat.reduceLeDiff, Nat.reduceLT, Nat.reduceSub, reduceIte, reduceCtorEq, Int.reduceToNat, Int.reduceNeg, Int.reduceLE, Int.reduceLT, Int.reduceEq, Nat.reduceOr, Nat.reduceShiftRight, Nat.reduceMod, Nat.reduceBNe, Nat.reduceBEq]
  refine frag_loop f bf x y n0 n1 n2 H hb hf h0 h1 h2 hw _ _ ?_ _ (by simp only [go_sem, bin_add, bin_sub, bin_mul, Nat.reduceAdd, Nat.reduceMul, Nat.reduceEqDiff, Nat.reduceLeDiff, Nat.reduceLT, Nat.reduceSub, reduceIte, reduceCtorEq, Int.reduceToNat, Int.reduceNeg, Int.reduceLE, Int.reduceLT, Int.reduceEq, Nat.reduceOr, Nat.reduceShiftRight, Nat.reduceMod, Nat.reduceBNe, Nat.reduceBEq]) (by simp only [go_sem, bin_add, bin_sub, bin_mul, Nat.reduceAdd, Nat.reduceMul, Nat.reduceEqDiff, Nat.reduceLeDiff, Nat.reduceLT, Nat.reduceSub, reduceIte, reduceCtorEq, Int.reduceToNat, Int.reduceNeg, Int.reduceLE, Int.reduceLT, Int.reduceEq, Nat.reduceOr, Nat.reduceShiftRight, Nat.reduceMod, Nat.reduceBNe, Nat.reduceBEq]) (by simp only [go_sem, bin_add, bin_sub, bin_mul, Nat.reduceAdd, Nat.reduceMul, Nat.reduceEqDiff, Nat.reduceLeDiff, Nat.reduceLT, Nat.reduceSub, reduceIte, reduceCtorEq, Int.reduceToNat, Int.reduceNeg, Int.reduceLE, Int.reduceLT, Int.reduceEq, Nat.reduceOr, Nat.reduceShiftRight, Nat.reduceMod, Nat.reduceBNe, Nat.reduceBEq]) (by simp only [go_sem, bin_add, bin_sub, bin_mul, Nat.reduceAdd, Nat.reduceMul, Nat.reduceEqDiff, Nat.reduceLeDiff, Nat.reduceLT, Nat.reduceSub, reduceIte, reduceCtorEq, Int.reduceToNat, Int.reduceNeg, Int.reduceLE, Int.reduceLT, Int.reduceEq, Nat.reduceOr, Nat.reduceShiftRight, Nat.reduceMod, Nat.reduceBNe, Nat.reduceBEq]) (by simp only [go_sem, bin_add, bin_sub, bin_mul, Nat.reduceAdd, Nat.reduceMul, Nat.reduceEqDiff, Nat.reduceLeDiff, Nat.reduceLT, Nat.reduceSub, reduceIte, reduceCtorEq, Int.reduceToNat, Int.reduceNeg, Int.reduceLE, Int.reduceLT, Int.reduceEq, Nat.reduceOr, Nat.reduceShiftRight, Nat.reduceMod, Nat.reduceBNe, Nat.reduceBEq]) (by simp only [go_sem, bin_add, bin_sub, bin_mul, Nat.reduceAdd, Nat.reduceMul, Nat.reduceEqDiff, Nat.reduceLeDiff, Nat.reduceLT, Nat.reduceSub, reduceIte, reduceCtorEq, Int.reduceToNat, Int.reduceNeg, Int.reduceLE, Int.reduceLT, Int.reduceEq, Nat.reduceOr, Nat.reduceShiftRight, Nat.reduceMod, Nat.reduceBNe, Nat.reduceBEq]) (by simp only [s3V, go_sem, bin_add, bin_sub, bin_mul, Nat.reduceAdd, Nat.reduceMul, Nat.reduceEqDiff, Nat.reduceLeDiff, Nat.reduceLT, Nat.reduceSub, reduceIte, reduceCtorEq, Int.reduceToNat, Int.reduceNeg, Int.reduceLE, Int.reduceLT, Int.reduceEq, Nat.reduceOr, Nat.reduceShiftRight, Nat.reduceMod, Nat.reduceBNe, Nat.reduceBEq]) (by simp only [go_sem, bin_add, bin_sub, bin_mul, Nat.reduceAdd, Nat.reduceMul, Nat.reduceEqDiff, Nat.reduceLeDiff, Nat.reduceLT, Nat.reduceSub, reduceIte, reduceCtorEq, Int.reduceToNat, Int.reduceNeg, Int.reduceLE, Int.reduceLT, Int.reduceEq, Nat.reduceOr, Nat.reduceShiftRight, Nat.reduceMod, Nat.reduceBNe, Nat.reduceBEq])
  intro fr t1 t2 t4 t8 t9 t10 t18 t19
  rw [X_loop]
  change X _ _ _ (.seq _ _) _ _ _ _ _
  simp only [t1, t2, t4, t8, t9, t10, t18, t19, hb, r3, r4, kz, ko, lnS_wn, wsV_length, wsV_take, go_sem, bin_add, bin_sub, bin_mul, Nat.reduceAdd, Nat.reduceMul, Nat.reduceEqDiff, Nat.reduceLeDiff, Nat.reduceLT, Nat.reduceSub, reduceIte, reduceCtorEq, Int.reduceToNat, Int.reduceNeg, Int.reduceLE, Int.reduceLT, Int.reduceEq, Nat.reduceOr, Nat.reduceShiftRight, Nat.reduceMod, Nat.reduceBNe, Nat.reduceBEq]
  refine hQ _ ?_ ?_ ?_ ?_ ?_ ?_ ?_ <;> simp only [t1, t2, t4, t8, t9, t10, t18, go_sem, bin_add, bin_sub, bin_mul, Nat.reduceAdd, Nat.reduceMul, Nat.reduceEqDiff, Nat.reduceLeDiff, Nat.reduceLT, Nat.reduceSub, reduceIte, reduceCtorEq, Int.reduceToNat, Int.reduceNeg, Int.reduceLE, Int.reduceLT, Int.reduceEq, Nat.reduceOr, Nat.reduceShiftRight, Nat.reduceMod, Nat.reduceBNe, Nat.reduceBEq]
end
end Go.AX.Tri
