/- Contracts: turned, sides. -/
import Derived.Test.YthhgeodgfbhkdaaWa
import Derived.Test.YthhgeodgfbhkdaaWe
set_option linter.unusedVariables false
set_option linter.unusedSimpArgs false
set_option linter.unusedSectionVars false
namespace Go.AX.Tri
open Go.Proofs Go.AX.Mc
set_option linter.unusedSimpArgs false
set_option linter.unusedVariables false
noncomputable section

/-! ## A triangle whose corners are turned -/
structure Fc where
  a : Wn
  b : Wn
  c : Wn
  area : Int
  front : Bool
def Fc.cs (f : Fc) : List Value := f.a.cs ++ (f.b.cs ++ (f.c.cs ++ [.int .i64 f.area, .bool f.front]))
def Fc.v (f : Fc) : Value := .agg f.cs.toArray
def turnF (a b c : Wn) : Fc := bif decide (wayF a b c.x c.y < 0) then ⟨a, c, b, w64 (-(wayF a b c.x c.y)), false⟩ else ⟨a, b, c, wayF a b c.x c.y, decide (0 < wayF a b c.x c.y)⟩

theorem c33 {env : List Lp} (a b c : Wn) (H : AH) (Q : AEnd → AH → Prop) : (∀ L, Q (.ret (turnF a b c).v) (trim H (turnF a b c).v (ext H.now L))) → C T env 33 [a.v, b.v, c.v] H Q := by
  intro hQ
  rw [C_fn T33 rfl]
  have c31' : ∀ (x y : Int) (h : AH) (Q' : AEnd → AH → Prop), C T env 31 [.agg [.int .i64 a.x, .int .i64 a.y, .int .i32 a.z, .int .i32 a.w, .int .i32 a.s, .slice a.a a.l a.c].toArray, .agg [.int .i64 b.x, .int .i64 b.y, .int .i32 b.z, .int .i32 b.w, .int .i32 b.s, .slice b.a b.l b.c].toArray, .int .i64 x, .int .i64 y] h Q' = Q' (.ret (.int .i64 (wayF a b x y))) h := fun x y h Q' => c31 a b x y h Q'
  simp only [a33, Wn.v, Wn.cs, c31', go_sem, bin_add, bin_sub, bin_mul, Nat.reduceAdd, Nat.reduceMul, Nat.reduceEqDiff, Nat.reduceLeDiff, Nat.reduceLT, Nat.reduceSub, reduceIte, reduceCtorEq, Int.reduceToNat, Int.reduceNeg, Int.reduceLE, Int.reduceLT, Int.reduceEq, Nat.reduceOr, Nat.reduceShiftRight, Nat.reduceMod, Nat.reduceBNe, Nat.reduceBEq]
  unfold turnF at hQ
  generalize wayF a b c.x c.y = w at *
  refine Cd_split ?_ ?_ <;> intro g
  · simp only [g, Fc.v, Fc.cs, Wn.cs, cond_true, go_sem, bin_add, bin_sub, bin_mul, Nat.reduceAdd, Nat.reduceMul, Nat.reduceEqDiff, Nat.reduceLeDiff, Nat.reduceLT, Nat.reduceSub, reduceIte, reduceCtorEq, Int.reduceToNat, Int.reduceNeg, Int.reduceLE, Int.reduceLT, Int.reduceEq, Nat.reduceOr, Nat.reduceShiftRight, Nat.reduceMod, Nat.reduceBNe, Nat.reduceBEq] at hQ ⊢
    exact hQ _
  · simp only [g, Fc.v, Fc.cs, Wn.cs, cond_false, go_sem, bin_add, bin_sub, bin_mul, Nat.reduceAdd, Nat.reduceMul, Nat.reduceEqDiff, Nat.reduceLeDiff, Nat.reduceLT, Nat.reduceSub, reduceIte, reduceCtorEq, Int.reduceToNat, Int.reduceNeg, Int.reduceLE, Int.reduceLT, Int.reduceEq, Nat.reduceOr, Nat.reduceShiftRight, Nat.reduceMod, Nat.reduceBNe, Nat.reduceBEq] at hQ ⊢
    exact hQ _

/-! ## Sides -/
def inF (p q : Wn) (u v : Int) : Bool := decide (0 < wayF p q u v) || (decide (wayF p q u v = 0) && (decide (q.y < p.y) || (decide (q.y = p.y) && decide (q.x < p.x))))

theorem c47_0 {env : List Lp} (p q : Wn) (s0 s1 s2 : Value) (u v' : Int) (G : AH) (hlo : G.lo ≤ G.nx) (b0 : Option AB) (R : List (Option AB)) (Q : AEnd → AH → Prop) :
    C T env 47 [p.v, q.v, .int .i64 0, .pointer (some ⟨G.nx + 2, 0, none⟩), .pointer (some ⟨G.nx + 3, 0, none⟩), .pointer (some ⟨G.nx + 1, 0, none⟩)] (ext G (b0 :: blk [s0, s1, s2] :: blk [.int .i64 u] :: blk [.int .i64 v'] :: R)) Q =
      Q (.ret (.bool (inF p q u v'))) (ext G (b0 :: blk [.int .i64 (wayF p q u v'), s1, s2] :: blk [.int .i64 u] :: blk [.int .i64 v'] :: (R ++ [blk p.cs, blk q.cs]))) := by
  refine C_det ?_ Q
  rw [C_fn T47 rfl]
  have c31' : ∀ (x y : Int) (h : AH) (Q' : AEnd → AH → Prop), C T env 31 [.agg [.int .i64 p.x, .int .i64 p.y, .int .i32 p.z, .int .i32 p.w, .int .i32 p.s, .slice p.a p.l p.c].toArray, .agg [.int .i64 q.x, .int .i64 q.y, .int .i32 q.z, .int .i32 q.w, .int .i32 q.s, .slice q.a q.l q.c].toArray, .int .i64 x, .int .i64 y] h Q' = Q' (.ret (.int .i64 (wayF p q x y))) h := fun x y h Q' => c31 p q x y h Q'
  have ht : ∀ (v : Value) (x : AB) (L : List (Option AB)), trim (ext G (b0 :: blk [s0, s1, s2] :: blk [.int .i64 u] :: blk [.int .i64 v'] :: R)) v (ext (AH.set (ext G (b0 :: blk [s0, s1, s2] :: blk [.int .i64 u] :: blk [.int .i64 v'] :: R)).now (G.nx + 1) x) L) = ext G (b0 :: some x :: blk [.int .i64 u] :: blk [.int .i64 v'] :: (R ++ L)) := by
    intro v x L
    rw [trim_set _ _ _ _ _ (by rw [ext_nx]; simp only [List.length_cons]; omega) (by rw [ext_lo]; omega), ext_st_new _ _ _ _ (by simp only [List.length_cons]; omega), ext_ext]
    rfl
  simp only [a47, Wn.v, Wn.cs, c31', blk, go_sem, bin_add, bin_sub, bin_mul, Nat.reduceAdd, Nat.reduceMul, Nat.reduceEqDiff, Nat.reduceLeDiff, Nat.reduceLT, Nat.reduceSub, reduceIte, reduceCtorEq, Int.reduceToNat, Int.reduceNeg, Int.reduceLE, Int.reduceLT, Int.reduceEq, Nat.reduceOr, Nat.reduceShiftRight, Nat.reduceMod, Nat.reduceBNe, Nat.reduceBEq]
  simp only [blk] at ht
  unfold inF
  generalize wayF p q u v' = w at *
  refine Gd_split ?_ ?_ <;> intro g1 <;> simp only [g1, ht, go_sem, bin_add, bin_sub, bin_mul, Nat.reduceAdd, Nat.reduceMul, Nat.reduceEqDiff, Nat.reduceLeDiff, Nat.reduceLT, Nat.reduceSub, reduceIte, reduceCtorEq, Int.reduceToNat, Int.reduceNeg, Int.reduceLE, Int.reduceLT, Int.reduceEq, Nat.reduceOr, Nat.reduceShiftRight, Nat.reduceMod, Nat.reduceBNe, Nat.reduceBEq]
  · rfl
  refine Gd_split ?_ ?_ <;> intro g2 <;> simp only [g1, g2, ht, go_sem, bin_add, bin_sub, bin_mul, Nat.reduceAdd, Nat.reduceMul, Nat.reduceEqDiff, Nat.reduceLeDiff, Nat.reduceLT, Nat.reduceSub, reduceIte, reduceCtorEq, Int.reduceToNat, Int.reduceNeg, Int.reduceLE, Int.reduceLT, Int.reduceEq, Nat.reduceOr, Nat.reduceShiftRight, Nat.reduceMod, Nat.reduceBNe, Nat.reduceBEq]
  rotate_left
  · rfl
  refine Gd_split ?_ ?_ <;> intro g3 <;> simp only [g1, g2, g3, ht, go_sem, bin_add, bin_sub, bin_mul, Nat.reduceAdd, Nat.reduceMul, Nat.reduceEqDiff, Nat.reduceLeDiff, Nat.reduceLT, Nat.reduceSub, reduceIte, reduceCtorEq, Int.reduceToNat, Int.reduceNeg, Int.reduceLE, Int.reduceLT, Int.reduceEq, Nat.reduceOr, Nat.reduceShiftRight, Nat.reduceMod, Nat.reduceBNe, Nat.reduceBEq]
  · rfl
  refine Gd_split ?_ ?_ <;> intro g4 <;> simp only [g1, g2, g3, g4, ht, go_sem, bin_add, bin_sub, bin_mul, Nat.reduceAdd, Nat.reduceMul, Nat.reduceEqDiff, Nat.reduceLeDiff, Nat.reduceLT, Nat.reduceSub, reduceIte, reduceCtorEq, Int.reduceToNat, Int.reduceNeg, Int.reduceLE, Int.reduceLT, Int.reduceEq, Nat.reduceOr, Nat.reduceShiftRight, Nat.reduceMod, Nat.reduceBNe, Nat.reduceBEq]
  · rfl
  · rfl
theorem c47_1 {env : List Lp} (p q : Wn) (s0 s1 s2 : Value) (u v' : Int) (G : AH) (hlo : G.lo ≤ G.nx) (b0 : Option AB) (R : List (Option AB)) (Q : AEnd → AH → Prop) :
    C T env 47 [p.v, q.v, .int .i64 1, .pointer (some ⟨G.nx + 2, 0, none⟩), .pointer (some ⟨G.nx + 3, 0, none⟩), .pointer (some ⟨G.nx + 1, 0, none⟩)] (ext G (b0 :: blk [s0, s1, s2] :: blk [.int .i64 u] :: blk [.int .i64 v'] :: R)) Q =
      Q (.ret (.bool (inF p q u v'))) (ext G (b0 :: blk [s0, .int .i64 (wayF p q u v'), s2] :: blk [.int .i64 u] :: blk [.int .i64 v'] :: (R ++ [blk p.cs, blk q.cs]))) := by
  refine C_det ?_ Q
  rw [C_fn T47 rfl]
  have c31' : ∀ (x y : Int) (h : AH) (Q' : AEnd → AH → Prop), C T env 31 [.agg [.int .i64 p.x, .int .i64 p.y, .int .i32 p.z, .int .i32 p.w, .int .i32 p.s, .slice p.a p.l p.c].toArray, .agg [.int .i64 q.x, .int .i64 q.y, .int .i32 q.z, .int .i32 q.w, .int .i32 q.s, .slice q.a q.l q.c].toArray, .int .i64 x, .int .i64 y] h Q' = Q' (.ret (.int .i64 (wayF p q x y))) h := fun x y h Q' => c31 p q x y h Q'
  have ht : ∀ (v : Value) (x : AB) (L : List (Option AB)), trim (ext G (b0 :: blk [s0, s1, s2] :: blk [.int .i64 u] :: blk [.int .i64 v'] :: R)) v (ext (AH.set (ext G (b0 :: blk [s0, s1, s2] :: blk [.int .i64 u] :: blk [.int .i64 v'] :: R)).now (G.nx + 1) x) L) = ext G (b0 :: some x :: blk [.int .i64 u] :: blk [.int .i64 v'] :: (R ++ L)) := by
    intro v x L
    rw [trim_set _ _ _ _ _ (by rw [ext_nx]; simp only [List.length_cons]; omega) (by rw [ext_lo]; omega), ext_st_new _ _ _ _ (by simp only [List.length_cons]; omega), ext_ext]
    rfl
  simp only [a47, Wn.v, Wn.cs, c31', blk, go_sem, bin_add, bin_sub, bin_mul, Nat.reduceAdd, Nat.reduceMul, Nat.reduceEqDiff, Nat.reduceLeDiff, Nat.reduceLT, Nat.reduceSub, reduceIte, reduceCtorEq, Int.reduceToNat, Int.reduceNeg, Int.reduceLE, Int.reduceLT, Int.reduceEq, Nat.reduceOr, Nat.reduceShiftRight, Nat.reduceMod, Nat.reduceBNe, Nat.reduceBEq]
  simp only [blk] at ht
  unfold inF
  generalize wayF p q u v' = w at *
  refine Gd_split ?_ ?_ <;> intro g1 <;> simp only [g1, ht, go_sem, bin_add, bin_sub, bin_mul, Nat.reduceAdd, Nat.reduceMul, Nat.reduceEqDiff, Nat.reduceLeDiff, Nat.reduceLT, Nat.reduceSub, reduceIte, reduceCtorEq, Int.reduceToNat, Int.reduceNeg, Int.reduceLE, Int.reduceLT, Int.reduceEq, Nat.reduceOr, Nat.reduceShiftRight, Nat.reduceMod, Nat.reduceBNe, Nat.reduceBEq]
  · rfl
  refine Gd_split ?_ ?_ <;> intro g2 <;> simp only [g1, g2, ht, go_sem, bin_add, bin_sub, bin_mul, Nat.reduceAdd, Nat.reduceMul, Nat.reduceEqDiff, Nat.reduceLeDiff, Nat.reduceLT, Nat.reduceSub, reduceIte, reduceCtorEq, Int.reduceToNat, Int.reduceNeg, Int.reduceLE, Int.reduceLT, Int.reduceEq, Nat.reduceOr, Nat.reduceShiftRight, Nat.reduceMod, Nat.reduceBNe, Nat.reduceBEq]
  rotate_left
  · rfl
  refine Gd_split ?_ ?_ <;> intro g3 <;> simp only [g1, g2, g3, ht, go_sem, bin_add, bin_sub, bin_mul, Nat.reduceAdd, Nat.reduceMul, Nat.reduceEqDiff, Nat.reduceLeDiff, Nat.reduceLT, Nat.reduceSub, reduceIte, reduceCtorEq, Int.reduceToNat, Int.reduceNeg, Int.reduceLE, Int.reduceLT, Int.reduceEq, Nat.reduceOr, Nat.reduceShiftRight, Nat.reduceMod, Nat.reduceBNe, Nat.reduceBEq]
  · rfl
  refine Gd_split ?_ ?_ <;> intro g4 <;> simp only [g1, g2, g3, g4, ht, go_sem, bin_add, bin_sub, bin_mul, Nat.reduceAdd, Nat.reduceMul, Nat.reduceEqDiff, Nat.reduceLeDiff, Nat.reduceLT, Nat.reduceSub, reduceIte, reduceCtorEq, Int.reduceToNat, Int.reduceNeg, Int.reduceLE, Int.reduceLT, Int.reduceEq, Nat.reduceOr, Nat.reduceShiftRight, Nat.reduceMod, Nat.reduceBNe, Nat.reduceBEq]
  · rfl
  · rfl
theorem c47_2 {env : List Lp} (p q : Wn) (s0 s1 s2 : Value) (u v' : Int) (G : AH) (hlo : G.lo ≤ G.nx) (b0 : Option AB) (R : List (Option AB)) (Q : AEnd → AH → Prop) :
    C T env 47 [p.v, q.v, .int .i64 2, .pointer (some ⟨G.nx + 2, 0, none⟩), .pointer (some ⟨G.nx + 3, 0, none⟩), .pointer (some ⟨G.nx + 1, 0, none⟩)] (ext G (b0 :: blk [s0, s1, s2] :: blk [.int .i64 u] :: blk [.int .i64 v'] :: R)) Q =
      Q (.ret (.bool (inF p q u v'))) (ext G (b0 :: blk [s0, s1, .int .i64 (wayF p q u v')] :: blk [.int .i64 u] :: blk [.int .i64 v'] :: (R ++ [blk p.cs, blk q.cs]))) := by
  refine C_det ?_ Q
  rw [C_fn T47 rfl]
  have c31' : ∀ (x y : Int) (h : AH) (Q' : AEnd → AH → Prop), C T env 31 [.agg [.int .i64 p.x, .int .i64 p.y, .int .i32 p.z, .int .i32 p.w, .int .i32 p.s, .slice p.a p.l p.c].toArray, .agg [.int .i64 q.x, .int .i64 q.y, .int .i32 q.z, .int .i32 q.w, .int .i32 q.s, .slice q.a q.l q.c].toArray, .int .i64 x, .int .i64 y] h Q' = Q' (.ret (.int .i64 (wayF p q x y))) h := fun x y h Q' => c31 p q x y h Q'
  have ht : ∀ (v : Value) (x : AB) (L : List (Option AB)), trim (ext G (b0 :: blk [s0, s1, s2] :: blk [.int .i64 u] :: blk [.int .i64 v'] :: R)) v (ext (AH.set (ext G (b0 :: blk [s0, s1, s2] :: blk [.int .i64 u] :: blk [.int .i64 v'] :: R)).now (G.nx + 1) x) L) = ext G (b0 :: some x :: blk [.int .i64 u] :: blk [.int .i64 v'] :: (R ++ L)) := by
    intro v x L
    rw [trim_set _ _ _ _ _ (by rw [ext_nx]; simp only [List.length_cons]; omega) (by rw [ext_lo]; omega), ext_st_new _ _ _ _ (by simp only [List.length_cons]; omega), ext_ext]
    rfl
  simp only [a47, Wn.v, Wn.cs, c31', blk, go_sem, bin_add, bin_sub, bin_mul, Nat.reduceAdd, Nat.reduceMul, Nat.reduceEqDiff, Nat.reduceLeDiff, Nat.reduceLT, Nat.reduceSub, reduceIte, reduceCtorEq, Int.reduceToNat, Int.reduceNeg, Int.reduceLE, Int.reduceLT, Int.reduceEq, Nat.reduceOr, Nat.reduceShiftRight, Nat.reduceMod, Nat.reduceBNe, Nat.reduceBEq]
  simp only [blk] at ht
  unfold inF
  generalize wayF p q u v' = w at *
  refine Gd_split ?_ ?_ <;> intro g1 <;> simp only [g1, ht, go_sem, bin_add, bin_sub, bin_mul, Nat.reduceAdd, Nat.reduceMul, Nat.reduceEqDiff, Nat.reduceLeDiff, Nat.reduceLT, Nat.reduceSub, reduceIte, reduceCtorEq, Int.reduceToNat, Int.reduceNeg, Int.reduceLE, Int.reduceLT, Int.reduceEq, Nat.reduceOr, Nat.reduceShiftRight, Nat.reduceMod, Nat.reduceBNe, Nat.reduceBEq]
  · rfl
  refine Gd_split ?_ ?_ <;> intro g2 <;> simp only [g1, g2, ht, go_sem, bin_add, bin_sub, bin_mul, Nat.reduceAdd, Nat.reduceMul, Nat.reduceEqDiff, Nat.reduceLeDiff, Nat.reduceLT, Nat.reduceSub, reduceIte, reduceCtorEq, Int.reduceToNat, Int.reduceNeg, Int.reduceLE, Int.reduceLT, Int.reduceEq, Nat.reduceOr, Nat.reduceShiftRight, Nat.reduceMod, Nat.reduceBNe, Nat.reduceBEq]
  rotate_left
  · rfl
  refine Gd_split ?_ ?_ <;> intro g3 <;> simp only [g1, g2, g3, ht, go_sem, bin_add, bin_sub, bin_mul, Nat.reduceAdd, Nat.reduceMul, Nat.reduceEqDiff, Nat.reduceLeDiff, Nat.reduceLT, Nat.reduceSub, reduceIte, reduceCtorEq, Int.reduceToNat, Int.reduceNeg, Int.reduceLE, Int.reduceLT, Int.reduceEq, Nat.reduceOr, Nat.reduceShiftRight, Nat.reduceMod, Nat.reduceBNe, Nat.reduceBEq]
  · rfl
  refine Gd_split ?_ ?_ <;> intro g4 <;> simp only [g1, g2, g3, g4, ht, go_sem, bin_add, bin_sub, bin_mul, Nat.reduceAdd, Nat.reduceMul, Nat.reduceEqDiff, Nat.reduceLeDiff, Nat.reduceLT, Nat.reduceSub, reduceIte, reduceCtorEq, Int.reduceToNat, Int.reduceNeg, Int.reduceLE, Int.reduceLT, Int.reduceEq, Nat.reduceOr, Nat.reduceShiftRight, Nat.reduceMod, Nat.reduceBNe, Nat.reduceBEq]
  · rfl
  · rfl
end
end Go.AX.Tri
/- Contracts: sides. -/
namespace Go.AX.Tri
open Go.Proofs Go.AX.Mc
set_option linter.unusedSimpArgs false
set_option linter.unusedVariables false
noncomputable section

def ctr (x : Int) : Int := w64 (w64 (256 * x) + 128)
def sidesF (f : Fc) (x y : Int) : (Int × Int × Int) × Bool :=
  bif decide (0 < f.area) then
    bif inF f.b f.c (ctr x) (ctr y) then
      bif inF f.c f.a (ctr x) (ctr y) then ((wayF f.b f.c (ctr x) (ctr y), wayF f.c f.a (ctr x) (ctr y), wayF f.a f.b (ctr x) (ctr y)), inF f.a f.b (ctr x) (ctr y))
      else ((wayF f.b f.c (ctr x) (ctr y), wayF f.c f.a (ctr x) (ctr y), 0), false)
    else ((wayF f.b f.c (ctr x) (ctr y), 0, 0), false)
  else ((0, 0, 0), false)
def s3V (s : Int × Int × Int) : List Value := [.int .i64 s.1, .int .i64 s.2.1, .int .i64 s.2.2]

theorem c35 {env : List Lp} (f : Fc) (bf : Nat) (x y : Int) (H : AH) (hb : bf < H.nx) (hf : rd H bf 0 20 = some f.cs) (Q : AEnd → AH → Prop) :
    C T env 35 [.pointer (some ⟨bf, 0, none⟩), .int .i64 x, .int .i64 y] H Q = Q (.ret (.tuple #[.agg (s3V (sidesF f x y).1).toArray, .bool (sidesF f x y).2])) H := by
  refine C_det ?_ Q
  rw [C_fn T35 rfl]
  have r0 : rd H bf 0 6 = some f.a.cs := rd_part hf 0 6 (by omega)
  have r1 : rd H bf 6 6 = some f.b.cs := by have := rd_part hf 6 6 (by omega); rwa [Nat.zero_add] at this
  have r2 : rd H bf 12 6 = some f.c.cs := by have := rd_part hf 12 6 (by omega); rwa [Nat.zero_add] at this
  have r3 : rd H bf 18 1 = some [.int .i64 f.area] := by have := rd_part hf 18 1 (by omega); rwa [Nat.zero_add] at this
  have k0 : ∀ (p q : Wn) (s0 s1 s2 : Value) (u v : Int) (b0 : Option AB) (R : List (Option AB)) (Q : AEnd → AH → Prop), C T env 47 [.agg p.cs.toArray, .agg q.cs.toArray, .int .i64 0, .pointer (some ⟨H.now.nx + 2, 0, none⟩), .pointer (some ⟨H.now.nx + 3, 0, none⟩), .pointer (some ⟨H.now.nx + 1, 0, none⟩)] (ext H.now (b0 :: some (.cells [s0, s1, s2] 0 0) :: some (.cells [.int .i64 u] 0 0) :: some (.cells [.int .i64 v] 0 0) :: R)) Q = _ := fun p q s0 s1 s2 u v b0 R Q => c47_0 p q s0 s1 s2 u v H.now (Nat.le_refl _) b0 R Q
  have k1 : ∀ (p q : Wn) (s0 s1 s2 : Value) (u v : Int) (b0 : Option AB) (R : List (Option AB)) (Q : AEnd → AH → Prop), C T env 47 [.agg p.cs.toArray, .agg q.cs.toArray, .int .i64 1, .pointer (some ⟨H.now.nx + 2, 0, none⟩), .pointer (some ⟨H.now.nx + 3, 0, none⟩), .pointer (some ⟨H.now.nx + 1, 0, none⟩)] (ext H.now (b0 :: some (.cells [s0, s1, s2] 0 0) :: some (.cells [.int .i64 u] 0 0) :: some (.cells [.int .i64 v] 0 0) :: R)) Q = _ := fun p q s0 s1 s2 u v b0 R Q => c47_1 p q s0 s1 s2 u v H.now (Nat.le_refl _) b0 R Q
  have k2 : ∀ (p q : Wn) (s0 s1 s2 : Value) (u v : Int) (b0 : Option AB) (R : List (Option AB)) (Q : AEnd → AH → Prop), C T env 47 [.agg p.cs.toArray, .agg q.cs.toArray, .int .i64 2, .pointer (some ⟨H.now.nx + 2, 0, none⟩), .pointer (some ⟨H.now.nx + 3, 0, none⟩), .pointer (some ⟨H.now.nx + 1, 0, none⟩)] (ext H.now (b0 :: some (.cells [s0, s1, s2] 0 0) :: some (.cells [.int .i64 u] 0 0) :: some (.cells [.int .i64 v] 0 0) :: R)) Q = _ := fun p q s0 s1 s2 u v b0 R Q => c47_2 p q s0 s1 s2 u v H.now (Nat.le_refl _) b0 R Q
  have vw : ∀ p : Wn, (p.cs.zip p.cs).all (fun x => veq 5 x.1 x.2) = true := by intro p; simp only [Wn.cs, List.zip_cons_cons, List.zip_nil_right, List.all_cons, List.all_nil, veq_int, veq_slice, Bool.and_true]
  have hw : ∀ p : Wn, p.cs.length = 6 := fun p => rfl
  simp only [a35, hb, r0, r1, r2, r3, go_sem, bin_add, bin_sub, bin_mul, Nat.reduceAdd, Nat.reduceMul, Nat.reduceEqDiff, Nat.reduceLeDiff, Nat.reduceLT, Nat.reduceSub, reduceIte, reduceCtorEq, Int.reduceToNat, Int.reduceNeg, Int.reduceLE, Int.reduceLT, Int.reduceEq, Nat.reduceOr, Nat.reduceShiftRight, Nat.reduceMod, Nat.reduceBNe, Nat.reduceBEq]
  rw [show wrapF .i64 (wrapF .i64 (256 * x) + 128) = ctr x from rfl, show wrapF .i64 (wrapF .i64 (256 * y) + 128) = ctr y from rfl]
  refine X_drawE 0 (by rfl) ?_
  simp only [hb, r0, r1, r2, r3, k0, k1, k2, vw, hw, go_sem, bin_add, bin_sub, bin_mul, Nat.reduceAdd, Nat.reduceMul, Nat.reduceEqDiff, Nat.reduceLeDiff, Nat.reduceLT, Nat.reduceSub, reduceIte, reduceCtorEq, Int.reduceToNat, Int.reduceNeg, Int.reduceLE, Int.reduceLT, Int.reduceEq, Nat.reduceOr, Nat.reduceShiftRight, Nat.reduceMod, Nat.reduceBNe, Nat.reduceBEq]
  unfold sidesF s3V
  refine DG_split ?_ ?_ <;> intro g1 <;> simp only [g1, hb, r0, r1, r2, r3, k0, k1, k2, vw, hw, cond_true, cond_false, go_sem, bin_add, bin_sub, bin_mul, Nat.reduceAdd, Nat.reduceMul, Nat.reduceEqDiff, Nat.reduceLeDiff, Nat.reduceLT, Nat.reduceSub, reduceIte, reduceCtorEq, Int.reduceToNat, Int.reduceNeg, Int.reduceLE, Int.reduceLT, Int.reduceEq, Nat.reduceOr, Nat.reduceShiftRight, Nat.reduceMod, Nat.reduceBNe, Nat.reduceBEq]
  · refine X_drawE 0 (by rfl) ?_
    simp only [g1, hb, r0, r1, r2, r3, k0, k1, k2, vw, hw, cond_true, cond_false, go_sem, bin_add, bin_sub, bin_mul, Nat.reduceAdd, Nat.reduceMul, Nat.reduceEqDiff, Nat.reduceLeDiff, Nat.reduceLT, Nat.reduceSub, reduceIte, reduceCtorEq, Int.reduceToNat, Int.reduceNeg, Int.reduceLE, Int.reduceLT, Int.reduceEq, Nat.reduceOr, Nat.reduceShiftRight, Nat.reduceMod, Nat.reduceBNe, Nat.reduceBEq]
    refine DG_split ?_ ?_ <;> intro g2 <;> simp only [g1, g2, hb, r0, r1, r2, r3, k0, k1, k2, vw, hw, cond_true, cond_false, go_sem, bin_add, bin_sub, bin_mul, Nat.reduceAdd, Nat.reduceMul, Nat.reduceEqDiff, Nat.reduceLeDiff, Nat.reduceLT, Nat.reduceSub, reduceIte, reduceCtorEq, Int.reduceToNat, Int.reduceNeg, Int.reduceLE, Int.reduceLT, Int.reduceEq, Nat.reduceOr, Nat.reduceShiftRight, Nat.reduceMod, Nat.reduceBNe, Nat.reduceBEq]
    · refine X_drawE 0 (by rfl) ?_
      simp only [g1, g2, hb, r0, r1, r2, r3, k0, k1, k2, vw, hw, cond_true, cond_false, go_sem, bin_add, bin_sub, bin_mul, Nat.reduceAdd, Nat.reduceMul, Nat.reduceEqDiff, Nat.reduceLeDiff, Nat.reduceLT, Nat.reduceSub, reduceIte, reduceCtorEq, Int.reduceToNat, Int.reduceNeg, Int.reduceLE, Int.reduceLT, Int.reduceEq, Nat.reduceOr, Nat.reduceShiftRight, Nat.reduceMod, Nat.reduceBNe, Nat.reduceBEq]
      refine DG_split ?_ ?_ <;> intro g3 <;> simp only [g1, g2, g3, hb, r0, r1, r2, r3, k0, k1, k2, vw, hw, cond_true, cond_false, go_sem, bin_add, bin_sub, bin_mul, Nat.reduceAdd, Nat.reduceMul, Nat.reduceEqDiff, Nat.reduceLeDiff, Nat.reduceLT, Nat.reduceSub, reduceIte, reduceCtorEq, Int.reduceToNat, Int.reduceNeg, Int.reduceLE, Int.reduceLT, Int.reduceEq, Nat.reduceOr, Nat.reduceShiftRight, Nat.reduceMod, Nat.reduceBNe, Nat.reduceBEq]
    · refine X_drawE 0 (by rfl) ?_
      simp only [g1, g2, hb, r0, r1, r2, r3, k0, k1, k2, vw, hw, cond_true, cond_false, go_sem, bin_add, bin_sub, bin_mul, Nat.reduceAdd, Nat.reduceMul, Nat.reduceEqDiff, Nat.reduceLeDiff, Nat.reduceLT, Nat.reduceSub, reduceIte, reduceCtorEq, Int.reduceToNat, Int.reduceNeg, Int.reduceLE, Int.reduceLT, Int.reduceEq, Nat.reduceOr, Nat.reduceShiftRight, Nat.reduceMod, Nat.reduceBNe, Nat.reduceBEq]
  · refine X_drawE 0 (by rfl) ?_
    simp only [g1, hb, r0, r1, r2, r3, k0, k1, k2, vw, hw, cond_true, cond_false, go_sem, bin_add, bin_sub, bin_mul, Nat.reduceAdd, Nat.reduceMul, Nat.reduceEqDiff, Nat.reduceLeDiff, Nat.reduceLT, Nat.reduceSub, reduceIte, reduceCtorEq, Int.reduceToNat, Int.reduceNeg, Int.reduceLE, Int.reduceLT, Int.reduceEq, Nat.reduceOr, Nat.reduceShiftRight, Nat.reduceMod, Nat.reduceBNe, Nat.reduceBEq]
    refine X_drawE 0 (by rfl) ?_
    simp only [g1, hb, r0, r1, r2, r3, k0, k1, k2, vw, hw, cond_true, cond_false, go_sem, bin_add, bin_sub, bin_mul, Nat.reduceAdd, Nat.reduceMul, Nat.reduceEqDiff, Nat.reduceLeDiff, Nat.reduceLT, Nat.reduceSub, reduceIte, reduceCtorEq, Int.reduceToNat, Int.reduceNeg, Int.reduceLE, Int.reduceLT, Int.reduceEq, Nat.reduceOr, Nat.reduceShiftRight, Nat.reduceMod, Nat.reduceBNe, Nat.reduceBEq]
end
end Go.AX.Tri
/- Contracts: what stands at a centre. -/
namespace Go.AX.Tri
open Go.Proofs Go.AX.Mc
set_option linter.unusedSimpArgs false
set_option linter.unusedVariables false
noncomputable section

theorem c51 {env : List Lp} (p : Wn) (H : AH) (Q : AEnd → AH → Prop) : C T env 51 [p.v] H Q = Q (.ret (.int .i32 p.z)) H := by
  refine C_det ?_ Q
  rw [C_fn T51 rfl]
  simp only [a51, Wn.v, Wn.cs, go_sem, bin_add, bin_sub, bin_mul, Nat.reduceAdd, Nat.reduceMul, Nat.reduceEqDiff, Nat.reduceLeDiff, Nat.reduceLT, Nat.reduceSub, reduceIte, reduceCtorEq, Int.reduceToNat, Int.reduceNeg, Int.reduceLE, Int.reduceLT, Int.reduceEq, Nat.reduceOr, Nat.reduceShiftRight, Nat.reduceMod, Nat.reduceBNe, Nat.reduceBEq]
theorem c52 {env : List Lp} (p : Wn) (h0 : 0 < p.w) (h1 : p.w < 2147483648) (H : AH) (Q : AEnd → AH → Prop) : C T env 52 [p.v] H Q = Q (.ret (.int .i32 (overF p.w))) H := by
  refine C_det ?_ Q
  rw [C_fn T52 rfl]
  simp only [a52, Wn.v, Wn.cs, c53 p.w h0 h1, go_sem, bin_add, bin_sub, bin_mul, Nat.reduceAdd, Nat.reduceMul, Nat.reduceEqDiff, Nat.reduceLeDiff, Nat.reduceLT, Nat.reduceSub, reduceIte, reduceCtorEq, Int.reduceToNat, Int.reduceNeg, Int.reduceLE, Int.reduceLT, Int.reduceEq, Nat.reduceOr, Nat.reduceShiftRight, Nat.reduceMod, Nat.reduceBNe, Nat.reduceBEq]

theorem wsV_length (a b c : Nat) : (wsV a b c).length = 6 := rfl
theorem wsV_take (a b c : Nat) : (wsV a b c).take 6 = wsV a b c := rfl
theorem wsV_flat (a b c : Nat) : (wsV a b c).all flat = true := rfl
theorem veq_wsV (a b c : Nat) : ((wsV a b c).zip (wsV a b c)).all (fun x => veq 5 x.1 x.2) = true := by simp only [wsV, wd, List.cons_append, List.nil_append, List.zip_cons_cons, List.zip_nil_right, List.all_cons, List.all_nil, veq_int]; rfl
theorem veq_wn (p : Wn) : (p.cs.zip p.cs).all (fun x => veq 5 x.1 x.2) = true := by simp only [Wn.cs, List.zip_cons_cons, List.zip_nil_right, List.all_cons, List.all_nil, veq_int, veq_slice, Bool.and_true]
theorem wn_length (p : Wn) : p.cs.length = 6 := rfl
theorem wn_flat (p : Wn) : p.cs.all flat = true := rfl
theorem wn_take (p : Wn) : p.cs.take 6 = p.cs := rfl

theorem c49 {env : List Lp} (f : Fc) (bf b0 : Nat) (g : FuncId) (cap : List Value) (num : Wn → Int) (N0 N1 N2 : Nat) (hA : 0 < N0 + N1 + N2) (hN : N0 + N1 + N2 < 19807040628566084398385987584)
    (H : AH) (hb : bf < H.nx) (hb0 : b0 < H.nx) (hf : rd H bf 0 20 = some f.cs) (hp : rd H b0 0 1 = some [.pointer (some ⟨bf, 0, none⟩)])
    (hg : ∀ p, (p = f.a ∨ p = f.b ∨ p = f.c) → ∀ L Q, C T env g (.agg p.cs.toArray :: cap) (ext H.now L) Q = Q (.ret (.int .i32 (num p))) (ext H.now L))
    (hn : ∀ p, (p = f.a ∨ p = f.b ∨ p = f.c) → -2147483648 ≤ num p ∧ num p < 2147483648) (Q : AEnd → AH → Prop) :
    C T env 49 [.agg (wsV N0 N1 N2).toArray, .func (.func g) #[] cap.toArray, .pointer (some ⟨b0, 0, none⟩)] H Q = Q (.ret (.int .i32 (nearF N0 N1 N2 (num f.a) (num f.b) (num f.c)))) H := by
  refine C_det ?_ Q
  rw [C_fn T49 rfl]
  have r0 : rd H bf 0 6 = some f.a.cs := rd_part hf 0 6 (by omega)
  have r1 : rd H bf 6 6 = some f.b.cs := by have := rd_part hf 6 6 (by omega); rwa [Nat.zero_add] at this
  have r2 : rd H bf 12 6 = some f.c.cs := by have := rd_part hf 12 6 (by omega); rwa [Nat.zero_add] at this
  have n0 := hn f.a (.inl rfl)
  have n1 := hn f.b (.inr (.inl rfl))
  have n2 := hn f.c (.inr (.inr rfl))
  have k50 := fun (H : AH) (Q : AEnd → AH → Prop) => c50 (env := env) N0 N1 N2 (num f.a) (num f.b) (num f.c) hA hN n0.1 n0.2 n1.1 n1.2 n2.1 n2.2 H Q
  unfold lsV at k50
  simp only [a49, wsV_length, wsV_take, go_sem, bin_add, bin_sub, bin_mul, Nat.reduceAdd, Nat.reduceMul, Nat.reduceEqDiff, Nat.reduceLeDiff, Nat.reduceLT, Nat.reduceSub, reduceIte, reduceCtorEq, Int.reduceToNat, Int.reduceNeg, Int.reduceLE, Int.reduceLT, Int.reduceEq, Nat.reduceOr, Nat.reduceShiftRight, Nat.reduceMod, Nat.reduceBNe, Nat.reduceBEq]
  refine X_drawE 0 (by rfl) ?_
  simp only [wsV_length, wsV_take, hb, hb0, hp, r0, r1, r2, hg f.a (.inl rfl), hg f.b (.inr (.inl rfl)), hg f.c (.inr (.inr rfl)), k50, veq_wsV, veq_wn, wn_length, go_sem, bin_add, bin_sub, bin_mul, Nat.reduceAdd, Nat.reduceMul, Nat.reduceEqDiff, Nat.reduceLeDiff, Nat.reduceLT, Nat.reduceSub, reduceIte, reduceCtorEq, Int.reduceToNat, Int.reduceNeg, Int.reduceLE, Int.reduceLT, Int.reduceEq, Nat.reduceOr, Nat.reduceShiftRight, Nat.reduceMod, Nat.reduceBNe, Nat.reduceBEq]
end
end Go.AX.Tri
