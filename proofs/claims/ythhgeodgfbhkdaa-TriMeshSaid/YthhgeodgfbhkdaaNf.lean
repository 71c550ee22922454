/- The law TriMesh: a line of whole numbers that go up. -/
import Derived.Test.YthhgeodgfbhkdaaNa
set_option linter.unusedVariables false
set_option linter.unusedSimpArgs false
set_option linter.unusedSectionVars false
namespace Go.AX.Tri
open Go.Proofs Go.AX.Mc
set_option linter.unusedSimpArgs false
set_option linter.unusedVariables false
noncomputable section

structure Asc (us : List Nat) : Prop where
  z : us[0]? = some 0
  up : ∀ i a b, us[i]? = some a → us[i + 1]? = some b → a < b
  le : ∀ a ∈ us, a ≤ 3000
theorem Asc.one : Asc [0] := ⟨rfl, fun i a b _ h => by simp at h, fun a h => by simp at h; omega⟩
theorem Asc.snoc {us : List Nat} (h : Asc us) {l v : Nat} (hl : us[us.length - 1]? = some l) (hv : l < v) (h3 : v ≤ 3000) : Asc (us ++ [v]) := by
  have h0 : 0 < us.length := (List.getElem?_eq_some_iff.1 h.z).1
  refine ⟨by rw [List.getElem?_append_left h0]; exact h.z, ?_, ?_⟩
  · intro i a b ha hb
    by_cases e : i + 1 < us.length
    · rw [List.getElem?_append_left (by omega)] at ha
      rw [List.getElem?_append_left e] at hb
      exact h.up i a b ha hb
    · have hb' := (List.getElem?_eq_some_iff.1 hb).1
      simp only [List.length_append, List.length_cons, List.length_nil] at hb'
      have e2 : i + 1 = us.length := by omega
      rw [List.getElem?_append_left (by omega), show i = us.length - 1 by omega, hl] at ha
      rw [e2, List.getElem?_append_right (Nat.le_refl _), Nat.sub_self] at hb
      cases ha
      cases hb
      exact hv
  · intro a ha
    rcases List.mem_append.1 ha with k | k
    · exact h.le a k
    · simp only [List.mem_cons, List.not_mem_nil, or_false] at k; omega

def ints (us : List Nat) : List Value := us.map fun n : Nat => .int .i64 (n : Int)
theorem ints_flatL (us : List Nat) : (ints us).all flat = true := by
  rw [List.all_eq_true]
  intro x hx
  obtain ⟨n, _, rfl⟩ := List.mem_map.1 hx
  rfl
/-- the line so far. -/
def OutAt (N : Nat) (h : AH) (hd : Value) (us : List Nat) : Prop :=
  ∃ b, N ≤ b ∧ b < h.nx ∧ ((hd = .slice (some ⟨b, 0, none⟩) us.length us.length ∧ h.get b = some (.cells (ints us) 0 0)) ∨ (hd = .slice (some ⟨b, 0, some 0⟩) us.length us.length ∧ h.get b = some (.cells (ints us) 1 1)))
theorem OutAt.ints {N : Nat} {h : AH} {hd : Value} {us : List Nat} (o : OutAt N h hd us) : IntsAt h hd us := by
  have F : ∀ (b k z : Nat), h.get b = some (.cells (Tri.ints us) k z) → ∀ (i : Nat) (v : Nat), us[i]? = some v → rd h b i 1 = some [.int .i64 (v : Int)] := by
    intro b k z g i v hi
    have hl := (List.getElem?_eq_some_iff.1 hi).1
    rw [rd_rdB, g, rdB_cells, if_pos (by unfold Tri.ints; rw [List.length_map]; omega)]
    have e : (Tri.ints us)[i]? = some (.int .i64 (v : Int)) := by unfold Tri.ints; rw [List.getElem?_map, hi]; rfl
    rw [List.take_one, List.head?_drop, e]; rfl
  obtain ⟨b, _, h2, ⟨rfl, g⟩ | ⟨rfl, g⟩⟩ := o
  · exact ⟨b, none, rfl, .inl rfl, h2, F b _ _ g⟩
  · exact ⟨b, some 0, rfl, .inr rfl, h2, F b _ _ g⟩
theorem OutAt.mono {N N' : Nat} {h h' : AH} {hd : Value} {us : List Nat} (o : OutAt N h hd us) (hN : N' ≤ N) (hn : h.nx ≤ h'.nx) (hg : ∀ b, N ≤ b → b < h.nx → h'.get b = h.get b) : OutAt N' h' hd us := by
  obtain ⟨b, h1, h2, h3⟩ := o
  refine ⟨b, by omega, by omega, ?_⟩
  rw [hg b h1 h2]
  exact h3

structure Sta (N : Nat) (h h' : AH) : Prop where
  nx : h.nx ≤ h'.nx
  lo : N ≤ h.lo → N ≤ h'.lo
  le : h.lo ≤ h.nx → h'.lo ≤ h'.nx
  old : ∀ b, b < N → h'.get b = h.get b
theorem Sta.refl (N : Nat) (h : AH) : Sta N h h := ⟨Nat.le_refl _, fun h => h, fun h => h, fun _ _ => rfl⟩
theorem app_out {N : Nat} {h : AH} {hd x : Value} {us : List Nat} {v : Nat} (o : OutAt N h hd us) (hN : N ≤ h.nx) (hlen : us.length < 1000) (hx : aSource h 1 x none = some (1, [.int .i64 (v : Int)])) :
    ∃ hd' h', aAppend 1 8 hd x h = some (.val hd' h') ∧ OutAt N h' hd' (us ++ [v]) ∧ Sta N h h' := by
  have hil : (ints us).length = us.length := by unfold ints; rw [List.length_map]
  have e2 : ints us ++ [.int .i64 (v : Int)] = ints (us ++ [v]) := by unfold ints; rw [List.map_append]; rfl
  obtain ⟨b, h1, h2, ⟨rfl, g⟩ | ⟨rfl, g⟩⟩ := o
  · have hr : rd h b 0 (us.length * 1) = some (ints us) := by rw [rd_rdB, g, rdB_cells, if_pos (by omega), List.drop_zero, List.take_of_length_le (by omega)]
    refine ⟨_, _, app_s h 1 8 b 0 us.length us.length (ints us) x 0 _ hx (by omega) hr (room_of (by omega) (by omega)) rfl, ?_, ?_⟩
    · refine ⟨h.nx, hN, by rw [AH.nx_push]; omega, .inr ⟨by rw [List.length_append]; rfl, ?_⟩⟩
      rw [AH.get_push_same, e2]
    · exact ⟨by rw [AH.nx_push]; omega, fun h => h, fun hle => by rw [AH.nx_push]; show h.lo ≤ _; omega, fun c hc => push_get_old (by omega)⟩
  · refine ⟨_, _, app_slr h 1 8 b us.length (ints us) x 0 _ hx g (by omega) (room_of (by omega) (by omega)) rfl, ?_, ?_⟩
    · refine ⟨(AH.set h b .dead).nx, by rw [AH.nx_set]; exact hN, by rw [AH.nx_push]; omega, .inr ⟨by rw [List.length_append, AH.nx_set]; rfl, ?_⟩⟩
      rw [AH.get_push_same, e2]
    · refine ⟨by rw [AH.nx_push, AH.nx_set]; omega, fun hlo => ?_, fun hle => ?_, fun c hc => ?_⟩
      · show N ≤ min h.lo b; omega
      · rw [AH.nx_push, AH.nx_set]; show min h.lo b ≤ _; omega
      · rw [push_get_old (by rw [AH.nx_set]; omega), AH.get_set_ne _ _ _ (by omega)]

theorem w64_nat (n : Nat) (h : n < 1000000000) : wrapF .i64 (n : Int) = (n : Int) := w64_id (by omega) (by omega)
theorem rem2000 (x : Int) : ∃ r : Nat, r < 2000 ∧ (wrapF .u64 x).tmod 2000 = (r : Int) := by
  have h0 : 0 ≤ wrapF .u64 x := Int.emod_nonneg _ (by decide)
  refine ⟨((wrapF .u64 x) % 2000).toNat, by omega, ?_⟩
  rw [Int.tmod_eq_emod_of_nonneg h0]
  omega

/-- numbers that are handed in. -/
def IsAt (h : AH) (a : Option Addr) (xs : List Int) : Prop :=
  ∀ (i : Nat) v, xs[i]? = some v → ∃ b o r, a = some ⟨b, o, r⟩ ∧ (r = none ∨ r = some 0) ∧ b < h.nx ∧ rd h b (o + i) 1 = some [.int .i64 v]
theorem IsAt.mono {h h' : AH} {a : Option Addr} {xs : List Int} (hv : IsAt h a xs) (hn : h.nx ≤ h'.nx) (hr : ∀ b, b < h.nx → ∀ o n, rd h' b o n = rd h b o n) : IsAt h' a xs := by
  intro i v hi
  obtain ⟨b, o, r, h1, h2, h3, h4⟩ := hv i v hi
  exact ⟨b, o, r, h1, h2, by omega, by rw [hr b h3]; exact h4⟩
theorem is_idx {h : AH} {a : Option Addr} {c : Nat} {xs : List Int} {k : Nat} {v : Int} (hv : IsAt h a xs) (hk : xs[k]? = some v) :
    ∃ b o, b < h.nx ∧ rd h b (o + k) 1 = some [.int .i64 v] ∧ ∀ H, idxS 1 (.slice a xs.length c) (.int .i64 (k : Int)) H = some (.val (.pointer (some ⟨b, o + k, none⟩)) H) := by
  obtain ⟨b, o, r, ha, hr, hb, h4⟩ := hv k v hk
  have hkl := (List.getElem?_eq_some_iff.1 hk).1
  refine ⟨b, o, hb, h4, ?_⟩
  intro H
  rw [ha]
  rcases hr with rfl | rfl
  · rw [idxS_s, if_pos ⟨Int.natCast_nonneg _, by simpa using hkl⟩, Int.toNat_natCast, Nat.mul_one]
  · rw [idxS_r, if_pos ⟨Int.natCast_nonneg _, by simpa using hkl⟩, Int.toNat_natCast, Nat.mul_one]

theorem loop17 {env : List Lp} {K : List KF} {Q : QF} {H : AH} {a : Option Addr} {c : Nat} {xs : List Int} (hv : IsAt H a xs)
    (q2 : ∀ fr h hd us, Sta H.nx H.now h → H.nx ≤ h.lo → h.lo ≤ h.nx → OutAt H.nx h hd us → Asc us → us.length ≤ 5 → tmp fr (pa 3) = hd → Kt T env false K .normal fr [] (ext h []) Q) :
    ∀ (m i : Nat), i + m = 4 → ∀ fr h hd us, Sta H.nx H.now h → H.nx ≤ h.lo → h.lo ≤ h.nx → OutAt H.nx h hd us → Asc us → us.length ≤ i + 1 → tmp fr (pa 3) = hd → tmp fr (pa 8) = .slice a xs.length c → tmp fr (pa 9) = .int .i64 (xs.length : Int) → tmp fr (pa 10) = .int .i64 (i : Int) →
      X T env false (.loop a17l0) (.blk 0 :: K) fr [] (ext h []) Q := by
  intro m
  induction m with
  | zero =>
    intro i hi fr h hd us S hlo hle o ha hl t3 t8 t9 t10
    obtain rfl : i = 4 := hi
    rw [X_loop]
    change X _ _ _ (.seq _ _) _ _ _ _ _
    by_cases hlt : (4 : Nat) < xs.length
    · obtain ⟨v, ev⟩ : ∃ v, xs[4]? = some v := ⟨xs[4]'hlt, List.getElem?_eq_getElem hlt⟩
      have hv' : IsAt h a xs := hv.mono (h' := h) (Nat.le_trans (Nat.le_refl _) S.nx) fun b hb o n => by rw [rd_rdB, S.old b hb]; rfl
      obtain ⟨b, oo, nb, rb, ib⟩ := is_idx (c := c) hv' ev
      have hlt' : (((4 : Nat) : Int) < (xs.length : Int)) := by omega
      have ib' : ∀ H, idxS 1 (.slice a xs.length c) (.int .i64 4) H = some (.val (.pointer (some ⟨b, oo + 4, none⟩)) H) := ib
      simp only [t8, t9, t10, hlt', ib, ib', nb, rd_old _ _ _ _ _ nb, rb, show (((4 : Nat) : Int) = 4) = True from eq_true rfl, go_sem, bin_add, bin_sub, bin_mul, Nat.reduceAdd, Nat.reduceMul, Nat.reduceEqDiff, Nat.reduceLeDiff, Nat.reduceLT, Nat.reduceSub, reduceIte, reduceCtorEq, Int.reduceToNat, Int.reduceNeg, Int.reduceLE, Int.reduceLT, Int.reduceEq, Nat.reduceOr, Nat.reduceShiftRight, Nat.reduceMod, Nat.reduceBNe, Nat.reduceBEq]
      refine q2 _ h hd us S hlo hle o ha hl ?_
      simp only [t3, go_sem, bin_add, bin_sub, bin_mul, Nat.reduceAdd, Nat.reduceMul, Nat.reduceEqDiff, Nat.reduceLeDiff, Nat.reduceLT, Nat.reduceSub, reduceIte, reduceCtorEq, Int.reduceToNat, Int.reduceNeg, Int.reduceLE, Int.reduceLT, Int.reduceEq, Nat.reduceOr, Nat.reduceShiftRight, Nat.reduceMod, Nat.reduceBNe, Nat.reduceBEq]
    · have hlt' : ¬ (((4 : Nat) : Int) < (xs.length : Int)) := by omega
      simp only [t9, t10, hlt', decide_false, go_sem, bin_add, bin_sub, bin_mul, Nat.reduceAdd, Nat.reduceMul, Nat.reduceEqDiff, Nat.reduceLeDiff, Nat.reduceLT, Nat.reduceSub, reduceIte, reduceCtorEq, Int.reduceToNat, Int.reduceNeg, Int.reduceLE, Int.reduceLT, Int.reduceEq, Nat.reduceOr, Nat.reduceShiftRight, Nat.reduceMod, Nat.reduceBNe, Nat.reduceBEq]
      refine q2 _ h hd us S hlo hle o ha hl ?_
      simp only [t3, go_sem, bin_add, bin_sub, bin_mul, Nat.reduceAdd, Nat.reduceMul, Nat.reduceEqDiff, Nat.reduceLeDiff, Nat.reduceLT, Nat.reduceSub, reduceIte, reduceCtorEq, Int.reduceToNat, Int.reduceNeg, Int.reduceLE, Int.reduceLT, Int.reduceEq, Nat.reduceOr, Nat.reduceShiftRight, Nat.reduceMod, Nat.reduceBNe, Nat.reduceBEq]
  | succ m ih =>
    intro i hi fr h hd us S hlo hle o ha hl t3 t8 t9 t10
    have hi' : i + 1 + m = 4 := by omega
    have hl1 : us.length ≤ i + 1 + 1 := by omega
    have hl2 : us.length + 1 ≤ i + 1 + 1 := by omega
    have hl3 : us.length < 1000 := by omega
    have wn := w1 (i := i) (by omega)
    rw [X_loop]
    change X _ _ _ (.seq _ _) _ _ _ _ _
    by_cases hlt : i < xs.length
    · obtain ⟨v, ev⟩ : ∃ v, xs[i]? = some v := ⟨xs[i]'hlt, List.getElem?_eq_getElem hlt⟩
      have hv' : IsAt h a xs := hv.mono (h' := h) (Nat.le_trans (Nat.le_refl _) S.nx) fun b hb o n => by rw [rd_rdB, S.old b hb]; rfl
      obtain ⟨b, oo, nb, rb, ib⟩ := is_idx (c := c) hv' ev
      have hlt' : ((i : Int) < (xs.length : Int)) := by omega
      have hne : ¬ ((i : Int) = 4) := by omega
      have h0 : 0 < us.length := (List.getElem?_eq_some_iff.1 ha.z).1
      obtain ⟨l, el⟩ : ∃ l, us[us.length - 1]? = some l := ⟨us[us.length - 1]'(by omega), List.getElem?_eq_getElem (by omega)⟩
      obtain ⟨b2, nb2, rb2, ib2⟩ := ints_idx o.ints el
      have wl : wrapF .i64 ((us.length : Int) - 1) = ((us.length - 1 : Nat) : Int) := by rw [w64_id (by omega) (by omega)]; omega
      have l3 : l ≤ 3000 := ha.le l (List.mem_of_getElem? el)
      have hbr : ∀ r : Nat, r < 2000 → l + 1 + r < 1000000000 := fun r hr => by omega
      have hbr0 : ∀ r : Nat, r < 2000 → r < 1000000000 := fun r hr => by omega
      have w2 : wrapF .i64 ((l : Int) + 1) = ((l + 1 : Nat) : Int) := w64_succ l (by omega)
      obtain ⟨r, hr, er⟩ := rem2000 v
      have w3 : wrapF .i64 (r : Int) = (r : Int) := w64_nat r (hbr0 r hr)
      have w4 : wrapF .i64 (((l + 1 : Nat) : Int) + (r : Int)) = ((l + 1 + r : Nat) : Int) := by rw [← Int.natCast_add]; exact w64_nat _ (hbr r hr)
      have rm : ∀ H, aBin Try.prog .rem 49 (.tmp 25) (.const (.int .u64 2000)) .none (.int .u64 (wrapF .u64 v)) (.int .u64 2000) H = some (.val (.int .u64 (r : Int)) H) := fun H => by rw [bin_rem _ _ _ _ _ _ _ _ _ (by decide), er]
      have lU := ints_len o.ints
      simp only [t3, t8, t9, t10, hlt', hne, decide_false, ib, nb, rd_old _ _ _ _ _ nb, rb, lU, wl, ib2, nb2, rd_old _ _ _ _ _ nb2, rb2, e_cvtInt, w2, rm, w3, w4, wn, go_sem, bin_add, bin_sub, bin_mul, Nat.reduceAdd, Nat.reduceMul, Nat.reduceEqDiff, Nat.reduceLeDiff, Nat.reduceLT, Nat.reduceSub, reduceIte, reduceCtorEq, Int.reduceToNat, Int.reduceNeg, Int.reduceLE, Int.reduceLT, Int.reduceEq, Nat.reduceOr, Nat.reduceShiftRight, Nat.reduceMod, Nat.reduceBNe, Nat.reduceBEq]
      refine Cd_split ?_ ?_ <;> intro g
      · have g' : l + 1 + r ≤ 3000 := Int.ofNat_le.1 (of_decide_eq_true g)
        clear w2 w3 w4 rm er wl
        have o' : OutAt H.nx (Mc.ext h [some (.cells [.int .i64 ((l + 1 + r : Nat) : Int)] 0 0)]) hd us := o.mono (Nat.le_refl _) (by rw [ext_nx]; exact Nat.le_add_right _ _) fun b _ hb => ext_get_old _ _ _ hb
        obtain ⟨hd', h', ea, o2, S2⟩ := app_out (v := l + 1 + r) (x := .slice (some ⟨h.nx, 0, none⟩) 1 1) o' (by rw [ext_nx]; exact Nat.le_trans S.nx (Nat.le_add_right _ _)) hl3 (aSource_s _ 1 _ 0 1 1 _ (by simp only [go_sem, bin_add, bin_sub, bin_mul, Nat.reduceAdd, Nat.reduceMul, Nat.reduceEqDiff, Nat.reduceLeDiff, Nat.reduceLT, Nat.reduceSub, reduceIte, reduceCtorEq, Int.reduceToNat, Int.reduceNeg, Int.reduceLE, Int.reduceLT, Int.reduceEq, Nat.reduceOr, Nat.reduceShiftRight, Nat.reduceMod, Nat.reduceBNe, Nat.reduceBEq]))
        simp only [t3, t10, ea, wn, go_sem, bin_add, bin_sub, bin_mul, Nat.reduceAdd, Nat.reduceMul, Nat.reduceEqDiff, Nat.reduceLeDiff, Nat.reduceLT, Nat.reduceSub, reduceIte, reduceCtorEq, Int.reduceToNat, Int.reduceNeg, Int.reduceLE, Int.reduceLT, Int.reduceEq, Nat.reduceOr, Nat.reduceShiftRight, Nat.reduceMod, Nat.reduceBNe, Nat.reduceBEq]
        have S3 : Sta H.nx H.now h' := by
          refine ⟨Nat.le_trans S.nx (Nat.le_trans (by rw [ext_nx]; exact Nat.le_add_right _ _) S2.nx), fun _ => S2.lo (by rw [ext_lo]; exact hlo), fun _ => S2.le (by rw [ext_lo, ext_nx]; exact Nat.le_trans hle (Nat.le_add_right _ _)), fun b hb => ?_⟩
          rw [S2.old b hb, ext_get_old _ _ _ (Nat.lt_of_lt_of_le hb S.nx), S.old b hb]
        refine ih (i + 1) hi' _ h' hd' (us ++ [l + 1 + r]) S3 (S3.lo (Nat.le_refl _)) (S3.le (Nat.le_refl _)) o2 (ha.snoc el (by omega) g') (by rw [List.length_append]; exact hl2) ?_ ?_ ?_ ?_
        all_goals simp only [t8, t9, go_sem, bin_add, bin_sub, bin_mul, Nat.reduceAdd, Nat.reduceMul, Nat.reduceEqDiff, Nat.reduceLeDiff, Nat.reduceLT, Nat.reduceSub, reduceIte, reduceCtorEq, Int.reduceToNat, Int.reduceNeg, Int.reduceLE, Int.reduceLT, Int.reduceEq, Nat.reduceOr, Nat.reduceShiftRight, Nat.reduceMod, Nat.reduceBNe, Nat.reduceBEq]
      · simp only [t10, wn, go_sem, bin_add, bin_sub, bin_mul, Nat.reduceAdd, Nat.reduceMul, Nat.reduceEqDiff, Nat.reduceLeDiff, Nat.reduceLT, Nat.reduceSub, reduceIte, reduceCtorEq, Int.reduceToNat, Int.reduceNeg, Int.reduceLE, Int.reduceLT, Int.reduceEq, Nat.reduceOr, Nat.reduceShiftRight, Nat.reduceMod, Nat.reduceBNe, Nat.reduceBEq]
        refine ih (i + 1) hi' _ h hd us S hlo hle o ha hl1 ?_ ?_ ?_ ?_
        all_goals simp only [t3, t8, t9, go_sem, bin_add, bin_sub, bin_mul, Nat.reduceAdd, Nat.reduceMul, Nat.reduceEqDiff, Nat.reduceLeDiff, Nat.reduceLT, Nat.reduceSub, reduceIte, reduceCtorEq, Int.reduceToNat, Int.reduceNeg, Int.reduceLE, Int.reduceLT, Int.reduceEq, Nat.reduceOr, Nat.reduceShiftRight, Nat.reduceMod, Nat.reduceBNe, Nat.reduceBEq]
    · have hlt' : ¬ ((i : Int) < (xs.length : Int)) := by omega
      simp only [t9, t10, hlt', decide_false, go_sem, bin_add, bin_sub, bin_mul, Nat.reduceAdd, Nat.reduceMul, Nat.reduceEqDiff, Nat.reduceLeDiff, Nat.reduceLT, Nat.reduceSub, reduceIte, reduceCtorEq, Int.reduceToNat, Int.reduceNeg, Int.reduceLE, Int.reduceLT, Int.reduceEq, Nat.reduceOr, Nat.reduceShiftRight, Nat.reduceMod, Nat.reduceBNe, Nat.reduceBEq]
      refine q2 _ h hd us S hlo hle o ha (by omega) ?_
      simp only [t3, go_sem, bin_add, bin_sub, bin_mul, Nat.reduceAdd, Nat.reduceMul, Nat.reduceEqDiff, Nat.reduceLeDiff, Nat.reduceLT, Nat.reduceSub, reduceIte, reduceCtorEq, Int.reduceToNat, Int.reduceNeg, Int.reduceLE, Int.reduceLT, Int.reduceEq, Nat.reduceOr, Nat.reduceShiftRight, Nat.reduceMod, Nat.reduceBNe, Nat.reduceBEq]
end
end Go.AX.Tri
/- The law TriMesh: the closure that makes a line. -/
namespace Go.AX.Tri
open Go.Proofs Go.AX.Mc
set_option linter.unusedSimpArgs false
set_option linter.unusedVariables false
noncomputable section

theorem c17 {env : List Lp} {H : AH} {a : Option Addr} {c : Nat} {xs : List Int} (ok : Sl a) (hlo : H.lo ≤ H.nx) (hv : IsAt H a xs) (Q : AEnd → AH → Prop)
    (hQ : ∀ h hd us, Ext H h → IntsAt h hd us → Asc us → us.length ≤ 5 → Q (.ret hd) h) :
    C T env 17 [.slice a xs.length c] H Q := by
  rw [C_fn T17 rfl]
  simp only [a17, ok _ _ _, go_sem, bin_add, bin_sub, bin_mul, Nat.reduceAdd, Nat.reduceMul, Nat.reduceEqDiff, Nat.reduceLeDiff, Nat.reduceLT, Nat.reduceSub, reduceIte, reduceCtorEq, Int.reduceToNat, Int.reduceNeg, Int.reduceLE, Int.reduceLT, Int.reduceEq, Nat.reduceOr, Nat.reduceShiftRight, Nat.reduceMod, Nat.reduceBNe, Nat.reduceBEq]
  refine loop17 (H := H) (c := c) hv ?_ 4 0 rfl _ (ext H.now [some _]) (.slice (some ⟨H.nx, 0, none⟩) 1 1) [0] ⟨by rw [ext_nx]; exact Nat.le_add_right _ _, fun _ => by rw [ext_lo]; exact Nat.le_refl _, fun _ => by rw [ext_lo, ext_nx]; exact Nat.le_add_right _ _, fun b hb => ext_get_old H.now _ _ hb⟩ (by rw [ext_lo]; exact Nat.le_refl _) (by rw [ext_lo, ext_nx]; exact Nat.le_add_right _ _) ⟨H.nx, Nat.le_refl _, by rw [ext_nx]; exact Nat.lt_succ_self _, .inl ⟨rfl, ext_get_new H.now _ 0⟩⟩ Asc.one (Nat.le_refl _) ?_ ?_ ?_ ?_
  · intro fr h hd us S hlo' hle o ha hl t3
    simp only [t3, go_sem, bin_add, bin_sub, bin_mul, Nat.reduceAdd, Nat.reduceMul, Nat.reduceEqDiff, Nat.reduceLeDiff, Nat.reduceLT, Nat.reduceSub, reduceIte, reduceCtorEq, Int.reduceToNat, Int.reduceNeg, Int.reduceLE, Int.reduceLT, Int.reduceEq, Nat.reduceOr, Nat.reduceShiftRight, Nat.reduceMod, Nat.reduceBNe, Nat.reduceBEq]
    have hi := o.ints
    have et : trim H hd (ext h []) = ⟨h.bl, h.nx, min H.lo h.lo⟩ := by
      obtain ⟨b, r, rfl, _⟩ := hi
      unfold trim
      rw [clo_sl, Bool.and_false]; rfl
    rw [et]
    refine hQ _ _ us ⟨?_, ?_, ?_⟩ ?_ ha hl
    · exact S.nx
    · show min H.lo h.lo = H.lo; omega
    · intro b hb; exact S.old b hb
    · exact hi.mono (Nat.le_refl _) fun b hb o n => rfl
  all_goals simp only [go_sem, bin_add, bin_sub, bin_mul, Nat.reduceAdd, Nat.reduceMul, Nat.reduceEqDiff, Nat.reduceLeDiff, Nat.reduceLT, Nat.reduceSub, reduceIte, reduceCtorEq, Int.reduceToNat, Int.reduceNeg, Int.reduceLE, Int.reduceLT, Int.reduceEq, Nat.reduceOr, Nat.reduceShiftRight, Nat.reduceMod, Nat.reduceBNe, Nat.reduceBEq]
  all_goals rfl
end
end Go.AX.Tri
