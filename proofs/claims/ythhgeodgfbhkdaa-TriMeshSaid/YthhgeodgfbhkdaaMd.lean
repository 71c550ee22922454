/- Plain law: two triangles beside one another. -/
import Derived.Test.YthhgeodgfbhkdaaZd
import Derived.Test.YthhgeodgfbhkdaaZg
set_option linter.unusedVariables false
set_option linter.unusedSimpArgs false
set_option linter.unusedSectionVars false
namespace Go.AX.Tri
open Go.Proofs Go.AX.Mc
set_option linter.unusedSimpArgs false
set_option linter.unusedVariables false
noncomputable section

/-! ## The cells of a box stand there once -/
theorem mem_row {px pw i : Nat} {y u v : Int} (h : (u, v) ∈ rowL px pw y i) : v = y ∧ (px : Int) ≤ u ∧ u < ((px + i : Nat) : Int) := by
  unfold rowL at h
  obtain ⟨n, hn, e⟩ := List.mem_map.1 h
  simp only [Prod.mk.injEq] at e
  have := List.mem_range.1 hn
  omega
theorem row_nodup (px pw : Nat) (y : Int) : ∀ i, (rowL px pw y i).Nodup
  | 0 => by simp [rowL]
  | i + 1 => by
    rw [rowL_succ, List.nodup_append]
    refine ⟨row_nodup px pw y i, by simp, ?_⟩
    rintro ⟨u, v⟩ h1 ⟨u', v'⟩ h2 e
    simp only [List.mem_cons, List.not_mem_nil, or_false, Prod.mk.injEq] at h2
    have := mem_row h1
    simp only [Prod.mk.injEq] at e
    omega
theorem mem_rows {px py pw : Nat} {u v : Int} : ∀ {j : Nat}, (u, v) ∈ rowsL px py pw j → (py : Int) ≤ v ∧ v < ((py + j : Nat) : Int) ∧ (px : Int) ≤ u ∧ u < ((px + pw : Nat) : Int)
  | 0, h => by simp [rowsL] at h
  | j + 1, h => by
    rw [rowsL_succ, List.mem_append] at h
    rcases h with h | h
    · have := mem_rows h; omega
    · have := mem_row h; omega
theorem rows_nodup (px py pw : Nat) : ∀ j, (rowsL px py pw j).Nodup
  | 0 => by simp [rowsL]
  | j + 1 => by
    rw [rowsL_succ, List.nodup_append]
    refine ⟨rows_nodup px py pw j, row_nodup _ _ _ _, ?_⟩
    rintro ⟨u, v⟩ h1 ⟨u', v'⟩ h2 e
    have h3 := mem_rows h1
    have h4 := mem_row h2
    simp only [Prod.mk.injEq] at e
    omega
theorem row_mem {px pw i : Nat} {y : Int} {u : Nat} (h1 : px ≤ u) (h2 : u < px + i) : ((u : Int), y) ∈ rowL px pw y i := by
  unfold rowL
  exact List.mem_map.2 ⟨u - px, List.mem_range.2 (by omega), by simp only [Prod.mk.injEq, and_true]; omega⟩
theorem rows_mem {px py pw : Nat} {u v : Nat} (h1 : px ≤ u) (h2 : u < px + pw) : ∀ {j : Nat}, py ≤ v → v < py + j → ((u : Int), (v : Int)) ∈ rowsL px py pw j
  | 0, h3, h4 => by omega
  | j + 1, h3, h4 => by
    rw [rowsL_succ, List.mem_append]
    by_cases e : v < py + j
    · exact .inl (rows_mem h1 h2 h3 e)
    · obtain rfl : v = py + j := by omega
      exact .inr (row_mem h1 h2)

theorem frags_xy (f : Fc) (px py pw ph : Nat) : (fragsF f px py pw ph).map (fun g => (g.x, g.y)) = (cellsL px py pw ph).filter fun c => covF f c.1 c.2 := by
  unfold fragsF
  induction cellsL px py pw ph with
  | nil => rfl
  | cons c r ih =>
    obtain ⟨x, y⟩ := c
    rw [List.filterMap_cons, List.filter_cons]
    have e := fragF_eq f x y
    cases hc : covF f x y
    · rw [hc] at e
      simp only [e, cond_false, Bool.false_eq_true, if_false]
      exact ih
    · rw [hc] at e
      simp only [e, cond_true, if_true, List.map_cons, ih]
      rfl
theorem frags_nodup (f : Fc) (px py pw ph : Nat) : ((fragsF f px py pw ph).map fun g => (g.x, g.y)).Nodup := by
  rw [frags_xy]
  exact List.Pairwise.filter _ (rows_nodup px py pw ph)

/-! ## A common side -/
theorem sgn_pos {d e A W : Int} (h : d * W = e * A) (hA : 0 < A) (h1 : 0 < d → 0 < e) (h2 : d < 0 → e < 0) (h0 : d ≠ 0) : 0 < W := by
  rcases Int.lt_trichotomy d 0 with k | k | k
  · have he := h2 k
    have h3 : e * A < 0 := Int.mul_neg_of_neg_of_pos he hA
    have h4 : ¬ W ≤ 0 := fun hw => by
      have : 0 ≤ d * W := Int.mul_nonneg_of_nonpos_of_nonpos (by omega) hw
      omega
    omega
  · exact absurd k h0
  · have he := h1 k
    have h3 : 0 < e * A := Int.mul_pos he hA
    have h4 : ¬ W ≤ 0 := fun hw => by
      have : d * W ≤ d * 0 := Int.mul_le_mul_of_nonneg_left hw (by omega)
      omega
    omega
theorem edge_pos {a b c : Wn} {u v : Int} (h0 : wayI a b u v = 0) (hA : 0 < wayI a b c.x c.y) (x0 : min a.x b.x ≤ u) (x1 : u ≤ max a.x b.x) (y0 : min a.y b.y ≤ v) (y1 : v ≤ max a.y b.y) (na : u ≠ a.x ∨ v ≠ a.y) (nb : u ≠ b.x ∨ v ≠ b.y) :
    0 < wayI b c u v ∧ 0 < wayI c a u v := by
  unfold wayI at *
  have ex : (b.x - a.x) * (v - a.y) = (b.y - a.y) * (u - a.x) := by omega
  have zx : b.x = a.x → u = a.x := by omega
  have zy : b.y = a.y → v = a.y := by omega
  have nd : b.x - a.x = 0 → b.y - a.y = 0 → False := by
    intro h1 h2
    rw [h1, h2] at hA; simp at hA
  have dxz : b.x - a.x ≠ 0 → u = a.x → v = a.y := by
    intro h1 h2
    rw [h2, Int.sub_self, Int.mul_zero] at ex
    rcases Int.mul_eq_zero.1 ex with h | h <;> omega
  have dyz : b.y - a.y ≠ 0 → v = a.y → u = a.x := by
    intro h1 h2
    rw [h2, Int.sub_self, Int.mul_zero] at ex
    rcases Int.mul_eq_zero.1 ex.symm with h | h <;> omega
  have ex2 : (b.x - a.x) * (b.y - v) = (b.y - a.y) * (b.x - u) := by grind
  have dxz2 : b.x - a.x ≠ 0 → u = b.x → v = b.y := by
    intro h1 h2
    rw [h2, Int.sub_self, Int.mul_zero] at ex2
    rcases Int.mul_eq_zero.1 ex2 with h | h <;> omega
  have dyz2 : b.y - a.y ≠ 0 → v = b.y → u = b.x := by
    intro h1 h2
    rw [h2, Int.sub_self, Int.mul_zero] at ex2
    rcases Int.mul_eq_zero.1 ex2.symm with h | h <;> omega
  have i1 : (b.x - a.x) * ((a.x - c.x) * (v - c.y) - (a.y - c.y) * (u - c.x)) = (u - a.x) * ((b.x - a.x) * (c.y - a.y) - (b.y - a.y) * (c.x - a.x)) := by grind
  have i2 : (b.y - a.y) * ((a.x - c.x) * (v - c.y) - (a.y - c.y) * (u - c.x)) = (v - a.y) * ((b.x - a.x) * (c.y - a.y) - (b.y - a.y) * (c.x - a.x)) := by grind
  have i3 : (b.x - a.x) * ((c.x - b.x) * (v - b.y) - (c.y - b.y) * (u - b.x)) = (b.x - u) * ((b.x - a.x) * (c.y - a.y) - (b.y - a.y) * (c.x - a.x)) := by grind
  have i4 : (b.y - a.y) * ((c.x - b.x) * (v - b.y) - (c.y - b.y) * (u - b.x)) = (b.y - v) * ((b.x - a.x) * (c.y - a.y) - (b.y - a.y) * (c.x - a.x)) := by grind
  by_cases hx : b.x - a.x = 0
  · have hy : b.y - a.y ≠ 0 := fun h => nd hx h
    exact ⟨sgn_pos i4 hA (by omega) (by omega) hy, sgn_pos i2 hA (by omega) (by omega) hy⟩
  · exact ⟨sgn_pos i3 hA (by omega) (by omega) hx, sgn_pos i1 hA (by omega) (by omega) hx⟩

/-- what stands beside: a, b, c one way round, a, b, d the other. -/
structure Bes (a b c d : Wn) : Prop where
  oa : OkW a
  ob : OkW b
  oc : OkW c
  od : OkW d
  p : 0 < wayI a b c.x c.y
  n : wayI a b d.x d.y < 0
theorem inF_I {p q : Wn} (hp : OkW p) (hq : OkW q) {x y : Int} (x0 : 0 ≤ x) (x1 : x < 64) (y0 : 0 ≤ y) (y1 : y < 64) :
    inF p q (ctr x) (ctr y) = (decide (0 < wayI p q (256 * x + 128) (256 * y + 128)) || (decide (wayI p q (256 * x + 128) (256 * y + 128) = 0) && (decide (q.y < p.y) || (decide (q.y = p.y) && decide (q.x < p.x))))) := by
  unfold inF
  rw [ctr_eq x0 x1, ctr_eq y0 y1, wayF_eq hp hq (by omega) (by omega) (by omega) (by omega)]
theorem Bes.t1 {a b c d : Wn} (h : Bes a b c d) : ∃ A, 0 < A ∧ turnF a b c = ⟨a, b, c, A, true⟩ := by
  have e := wayF_eq h.oa h.ob h.oc.x0 h.oc.x1 h.oc.y0 h.oc.y1
  have := h.p
  refine ⟨wayI a b c.x c.y, this, ?_⟩
  unfold turnF
  rw [e, decide_eq_false (by omega), decide_eq_true this]; rfl
theorem Bes.t2 {a b c d : Wn} (h : Bes a b c d) : ∃ A, 0 < A ∧ turnF a d b = ⟨a, d, b, A, true⟩ := by
  have e := wayF_eq h.oa h.od h.ob.x0 h.ob.x1 h.ob.y0 h.ob.y1
  have := h.n
  have s := area_swap a b d
  refine ⟨wayI a d b.x b.y, by omega, ?_⟩
  unfold turnF
  rw [e, decide_eq_false (by omega), decide_eq_true (by omega)]; rfl
theorem bes_apart {a b c d : Wn} (h : Bes a b c d) {x y : Int} (x0 : 0 ≤ x) (x1 : x < 64) (y0 : 0 ≤ y) (y1 : y < 64) (h1 : covF (turnF a b c) x y = true) (h2 : covF (turnF a d b) x y = true) : False := by
  obtain ⟨A, _, e1⟩ := h.t1
  obtain ⟨B, _, e2⟩ := h.t2
  rw [e1] at h1
  rw [e2] at h2
  unfold covF at h1 h2
  simp only [Bool.and_eq_true] at h1 h2
  have k1 := h1.2.2.2
  have k2 := h2.2.2.1
  rw [inF_I h.oa h.ob x0 x1 y0 y1] at k1
  rw [inF_I h.ob h.oa x0 x1 y0 y1, wayI_anti a b] at k2
  simp only [Bool.or_eq_true, Bool.and_eq_true, decide_eq_true_eq] at k1 k2
  omega
theorem bes_edge {a b c d : Wn} (h : Bes a b c d) {x y : Int} (x0 : 0 ≤ x) (x1 : x < 64) (y0 : 0 ≤ y) (y1 : y < 64) (h0 : wayI a b (256 * x + 128) (256 * y + 128) = 0)
    (q0 : min a.x b.x ≤ 256 * x + 128) (q1 : 256 * x + 128 ≤ max a.x b.x) (r0 : min a.y b.y ≤ 256 * y + 128) (r1 : 256 * y + 128 ≤ max a.y b.y) (na : 256 * x + 128 ≠ a.x ∨ 256 * y + 128 ≠ a.y) (nb : 256 * x + 128 ≠ b.x ∨ 256 * y + 128 ≠ b.y) :
    covF (turnF a b c) x y = true ∨ covF (turnF a d b) x y = true := by
  obtain ⟨A, hA, e1⟩ := h.t1
  obtain ⟨B, hB, e2⟩ := h.t2
  rw [e1, e2]
  unfold covF
  simp only [Bool.and_eq_true, decide_eq_true_eq]
  rw [inF_I h.ob h.oc x0 x1 y0 y1, inF_I h.oc h.oa x0 x1 y0 y1, inF_I h.oa h.ob x0 x1 y0 y1, inF_I h.od h.ob x0 x1 y0 y1, inF_I h.ob h.oa x0 x1 y0 y1, inF_I h.oa h.od x0 x1 y0 y1]
  simp only [Bool.or_eq_true, Bool.and_eq_true, decide_eq_true_eq]
  have anti := wayI_anti a b (256 * x + 128) (256 * y + 128)
  obtain ⟨p1, p2⟩ := edge_pos h0 h.p q0 q1 r0 r1 na nb
  have hn : 0 < wayI b a d.x d.y := by rw [wayI_anti]; have := h.n; omega
  obtain ⟨p3, p4⟩ := edge_pos (a := b) (b := a) (c := d) (by omega) hn (by omega) (by omega) (by omega) (by omega) nb na
  have hne : a.x ≠ b.x ∨ a.y ≠ b.y := by
    by_cases k : a.x = b.x
    · by_cases k2 : a.y = b.y
      · have := h.p
        unfold wayI at this
        rw [k, k2, Int.sub_self, Int.sub_self, Int.zero_mul, Int.zero_mul] at this
        omega
      · exact .inr k2
    · exact .inl k
  by_cases hd : b.y < a.y ∨ (b.y = a.y ∧ b.x < a.x)
  · exact .inl ⟨hA, .inl p1, .inl p2, .inr ⟨h0, hd⟩⟩
  · exact .inr ⟨hB, .inl p4, .inr ⟨by omega, by omega⟩, .inl p3⟩
end
end Go.AX.Tri
/- Lists of fragments: one laid behind another. -/
namespace Go.AX.Tri
open Go.Proofs Go.AX.Mc
set_option linter.unusedSimpArgs false
set_option linter.unusedVariables false
noncomputable section

theorem FgsAt.app {N : Nat} {h : AH} {l2 : List Fg} {cs2 : List Value} (h2 : FgsAt N h l2 cs2) : ∀ {l1 : List Fg} {cs1 : List Value}, FgsAt N h l1 cs1 → FgsAt N h (l1 ++ l2) (cs1 ++ cs2)
  | [], cs1, h1 => by cases (show cs1 = [] from h1); exact h2
  | g :: l, cs1, ⟨c, r, e, hg, hr⟩ => ⟨c, r ++ cs2, by rw [e, List.append_assoc], hg, FgsAt.app h2 hr⟩
theorem FgsAt.flat {N : Nat} {h : AH} : ∀ {l : List Fg} {cs : List Value}, FgsAt N h l cs → cs.all flat = true
  | [], cs, h1 => by cases (show cs = [] from h1); rfl
  | g :: l, cs, ⟨c, r, e, ⟨hd, ec, hv⟩, hr⟩ => by
    rw [e, List.all_append, FgsAt.flat hr, ec, Bool.and_true]
    rcases hv with ⟨_, rfl⟩ | ⟨_, _, _, _, _, rfl⟩ <;> rfl
structure App (N : Nat) (h h' : AH) : Prop where
  nx : h.nx ≤ h'.nx
  lo : ∀ M, M ≤ N → M ≤ h.lo → M ≤ h'.lo
  le : h.lo ≤ h.nx → h'.lo ≤ h'.nx
  old : ∀ b, b < h.nx → (∀ cs, h.get b ≠ some (.cells cs 1 10)) → h'.get b = h.get b
theorem App.refl (N : Nat) (h : AH) : App N h h := ⟨Nat.le_refl _, fun _ _ h => h, fun h => h, fun _ _ _ => rfl⟩
theorem push_get_old {h : AH} {x : AB} {b : Nat} (hb : b < h.nx) : (h.push x).get b = h.get b := AH.get_push_ne _ _ (by omega)

theorem app_FL {N : Nat} {h : AH} {hd1 hd2 : Value} {l1 l2 : List Fg} (h1 : FL N h hd1 l1) (h2 : FL N h hd2 l2) (hN : N ≤ h.nx) (hlen : l1.length + l2.length < 10000) :
    ∃ hd h', aAppend 10 72 hd1 hd2 h = some (.val hd h') ∧ FL N h' hd (l1 ++ l2) ∧ App N h h' := by
  rcases h2 with ⟨rfl, rfl⟩ | ⟨hl2, b2, cs2, k1, k2, k3, k4, rfl⟩
  · refine ⟨hd1, h, ?_, by rw [List.append_nil]; exact h1, App.refl _ _⟩
    have hs : aSource h 10 (.slice none 0 0) none = some (0, []) := rfl
    unfold aAppend
    rw [hs]
    rcases h1 with ⟨_, rfl⟩ | ⟨_, b, cs, _, _, _, _, rfl⟩
    · rfl
    · simp only [Nat.ble_eq_true_of_le (Nat.le_refl _), cond_true]
  · have hc2 := k4.length
    have hr2 : rd h b2 0 (l2.length * 10) = some cs2 := by
      rw [rd_rdB, k3, rdB_cells, if_pos (by omega), List.drop_zero, List.take_of_length_le (by omega)]
    have hs := aSource_r h 10 b2 0 l2.length l2.length cs2 hr2
    obtain ⟨m, hm⟩ : ∃ m, l2.length = m + 1 := ⟨l2.length - 1, by have := List.length_pos_iff.2 hl2; omega⟩
    rcases h1 with ⟨rfl, rfl⟩ | ⟨hl1, b1, cs1, q1, q2, q3, q4, rfl⟩
    · rw [hm] at hs
      refine ⟨_, _, by rw [hm]; exact app_nil h 10 72 _ m cs2 hs (room_of (by omega) (by omega)) k4.flat, ?_, ?_⟩
      · refine .inr ⟨by rw [List.nil_append]; exact hl2, h.nx, cs2, hN, by rw [AH.nx_push]; omega, AH.get_push_same _ _, ?_, by rw [List.nil_append, hm]⟩
        exact FgsAt.mono (by rw [AH.nx_push]; omega) (fun b cs _ hb hg => by rw [push_get_old hb]; exact hg) k4
      · refine ⟨by rw [AH.nx_push]; omega, fun M _ h => h, fun hle => ?_, fun b hb _ => push_get_old hb⟩
        rw [AH.nx_push]; show h.lo ≤ _; omega
    · have hc1 := q4.length
      rw [hm] at hs
      refine ⟨_, _, by rw [hm]; exact app_slr h 10 72 b1 l1.length cs1 _ m cs2 hs q3 hc1 (room_of (by omega) (by omega)) k4.flat, ?_, ?_⟩
      · have hmono : ∀ {l : List Fg} {cs : List Value}, FgsAt N h l cs → FgsAt N ((AH.set h b1 .dead).push (.cells (cs1 ++ cs2) 1 10)) l cs := fun hf => by
          refine FgsAt.mono (by rw [AH.nx_push, AH.nx_set]; omega) (fun b cs _ hb hg => ?_) hf
          rw [push_get_old (by rw [AH.nx_set]; exact hb), AH.get_set_ne _ _ _ (by intro e; rw [e, q3] at hg; simp at hg)]
          exact hg
        refine .inr ⟨by simp [hl1], (AH.set h b1 .dead).nx, cs1 ++ cs2, by rw [AH.nx_set]; exact hN, by rw [AH.nx_push]; omega, AH.get_push_same _ _, (hmono k4).app (hmono q4), ?_⟩
        rw [List.length_append, hm, AH.nx_set]
      · refine ⟨by rw [AH.nx_push, AH.nx_set]; omega, fun M hM hlo => ?_, fun hle => ?_, fun b hb hne => ?_⟩
        · show M ≤ min h.lo b1; omega
        · rw [AH.nx_push, AH.nx_set]; show min h.lo b1 ≤ _; omega
        · rw [push_get_old (by rw [AH.nx_set]; exact hb), AH.get_set_ne _ _ _ (by intro e; rw [e] at hne; exact hne _ q3)]
end
end Go.AX.Tri
/- Plain law: what stands at a centre lies between what stands at the corners; with one w all is told alike. -/
namespace Go.AX.Tri
open Go.Proofs Go.AX.Mc
set_option linter.unusedSimpArgs false
set_option linter.unusedVariables false
noncomputable section

def liesF (x a b c : Int) : Bool := decide (min (min a b) c ≤ x) && decide (x ≤ max (max a b) c)
theorem up_dn (N : Nat) (l : Int) : (upN N l : Int) - (dnN N l : Int) = N * l := by
  unfold upN dnN
  split
  · rw [Int.natCast_mul, show ((l.natAbs : Nat) : Int) = -l by omega]
    simp [Int.mul_neg]
  · rw [Int.natCast_mul, show ((l.natAbs : Nat) : Int) = l by omega]
    simp
theorem div_le_of {S A M : Nat} (hA : 0 < A) (h : S ≤ M * A) : (2 * S + A) / (2 * A) ≤ M := by
  rw [Nat.div_le_iff_le_mul (by omega)]
  have : M * (2 * A) = 2 * (M * A) := by rw [Nat.mul_left_comm]
  omega
theorem le_div_of {S A M : Nat} (hA : 0 < A) (h : M * A ≤ S) : M ≤ (2 * S + A) / (2 * A) := by
  rw [Nat.le_div_iff_mul_le (by omega)]
  have : M * (2 * A) = 2 * (M * A) := by rw [Nat.mul_left_comm]
  omega
theorem nearU_lies {U D A : Nat} {m M : Int} (hA : 0 < A) (h1 : m * A ≤ (U : Int) - D) (h2 : (U : Int) - D ≤ M * A) (hm : -2147483648 ≤ m) (hM : M < 2147483648) : m ≤ nearU U D A ∧ nearU U D A ≤ M := by
  unfold nearU
  have key : ∀ q : Int, m ≤ q → q ≤ M → m ≤ rawF q ∧ rawF q ≤ M := by
    intro q a b
    unfold rawF
    omega
  have pos : (0 : Int) < A := by omega
  split
  · rename_i hlt
    have hD : ((D - U : Nat) : Int) = (D : Int) - U := by omega
    have m0 : m < 0 := by
      rcases Int.lt_or_le m 0 with k | k
      · exact k
      · have := Int.mul_nonneg k (Int.le_of_lt pos); omega
    have k1 : D - U ≤ (-m).toNat * A := by
      have : (((-m).toNat * A : Nat) : Int) = (-m) * A := by rw [Int.natCast_mul, Int.toNat_of_nonneg (by omega)]
      have e : (-m) * (A : Int) = -(m * A) := Int.neg_mul _ _
      omega
    have q1 := div_le_of hA k1
    have q2 : M < 0 → (-M).toNat ≤ (2 * (D - U) + A) / (2 * A) := by
      intro k
      refine le_div_of hA ?_
      have : (((-M).toNat * A : Nat) : Int) = (-M) * A := by rw [Int.natCast_mul, Int.toNat_of_nonneg (by omega)]
      have e : (-M) * (A : Int) = -(M * A) := Int.neg_mul _ _
      omega
    generalize (2 * (D - U) + A) / (2 * A) = q at q1 q2 ⊢
    exact key _ (by omega) (by omega)
  · rename_i hlt
    have hD : ((U - D : Nat) : Int) = (U : Int) - D := by omega
    have m0 : 0 ≤ M := by
      rcases Int.lt_or_le M 0 with k | k
      · have := Int.mul_neg_of_neg_of_pos k pos; omega
      · exact k
    have k1 : U - D ≤ M.toNat * A := by
      have : ((M.toNat * A : Nat) : Int) = M * A := by rw [Int.natCast_mul, Int.toNat_of_nonneg m0]
      omega
    have q1 := div_le_of hA k1
    have q2 : 0 ≤ m → m.toNat ≤ (2 * (U - D) + A) / (2 * A) := by
      intro k
      refine le_div_of hA ?_
      have : ((m.toNat * A : Nat) : Int) = m * A := by rw [Int.natCast_mul, Int.toNat_of_nonneg k]
      omega
    generalize (2 * (U - D) + A) / (2 * A) = q at q1 q2 ⊢
    exact key _ (by omega) (by omega)

theorem near_lies {n0 n1 n2 : Nat} {a b c : Int} (hA : 0 < n0 + n1 + n2) (ha : -2147483648 ≤ a ∧ a < 2147483648) (hb : -2147483648 ≤ b ∧ b < 2147483648) (hc : -2147483648 ≤ c ∧ c < 2147483648) : liesF (nearF n0 n1 n2 a b c) a b c = true := by
  have u0 := up_dn n0 a
  have u1 := up_dn n1 b
  have u2 := up_dn n2 c
  have lo : ∀ (n : Nat) (x m : Int), m ≤ x → m * n ≤ n * x := by intro n x m h; rw [Int.mul_comm]; exact Int.mul_le_mul_of_nonneg_left h (by omega)
  have hi : ∀ (n : Nat) (x m : Int), x ≤ m → n * x ≤ m * n := by intro n x m h; rw [Int.mul_comm m]; exact Int.mul_le_mul_of_nonneg_left h (by omega)
  have := nearU_lies (U := upN n0 a + upN n1 b + upN n2 c) (D := dnN n0 a + dnN n1 b + dnN n2 c) (A := n0 + n1 + n2) (m := min (min a b) c) (M := max (max a b) c) hA ?_ ?_ (by omega) (by omega)
  · unfold liesF nearF
    rw [Bool.and_eq_true, decide_eq_true_eq, decide_eq_true_eq]
    exact this
  · have l0 := lo n0 a (min (min a b) c) (by omega)
    have l1 := lo n1 b (min (min a b) c) (by omega)
    have l2 := lo n2 c (min (min a b) c) (by omega)
    have e : (min (min a b) c) * ((n0 + n1 + n2 : Nat) : Int) = (min (min a b) c) * n0 + (min (min a b) c) * n1 + (min (min a b) c) * n2 := by rw [Int.natCast_add, Int.natCast_add, Int.mul_add, Int.mul_add]
    rw [e]
    omega
  · have l0 := hi n0 a (max (max a b) c) (by omega)
    have l1 := hi n1 b (max (max a b) c) (by omega)
    have l2 := hi n2 c (max (max a b) c) (by omega)
    have e : (max (max a b) c) * ((n0 + n1 + n2 : Nat) : Int) = (max (max a b) c) * n0 + (max (max a b) c) * n1 + (max (max a b) c) * n2 := by rw [Int.natCast_add, Int.natCast_add, Int.mul_add, Int.mul_add]
    rw [e]
    omega
theorem near_scale {k n0 n1 n2 : Nat} (hk : 0 < k) (a b c : Int) : nearF (n0 * k) (n1 * k) (n2 * k) a b c = nearF n0 n1 n2 a b c := by
  have u : ∀ (n : Nat) (l : Int), upN (n * k) l = upN n l * k := by intro n l; unfold upN; split; simp; rw [Nat.mul_right_comm]
  have d : ∀ (n : Nat) (l : Int), dnN (n * k) l = dnN n l * k := by intro n l; unfold dnN; split; rw [Nat.mul_right_comm]; simp
  unfold nearF
  simp only [u, d, ← Nat.add_mul]
  generalize upN n0 a + upN n1 b + upN n2 c = U
  generalize dnN n0 a + dnN n1 b + dnN n2 c = D
  generalize n0 + n1 + n2 = A
  unfold nearU
  have hdiv : ∀ x : Nat, (2 * (x * k) + A * k) / (2 * (A * k)) = (2 * x + A) / (2 * A) := by
    intro x
    rw [← Nat.mul_assoc, ← Nat.mul_assoc, ← Nat.add_mul, Nat.mul_div_mul_right _ _ hk]
  rw [← Nat.sub_mul, ← Nat.sub_mul, hdiv, hdiv]
  have hlt : U * k < D * k ↔ U < D := Nat.mul_lt_mul_right hk
  simp only [hlt]
end
end Go.AX.Tri
/- Plain law: each fragment of a box lies between its corners. -/
namespace Go.AX.Tri
open Go.Proofs Go.AX.Mc
set_option linter.unusedSimpArgs false
set_option linter.unusedVariables false
noncomputable section

theorem lies_swap (x a b c : Int) : liesF x a c b = liesF x a b c := by
  unfold liesF
  rw [show min (min a c) b = min (min a b) c by omega, show max (max a c) b = max (max a b) c by omega]
structure Lies (a b c : Wn) (px py pw ph : Int) (g : Fg) : Prop where
  z : liesF g.z a.z b.z c.z = true
  x0 : px ≤ g.x
  x1 : g.x < px + pw
  y0 : py ≤ g.y
  y1 : g.y < py + ph
  vs : ∀ (k : Nat) v, g.vs[k]? = some v → ∀ n, liesF (v.at n) (atV a k n) (atV b k n) (atV c k n) = true
  bx : 0 ≤ px ∧ 0 ≤ pw ∧ px + pw ≤ 64 ∧ 0 ≤ py ∧ 0 ≤ ph ∧ py + ph ≤ 64
theorem cells_mem {px py pw ph : Nat} {p : Int × Int} (h : p ∈ cellsL px py pw ph) : (px : Int) ≤ p.1 ∧ p.1 < px + pw ∧ (py : Int) ≤ p.2 ∧ p.2 < py + ph := by
  unfold cellsL rowsL at h
  obtain ⟨j, hj, h⟩ := List.mem_flatMap.1 h
  unfold rowL at h
  obtain ⟨i, hi, rfl⟩ := List.mem_map.1 h
  rw [List.mem_range] at hi hj
  simp only
  omega
theorem atV_bd {h : AH} {p : Wn} (hp : WnAt h p) (k n : Nat) : -2147483648 ≤ atV p k n ∧ atV p k n < 2147483648 := by
  unfold atV
  cases e : p.vs[k]? with
  | none => simp
  | some v => exact hp.num v (List.mem_of_getElem? e) n
theorem vsF_get {f : Fc} {n0 n1 n2 m k : Nat} {v : V4} (h : (vsF f n0 n1 n2 m)[k]? = some v) : v = vecF f n0 n1 n2 k := by
  unfold vsF at h
  rw [List.getElem?_map] at h
  obtain ⟨j, hj, rfl⟩ := Option.map_eq_some_iff.1 h
  obtain ⟨h1, h2⟩ := List.getElem?_eq_some_iff.1 hj
  rw [List.getElem_range] at h2
  rw [h2]
theorem vecF_at (f : Fc) (n0 n1 n2 k n : Nat) : (vecF f n0 n1 n2 k).at n = vecN f n0 n1 n2 k (min n 3) := by
  match n with
  | 0 => rfl
  | 1 => rfl
  | 2 => rfl
  | n + 3 => rw [show min (n + 3) 3 = 3 by omega]; rfl
theorem at_min (v : V4) (n : Nat) : v.at n = v.at (min n 3) := by
  match n with
  | 0 => rfl
  | 1 => rfl
  | 2 => rfl
  | n + 3 => rw [show min (n + 3) 3 = 3 by omega]; rfl
theorem atV_min (q : Wn) (k n : Nat) : atV q k n = atV q k (min n 3) := by
  unfold atV
  cases q.vs[k]? with
  | none => rfl
  | some v => exact at_min v n
theorem fill_lies {h : AH} {a b c : Wn} {px py pw ph : Int} (ha : WnAt h a) (hb : WnAt h b) (hc : WnAt h c) {g : Fg} (hg : g ∈ fillL a b c px py pw ph) : Lies a b c px py pw ph g := by
  unfold fillL at hg
  cases hbad : badL [a, b, c]
  · rw [hbad] at hg
    cases hbx : boxF px py pw ph
    · rw [hbx] at hg; simp at hg
    · rw [hbx] at hg
      simp only [cond_true, cond_false] at hg
      have hbx' := hbx
      unfold boxF at hbx'
      rw [Bool.and_eq_true] at hbx'
      obtain ⟨x1, x2, x3⟩ := in1_spec hbx'.1
      obtain ⟨y1, y2, y3⟩ := in1_spec hbx'.2
      obtain ⟨oka, okb, okc, lb, lc⟩ := bad3 hbad
      have hok := turn_ok oka okb okc
      unfold fragsF at hg
      obtain ⟨p, hp, hf⟩ := List.mem_filterMap.1 hg
      have hm := cells_mem hp
      have hs : (sidesF (turnF a b c) p.1 p.2).2 = true := by
        cases e : (sidesF (turnF a b c) p.1 p.2).2
        · unfold fragF at hf; rw [e] at hf; cases hf
        · rfl
      obtain ⟨n0, n1, n2, e1, _, _, _, hA, _⟩ := sides_ok hok (by omega) (by omega) (by omega) (by omega) hs
      unfold fragF at hf
      rw [hs] at hf
      simp only [cond_true, Option.some.injEq] at hf
      subst hf
      rw [e1]
      have hwpos : 0 < (turnF a b c).a.w.toNat ∧ 0 < (turnF a b c).b.w.toNat ∧ 0 < (turnF a b c).c.w.toNat := by
        have w : ∀ q, (q = a ∨ q = b ∨ q = c) → 0 < q.w.toNat := by
          rintro q (rfl | rfl | rfl)
          · have := oka.w0; omega
          · have := okb.w0; omega
          · have := okc.w0; omega
        exact ⟨w _ (turn_mem _ (.inl rfl)), w _ (turn_mem _ (.inr (.inl rfl))), w _ (turn_mem _ (.inr (.inr rfl)))⟩
      have hA' : ∀ w0 w1 w2, 0 < w0 → 0 < w1 → 0 < w2 → 0 < n0 * w1 * w2 + n1 * w2 * w0 + n2 * w0 * w1 := by
        intro w0 w1 w2 k0 k1 k2
        rcases (show 0 < n0 ∨ 0 < n1 ∨ 0 < n2 by omega) with k | k | k
        · have := Nat.mul_pos (Nat.mul_pos k k1) k2; omega
        · have := Nat.mul_pos (Nat.mul_pos k k2) k0; omega
        · have := Nat.mul_pos (Nat.mul_pos k k0) k1; omega
      have hperm : ∀ (F : Wn → Int) x, liesF x (F (turnF a b c).a) (F (turnF a b c).b) (F (turnF a b c).c) = true → liesF x (F a) (F b) (F c) = true := by
        intro F x hx
        unfold turnF at hx
        cases e : decide (wayF a b c.x c.y < 0)
        · rw [e] at hx; exact hx
        · rw [e] at hx; rw [← lies_swap]; exact hx
      have hall : ∀ q, (q = (turnF a b c).a ∨ q = (turnF a b c).b ∨ q = (turnF a b c).c) → WnAt h q := by
        intro q hq
        rcases turn_mem q hq with rfl | rfl | rfl <;> assumption
      refine ⟨?_, ?_, ?_, ?_, ?_, ?_, ?_⟩
      · refine hperm (·.z) _ ?_
        exact near_lies (by simpa using hA) (hall _ (.inl rfl)).z (hall _ (.inr (.inl rfl))).z (hall _ (.inr (.inr rfl))).z
      · show px ≤ p.1; omega
      · show p.1 < px + pw; omega
      · show py ≤ p.2; omega
      · show p.2 < py + ph; omega
      · intro k v hv n
        have hv' := vsF_get hv
        refine hperm (fun q => atV q k n) _ ?_
        simp only [hv', vecF_at, atV_min _ k n]
        unfold vecN
        exact near_lies (hA' _ _ _ hwpos.1 hwpos.2.1 hwpos.2.2) (atV_bd (hall _ (.inl rfl)) _ _) (atV_bd (hall _ (.inr (.inl rfl))) _ _) (atV_bd (hall _ (.inr (.inr rfl))) _ _)
      · omega
  · rw [hbad] at hg; simp at hg
end
end Go.AX.Tri
