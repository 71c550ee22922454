/- The abstract executor 'AX', soundness (19): regions that draw: any order. -/
import Derived.Test.YthhgeodgfbhkdaaAxV
import Derived.OrdersIn
set_option linter.unusedVariables false
set_option linter.unusedSimpArgs false
set_option linter.unusedSectionVars false
namespace Go.AX
variable {P : Program} {X : XT}
namespace Cx
variable {c : Cx}

theorem Ok.inj_news (hc : c.Ok P X) {a b : New} (ha : a ∈ (c.σ c.N).news) (hb : b ∈ (c.σ c.N).news) (h : a.id = b.id) : a = b := by
  obtain ⟨a1, a2, a3⟩ := (hc.news c.N (Nat.le_refl _)).1 a ha
  obtain ⟨b1, b2, b3⟩ := (hc.news c.N (Nat.le_refl _)).1 b hb
  rw [a2.id, b2.id] at h
  have L : ∀ (x y : New), NewAt c x → NewAt c y → x ∈ (c.σ c.N).news → y.op < c.N → x.op < y.op → (c.σ x.op).nid < (c.σ y.op).nid := by
    intro x y hx hy hxm hyN hlt
    have := (hc.news y.op (by omega)).2.1 x hx hlt
    exact ((hc.news y.op (by omega)).1 x this).2.2
  rcases Nat.lt_trichotomy a.op b.op with h1 | h1 | h1
  · have := L a b a2 b2 ha b1 h1; omega
  · obtain ⟨r0, ao, v, hh, r1, r2, r3, r4, r5, _⟩ := a2
    obtain ⟨s0, ao', v', hh', t1, t2, t3, t4, t5, _⟩ := b2
    obtain ⟨op, id, blk⟩ := a
    obtain ⟨op', id', blk'⟩ := b
    simp only at h1 r0 s0 r1 r4 r5 t1 t4 t5
    subst h1
    subst r0; subst s0
    rw [r1] at t1; cases t1
    rw [r4] at t4; cases t4
    rw [r5] at t5; cases t5
    rfl
  · have := L b a b2 a2 hb a1 h1; omega

/-! ### What was read -/
structure ReadAt (c : Cx) (r : Read) : Prop where
  get : c.al[r.op]? = some r.o
  fr : r.fr = (c.σ r.op).fr
  wt : want (c.σ r.op).fr r.o.guard = true
  kind : r.o.kind = .read

theorem Ok.reads (hc : c.Ok P X) : ∀ (j : Nat), j ≤ c.N → ∀ i, i < j → ∀ ao, c.al[i]? = some ao → want (c.σ i).fr ao.guard = true → ao.kind = .read → ∃ v hh, ⟨i, ao, (c.σ i).fr, v⟩ ∈ (c.σ j).reads ∧ (c.σ (i + 1)).fr = putT (c.σ i).fr ao.dst v ∧
    ao.run (c.σ i).fr (lay (c.σ i).h (opened ao.bf (c.σ i).seen (c.σ i).news)) = some (.val v hh)
  | 0, _, i, hi => by omega
  | j + 1, hj, i, hi => by
    intro ao hao hw hk
    obtain ⟨o, ao', q1, q2, q3, q4, q5⟩ := hc.went (i := j) (by omega)
    have SUB : ∀ r ∈ (c.σ j).reads, r ∈ (c.σ (j + 1)).reads := by
      intro r hr
      cases q5 with
      | not hw hkn h => rw [h]; exact hr
      | pure hw hk v hh hr' h => rw [h]; exact hr
      | read hw hk v hh hr' h => rw [h]; exact List.mem_cons_of_mem _ hr
      | eff hw hk hcn st hr' h => rw [h]; exact hr
      | new hw hk v h1' b hr' hb hbd h => rw [h]; exact hr
    by_cases e : i = j
    · subst e
      rw [hao] at q2; cases q2
      cases q5 with
      | not hw' hkn' h => rw [hw'] at hw; cases hw
      | pure hw' hk' => rw [hk'] at hk; cases hk
      | eff hw' hk' => rw [hk'] at hk; cases hk
      | new hw' hk' => rw [hk'] at hk; cases hk
      | read hw' hk' v hh hr h => exact ⟨v, hh, by rw [h]; exact List.mem_cons_self .., by rw [h], hr⟩
    · obtain ⟨v, hh, k1, k2, k3⟩ := hc.reads j (by omega) i (by omega) ao hao hw hk
      exact ⟨v, hh, SUB _ k1, k2, k3⟩

theorem readsAll_spec {ops : List AOper} {news : List New} {rs : List Read} : ∀ (pre : List (Nat × Nat × AH)) {x : Nat × Nat × AH} {post : List (Nat × Nat × AH)} {left : List Nat} {seen : Nat} {H : AH},
    readsAll ops news rs (pre ++ x :: post) left seen H = true → readsAt ops news rs (post.map (·.1)) (x.1 :: ((pre.map (·.1)).reverse ++ left)) x.2.1 x.2.2 = true
  | [], x, post, left, seen, H, h => by
    obtain ⟨a, b, d⟩ := x
    simp only [List.nil_append, readsAll, Bool.and_eq_true] at h
    have h2 := h.2
    cases post with
    | nil => simpa [readsAll] using h2
    | cons y post =>
      obtain ⟨y1, y2, y3⟩ := y
      simp only [readsAll, Bool.and_eq_true] at h2
      simpa using h2.1
  | z :: pre, x, post, left, seen, H, h => by
    obtain ⟨a, b, d⟩ := z
    simp only [List.cons_append, readsAll, Bool.and_eq_true] at h
    have := readsAll_spec pre h.2
    simpa using this

theorem readsAll_top {ops : List AOper} {news : List New} {rs : List Read} {ch : List (Nat × Nat × AH)} {left : List Nat} {seen : Nat} {H : AH} (h : readsAll ops news rs ch left seen H = true) :
    readsAt ops news rs (ch.map (·.1)) left seen H = true := by
  cases ch with
  | nil => exact h
  | cons x ch =>
    obtain ⟨a, b, d⟩ := x
    simp only [readsAll, Bool.and_eq_true] at h
    exact h.1

theorem readAt_spec {ops : List AOper} {news : List New} {rs : List Read} {r : Read} {done left : List Nat} {seen : Nat} {H : AH} (h : readsAt ops news rs done left seen H = true) (hr : r ∈ rs)
    (h1 : ∀ k ∈ left, r.o.bf.testBit k = false) (h2 : ∀ k ∈ done, (bfAt ops k).testBit r.op = false) : ∃ hh, r.o.run r.fr (lay H (opened r.o.bf seen news)) = some (.val r.v hh) := by
  have h3 := List.all_eq_true.1 h r hr
  unfold readAt at h3
  have e1 : left.all (fun c => !r.o.bf.testBit c) = true := List.all_eq_true.2 fun k hk => by rw [h1 k hk]; rfl
  have e2 : done.all (fun c => !(bfAt ops c).testBit r.op) = true := List.all_eq_true.2 fun k hk => by rw [h2 k hk]; rfl
  rw [e1, e2] at h3
  simp only [Bool.and_self, cond_true] at h3
  split at h3
  · rename_i v hh hv
    rw [veq_eq 6 h3] at hv
    exact ⟨hh, hv⟩
  · cases h3

/-- what a read reads, wherever it may be carried out. -/
theorem Ok.read_ok (hc : c.Ok P X) (hro : readsOk c.al (c.σ c.N) = true) {r : Read} (hr : r ∈ (c.σ c.N).reads) {p : Nat} (hp : p ≤ c.N) (hpe : p = c.N ∨ c.isEff p) (hne : (c.σ c.N).chain ≠ [])
    (h1 : ∀ k, k < c.N → c.isEff k → p ≤ k → r.o.bf.testBit k = false) (h2 : ∀ k, c.isEff k → k < p → (bfAt c.al k).testBit r.op = false) :
    ∃ hh, r.o.run r.fr (lay (c.σ p).h (opened r.o.bf (c.σ p).seen (c.σ c.N).news)) = some (.val r.v hh) := by
  have hall : readsAll c.al (c.σ c.N).news (c.σ c.N).reads (c.σ c.N).chain [] (c.σ c.N).seen (c.σ c.N).h = true := by
    unfold readsOk at hro
    split at hro
    · rename_i e; exact absurd e hne
    · exact hro
  obtain ⟨m1, m2, m3⟩ := hc.chain_mem c.N (Nat.le_refl _)
  rcases hpe with rfl | hpe
  · refine readAt_spec (readsAll_top hall) hr (by simp) fun k hk => ?_
    obtain ⟨x, hx, rfl⟩ := List.mem_map.1 hk
    obtain ⟨k1, k2, _⟩ := m1 x hx
    exact h2 _ k2 k1
  · by_cases e : p = c.N
    · subst e
      refine readAt_spec (readsAll_top hall) hr (by simp) fun k hk => ?_
      obtain ⟨x, hx, rfl⟩ := List.mem_map.1 hk
      obtain ⟨k1, k2, _⟩ := m1 x hx
      exact h2 _ k2 k1
    · have hmem := m2 p (by omega) hpe
      obtain ⟨pre, post, hsp⟩ := List.append_of_mem hmem
      rw [hsp] at hall m3 m1
      have hpw := List.pairwise_append.1 m3
      have hpw2 := List.pairwise_cons.1 hpw.2.1
      refine readAt_spec (readsAll_spec pre hall) hr (fun k hk => ?_) fun k hk => ?_
      · simp only [List.append_nil, List.mem_cons, List.mem_reverse, List.mem_map] at hk
        rcases hk with rfl | ⟨x, hx, rfl⟩
        · exact h1 _ (by omega) hpe (Nat.le_refl _)
        · have := hpw.2.2 x hx _ (List.mem_cons_self ..)
          exact h1 _ (m1 x (by simp [hx])).1 (m1 x (by simp [hx])).2.1 (Nat.le_of_lt this)
      · obtain ⟨x, hx, rfl⟩ := List.mem_map.1 hk
        exact h2 _ (m1 x (by simp [hx])).2.1 (hpw2.1 x hx)

/-! ### Who wrote a temporary last -/
def wr (c : Cx) (i : Nat) (t : Tmp) : Prop := ∃ o, c.ops[i]? = some o ∧ o.dst = some t

/-- what a temporary holds when just the operations of S have been carried out. -/
def Last (c : Cx) (S : Nat → Prop) (t : Tmp) (v : Value) : Prop :=
  (∃ i, S i ∧ i < c.N ∧ c.wr i t ∧ (∀ k, S k → c.wr k t → k ≤ i) ∧ v = tmp (c.σ (i + 1)).fr (pa t)) ∨ ((∀ i, S i → ¬ c.wr i t) ∧ v = tmp (c.σ 0).fr (pa t))

theorem Last.same {S S' : Nat → Prop} {t : Tmp} {v : Value} (h : ∀ i, c.wr i t → (S i ↔ S' i)) (hl : c.Last S t v) : c.Last S' t v := by
  rcases hl with ⟨i, h1, h2, h3, h4, h5⟩ | ⟨h1, h2⟩
  · exact .inl ⟨i, (h i h3).1 h1, h2, h3, fun k hk hw => h4 k ((h k hw).2 hk) hw, h5⟩
  · exact .inr ⟨fun i hi hw => h1 i ((h i hw).2 hi) hw, h2⟩

theorem Last.eq {S : Nat → Prop} {t : Tmp} {v v' : Value} (h : c.Last S t v) (h' : c.Last S t v') : v = v' := by
  rcases h with ⟨i, h1, h2, h3, h4, h5⟩ | ⟨h1, h2⟩ <;> rcases h' with ⟨i', k1, k2, k3, k4, k5⟩ | ⟨k1, k2⟩
  · have : i = i' := Nat.le_antisymm (k4 i h1 h3) (h4 i' k1 k3)
    subst this
    rw [h5, k5]
  · exact absurd h3 (k1 i h1)
  · exact absurd k3 (h1 i' k1)
  · rw [h2, k2]

theorem putT_other {fr : Tr Value} {nt : Nat} {o : Option Tmp} {d : Option Pa} {t : Tmp} {v : Value} (hd : dstOf nt o = some d) (hne : o ≠ some t) : tmp (putT fr d v) (pa t) = tmp fr (pa t) := by
  cases o with
  | none => simp only [dstOf] at hd; cases hd; rfl
  | some u =>
    simp only [dstOf] at hd
    cases hb : Nat.blt u nt <;> rw [hb] at hd
    · cases hd
    · cases hd
      simp only [putT]
      rw [tmp_put, if_neg fun h => hne (by rw [pa_inj h])]
theorem putT_own {fr : Tr Value} {nt : Nat} {o : Option Tmp} {d : Option Pa} {t : Tmp} {v : Value} (hd : dstOf nt o = some d) (he : o = some t) : tmp (putT fr d v) (pa t) = v := by
  subst he
  simp only [dstOf] at hd
  cases hb : Nat.blt t nt <;> rw [hb] at hd
  · cases hd
  · cases hd
    simp only [putT]
    rw [tmp_put, if_pos rfl]

theorem Ok.last_text (hc : c.Ok P X) (t : Tmp) : ∀ (j : Nat), j ≤ c.N → c.Last (· < j) t (tmp (c.σ j).fr (pa t))
  | 0, _ => .inr ⟨fun i hi => by omega, rfl⟩
  | j + 1, hj => by
    obtain ⟨o, ao, v, h1, h2, h3, h4⟩ := hc.val (i := j) (by omega)
    by_cases e : o.dst = some t
    · exact .inl ⟨j, Nat.lt_succ_self _, by omega, ⟨o, h1, e⟩, fun k hk _ => by omega, rfl⟩
    · rw [h4, putT_other h3 e]
      refine (hc.last_text t j (by omega)).same fun i hw => ⟨fun h => by omega, fun h => ?_⟩
      by_cases e' : i = j
      · subst e'
        obtain ⟨o', k1, k2⟩ := hw
        rw [h1] at k1; cases k1
        exact absurd k2 e
      · omega

end Cx

end Go.AX
