/- The abstract executor 'AX', soundness (19): regions that draw: any order. -/
import Derived.Test.YthhgeodgfbhkdaaAxV
import Derived.OrdersIn
set_option linter.unusedVariables false
set_option linter.unusedSimpArgs false
set_option linter.unusedSectionVars false
namespace Go.AX
variable {P : Program} {X : XT}
namespace Cx
variable {c : Cx}

theorem Ok.inj_news (hc : c.Ok P X) {a b : New} (ha : a ∈ (c.σ c.N).news) (hb : b ∈ (c.σ c.N).news) (h : a.id = b.id) : a = b := by
  obtain ⟨a1, a2, a3⟩ := (hc.news c.N (Nat.le_refl _)).1 a ha
  obtain ⟨b1, b2, b3⟩ := (hc.news c.N (Nat.le_refl _)).1 b hb
  rw [a2.id, b2.id] at h
  have L : ∀ (x y : New), NewAt c x → NewAt c y → x ∈ (c.σ c.N).news → y.op < c.N → x.op < y.op → (c.σ x.op).nid < (c.σ y.op).nid := by
    intro x y hx hy hxm hyN hlt
    have := (hc.news y.op (by omega)).2.1 x hx hlt
    exact ((hc.news y.op (by omega)).1 x this).2.2
  rcases Nat.lt_trichotomy a.op b.op with h1 | h1 | h1
  · have := L a b a2 b2 ha b1 h1; omega
  · obtain ⟨r0, ao, v, hh, r1, r2, r3, r4, r5, _⟩ := a2
    obtain ⟨s0, ao', v', hh', t1, t2, t3, t4, t5, _⟩ := b2
    obtain ⟨op, id, blk⟩ := a
    obtain ⟨op', id', blk'⟩ := b
    simp only at h1 r0 s0 r1 r4 r5 t1 t4 t5
    subst h1
    subst r0; subst s0
    rw [r1] at t1; cases t1
    rw [r4] at t4; cases t4
    rw [r5] at t5; cases t5
    rfl
  · have := L b a b2 a2 hb a1 h1; omega

/-! ### What was read -/
structure ReadAt (c : Cx) (r : Read) : Prop where
  get : c.al[r.op]? = some r.o
  fr : r.fr = (c.σ r.op).fr
  wt : want (c.σ r.op).fr r.o.guard = true
  kind : r.o.kind = .read

theorem Ok.reads (hc : c.Ok P X) : ∀ (j : Nat), j ≤ c.N → ∀ i, i < j → ∀ ao, c.al[i]? = some ao → want (c.σ i).fr ao.guard = true → ao.kind = .read → ∃ v hh, ⟨i, ao, (c.σ i).fr, v⟩ ∈ (c.σ j).reads ∧ (c.σ (i + 1)).fr = putT (c.σ i).fr ao.dst v ∧
    ao.run (c.σ i).fr (lay (c.σ i).h (opened ao.bf (c.σ i).seen (c.σ i).news)) = some (.val v hh)
  | 0, _, i, hi => by omega
  | j + 1, hj, i, hi => by
    intro ao hao hw hk
    obtain ⟨o, ao', q1, q2, q3, q4, q5⟩ := hc.went (i := j) (by omega)
    have SUB : ∀ r ∈ (c.σ j).reads, r ∈ (c.σ (j + 1)).reads := by
      intro r hr
      cases q5 with
      | not hw hkn h => rw [h]; exact hr
      | pure hw hk v hh hr' h => rw [h]; exact hr
      | read hw hk v hh hr' h => rw [h]; exact List.mem_cons_of_mem _ hr
      | eff hw hk hcn st hr' h => rw [h]; exact hr
      | new hw hk v h1' b hr' hb hbd h => rw [h]; exact hr
    by_cases e : i = j
    · subst e
      rw [hao] at q2; cases q2
      cases q5 with
      | not hw' hkn' h => rw [hw'] at hw; cases hw
      | pure hw' hk' => rw [hk'] at hk; cases hk
      | eff hw' hk' => rw [hk'] at hk; cases hk
      | new hw' hk' => rw [hk'] at hk; cases hk
      | read hw' hk' v hh hr h => exact ⟨v, hh, by rw [h]; exact List.mem_cons_self .., by rw [h], hr⟩
    · obtain ⟨v, hh, k1, k2, k3⟩ := hc.reads j (by omega) i (by omega) ao hao hw hk
      exact ⟨v, hh, SUB _ k1, k2, k3⟩

theorem readsAll_spec {ops : List AOper} {news : List New} {rs : List Read} : ∀ (pre : List (Nat × Nat × AH)) {x : Nat × Nat × AH} {post : List (Nat × Nat × AH)} {left : List Nat} {seen : Nat} {H : AH},
    readsAll ops news rs (pre ++ x :: post) left seen H = true → readsAt ops news rs (post.map (·.1)) (x.1 :: ((pre.map (·.1)).reverse ++ left)) x.2.1 x.2.2 = true
  | [], x, post, left, seen, H, h => by
    obtain ⟨a, b, d⟩ := x
    simp only [List.nil_append, readsAll, Bool.and_eq_true] at h
    have h2 := h.2
    cases post with
    | nil => simpa [readsAll] using h2
    | cons y post =>
      obtain ⟨y1, y2, y3⟩ := y
      simp only [readsAll, Bool.and_eq_true] at h2
      simpa using h2.1
  | z :: pre, x, post, left, seen, H, h => by
    obtain ⟨a, b, d⟩ := z
    simp only [List.cons_append, readsAll, Bool.and_eq_true] at h
    have := readsAll_spec pre h.2
    simpa using this

theorem readsAll_top {ops : List AOper} {news : List New} {rs : List Read} {ch : List (Nat × Nat × AH)} {left : List Nat} {seen : Nat} {H : AH} (h : readsAll ops news rs ch left seen H = true) :
    readsAt ops news rs (ch.map (·.1)) left seen H = true := by
  cases ch with
  | nil => exact h
  | cons x ch =>
    obtain ⟨a, b, d⟩ := x
    simp only [readsAll, Bool.and_eq_true] at h
    exact h.1

theorem readAt_spec {ops : List AOper} {news : List New} {rs : List Read} {r : Read} {done left : List Nat} {seen : Nat} {H : AH} (h : readsAt ops news rs done left seen H = true) (hr : r ∈ rs)
    (h1 : ∀ k ∈ left, r.o.bf.testBit k = false) (h2 : ∀ k ∈ done, (bfAt ops k).testBit r.op = false) : ∃ hh, r.o.run r.fr (lay H (opened r.o.bf seen news)) = some (.val r.v hh) := by
  have h3 := List.all_eq_true.1 h r hr
  unfold readAt at h3
  have e1 : left.all (fun c => !r.o.bf.testBit c) = true := List.all_eq_true.2 fun k hk => by rw [h1 k hk]; rfl
  have e2 : done.all (fun c => !(bfAt ops c).testBit r.op) = true := List.all_eq_true.2 fun k hk => by rw [h2 k hk]; rfl
  rw [e1, e2] at h3
  simp only [Bool.and_self, cond_true] at h3
  split at h3
  · rename_i v hh hv
    rw [veq_eq 6 h3] at hv
    exact ⟨hh, hv⟩
  · cases h3

/-- what a read reads, wherever it may be carried out. -/
theorem Ok.read_ok (hc : c.Ok P X) (hro : readsOk c.al (c.σ c.N) = true) {r : Read} (hr : r ∈ (c.σ c.N).reads) {p : Nat} (hp : p ≤ c.N) (hpe : p = c.N ∨ c.isEff p) (hne : (c.σ c.N).chain ≠ [])
    (h1 : ∀ k, k < c.N → c.isEff k → p ≤ k → r.o.bf.testBit k = false) (h2 : ∀ k, c.isEff k → k < p → (bfAt c.al k).testBit r.op = false) :
    ∃ hh, r.o.run r.fr (lay (c.σ p).h (opened r.o.bf (c.σ p).seen (c.σ c.N).news)) = some (.val r.v hh) := by
  have hall : readsAll c.al (c.σ c.N).news (c.σ c.N).reads (c.σ c.N).chain [] (c.σ c.N).seen (c.σ c.N).h = true := by
    unfold readsOk at hro
    split at hro
    · rename_i e; exact absurd e hne
    · exact hro
  obtain ⟨m1, m2, m3⟩ := hc.chain_mem c.N (Nat.le_refl _)
  rcases hpe with rfl | hpe
  · refine readAt_spec (readsAll_top hall) hr (by simp) fun k hk => ?_
    obtain ⟨x, hx, rfl⟩ := List.mem_map.1 hk
    obtain ⟨k1, k2, _⟩ := m1 x hx
    exact h2 _ k2 k1
  · by_cases e : p = c.N
    · subst e
      refine readAt_spec (readsAll_top hall) hr (by simp) fun k hk => ?_
      obtain ⟨x, hx, rfl⟩ := List.mem_map.1 hk
      obtain ⟨k1, k2, _⟩ := m1 x hx
      exact h2 _ k2 k1
    · have hmem := m2 p (by omega) hpe
      obtain ⟨pre, post, hsp⟩ := List.append_of_mem hmem
      rw [hsp] at hall m3 m1
      have hpw := List.pairwise_append.1 m3
      have hpw2 := List.pairwise_cons.1 hpw.2.1
      refine readAt_spec (readsAll_spec pre hall) hr (fun k hk => ?_) fun k hk => ?_
      · simp only [List.append_nil, List.mem_cons, List.mem_reverse, List.mem_map] at hk
        rcases hk with rfl | ⟨x, hx, rfl⟩
        · exact h1 _ (by omega) hpe (Nat.le_refl _)
        · have := hpw.2.2 x hx _ (List.mem_cons_self ..)
          exact h1 _ (m1 x (by simp [hx])).1 (m1 x (by simp [hx])).2.1 (Nat.le_of_lt this)
      · obtain ⟨x, hx, rfl⟩ := List.mem_map.1 hk
        exact h2 _ (m1 x (by simp [hx])).2.1 (hpw2.1 x hx)

/-! ### Who wrote a temporary last -/
def wr (c : Cx) (i : Nat) (t : Tmp) : Prop := ∃ o, c.ops[i]? = some o ∧ o.dst = some t

/-- what a temporary holds when just the operations of S have been carried out. -/
def Last (c : Cx) (S : Nat → Prop) (t : Tmp) (v : Value) : Prop :=
  (∃ i, S i ∧ i < c.N ∧ c.wr i t ∧ (∀ k, S k → c.wr k t → k ≤ i) ∧ v = tmp (c.σ (i + 1)).fr (pa t)) ∨ ((∀ i, S i → ¬ c.wr i t) ∧ v = tmp (c.σ 0).fr (pa t))

theorem Last.same {S S' : Nat → Prop} {t : Tmp} {v : Value} (h : ∀ i, c.wr i t → (S i ↔ S' i)) (hl : c.Last S t v) : c.Last S' t v := by
  rcases hl with ⟨i, h1, h2, h3, h4, h5⟩ | ⟨h1, h2⟩
  · exact .inl ⟨i, (h i h3).1 h1, h2, h3, fun k hk hw => h4 k ((h k hw).2 hk) hw, h5⟩
  · exact .inr ⟨fun i hi hw => h1 i ((h i hw).2 hi) hw, h2⟩

theorem Last.eq {S : Nat → Prop} {t : Tmp} {v v' : Value} (h : c.Last S t v) (h' : c.Last S t v') : v = v' := by
  rcases h with ⟨i, h1, h2, h3, h4, h5⟩ | ⟨h1, h2⟩ <;> rcases h' with ⟨i', k1, k2, k3, k4, k5⟩ | ⟨k1, k2⟩
  · have : i = i' := Nat.le_antisymm (k4 i h1 h3) (h4 i' k1 k3)
    subst this
    rw [h5, k5]
  · exact absurd h3 (k1 i h1)
  · exact absurd k3 (h1 i' k1)
  · rw [h2, k2]

theorem putT_other {fr : Tr Value} {nt : Nat} {o : Option Tmp} {d : Option Pa} {t : Tmp} {v : Value} (hd : dstOf nt o = some d) (hne : o ≠ some t) : tmp (putT fr d v) (pa t) = tmp fr (pa t) := by
  cases o with
  | none => simp only [dstOf] at hd; cases hd; rfl
  | some u =>
    simp only [dstOf] at hd
    cases hb : Nat.blt u nt <;> rw [hb] at hd
    · cases hd
    · cases hd
      simp only [putT]
      rw [tmp_put, if_neg fun h => hne (by rw [pa_inj h])]
theorem putT_own {fr : Tr Value} {nt : Nat} {o : Option Tmp} {d : Option Pa} {t : Tmp} {v : Value} (hd : dstOf nt o = some d) (he : o = some t) : tmp (putT fr d v) (pa t) = v := by
  subst he
  simp only [dstOf] at hd
  cases hb : Nat.blt t nt <;> rw [hb] at hd
  · cases hd
  · cases hd
    simp only [putT]
    rw [tmp_put, if_pos rfl]

theorem Ok.last_text (hc : c.Ok P X) (t : Tmp) : ∀ (j : Nat), j ≤ c.N → c.Last (· < j) t (tmp (c.σ j).fr (pa t))
  | 0, _ => .inr ⟨fun i hi => by omega, rfl⟩
  | j + 1, hj => by
    obtain ⟨o, ao, v, h1, h2, h3, h4⟩ := hc.val (i := j) (by omega)
    by_cases e : o.dst = some t
    · exact .inl ⟨j, Nat.lt_succ_self _, by omega, ⟨o, h1, e⟩, fun k hk _ => by omega, rfl⟩
    · rw [h4, putT_other h3 e]
      refine (hc.last_text t j (by omega)).same fun i hw => ⟨fun h => by omega, fun h => ?_⟩
      by_cases e' : i = j
      · subst e'
        obtain ⟨o', k1, k2⟩ := hw
        rw [h1] at k1; cases k1
        exact absurd k2 e
      · omega

end Cx

end Go.AX
/- The abstract executor 'AX', soundness (20): regions that draw: the simulation. -/
namespace Go.AX
variable {P : Program} {X : XT}
namespace Cx
variable {c : Cx}

def upd (S : Nat → Bool) (i : Nat) : Nat → Bool := fun k => S k || Nat.beq k i
theorem upd_iff {S : Nat → Bool} {i k : Nat} : upd S i k = true ↔ S k = true ∨ k = i := by
  unfold upd
  rw [Bool.or_eq_true, Nat.beq_eq]

def shown (c : Cx) (p : Nat) (S : Nat → Bool) : List New := (c.σ c.N).news.filter fun n => S n.op && !(c.σ p).seen.testBit n.op
noncomputable def view (c : Cx) (p : Nat) (S : Nat → Bool) : AH := lay (c.σ p).h (c.shown p S)

theorem mem_shown {p : Nat} {S : Nat → Bool} {n : New} : n ∈ c.shown p S ↔ n ∈ (c.σ c.N).news ∧ S n.op = true ∧ (c.σ p).seen.testBit n.op = false := by
  unfold shown
  rw [List.mem_filter, Bool.and_eq_true, Bool.not_eq_true']

theorem Ok.shown_inj (hc : c.Ok P X) {p : Nat} {S : Nat → Bool} : ∀ a ∈ c.shown p S, ∀ b ∈ c.shown p S, a.id = b.id → a = b :=
  fun a ha b hb h => hc.inj_news (mem_shown.1 ha).1 (mem_shown.1 hb).1 h

/-- the state of the run when just the operations of S have been carried out. -/
structure Inv (c : Cx) (m0 : M) (H0 : AH) (w0 : World) (S : Nat → Bool) (m : M) (fr : Tr Value) (p : Nat) (a : Act) (w : World) : Prop where
  hp : p ≤ c.N
  closed : ∀ i, S i = true → ∀ k, (c.bf i).testBit k = true → S k = true
  bound : ∀ i, S i = true → i < c.N
  effs : ∀ k, c.isEff k → k < p → S k = true
  front : p = c.N ∨ (c.isEff p ∧ S p = false)
  last : ∀ t, c.Last (fun k => S k = true) t (tmp fr (pa t))
  fri : FrI c.nt m fr a
  rel : Rel m (c.view p S) w
  dom : Dom m (c.view p S)
  step : Step m0 m H0 (c.view p S) w0 w
  new : ∀ n ∈ (c.σ c.N).news, S n.op = false → ¬ m.dm n.id
  lt : ∀ i b, (c.σ p).h.get i = some b → i < (c.σ p).h.nx
  hid : ∀ n ∈ (c.σ c.N).news, (c.σ p).seen.testBit n.op = false → ∀ b, (c.σ p).h.get n.id = some b → b = .dead
  nx : (c.σ c.N).nid ≤ (c.σ p).h.nx
  nid0 : H0.nx ≤ (c.σ 0).nid

variable {m0 m : M} {H0 : AH} {w0 w : World} {S : Nat → Bool} {fr : Tr Value} {p : Nat} {a : Act}

theorem Ok.id_lt (hc : c.Ok P X) {n : New} (hn : n ∈ (c.σ c.N).news) : n.id < (c.σ c.N).nid := by
  obtain ⟨a1, a2, a3⟩ := (hc.news c.N (Nat.le_refl _)).1 n hn
  rw [a2.id]; exact a3
theorem Ok.id_ge (hc : c.Ok P X) {n : New} (hn : n ∈ (c.σ c.N).news) : (c.σ 0).nid ≤ n.id := by
  obtain ⟨a1, a2, a3⟩ := (hc.news c.N (Nat.le_refl _)).1 n hn
  rw [a2.id]; exact (hc.news n.op (by omega)).2.2.1 0 (Nat.zero_le _)

theorem Inv.sub (h : c.Inv m0 H0 w0 S m fr p a w) (hc : c.Ok P X) {L : List New} (hL : ∀ n ∈ L, n ∈ c.shown p S) : ∀ i b, (lay (c.σ p).h L).get i = some b → b ≠ .dead → (c.view p S).get i = some b := by
  intro i b hi hb
  rcases lay_cases L (c.σ p).h i with ⟨n, h1, h2, h3⟩ | ⟨h1, h2⟩
  · rw [h3] at hi; cases hi
    subst h2
    exact lay_mem hc.shown_inj (hL n h1) _
  · rw [h2] at hi
    unfold view
    rcases lay_cases (c.shown p S) (c.σ p).h i with ⟨n, k1, k2, k3⟩ | ⟨k1, k2⟩
    · subst k2
      obtain ⟨q1, q2, q3⟩ := mem_shown.1 k1
      exact absurd (h.hid n q1 q3 b hi) hb
    · rw [k2, hi]

theorem Inv.lay_lt (h : c.Inv m0 H0 w0 S m fr p a w) (hc : c.Ok P X) {L : List New} (hL : ∀ n ∈ L, n ∈ (c.σ c.N).news) : ∀ i b, (lay (c.σ p).h L).get i = some b → i < (lay (c.σ p).h L).nx := by
  intro i b hi
  rw [lay_nx]
  rcases lay_cases L (c.σ p).h i with ⟨n, h1, h2, h3⟩ | ⟨h1, h2⟩
  · subst h2
    have := hc.id_lt (hL n h1)
    have := h.nx
    omega
  · rw [h2] at hi; exact h.lt i b hi

/-! ### Temporaries -/
theorem mem_names {ops : Array Oper} {o : Oper} {t : Tmp} : t ∈ names ops o ↔ o.dst = some t ∨ t ∈ opTmps o ∨ t ∈ gTmp ops o := by
  unfold names
  simp [List.mem_append, Option.mem_toList]

theorem clash_left {ops : Array Oper} {a b : Oper} {t : Tmp} (ha : a.dst = some t) (hb : t ∈ names ops b) : clash ops a b = true := by
  unfold clash
  rw [Bool.or_eq_true]
  refine .inl ?_
  rw [ha]
  simp only [Option.toList_some, List.any_cons, List.any_nil, Bool.or_false]
  exact List.any_eq_true.2 ⟨t, hb, by simp⟩
theorem clash_right {ops : Array Oper} {a b : Oper} {t : Tmp} (hb : b.dst = some t) (ha : t ∈ names ops a) : clash ops a b = true := by
  unfold clash
  rw [Bool.or_eq_true]
  refine .inr ?_
  rw [hb]
  simp only [Option.toList_some, List.any_cons, List.any_nil, Bool.or_false]
  exact List.any_eq_true.2 ⟨t, ha, by simp⟩

/-- of those who write what i names, just those ahead of it have been carried out. -/
theorem Inv.writers (h : c.Inv m0 H0 w0 S m fr p a w) (hc : c.Ok P X) {i : Nat} {o : Oper} (ho : c.ops[i]? = some o) (hS : S i = false) (hr : ∀ k, (c.bf i).testBit k = true → S k = true) {t : Tmp} (ht : t ∈ names c.ops o) :
    ∀ k, c.wr k t → (S k = true ↔ k < i) := by
  intro k ⟨o', h1, h2⟩
  constructor
  · intro hk
    rcases Nat.lt_trichotomy k i with h3 | h3 | h3
    · exact h3
    · subst h3; rw [hk] at hS; cases hS
    · have := hc.ord i k o o' h3 ho h1 (clash_right h2 ht)
      have := h.closed k hk i this
      rw [this] at hS; cases hS
  · intro hk
    exact hr k (hc.ord k i o' o hk h1 ho (clash_left h2 ht))

theorem Inv.tmp_eq (h : c.Inv m0 H0 w0 S m fr p a w) (hc : c.Ok P X) {i : Nat} {o : Oper} (ho : c.ops[i]? = some o) (hi : i < c.N ∨ i = c.N) (hS : S i = false) (hr : ∀ k, (c.bf i).testBit k = true → S k = true) {t : Tmp} (ht : t ∈ names c.ops o) :
    tmp fr (pa t) = tmp (c.σ i).fr (pa t) :=
  Last.eq (Last.same (S' := fun k => k < i) (fun k hk => h.writers hc ho hS hr ht k hk) (h.last t)) (hc.last_text t i (by omega))

theorem want_tmp (fr : Tr Value) (q : Pa) (b : Bool) : want fr (some (q, b)) = (match tmp fr q with | .bool x => x == b | _ => false) := by
  show (match fr.get q with | some (.bool c) => c == b | _ => false) = _
  unfold tmp
  cases fr.get q with
  | none => rfl
  | some v => cases v <;> rfl

theorem known_tmp (fr : Tr Value) (q : Pa) (b : Bool) : known fr (some (q, b)) = (match tmp fr q with | .bool _ | .tuple _ => true | _ => false) := by
  show (match fr.get q with | some (.bool _) | some (.tuple _) | none => true | _ => false) = _
  unfold tmp
  cases fr.get q with
  | none => rfl
  | some v => cases v <;> rfl

theorem Inv.agree (h : c.Inv m0 H0 w0 S m fr p a w) (hc : c.Ok P X) {i : Nat} {o : Oper} {ao : AOper} (ho : c.ops[i]? = some o) (hop : OpR P X c.nt c.ops o ao) (hi : i < c.N ∨ i = c.N) (hS : S i = false) (hr : ∀ k, (c.bf i).testBit k = true → S k = true) :
    (want fr ao.guard = want (c.σ i).fr ao.guard ∧ known fr ao.guard = known (c.σ i).fr ao.guard) ∧ Uses fr (c.σ i).fr ao.kind ao.run := by
  refine ⟨?_, op_uses hop.prep fun x hx t hxt => ?_⟩
  · have hg := hop.guard
    cases hgd : o.guard with
    | none => rw [hgd] at hg; simp only [guardOf] at hg; rw [← Option.some.inj hg]; exact ⟨rfl, rfl⟩
    | some g =>
      obtain ⟨j, b⟩ := g
      rw [hgd] at hg
      simp only [guardOf] at hg
      split at hg
      · rename_i d hd
        rw [← Option.some.inj hg, want_tmp, want_tmp, known_tmp, known_tmp]
        rw [h.tmp_eq hc ho hi hS hr (t := d) (mem_names.2 (.inr (.inr (by unfold gTmp; rw [hgd]; simp [hd]))))]
        exact ⟨rfl, rfl⟩
      · cases hg
  · subst hxt
    exact h.tmp_eq hc ho hi hS hr (mem_names.2 (.inr (.inl (by unfold opTmps; exact List.mem_filterMap.2 ⟨.tmp t, hx, rfl⟩))))

/-- the frame behind an operation. -/
theorem Inv.last_put (h : c.Inv m0 H0 w0 S m fr p a w) (hc : c.Ok P X) {i : Nat} {o : Oper} {d : Option Pa} {v : Value} (ho : c.ops[i]? = some o) (hd : dstOf c.nt o.dst = some d) (hi : i < c.N) (hS : S i = false)
    (hr : ∀ k, (c.bf i).testBit k = true → S k = true) (hv : ∀ t, o.dst = some t → v = tmp (c.σ (i + 1)).fr (pa t)) : ∀ t, c.Last (fun k => upd S i k = true) t (tmp (putT fr d v) (pa t)) := by
  intro t
  by_cases e : o.dst = some t
  · refine .inl ⟨i, upd_iff.2 (.inr rfl), hi, ⟨o, ho, e⟩, fun k hk hw => ?_, ?_⟩
    · rcases upd_iff.1 hk with hk | hk
      · exact Nat.le_of_lt ((h.writers hc ho hS hr (mem_names.2 (.inl e)) k hw).1 hk)
      · omega
    · rw [putT_own hd e, hv t e]
  · rw [putT_other hd e]
    refine Last.same (fun k hw => ?_) (h.last t)
    constructor
    · intro hk; exact upd_iff.2 (.inl hk)
    · intro hk
      rcases upd_iff.1 hk with hk | hk
      · exact hk
      · subst hk
        obtain ⟨o', k1, k2⟩ := hw
        rw [ho] at k1; cases k1
        exact absurd k2 e

end Cx

end Go.AX
