/- The abstract executor 'AX', soundness (20): regions that draw: the simulation. -/
import Derived.Test.YthhgeodgfbhkdaaAxW
set_option linter.unusedVariables false
set_option linter.unusedSimpArgs false
set_option linter.unusedSectionVars false
namespace Go.AX
variable {P : Program} {X : XT}
namespace Cx
variable {c : Cx}

def upd (S : Nat → Bool) (i : Nat) : Nat → Bool := fun k => S k || Nat.beq k i
theorem upd_iff {S : Nat → Bool} {i k : Nat} : upd S i k = true ↔ S k = true ∨ k = i := by
  unfold upd
  rw [Bool.or_eq_true, Nat.beq_eq]

def shown (c : Cx) (p : Nat) (S : Nat → Bool) : List New := (c.σ c.N).news.filter fun n => S n.op && !(c.σ p).seen.testBit n.op
noncomputable def view (c : Cx) (p : Nat) (S : Nat → Bool) : AH := lay (c.σ p).h (c.shown p S)

theorem mem_shown {p : Nat} {S : Nat → Bool} {n : New} : n ∈ c.shown p S ↔ n ∈ (c.σ c.N).news ∧ S n.op = true ∧ (c.σ p).seen.testBit n.op = false := by
  unfold shown
  rw [List.mem_filter, Bool.and_eq_true, Bool.not_eq_true']

theorem Ok.shown_inj (hc : c.Ok P X) {p : Nat} {S : Nat → Bool} : ∀ a ∈ c.shown p S, ∀ b ∈ c.shown p S, a.id = b.id → a = b :=
  fun a ha b hb h => hc.inj_news (mem_shown.1 ha).1 (mem_shown.1 hb).1 h

/-- the state of the run when just the operations of S have been carried out. -/
structure Inv (c : Cx) (m0 : M) (H0 : AH) (w0 : World) (S : Nat → Bool) (m : M) (fr : Tr Value) (p : Nat) (a : Act) (w : World) : Prop where
  hp : p ≤ c.N
  closed : ∀ i, S i = true → ∀ k, (c.bf i).testBit k = true → S k = true
  bound : ∀ i, S i = true → i < c.N
  effs : ∀ k, c.isEff k → k < p → S k = true
  front : p = c.N ∨ (c.isEff p ∧ S p = false)
  last : ∀ t, c.Last (fun k => S k = true) t (tmp fr (pa t))
  fri : FrI c.nt m fr a
  rel : Rel m (c.view p S) w
  dom : Dom m (c.view p S)
  step : Step m0 m H0 (c.view p S) w0 w
  new : ∀ n ∈ (c.σ c.N).news, S n.op = false → ¬ m.dm n.id
  lt : ∀ i b, (c.σ p).h.get i = some b → i < (c.σ p).h.nx
  hid : ∀ n ∈ (c.σ c.N).news, (c.σ p).seen.testBit n.op = false → ∀ b, (c.σ p).h.get n.id = some b → b = .dead
  nx : (c.σ c.N).nid ≤ (c.σ p).h.nx
  nid0 : H0.nx ≤ (c.σ 0).nid

variable {m0 m : M} {H0 : AH} {w0 w : World} {S : Nat → Bool} {fr : Tr Value} {p : Nat} {a : Act}

theorem Ok.id_lt (hc : c.Ok P X) {n : New} (hn : n ∈ (c.σ c.N).news) : n.id < (c.σ c.N).nid := by
  obtain ⟨a1, a2, a3⟩ := (hc.news c.N (Nat.le_refl _)).1 n hn
  rw [a2.id]; exact a3
theorem Ok.id_ge (hc : c.Ok P X) {n : New} (hn : n ∈ (c.σ c.N).news) : (c.σ 0).nid ≤ n.id := by
  obtain ⟨a1, a2, a3⟩ := (hc.news c.N (Nat.le_refl _)).1 n hn
  rw [a2.id]; exact (hc.news n.op (by omega)).2.2.1 0 (Nat.zero_le _)

theorem Inv.sub (h : c.Inv m0 H0 w0 S m fr p a w) (hc : c.Ok P X) {L : List New} (hL : ∀ n ∈ L, n ∈ c.shown p S) : ∀ i b, (lay (c.σ p).h L).get i = some b → b ≠ .dead → (c.view p S).get i = some b := by
  intro i b hi hb
  rcases lay_cases L (c.σ p).h i with ⟨n, h1, h2, h3⟩ | ⟨h1, h2⟩
  · rw [h3] at hi; cases hi
    subst h2
    exact lay_mem hc.shown_inj (hL n h1) _
  · rw [h2] at hi
    unfold view
    rcases lay_cases (c.shown p S) (c.σ p).h i with ⟨n, k1, k2, k3⟩ | ⟨k1, k2⟩
    · subst k2
      obtain ⟨q1, q2, q3⟩ := mem_shown.1 k1
      exact absurd (h.hid n q1 q3 b hi) hb
    · rw [k2, hi]

theorem Inv.lay_lt (h : c.Inv m0 H0 w0 S m fr p a w) (hc : c.Ok P X) {L : List New} (hL : ∀ n ∈ L, n ∈ (c.σ c.N).news) : ∀ i b, (lay (c.σ p).h L).get i = some b → i < (lay (c.σ p).h L).nx := by
  intro i b hi
  rw [lay_nx]
  rcases lay_cases L (c.σ p).h i with ⟨n, h1, h2, h3⟩ | ⟨h1, h2⟩
  · subst h2
    have := hc.id_lt (hL n h1)
    have := h.nx
    omega
  · rw [h2] at hi; exact h.lt i b hi

/-! ### Temporaries -/
theorem mem_names {ops : Array Oper} {o : Oper} {t : Tmp} : t ∈ names ops o ↔ o.dst = some t ∨ t ∈ opTmps o ∨ t ∈ gTmp ops o := by
  unfold names
  simp [List.mem_append, Option.mem_toList]

theorem clash_left {ops : Array Oper} {a b : Oper} {t : Tmp} (ha : a.dst = some t) (hb : t ∈ names ops b) : clash ops a b = true := by
  unfold clash
  rw [Bool.or_eq_true]
  refine .inl ?_
  rw [ha]
  simp only [Option.toList_some, List.any_cons, List.any_nil, Bool.or_false]
  exact List.any_eq_true.2 ⟨t, hb, by simp⟩
theorem clash_right {ops : Array Oper} {a b : Oper} {t : Tmp} (hb : b.dst = some t) (ha : t ∈ names ops a) : clash ops a b = true := by
  unfold clash
  rw [Bool.or_eq_true]
  refine .inr ?_
  rw [hb]
  simp only [Option.toList_some, List.any_cons, List.any_nil, Bool.or_false]
  exact List.any_eq_true.2 ⟨t, ha, by simp⟩

/-- of those who write what i names, just those ahead of it have been carried out. -/
theorem Inv.writers (h : c.Inv m0 H0 w0 S m fr p a w) (hc : c.Ok P X) {i : Nat} {o : Oper} (ho : c.ops[i]? = some o) (hS : S i = false) (hr : ∀ k, (c.bf i).testBit k = true → S k = true) {t : Tmp} (ht : t ∈ names c.ops o) :
    ∀ k, c.wr k t → (S k = true ↔ k < i) := by
  intro k ⟨o', h1, h2⟩
  constructor
  · intro hk
    rcases Nat.lt_trichotomy k i with h3 | h3 | h3
    · exact h3
    · subst h3; rw [hk] at hS; cases hS
    · have := hc.ord i k o o' h3 ho h1 (clash_right h2 ht)
      have := h.closed k hk i this
      rw [this] at hS; cases hS
  · intro hk
    exact hr k (hc.ord k i o' o hk h1 ho (clash_left h2 ht))

theorem Inv.tmp_eq (h : c.Inv m0 H0 w0 S m fr p a w) (hc : c.Ok P X) {i : Nat} {o : Oper} (ho : c.ops[i]? = some o) (hi : i < c.N ∨ i = c.N) (hS : S i = false) (hr : ∀ k, (c.bf i).testBit k = true → S k = true) {t : Tmp} (ht : t ∈ names c.ops o) :
    tmp fr (pa t) = tmp (c.σ i).fr (pa t) :=
  Last.eq (Last.same (S' := fun k => k < i) (fun k hk => h.writers hc ho hS hr ht k hk) (h.last t)) (hc.last_text t i (by omega))

theorem want_tmp (fr : Tr Value) (q : Pa) (b : Bool) : want fr (some (q, b)) = (match tmp fr q with | .bool x => x == b | _ => false) := by
  show (match fr.get q with | some (.bool c) => c == b | _ => false) = _
  unfold tmp
  cases fr.get q with
  | none => rfl
  | some v => cases v <;> rfl

theorem known_tmp (fr : Tr Value) (q : Pa) (b : Bool) : known fr (some (q, b)) = (match tmp fr q with | .bool _ | .tuple _ => true | _ => false) := by
  show (match fr.get q with | some (.bool _) | some (.tuple _) | none => true | _ => false) = _
  unfold tmp
  cases fr.get q with
  | none => rfl
  | some v => cases v <;> rfl

theorem Inv.agree (h : c.Inv m0 H0 w0 S m fr p a w) (hc : c.Ok P X) {i : Nat} {o : Oper} {ao : AOper} (ho : c.ops[i]? = some o) (hop : OpR P X c.nt c.ops o ao) (hi : i < c.N ∨ i = c.N) (hS : S i = false) (hr : ∀ k, (c.bf i).testBit k = true → S k = true) :
    (want fr ao.guard = want (c.σ i).fr ao.guard ∧ known fr ao.guard = known (c.σ i).fr ao.guard) ∧ Uses fr (c.σ i).fr ao.kind ao.run := by
  refine ⟨?_, op_uses hop.prep fun x hx t hxt => ?_⟩
  · have hg := hop.guard
    cases hgd : o.guard with
    | none => rw [hgd] at hg; simp only [guardOf] at hg; rw [← Option.some.inj hg]; exact ⟨rfl, rfl⟩
    | some g =>
      obtain ⟨j, b⟩ := g
      rw [hgd] at hg
      simp only [guardOf] at hg
      split at hg
      · rename_i d hd
        rw [← Option.some.inj hg, want_tmp, want_tmp, known_tmp, known_tmp]
        rw [h.tmp_eq hc ho hi hS hr (t := d) (mem_names.2 (.inr (.inr (by unfold gTmp; rw [hgd]; simp [hd]))))]
        exact ⟨rfl, rfl⟩
      · cases hg
  · subst hxt
    exact h.tmp_eq hc ho hi hS hr (mem_names.2 (.inr (.inl (by unfold opTmps; exact List.mem_filterMap.2 ⟨.tmp t, hx, rfl⟩))))

/-- the frame behind an operation. -/
theorem Inv.last_put (h : c.Inv m0 H0 w0 S m fr p a w) (hc : c.Ok P X) {i : Nat} {o : Oper} {d : Option Pa} {v : Value} (ho : c.ops[i]? = some o) (hd : dstOf c.nt o.dst = some d) (hi : i < c.N) (hS : S i = false)
    (hr : ∀ k, (c.bf i).testBit k = true → S k = true) (hv : ∀ t, o.dst = some t → v = tmp (c.σ (i + 1)).fr (pa t)) : ∀ t, c.Last (fun k => upd S i k = true) t (tmp (putT fr d v) (pa t)) := by
  intro t
  by_cases e : o.dst = some t
  · refine .inl ⟨i, upd_iff.2 (.inr rfl), hi, ⟨o, ho, e⟩, fun k hk hw => ?_, ?_⟩
    · rcases upd_iff.1 hk with hk | hk
      · exact Nat.le_of_lt ((h.writers hc ho hS hr (mem_names.2 (.inl e)) k hw).1 hk)
      · omega
    · rw [putT_own hd e, hv t e]
  · rw [putT_other hd e]
    refine Last.same (fun k hw => ?_) (h.last t)
    constructor
    · intro hk; exact upd_iff.2 (.inl hk)
    · intro hk
      rcases upd_iff.1 hk with hk | hk
      · exact hk
      · subst hk
        obtain ⟨o', k1, k2⟩ := hw
        rw [ho] at k1; cases k1
        exact absurd k2 e

end Cx

end Go.AX
