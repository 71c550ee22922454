/- The abstract executor 'AX', soundness (21): regions that draw: each step. -/
import Derived.Test.YthhgeodgfbhkdaaAxW
set_option linter.unusedVariables false
set_option linter.unusedSimpArgs false
set_option linter.unusedSectionVars false
namespace Go.AX
variable {P : Program} {X : XT}

/-- an operation whose value is known. -/
theorem good_val_wp {F : Fence} (hF : WF F) {nt : Nat} {ops : Array Oper} {o : Oper} {ao : AOper} (ho : OpR P X nt ops o ao) {m : M} {H H' : AH} {w : World} {a : Act} {v : Value} (hg : Good P m H w ((execOp a.eval o).run P w) (.val v H'))
    {K : Act → World → Prop} {Q : Exit → Act → World → Prop} (hK : ∀ m' v' w', VR m' v v' → Rel m' H' w' → Step m m' H H' w w' → K (a.put o.dst v') w') : o.wpIn F 0 P a w K Q := by
  refine ⟨fun f _ => hF.fn f, ?_⟩
  rw [ho.sem]
  cases hg with
  | val _ _ m' w' v' hr hv hr' hs =>
    rcases hr with hr | ⟨hr, rfl⟩
    · rw [hr]; exact hK m' v' w' hv hr' hs
    · rw [hr]; exact hK m' undef w' hv hr' hs

namespace Cx
variable {c : Cx} {m0 m : M} {H0 : AH} {w0 w : World} {S : Nat → Bool} {fr : Tr Value} {p : Nat} {a : Act}

theorem Ok.seen_sub (hc : c.Ok P X) : ∀ (j : Nat), j ≤ c.N → ∀ k, (c.σ j).seen.testBit k = true → ∃ e, e < j ∧ c.isEff e ∧ (c.bf e).testBit k = true
  | 0, _, k, h => by rw [hc.s0.2.1] at h; simp at h
  | j + 1, hj, k, h => by
    by_cases he : c.isEff j
    · obtain ⟨o, ao, q1, q2, q3, q4, q5⟩ := hc.went (i := j) (by omega)
      have hse : (c.σ (j + 1)).seen = (c.σ j).seen ||| ao.bf := by
        cases q5 with
        | eff hw hk hcn st hr h => rw [h]
        | not hw hkn h => obtain ⟨ao', r1, r2, r3⟩ := he; rw [q2] at r1; cases r1; rw [hw] at r2; cases r2
        | pure hw hk => obtain ⟨ao', r1, r2, r3⟩ := he; rw [q2] at r1; cases r1; rw [hk] at r3; cases r3
        | read hw hk => obtain ⟨ao', r1, r2, r3⟩ := he; rw [q2] at r1; cases r1; rw [hk] at r3; cases r3
        | new hw hk => obtain ⟨ao', r1, r2, r3⟩ := he; rw [q2] at r1; cases r1; rw [hk] at r3; cases r3
      rw [hse, Nat.testBit_or, Bool.or_eq_true] at h
      rcases h with h | h
      · obtain ⟨e, k1, k2, k3⟩ := hc.seen_sub j (by omega) k h
        exact ⟨e, by omega, k2, k3⟩
      · exact ⟨j, Nat.lt_succ_self _, he, by rw [← q4]; exact h⟩
    · rw [(hc.quiet (i := j) (by omega) he).2.1] at h
      obtain ⟨e, k1, k2, k3⟩ := hc.seen_sub j (by omega) k h
      exact ⟨e, by omega, k2, k3⟩

theorem Inv.seen_S (h : c.Inv m0 H0 w0 S m fr p a w) (hc : c.Ok P X) {k : Nat} (hk : (c.σ p).seen.testBit k = true) : S k = true := by
  obtain ⟨e, h1, h2, h3⟩ := hc.seen_sub p h.hp k hk
  exact h.closed e (h.effs e h2 h1) k h3

/-- no block is laid at i: the same is shown. -/
theorem view_same {i : Nat} (hno : ∀ n ∈ (c.σ c.N).news, n.op ≠ i) : c.view p (upd S i) = c.view p S := by
  unfold view shown
  congr 1
  refine List.filter_congr fun n hn => ?_
  have : upd S i n.op = S n.op := by
    unfold upd
    have : Nat.beq n.op i = false := Bool.eq_false_iff.2 fun e => hno n hn (Nat.eq_of_beq_eq_true e)
    rw [this, Bool.or_false]
  rw [this]

theorem Ok.no_news (hc : c.Ok P X) {i : Nat} (hi : i < c.N) (h : ∀ ao, c.al[i]? = some ao → want (c.σ i).fr ao.guard = true → ao.kind ≠ .new) : ∀ n ∈ (c.σ c.N).news, n.op ≠ i := by
  intro n hn e
  obtain ⟨_, ⟨_, ao, v, h1, r1, r2, r3, _⟩, _⟩ := (hc.news c.N (Nat.le_refl _)).1 n hn
  rw [e] at r1 r2
  exact h ao r1 r2 r3

/-- a step that is no effect and lays no block. -/
theorem Inv.still (h : c.Inv m0 H0 w0 S m fr p a w) (hc : c.Ok P X) {i : Nat} {o : Oper} {d : Option Pa} {v v' : Value} (ho : c.ops[i]? = some o) (hd : dstOf c.nt o.dst = some d) (hi : i < c.N) (hS : S i = false)
    (hr : ∀ k, (c.bf i).testBit k = true → S k = true) (hne : ¬ c.isEff i) (hno : ∀ n ∈ (c.σ c.N).news, n.op ≠ i) (hv : ∀ t, o.dst = some t → v = tmp (c.σ (i + 1)).fr (pa t)) {m' : M} {w' : World} (hvr : VR m' v v')
    (hrel : Rel m' (c.view p S) w') (hs : Step m m' (c.view p S) (c.view p S) w w') : c.Inv m0 H0 w0 (upd S i) m' (putT fr d v) p (a.put o.dst v') w' where
  hp := h.hp
  closed := fun j hj k hk => by
    rcases upd_iff.1 hj with hj | hj
    · exact upd_iff.2 (.inl (h.closed j hj k hk))
    · subst hj; exact upd_iff.2 (.inl (hr k hk))
  bound := fun j hj => by
    rcases upd_iff.1 hj with hj | hj
    · exact h.bound j hj
    · omega
  effs := fun k hk hlt => upd_iff.2 (.inl (h.effs k hk hlt))
  front := h.front.imp id fun ⟨h1, h2⟩ => ⟨h1, by
    cases hb : upd S i p with
    | false => rfl
    | true =>
      rcases upd_iff.1 hb with h3 | h3
      · rw [h2] at h3; cases h3
      · subst h3; exact absurd h1 hne⟩
  last := h.last_put hc ho hd hi hS hr hv
  fri := (h.fri.mono hs.le).put hd hvr
  rel := by rw [view_same hno]; exact hrel
  dom := by rw [view_same hno]; exact h.dom.step hs
  step := by rw [view_same hno]; exact h.step.trans hs
  new := fun n hn hSn hdm => by
    have hSn' : S n.op = false := by
      cases hb : S n.op with
      | false => rfl
      | true => rw [show upd S i n.op = true from upd_iff.2 (.inl hb)] at hSn; cases hSn
    rcases hs.dm _ hdm with h1 | h1
    · exact h.new n hn hSn' h1
    · omega
  lt := h.lt
  hid := h.hid
  nx := h.nx
  nid0 := h.nid0

/-- the effect whose turn it is. -/
theorem Inv.turn (h : c.Inv m0 H0 w0 S m fr p a w) (hc : c.Ok P X) {i : Nat} (hi : i < c.N) (hS : S i = false) (hr : ∀ k, (c.bf i).testBit k = true → S k = true) (he : c.isEff i) : p = i := by
  rcases Nat.lt_trichotomy p i with h1 | h1 | h1
  · rcases h.front with h2 | ⟨h2, h3⟩
    · omega
    · have := hr p (hc.eff_ord h1 hi h2 he)
      rw [this] at h3; cases h3
  · exact h1
  · have := h.effs i he h1
    rw [this] at hS; cases hS

/-- the state behind an effect. -/
theorem Inv.moved (h : c.Inv m0 H0 w0 S m fr p a w) (hc : c.Ok P X) {o : Oper} {ao : AOper} {v v' : Value} (ho : c.ops[p]? = some o) (hao : c.al[p]? = some ao) (hop : OpR P X c.nt c.ops o ao) (hbf : ao.bf = c.bf p) (hi : p < c.N) (hS : S p = false)
    (hr : ∀ k, (c.bf p).testBit k = true → S k = true) (he : c.isEff p) (hno : ∀ n ∈ (c.σ c.N).news, n.op ≠ p) (hv : ∀ t, o.dst = some t → v = tmp (c.σ (p + 1)).fr (pa t)) {m' : M} {w' : World} (hvr : VR m' v v')
    (hse : (c.σ (p + 1)).seen = (c.σ p).seen ||| ao.bf) (hL : ∀ n ∈ opened ao.bf (c.σ p).seen (c.σ p).news, n ∈ c.shown p S)
    (hs : Step m m' (lay (c.σ p).h (opened ao.bf (c.σ p).seen (c.σ p).news)) (c.σ (p + 1)).h w w') (hrel : Rel m' (c.σ (p + 1)).h w') (hdom : Dom m' (c.σ (p + 1)).h) :
    ∃ p', c.Inv m0 H0 w0 (upd S p) m' (putT fr ao.dst v) p' (a.put o.dst v') w' := by
  obtain ⟨p', hp1, hp2, hp3, hp4⟩ := c.next_eff (c.N - (p + 1)) (p + 1) (by omega)
  obtain ⟨e1, e2, _⟩ := hc.quiet_to (i := p + 1) (p' - (p + 1)) (by omega) (fun k hk hk' => hp3 k hk (by omega))
  rw [show p + 1 + (p' - (p + 1)) = p' by omega] at e1 e2
  have hnxi : (lay (c.σ p).h (opened ao.bf (c.σ p).seen (c.σ p).news)).nx = (c.σ p).h.nx := lay_nx _ _
  have hloi : (lay (c.σ p).h (opened ao.bf (c.σ p).seen (c.σ p).news)).lo = (c.σ p).h.lo := lay_lo _ _
  have hnxV : (c.view p S).nx = (c.σ p).h.nx := lay_nx _ _
  have hloV : (c.view p S).lo = (c.σ p).h.lo := lay_lo _ _
  have hsub := h.sub hc hL
  have hse' : ∀ k, (c.σ p').seen.testBit k = false → (c.σ p).seen.testBit k = false ∧ ao.bf.testBit k = false := by
    intro k hk
    rw [e2, hse, Nat.testBit_or, Bool.or_eq_false_iff] at hk
    exact hk
  have hidi : ∀ n ∈ (c.σ c.N).news, (c.σ p').seen.testBit n.op = false → ∀ b, (lay (c.σ p).h (opened ao.bf (c.σ p).seen (c.σ p).news)).get n.id = some b → b = .dead := by
    intro n hn hk b hb
    obtain ⟨k1, k2⟩ := hse' _ hk
    rcases lay_cases (opened ao.bf (c.σ p).seen (c.σ p).news) (c.σ p).h n.id with ⟨n', q1, q2, q3⟩ | ⟨q1, q2⟩
    · have hn' := (mem_shown.1 (hL n' q1)).1
      have := hc.inj_news hn' hn q2
      subst this
      unfold opened at q1
      rw [List.mem_filter, Bool.and_eq_true] at q1
      rw [k2] at q1
      cases q1.2.1
    · rw [q2] at hb; exact h.hid n hn k1 b hb
  have hshow : ∀ n ∈ c.shown p' (upd S p), n ∈ c.shown p S ∧ (c.σ p').seen.testBit n.op = false := by
    intro n hn
    obtain ⟨q1, q2, q3⟩ := mem_shown.1 hn
    refine ⟨mem_shown.2 ⟨q1, ?_, (hse' _ q3).1⟩, q3⟩
    rcases upd_iff.1 q2 with q | q
    · exact q
    · exact absurd q (hno n q1)
  have hnx2 : (c.view p' (upd S p)).nx = (c.σ (p + 1)).h.nx := by rw [view, lay_nx, e1]
  have hlo2 : (c.view p' (upd S p)).lo = (c.σ (p + 1)).h.lo := by rw [view, lay_lo, e1]
  have hnxs : (c.σ p).h.nx ≤ (c.σ (p + 1)).h.nx := by rw [← hnxi]; exact hs.nx
  obtain ⟨k1, k2, k3⟩ := frame_rule (V2 := c.view p' (upd S p)) h.rel hsub (by rw [hloi, hloV]) (by rw [hnxi, hnxV]) hs hrel hdom (by
      intro i b hi' hb
      rcases lay_cases (c.shown p' (upd S p)) (c.σ p').h i with ⟨n, q1, q2, q3⟩ | ⟨q1, q2⟩
      · rw [show (c.view p' (upd S p)) = lay (c.σ p').h (c.shown p' (upd S p)) from rfl, q3] at hi'
        cases hi'
        obtain ⟨r1, r2⟩ := hshow n q1
        subst q2
        exact .inr ⟨lay_mem hc.shown_inj r1 _, fun x hx => hidi n (mem_shown.1 r1).1 r2 x hx⟩
      · rw [show (c.view p' (upd S p)) = lay (c.σ p').h (c.shown p' (upd S p)) from rfl, q2, e1] at hi'
        exact .inl hi') hnx2 hlo2 (by
      intro i b hi'
      rw [hnx2]
      rcases lay_cases (c.shown p' (upd S p)) (c.σ p').h i with ⟨n, q1, q2, q3⟩ | ⟨q1, q2⟩
      · subst q2
        have := hc.id_lt (mem_shown.1 q1).1
        have := h.nx
        omega
      · rw [show (c.view p' (upd S p)) = lay (c.σ p').h (c.shown p' (upd S p)) from rfl, q2, e1] at hi'
        exact hrel.lt i b hi')
  refine ⟨p', ?_⟩
  exact {
    hp := hp2
    closed := fun j hj k hk => by
      rcases upd_iff.1 hj with hj | hj
      · exact upd_iff.2 (.inl (h.closed j hj k hk))
      · subst hj; exact upd_iff.2 (.inl (hr k hk))
    bound := fun j hj => by
      rcases upd_iff.1 hj with hj | hj
      · exact h.bound j hj
      · omega
    effs := fun k hk hlt => by
      rcases Nat.lt_trichotomy k p with q | q | q
      · exact upd_iff.2 (.inl (h.effs k hk q))
      · exact upd_iff.2 (.inr q)
      · exact absurd hk (hp3 k (by omega) hlt)
    front := by
      by_cases q : p' = c.N
      · exact .inl q
      · have hpe := hp4.resolve_left q
        refine .inr ⟨hpe, ?_⟩
        cases hb : upd S p p' with
        | false => rfl
        | true =>
          rcases upd_iff.1 hb with h3 | h3
          · have := h.closed p' h3 p (hc.eff_ord (by omega) (by omega) he hpe)
            rw [this] at hS; cases hS
          · omega
    last := h.last_put hc ho hop.dst hi hS hr hv
    fri := (h.fri.mono hs.le).put hop.dst hvr
    rel := k1
    dom := k2
    step := h.step.trans k3
    new := fun n hn hSn hdm => by
      have hSn' : S n.op = false := by
        cases hb : S n.op with
        | false => rfl
        | true => rw [show upd S p n.op = true from upd_iff.2 (.inl hb)] at hSn; cases hSn
      rcases hs.dm _ hdm with h1 | h1
      · exact h.new n hn hSn' h1
      · have := hc.id_lt hn
        have := h.nx
        omega
    lt := fun i b hb => by rw [e1] at hb ⊢; exact hrel.lt i b hb
    hid := fun n hn hk b hb => by
      rw [e1] at hb
      refine Classical.byContradiction fun hbd => ?_
      by_cases hSn : S n.op = true
      · have hmem : n ∈ c.shown p S := mem_shown.2 ⟨hn, hSn, (hse' _ hk).1⟩
        have hget : (c.view p S).get n.id = some n.blk := lay_mem hc.shown_inj hmem _
        obtain ⟨_, ⟨_, ao', vv, hh, r1, r2, r3, r4, r5, hnd⟩, _⟩ := (hc.news c.N (Nat.le_refl _)).1 n hn
        have hbk := hs.le.bk n.id (h.rel.dm _ _ hget hnd)
        rcases hs.org n.id b hb hbd with q | ⟨j, z, q1, q2, q3, q4⟩
        · have := h.rel.bk_lt hget hnd
          omega
        · have := h.rel.inj j n.id z n.blk (hsub j z q1 q2) hget q2 hnd (by rw [← q3, hbk])
          subst this
          exact q2 (hidi n hn hk z q1)
      · have hSn' : S n.op = false := by simpa using hSn
        have hdm := hrel.dm n.id b hb hbd
        rcases hs.dm _ hdm with h1 | h1
        · exact h.new n hn hSn' h1
        · have := hc.id_lt hn
          have := h.nx
          omega
    nx := by rw [e1]; have := h.nx; omega
    nid0 := h.nid0 }

end Cx

end Go.AX
