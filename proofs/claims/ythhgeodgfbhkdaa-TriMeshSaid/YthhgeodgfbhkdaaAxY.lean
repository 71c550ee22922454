/- The abstract executor 'AX', soundness (21): regions that draw: each step. -/
import Derived.Test.YthhgeodgfbhkdaaAxW
set_option linter.unusedVariables false
set_option linter.unusedSimpArgs false
set_option linter.unusedSectionVars false
namespace Go.AX
variable {P : Program} {X : XT}

/-- an operation whose value is known. -/
theorem good_val_wp {F : Fence} (hF : WF F) {nt : Nat} {ops : Array Oper} {o : Oper} {ao : AOper} (ho : OpR P X nt ops o ao) {m : M} {H H' : AH} {w : World} {a : Act} {v : Value} (hg : Good P m H w ((execOp a.eval o).run P w) (.val v H'))
    {K : Act → World → Prop} {Q : Exit → Act → World → Prop} (hK : ∀ m' v' w', VR m' v v' → Rel m' H' w' → Step m m' H H' w w' → K (a.put o.dst v') w') : o.wpIn F 0 P a w K Q := by
  refine ⟨fun f _ => hF.fn f, ?_⟩
  rw [ho.sem]
  cases hg with
  | val _ _ m' w' v' hr hv hr' hs =>
    rcases hr with hr | ⟨hr, rfl⟩
    · rw [hr]; exact hK m' v' w' hv hr' hs
    · rw [hr]; exact hK m' undef w' hv hr' hs

namespace Cx
variable {c : Cx} {m0 m : M} {H0 : AH} {w0 w : World} {S : Nat → Bool} {fr : Tr Value} {p : Nat} {a : Act}

theorem Ok.seen_sub (hc : c.Ok P X) : ∀ (j : Nat), j ≤ c.N → ∀ k, (c.σ j).seen.testBit k = true → ∃ e, e < j ∧ c.isEff e ∧ (c.bf e).testBit k = true
  | 0, _, k, h => by rw [hc.s0.2.1] at h; simp at h
  | j + 1, hj, k, h => by
    by_cases he : c.isEff j
    · obtain ⟨o, ao, q1, q2, q3, q4, q5⟩ := hc.went (i := j) (by omega)
      have hse : (c.σ (j + 1)).seen = (c.σ j).seen ||| ao.bf := by
        cases q5 with
        | eff hw hk hcn st hr h => rw [h]
        | not hw hkn h => obtain ⟨ao', r1, r2, r3⟩ := he; rw [q2] at r1; cases r1; rw [hw] at r2; cases r2
        | pure hw hk => obtain ⟨ao', r1, r2, r3⟩ := he; rw [q2] at r1; cases r1; rw [hk] at r3; cases r3
        | read hw hk => obtain ⟨ao', r1, r2, r3⟩ := he; rw [q2] at r1; cases r1; rw [hk] at r3; cases r3
        | new hw hk => obtain ⟨ao', r1, r2, r3⟩ := he; rw [q2] at r1; cases r1; rw [hk] at r3; cases r3
      rw [hse, Nat.testBit_or, Bool.or_eq_true] at h
      rcases h with h | h
      · obtain ⟨e, k1, k2, k3⟩ := hc.seen_sub j (by omega) k h
        exact ⟨e, by omega, k2, k3⟩
      · exact ⟨j, Nat.lt_succ_self _, he, by rw [← q4]; exact h⟩
    · rw [(hc.quiet (i := j) (by omega) he).2.1] at h
      obtain ⟨e, k1, k2, k3⟩ := hc.seen_sub j (by omega) k h
      exact ⟨e, by omega, k2, k3⟩

theorem Inv.seen_S (h : c.Inv m0 H0 w0 S m fr p a w) (hc : c.Ok P X) {k : Nat} (hk : (c.σ p).seen.testBit k = true) : S k = true := by
  obtain ⟨e, h1, h2, h3⟩ := hc.seen_sub p h.hp k hk
  exact h.closed e (h.effs e h2 h1) k h3

/-- no block is laid at i: the same is shown. -/
theorem view_same {i : Nat} (hno : ∀ n ∈ (c.σ c.N).news, n.op ≠ i) : c.view p (upd S i) = c.view p S := by
  unfold view shown
  congr 1
  refine List.filter_congr fun n hn => ?_
  have : upd S i n.op = S n.op := by
    unfold upd
    have : Nat.beq n.op i = false := Bool.eq_false_iff.2 fun e => hno n hn (Nat.eq_of_beq_eq_true e)
    rw [this, Bool.or_false]
  rw [this]

theorem Ok.no_news (hc : c.Ok P X) {i : Nat} (hi : i < c.N) (h : ∀ ao, c.al[i]? = some ao → want (c.σ i).fr ao.guard = true → ao.kind ≠ .new) : ∀ n ∈ (c.σ c.N).news, n.op ≠ i := by
  intro n hn e
  obtain ⟨_, ⟨_, ao, v, h1, r1, r2, r3, _⟩, _⟩ := (hc.news c.N (Nat.le_refl _)).1 n hn
  rw [e] at r1 r2
  exact h ao r1 r2 r3

/-- a step that is no effect and lays no block. -/
theorem Inv.still (h : c.Inv m0 H0 w0 S m fr p a w) (hc : c.Ok P X) {i : Nat} {o : Oper} {d : Option Pa} {v v' : Value} (ho : c.ops[i]? = some o) (hd : dstOf c.nt o.dst = some d) (hi : i < c.N) (hS : S i = false)
    (hr : ∀ k, (c.bf i).testBit k = true → S k = true) (hne : ¬ c.isEff i) (hno : ∀ n ∈ (c.σ c.N).news, n.op ≠ i) (hv : ∀ t, o.dst = some t → v = tmp (c.σ (i + 1)).fr (pa t)) {m' : M} {w' : World} (hvr : VR m' v v')
    (hrel : Rel m' (c.view p S) w') (hs : Step m m' (c.view p S) (c.view p S) w w') : c.Inv m0 H0 w0 (upd S i) m' (putT fr d v) p (a.put o.dst v') w' where
  hp := h.hp
  closed := fun j hj k hk => by
    rcases upd_iff.1 hj with hj | hj
    · exact upd_iff.2 (.inl (h.closed j hj k hk))
    · subst hj; exact upd_iff.2 (.inl (hr k hk))
  bound := fun j hj => by
    rcases upd_iff.1 hj with hj | hj
    · exact h.bound j hj
    · omega
  effs := fun k hk hlt => upd_iff.2 (.inl (h.effs k hk hlt))
  front := h.front.imp id fun ⟨h1, h2⟩ => ⟨h1, by
    cases hb : upd S i p with
    | false => rfl
    | true =>
      rcases upd_iff.1 hb with h3 | h3
      · rw [h2] at h3; cases h3
      · subst h3; exact absurd h1 hne⟩
  last := h.last_put hc ho hd hi hS hr hv
  fri := (h.fri.mono hs.le).put hd hvr
  rel := by rw [view_same hno]; exact hrel
  dom := by rw [view_same hno]; exact h.dom.step hs
  step := by rw [view_same hno]; exact h.step.trans hs
  new := fun n hn hSn hdm => by
    have hSn' : S n.op = false := by
      cases hb : S n.op with
      | false => rfl
      | true => rw [show upd S i n.op = true from upd_iff.2 (.inl hb)] at hSn; cases hSn
    rcases hs.dm _ hdm with h1 | h1
    · exact h.new n hn hSn' h1
    · omega
  lt := h.lt
  hid := h.hid
  nx := h.nx
  nid0 := h.nid0

/-- the effect whose turn it is. -/
theorem Inv.turn (h : c.Inv m0 H0 w0 S m fr p a w) (hc : c.Ok P X) {i : Nat} (hi : i < c.N) (hS : S i = false) (hr : ∀ k, (c.bf i).testBit k = true → S k = true) (he : c.isEff i) : p = i := by
  rcases Nat.lt_trichotomy p i with h1 | h1 | h1
  · rcases h.front with h2 | ⟨h2, h3⟩
    · omega
    · have := hr p (hc.eff_ord h1 hi h2 he)
      rw [this] at h3; cases h3
  · exact h1
  · have := h.effs i he h1
    rw [this] at hS; cases hS

/-- the state behind an effect. -/
theorem Inv.moved (h : c.Inv m0 H0 w0 S m fr p a w) (hc : c.Ok P X) {o : Oper} {ao : AOper} {v v' : Value} (ho : c.ops[p]? = some o) (hao : c.al[p]? = some ao) (hop : OpR P X c.nt c.ops o ao) (hbf : ao.bf = c.bf p) (hi : p < c.N) (hS : S p = false)
    (hr : ∀ k, (c.bf p).testBit k = true → S k = true) (he : c.isEff p) (hno : ∀ n ∈ (c.σ c.N).news, n.op ≠ p) (hv : ∀ t, o.dst = some t → v = tmp (c.σ (p + 1)).fr (pa t)) {m' : M} {w' : World} (hvr : VR m' v v')
    (hse : (c.σ (p + 1)).seen = (c.σ p).seen ||| ao.bf) (hL : ∀ n ∈ opened ao.bf (c.σ p).seen (c.σ p).news, n ∈ c.shown p S)
    (hs : Step m m' (lay (c.σ p).h (opened ao.bf (c.σ p).seen (c.σ p).news)) (c.σ (p + 1)).h w w') (hrel : Rel m' (c.σ (p + 1)).h w') (hdom : Dom m' (c.σ (p + 1)).h) :
    ∃ p', c.Inv m0 H0 w0 (upd S p) m' (putT fr ao.dst v) p' (a.put o.dst v') w' := by
  obtain ⟨p', hp1, hp2, hp3, hp4⟩ := c.next_eff (c.N - (p + 1)) (p + 1) (by omega)
  obtain ⟨e1, e2, _⟩ := hc.quiet_to (i := p + 1) (p' - (p + 1)) (by omega) (fun k hk hk' => hp3 k hk (by omega))
  rw [show p + 1 + (p' - (p + 1)) = p' by omega] at e1 e2
  have hnxi : (lay (c.σ p).h (opened ao.bf (c.σ p).seen (c.σ p).news)).nx = (c.σ p).h.nx := lay_nx _ _
  have hloi : (lay (c.σ p).h (opened ao.bf (c.σ p).seen (c.σ p).news)).lo = (c.σ p).h.lo := lay_lo _ _
  have hnxV : (c.view p S).nx = (c.σ p).h.nx := lay_nx _ _
  have hloV : (c.view p S).lo = (c.σ p).h.lo := lay_lo _ _
  have hsub := h.sub hc hL
  have hse' : ∀ k, (c.σ p').seen.testBit k = false → (c.σ p).seen.testBit k = false ∧ ao.bf.testBit k = false := by
    intro k hk
    rw [e2, hse, Nat.testBit_or, Bool.or_eq_false_iff] at hk
    exact hk
  have hidi : ∀ n ∈ (c.σ c.N).news, (c.σ p').seen.testBit n.op = false → ∀ b, (lay (c.σ p).h (opened ao.bf (c.σ p).seen (c.σ p).news)).get n.id = some b → b = .dead := by
    intro n hn hk b hb
    obtain ⟨k1, k2⟩ := hse' _ hk
    rcases lay_cases (opened ao.bf (c.σ p).seen (c.σ p).news) (c.σ p).h n.id with ⟨n', q1, q2, q3⟩ | ⟨q1, q2⟩
    · have hn' := (mem_shown.1 (hL n' q1)).1
      have := hc.inj_news hn' hn q2
      subst this
      unfold opened at q1
      rw [List.mem_filter, Bool.and_eq_true] at q1
      rw [k2] at q1
      cases q1.2.1
    · rw [q2] at hb; exact h.hid n hn k1 b hb
  have hshow : ∀ n ∈ c.shown p' (upd S p), n ∈ c.shown p S ∧ (c.σ p').seen.testBit n.op = false := by
    intro n hn
    obtain ⟨q1, q2, q3⟩ := mem_shown.1 hn
    refine ⟨mem_shown.2 ⟨q1, ?_, (hse' _ q3).1⟩, q3⟩
    rcases upd_iff.1 q2 with q | q
    · exact q
    · exact absurd q (hno n q1)
  have hnx2 : (c.view p' (upd S p)).nx = (c.σ (p + 1)).h.nx := by rw [view, lay_nx, e1]
  have hlo2 : (c.view p' (upd S p)).lo = (c.σ (p + 1)).h.lo := by rw [view, lay_lo, e1]
  have hnxs : (c.σ p).h.nx ≤ (c.σ (p + 1)).h.nx := by rw [← hnxi]; exact hs.nx
  obtain ⟨k1, k2, k3⟩ := frame_rule (V2 := c.view p' (upd S p)) h.rel hsub (by rw [hloi, hloV]) (by rw [hnxi, hnxV]) hs hrel hdom (by
      intro i b hi' hb
      rcases lay_cases (c.shown p' (upd S p)) (c.σ p').h i with ⟨n, q1, q2, q3⟩ | ⟨q1, q2⟩
      · rw [show (c.view p' (upd S p)) = lay (c.σ p').h (c.shown p' (upd S p)) from rfl, q3] at hi'
        cases hi'
        obtain ⟨r1, r2⟩ := hshow n q1
        subst q2
        exact .inr ⟨lay_mem hc.shown_inj r1 _, fun x hx => hidi n (mem_shown.1 r1).1 r2 x hx⟩
      · rw [show (c.view p' (upd S p)) = lay (c.σ p').h (c.shown p' (upd S p)) from rfl, q2, e1] at hi'
        exact .inl hi') hnx2 hlo2 (by
      intro i b hi'
      rw [hnx2]
      rcases lay_cases (c.shown p' (upd S p)) (c.σ p').h i with ⟨n, q1, q2, q3⟩ | ⟨q1, q2⟩
      · subst q2
        have := hc.id_lt (mem_shown.1 q1).1
        have := h.nx
        omega
      · rw [show (c.view p' (upd S p)) = lay (c.σ p').h (c.shown p' (upd S p)) from rfl, q2, e1] at hi'
        exact hrel.lt i b hi')
  refine ⟨p', ?_⟩
  exact {
    hp := hp2
    closed := fun j hj k hk => by
      rcases upd_iff.1 hj with hj | hj
      · exact upd_iff.2 (.inl (h.closed j hj k hk))
      · subst hj; exact upd_iff.2 (.inl (hr k hk))
    bound := fun j hj => by
      rcases upd_iff.1 hj with hj | hj
      · exact h.bound j hj
      · omega
    effs := fun k hk hlt => by
      rcases Nat.lt_trichotomy k p with q | q | q
      · exact upd_iff.2 (.inl (h.effs k hk q))
      · exact upd_iff.2 (.inr q)
      · exact absurd hk (hp3 k (by omega) hlt)
    front := by
      by_cases q : p' = c.N
      · exact .inl q
      · have hpe := hp4.resolve_left q
        refine .inr ⟨hpe, ?_⟩
        cases hb : upd S p p' with
        | false => rfl
        | true =>
          rcases upd_iff.1 hb with h3 | h3
          · have := h.closed p' h3 p (hc.eff_ord (by omega) (by omega) he hpe)
            rw [this] at hS; cases hS
          · omega
    last := h.last_put hc ho hop.dst hi hS hr hv
    fri := (h.fri.mono hs.le).put hop.dst hvr
    rel := k1
    dom := k2
    step := h.step.trans k3
    new := fun n hn hSn hdm => by
      have hSn' : S n.op = false := by
        cases hb : S n.op with
        | false => rfl
        | true => rw [show upd S p n.op = true from upd_iff.2 (.inl hb)] at hSn; cases hSn
      rcases hs.dm _ hdm with h1 | h1
      · exact h.new n hn hSn' h1
      · have := hc.id_lt hn
        have := h.nx
        omega
    lt := fun i b hb => by rw [e1] at hb ⊢; exact hrel.lt i b hb
    hid := fun n hn hk b hb => by
      rw [e1] at hb
      refine Classical.byContradiction fun hbd => ?_
      by_cases hSn : S n.op = true
      · have hmem : n ∈ c.shown p S := mem_shown.2 ⟨hn, hSn, (hse' _ hk).1⟩
        have hget : (c.view p S).get n.id = some n.blk := lay_mem hc.shown_inj hmem _
        obtain ⟨_, ⟨_, ao', vv, hh, r1, r2, r3, r4, r5, hnd⟩, _⟩ := (hc.news c.N (Nat.le_refl _)).1 n hn
        have hbk := hs.le.bk n.id (h.rel.dm _ _ hget hnd)
        rcases hs.org n.id b hb hbd with q | ⟨j, z, q1, q2, q3, q4⟩
        · have := h.rel.bk_lt hget hnd
          omega
        · have := h.rel.inj j n.id z n.blk (hsub j z q1 q2) hget q2 hnd (by rw [← q3, hbk])
          subst this
          exact q2 (hidi n hn hk z q1)
      · have hSn' : S n.op = false := by simpa using hSn
        have hdm := hrel.dm n.id b hb hbd
        rcases hs.dm _ hdm with h1 | h1
        · exact h.new n hn hSn' h1
        · have := hc.id_lt hn
          have := h.nx
          omega
    nx := by rw [e1]; have := h.nx; omega
    nid0 := h.nid0 }

end Cx

end Go.AX
/- The abstract executor 'AX', soundness (22): regions that draw: whole. -/
namespace Go.AX
variable {P : Program} {X : XT}

theorem aDo_loc {cf : CallF} {rf : RoundF} {o : AOper} {fr1 fr2 : Tr Value} {h : AH} {e : AEx} {st1 : St} (hl : o.run fr2 h = o.run fr1 h) (hr : aDo cf rf o { fr := fr1, df := [], h := h } = some (e, st1)) :
    ∃ st2, aDo cf rf o { fr := fr2, df := [], h := h } = some (e, st2) ∧ st2.h = st1.h ∧ (e = .normal → ∃ v, st1.fr = putT fr1 o.dst v ∧ st2.fr = putT fr2 o.dst v) := by
  unfold aDo at hr ⊢
  simp only at hr ⊢
  rw [hl]
  split at hr
  · cases hr; exact ⟨_, rfl, rfl, fun _ => ⟨_, rfl, rfl⟩⟩
  · cases hr; exact ⟨_, rfl, rfl, fun h => by cases h⟩
  · split at hr
    · cases hr; exact ⟨_, rfl, rfl, fun _ => ⟨_, rfl, rfl⟩⟩
    · cases hr; exact ⟨_, rfl, rfl, fun h => by cases h⟩
    · cases hr
  · split at hr
    · cases hr; exact ⟨_, rfl, rfl, fun _ => ⟨_, rfl, rfl⟩⟩
    · cases hr; exact ⟨_, rfl, rfl, fun h => by cases h⟩
    · cases hr
  · cases hr

namespace Cx
variable {c : Cx} {m0 m : M} {H0 : AH} {w0 w : World} {S : Nat → Bool} {fr : Tr Value} {p : Nat} {a : Act}

/-- a block is laid. -/
theorem Inv.laid (h : c.Inv m0 H0 w0 S m fr p a w) (hc : c.Ok P X) {i : Nat} {o : Oper} {d : Option Pa} {v v' : Value} (ho : c.ops[i]? = some o) (hd : dstOf c.nt o.dst = some d) (hi : i < c.N) (hS : S i = false)
    (hr : ∀ k, (c.bf i).testBit k = true → S k = true) (hne : ¬ c.isEff i) {n0 : New} (hn0 : n0 ∈ (c.σ c.N).news) (hop0 : n0.op = i) (hv : ∀ t, o.dst = some t → v = tmp (c.σ (i + 1)).fr (pa t)) {m' : M} {w' : World} (hvr : VR m' v v')
    (hrel : Rel m' (AH.push ⟨.e, n0.id, 0⟩ n0.blk) w') (hs : Step m m' ⟨.e, n0.id, 0⟩ (AH.push ⟨.e, n0.id, 0⟩ n0.blk) w w') : c.Inv m0 H0 w0 (upd S i) m' (putT fr d v) p (a.put o.dst v') w' := by
  have hSn0 : S n0.op = false := by rw [hop0]; exact hS
  have hnx : (c.view p S).nx = (c.σ p).h.nx := lay_nx _ _
  have hlt := hc.id_lt hn0
  have hge := hc.id_ge hn0
  have h0 := h.nx
  have h00 := h.nid0
  have hseen : (c.σ p).seen.testBit n0.op = false := by
    cases hb : (c.σ p).seen.testBit n0.op with
    | false => rfl
    | true => rw [h.seen_S hc hb] at hSn0; cases hSn0
  have hmem0 : n0 ∈ c.shown p (upd S i) := mem_shown.2 ⟨hn0, upd_iff.2 (.inr hop0), hseen⟩
  have hup : ∀ n ∈ c.shown p S, n ∈ c.shown p (upd S i) := fun n hn => by
    obtain ⟨q1, q2, q3⟩ := mem_shown.1 hn
    exact mem_shown.2 ⟨q1, upd_iff.2 (.inl q2), q3⟩
  have hdown : ∀ n ∈ c.shown p (upd S i), n.id ≠ n0.id → n ∈ c.shown p S := fun n hn hne' => by
    obtain ⟨q1, q2, q3⟩ := mem_shown.1 hn
    rcases upd_iff.1 q2 with q | q
    · exact mem_shown.2 ⟨q1, q, q3⟩
    · have e1 := ((hc.news c.N (Nat.le_refl _)).1 n q1).2.1.id
      have e2 := ((hc.news c.N (Nat.le_refl _)).1 n0 hn0).2.1.id
      rw [q] at e1
      rw [hop0] at e2
      exact absurd (e1.trans e2.symm) hne'
  obtain ⟨k1, k2, k3⟩ := alloc_rule (V2 := c.view p (upd S i)) h.rel h.dom (by rw [hnx]; omega) (by omega) (h.new n0 hn0 hSn0) h.step hrel hs (by
      intro j hj
      unfold view
      rcases lay_cases (c.shown p (upd S i)) (c.σ p).h j with ⟨n, q1, q2, q3⟩ | ⟨q1, q2⟩
      · rw [q3]
        subst q2
        exact (lay_mem hc.shown_inj (hdown n q1 hj) _).symm
      · rw [q2]
        rcases lay_cases (c.shown p S) (c.σ p).h j with ⟨n, r1, r2, r3⟩ | ⟨r1, r2⟩
        · exact absurd r2 (q1 n (hup n r1))
        · exact r2.symm) (lay_mem hc.shown_inj hmem0 _) (by unfold view; rw [lay_nx, lay_nx]) (by unfold view; rw [lay_lo, lay_lo])
  exact {
    hp := h.hp
    closed := fun j hj k hk => by
      rcases upd_iff.1 hj with hj | hj
      · exact upd_iff.2 (.inl (h.closed j hj k hk))
      · subst hj; exact upd_iff.2 (.inl (hr k hk))
    bound := fun j hj => by
      rcases upd_iff.1 hj with hj | hj
      · exact h.bound j hj
      · omega
    effs := fun k hk hlt => upd_iff.2 (.inl (h.effs k hk hlt))
    front := h.front.imp id fun ⟨h1, h2⟩ => ⟨h1, by
      cases hb : upd S i p with
      | false => rfl
      | true =>
        rcases upd_iff.1 hb with h3 | h3
        · rw [h2] at h3; cases h3
        · subst h3; exact absurd h1 hne⟩
    last := h.last_put hc ho hd hi hS hr hv
    fri := (h.fri.mono hs.le).put hd hvr
    rel := k1
    dom := k2
    step := k3
    new := fun n hn hSn hdm => by
      have hSn' : S n.op = false := by
        cases hb : S n.op with
        | false => rfl
        | true => rw [show upd S i n.op = true from upd_iff.2 (.inl hb)] at hSn; cases hSn
      rcases hs.dm _ hdm with h1 | h1
      · exact h.new n hn hSn' h1
      · rw [AH.nx_push] at h1
        have : n.id = n0.id := by have := h1.1; have := h1.2; simp only at *; omega
        have := hc.inj_news hn hn0 this
        subst this
        rw [show upd S i n.op = true from upd_iff.2 (.inr hop0)] at hSn; cases hSn
    lt := h.lt
    hid := h.hid
    nx := h.nx
    nid0 := h.nid0 }

theorem Inv.op (h : c.Inv m0 H0 w0 S m fr p a w) (hc : c.Ok P X) {F : Fence} (hF : WF F) (hX : XOk P X) (hro : readsOk c.al (c.σ c.N) = true) (hcf : CfOk P m0 c.cf) (hrf : RfOk P m0 c.rf) {i : Nat} (hi : i < c.N) (hS : S i = false)
    (hr : ∀ k, (c.bf i).testBit k = true → S k = true) {K : Act → World → Prop} {Q : Exit → Act → World → Prop}
    (hK : ∀ m' fr' p' a' w', c.Inv m0 H0 w0 (upd S i) m' fr' p' a' w' → a'.defers = a.defers → K a' w') : wpOpIn F 0 P c.ops Q i K a w := by
  obtain ⟨o, ao, ho, hao, hop, hbf, hw⟩ := hc.went hi
  obtain ⟨⟨hwt, hkt⟩, hu⟩ := h.agree hc ho hop (.inl hi) hS hr
  unfold wpOpIn
  simp only [ho]
  have hkn : want fr ao.guard = true ∨ known fr ao.guard = true := by
    rw [hwt, hkt]
    cases hw with
    | not hw hkn hσ => exact .inr hkn
    | pure hw => exact .inl hw
    | new hw => exact .inl hw
    | read hw => exact .inl hw
    | eff hw => exact .inl hw
  rw [want_eq h.fri hop hkn, hwt]
  have NE : ∀ (k : OpKind), ao.kind = k → k ≠ .eff → ¬ c.isEff i := by
    intro k hk hne ⟨ao', r1, r2, r3⟩
    rw [hao] at r1; cases r1
    rw [hk] at r3; exact hne r3
  have NN : ∀ (k : OpKind), ao.kind = k → k ≠ .new → ∀ n ∈ (c.σ c.N).news, n.op ≠ i := by
    intro k hk hne
    refine hc.no_news hi fun ao' r1 r2 => ?_
    rw [hao] at r1; cases r1
    rw [hk]; exact hne
  cases hw with
  | not hw _ hσ =>
    rw [hw, if_neg (by simp)]
    refine ⟨fun f _ => hF.fn f, ?_⟩
    have hne : ¬ c.isEff i := fun ⟨ao', r1, r2, r3⟩ => by rw [hao] at r1; cases r1; rw [hw] at r2; cases r2
    have hno : ∀ n ∈ (c.σ c.N).news, n.op ≠ i := hc.no_news hi fun ao' r1 r2 => by rw [hao] at r1; cases r1; rw [hw] at r2; cases r2
    exact hK _ _ _ _ _ (h.still hc ho hop.dst hi hS hr hne hno (v := undef) (fun t e => by rw [hσ]; exact (putT_own hop.dst e).symm) (VR.of_clo m 1 _ rfl) h.rel .refl) (put_defers _ _ _)
  | pure hw hk v hh hrun hσ =>
    rw [hw, if_pos rfl]
    have hrun' : ao.run fr ⟨.e, 0, 0⟩ = some (.val v hh) := by rw [hu.loc]; exact hrun
    have hV := (hu.pure hk _ _ _ hrun').2 (c.view p S)
    refine good_val_wp hF hop (op_sound hX hop.prep h.fri.rel h.rel hV (fun j h1 h2 => by simp only [ANext.heap] at h2; omega)) fun m' v' w' hvr hrel hs => ?_
    exact hK _ _ _ _ _ (h.still hc ho hop.dst hi hS hr (NE _ hk (by simp)) (NN _ hk (by simp)) (fun t e => by rw [hσ]; exact (putT_own hop.dst e).symm) hvr hrel hs) (put_defers _ _ _)
  | new hw hk v h1 b hrun hb hbd hσ =>
    rw [hw, if_pos rfl]
    have hn0 : (⟨i, (c.σ i).nid, b⟩ : New) ∈ (c.σ c.N).news := (hc.news c.N (Nat.le_refl _)).2.1 _ ⟨rfl, ao, v, h1, hao, hw, hk, hrun, hb, hbd⟩ hi
    have hrun' : ao.run fr ⟨.e, (c.σ i).nid, 0⟩ = some (.val v h1) := by rw [hu.loc]; exact hrun
    obtain ⟨b', hb'⟩ := hu.new hk _ _ _ hrun'
    have hbb : b' = b := by
      rw [hb'] at hb
      rw [AH.get_push_same ⟨.e, (c.σ i).nid, 0⟩ b'] at hb
      exact Option.some.inj hb
    subst hbb
    subst hb'
    refine good_val_wp hF hop (op_sound hX hop.prep h.fri.rel (Rel.empty m w (c.σ i).nid 0) hrun' (fun j h2 h3 hd => ?_)) fun m' v' w' hvr hrel hs => ?_
    · simp only [ANext.heap, AH.nx_push] at h2 h3
      have : j = (c.σ i).nid := by omega
      subst this
      exact h.new _ hn0 hS hd
    · exact hK _ _ _ _ _ (h.laid hc ho hop.dst hi hS hr (NE _ hk (by simp)) hn0 rfl (fun t e => by rw [hσ]; exact (putT_own hop.dst e).symm) hvr hrel hs) (put_defers _ _ _)
  | read hw hk v hh hrun hσ =>
    rw [hw, if_pos rfl]
    obtain ⟨v1, hh1, hmem, hfr1, hrun1⟩ := hc.reads c.N (Nat.le_refl _) i hi ao hao hw hk
    have hhr : ∃ L hh2, (∀ n ∈ L, n ∈ c.shown p S) ∧ ao.run (c.σ i).fr (lay (c.σ p).h L) = some (.val v1 hh2) := by
      by_cases hne : (c.σ c.N).chain = []
      · have noeff : ∀ k, k < c.N → ¬ c.isEff k := fun k hk' he => by
          have := (hc.chain_mem c.N (Nat.le_refl _)).2.1 k hk' he
          rw [hne] at this; cases this
        have hpN : p = c.N := by
          rcases h.front with q | ⟨q, _⟩
          · exact q
          · by_cases e : p = c.N
            · exact e
            · exact absurd q (noeff p (by have := h.hp; omega))
        obtain ⟨e1, e2, _⟩ := hc.quiet_to (i := i) (c.N - i) (by omega) (fun k _ hk' => noeff k (by omega))
        rw [show i + (c.N - i) = c.N by omega] at e1 e2
        refine ⟨opened ao.bf (c.σ i).seen (c.σ i).news, hh1, fun n hn => ?_, by rw [hpN, e1]; exact hrun1⟩
        unfold opened at hn
        rw [List.mem_filter, Bool.and_eq_true, Bool.not_eq_true'] at hn
        obtain ⟨q1, q2, q3⟩ := hn
        obtain ⟨r1, r2, r3⟩ := (hc.news i (by omega)).1 n q1
        exact mem_shown.2 ⟨(hc.news c.N (Nat.le_refl _)).2.1 n r2 (by omega), hr _ (by rw [← hbf]; exact q2), by rw [hpN, e2]; exact q3⟩
      · obtain ⟨hh2, hrun2⟩ := hc.read_ok hro hmem h.hp (h.front.imp id fun x => x.1) hne (fun k hkN hke hpk => by
            cases hb : ao.bf.testBit k with
            | false => rfl
            | true =>
              rw [hbf] at hb
              have hSk := hr k hb
              rcases h.front with q | ⟨q1, q2⟩
              · omega
              · rcases Nat.lt_or_ge p k with q3 | q3
                · have := h.closed k hSk p (hc.eff_ord q3 hkN q1 hke)
                  rw [this] at q2; cases q2
                · have : k = p := by omega
                  subst this
                  rw [hSk] at q2; cases q2) (fun k hke hkp => by
            cases hb : (bfAt c.al k).testBit i with
            | false => rfl
            | true =>
              have hSk := h.effs k hke hkp
              have hkN : k < c.N := h.bound k hSk
              obtain ⟨o', ao', s1, s2, s3, s4, _⟩ := hc.went hkN
              simp only [bfAt, s2] at hb
              rw [s4] at hb
              have := h.closed k hSk i hb
              rw [this] at hS; cases hS)
        refine ⟨_, hh2, fun n hn => ?_, hrun2⟩
        unfold opened at hn
        rw [List.mem_filter, Bool.and_eq_true, Bool.not_eq_true'] at hn
        obtain ⟨q1, q2, q3⟩ := hn
        exact mem_shown.2 ⟨q1, hr _ (by rw [← hbf]; exact q2), q3⟩
    obtain ⟨L, hh2, hL, hrun2⟩ := hhr
    have hrun3 : ao.run fr (lay (c.σ p).h L) = some (.val v1 hh2) := by rw [hu.loc]; exact hrun2
    have := hu.read hk _ _ _ hrun3
    subst this
    have hsub := h.sub hc hL
    have hltL := h.lay_lt hc (L := L) fun n hn => (mem_shown.1 (hL n hn)).1
    refine good_val_wp hF hop (op_sound hX hop.prep h.fri.rel (h.rel.sub hsub hltL) hrun3 (fun j h1 h2 => by simp only [ANext.heap] at h2; omega)) fun m' v' w' hvr hrel hs => ?_
    have hnx : (lay (c.σ p).h L).nx = (c.view p S).nx := by unfold view; rw [lay_nx, lay_nx]
    have hlo : (lay (c.σ p).h L).lo = (c.view p S).lo := by unfold view; rw [lay_lo, lay_lo]
    have hdm : Dom m' (lay (c.σ p).h L) := fun j hj => by
      rcases hs.dm j hj with q | q
      · rw [hnx]; exact h.dom j q
      · exact q.2
    obtain ⟨k1, k2, k3⟩ := frame_rule (V2 := c.view p S) h.rel hsub hlo hnx hs hrel hdm (fun j b hj hb => by
      cases hg : (lay (c.σ p).h L).get j with
      | none => exact .inr ⟨hj, fun x hx => by cases hx⟩
      | some x =>
        by_cases hx : x = .dead
        · exact .inr ⟨hj, fun y hy => by cases hy; exact hx⟩
        · have := hsub j x hg hx
          rw [hj] at this; cases this
          exact .inl rfl) hnx.symm hlo.symm (fun j b hj => h.rel.lt j b hj)
    exact hK _ _ _ _ _ (h.still hc ho hop.dst hi hS hr (NE _ hk (by simp)) (NN _ hk (by simp)) (fun t e => by rw [hfr1]; exact (putT_own hop.dst e).symm) hvr k1 k3) (put_defers _ _ _)
  | eff hw hk hcn st hrun hσ =>
    rw [hw, if_pos rfl]
    have he : c.isEff i := ⟨ao, hao, hw, hk⟩
    have hpi := h.turn hc hi hS hr he
    subst hpi
    have hL : ∀ n ∈ opened ao.bf (c.σ p).seen (c.σ p).news, n ∈ c.shown p S := fun n hn => by
      unfold opened at hn
      rw [List.mem_filter, Bool.and_eq_true, Bool.not_eq_true'] at hn
      obtain ⟨q1, q2, q3⟩ := hn
      obtain ⟨r1, r2, r3⟩ := (hc.news p (by omega)).1 n q1
      exact mem_shown.2 ⟨(hc.news c.N (Nat.le_refl _)).2.1 n r2 (by omega), hr _ (by rw [← hbf]; exact q2), q3⟩
    obtain ⟨st2, hdo, hh, hfr⟩ := aDo_loc (fr2 := fr) (hu.loc _) hrun
    obtain ⟨v0, hv1, hv2⟩ := hfr rfl
    have hsub := h.sub hc hL
    have hltL := h.lay_lt hc (L := opened ao.bf (c.σ p).seen (c.σ p).news) fun n hn => (mem_shown.1 (hL n hn)).1
    have hnx : (lay (c.σ p).h (opened ao.bf (c.σ p).seen (c.σ p).news)).nx = (c.view p S).nx := by unfold view; rw [lay_nx, lay_nx]
    have hσh : (c.σ (p + 1)).h = st2.h := by rw [hσ, hh]
    refine (do_sound hF hX hop (st := { fr := fr, df := [], h := lay (c.σ p).h (opened ao.bf (c.σ p).seen (c.σ p).news) }) h.fri (h.rel.sub hsub hltL) (fun j hj => by simp only; rw [hnx]; exact h.dom j hj) (hcf.mono h.step.le) (hrf.mono h.step.le) hdo ?_ ?_).1
    · intro m' v v' w' _ hfr' hvr hs hrel hdom
      have hvv : ∀ t, o.dst = some t → v = tmp (c.σ (p + 1)).fr (pa t) := fun t e => by
        have e1 : tmp st2.fr (pa t) = v := by rw [hfr']; exact putT_own hop.dst e
        have e2 : tmp st2.fr (pa t) = v0 := by rw [hv2]; exact putT_own hop.dst e
        have e3 : tmp (c.σ (p + 1)).fr (pa t) = v0 := by rw [hσ]; simp only; rw [hv1]; exact putT_own hop.dst e
        rw [e3, ← e2, e1]
      obtain ⟨p', hinv⟩ := h.moved hc ho hao hop hbf hi hS hr he (NN _ hk (by simp)) hvv hvr (by rw [hσ]) hL (by rw [hσh]; exact hs) (by rw [hσh]; exact hrel) (by rw [hσh]; exact hdom)
      exact hK _ _ _ _ _ hinv (put_defers _ _ _)
    · intro m' ch w' e; cases e

end Cx

end Go.AX
