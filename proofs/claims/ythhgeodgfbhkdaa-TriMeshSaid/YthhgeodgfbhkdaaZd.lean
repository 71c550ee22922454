/- Fill's results as lists that can be read. -/
import Derived.Test.YthhgeodgfbhkdaaZb
import Derived.Test.YthhgeodgfbhkdaaYd
set_option linter.unusedVariables false
set_option linter.unusedSimpArgs false
set_option linter.unusedSectionVars false
namespace Go.AX.Tri
open Go.Proofs Go.AX.Mc
set_option linter.unusedSimpArgs false
set_option linter.unusedVariables false
noncomputable section

theorem c15' {env : List Lp} (a b c : Wn) (px py pw ph : Int) {H : AH} (hlo : H.lo ≤ H.nx) (ha : WnAt H a) (hb : WnAt H b) (hc : WnAt H c) (Q : AEnd → AH → Prop)
    (hQ : ∀ h hd, Ext H h → FL H.nx h hd (fillL a b c px py pw ph) → Q (.ret (.tuple #[hd, .int .i64 (fillE a b c px py pw ph)])) h) :
    C T env 15 [a.v, b.v, c.v, .agg [.int .i64 px, .int .i64 py, .int .i64 pw, .int .i64 ph].toArray] H Q := by
  refine c15 a b c px py pw ph hlo ha hb hc Q (fun h => ?_) (fun h k => ?_) fun h k h' hd e l => ?_
  · have := hQ H (.slice none 0 0) (Ext.refl H) (.inl ⟨by unfold fillL; rw [h]; rfl, rfl⟩)
    unfold fillE at this; rw [h] at this; exact this
  · have := hQ H (.slice none 0 0) (Ext.refl H) (.inl ⟨by unfold fillL; rw [h, k]; rfl, rfl⟩)
    unfold fillE at this; rw [h, k] at this; exact this
  · have := hQ h' hd e (by unfold fillL; rw [h, k]; exact l)
    unfold fillE at this; rw [h, k] at this; exact this

theorem fillL_len (a b c : Wn) (px py pw ph : Int) : (fillL a b c px py pw ph).length ≤ 4096 := by
  unfold fillL
  cases badL [a, b, c]
  · cases hb : boxF px py pw ph
    · simp
    · simp only [cond_true, cond_false]
      unfold boxF at hb
      rw [Bool.and_eq_true] at hb
      obtain ⟨_, h1, h2⟩ := in1_spec hb.1
      obtain ⟨_, h3, h4⟩ := in1_spec hb.2
      unfold fragsF
      refine Nat.le_trans (List.length_filterMap_le _ _) ?_
      unfold cellsL
      rw [rowsL_length]
      exact Nat.le_trans (Nat.mul_le_mul (show ph.toNat ≤ 64 by omega) (show pw.toNat ≤ 64 by omega)) (by omega)
  · simp
theorem fillL_vs (a b c : Wn) (px py pw ph : Int) : ∀ g ∈ fillL a b c px py pw ph, g.vs.length = a.l ∧ a.l ≤ 4 := by
  intro g hg
  unfold fillL at hg
  cases hbad : badL [a, b, c]
  · obtain ⟨ha, hb, hc, lb, lc⟩ := bad3 hbad
    rw [hbad] at hg
    cases hb : boxF px py pw ph
    · rw [hb] at hg; simp at hg
    · rw [hb] at hg
      simp only [cond_true, cond_false] at hg
      unfold fragsF at hg
      obtain ⟨p, _, hp⟩ := List.mem_filterMap.1 hg
      rw [fragF_eq] at hp
      have e : (turnF a b c).a.l = a.l := by
        rcases turn_mem (a := a) (b := b) (c := c) _ (.inl rfl) with h | h | h <;> rw [h] <;> omega
      cases hc : covF (turnF a b c) p.1 p.2
      · rw [hc] at hp; cases hp
      · rw [hc] at hp
        cases hp
        refine ⟨?_, ha.l4⟩
        show (vsF _ _ _ _ _).length = _
        unfold vsF
        rw [List.length_map, List.length_range, e]
  · rw [hbad] at hg; simp at hg

def Fd.g (d : Fd) : Fg := ⟨d.x, d.y, d.z, d.iw, d.fr, d.vs⟩
theorem fd_drop : ∀ (ds : List Fd) (k : Nat) (d : Fd), ds[k]? = some d → ((ds.flatMap Fd.cs).drop (k * 10)).take 10 = d.cs
  | [], k, v, h => by simp at h
  | w :: vs, 0, v, h => by cases h; rfl
  | w :: vs, k + 1, v, h => by
    rw [List.flatMap_cons, show (k + 1) * 10 = w.cs.length + k * 10 by simp only [Fd.cs, List.length_cons, List.length_nil]; omega, List.drop_append]
    simp only [List.drop_eq_nil_of_le (show w.cs.length ≤ w.cs.length + k * 10 by omega), List.nil_append, Nat.add_sub_cancel_left]
    exact fd_drop vs k v h
theorem fd_length (ds : List Fd) : (ds.flatMap Fd.cs).length = ds.length * 10 := by
  induction ds with
  | nil => rfl
  | cons v l ih => rw [List.flatMap_cons, List.length_append, ih]; simp only [Fd.cs, List.length_cons, List.length_nil]; omega

theorem fgs_fds {N : Nat} {h : AH} : ∀ {l : List Fg} {cs : List Value}, FgsAt N h l cs → (∀ g ∈ l, g.vs.length < 9223372036854775808) → ∃ ds : List Fd, ds.map Fd.g = l ∧ (∀ d ∈ ds, d.pt = ⟨0, 0, 0, 0⟩ ∧ FdAt h d) ∧ cs = ds.flatMap Fd.cs
  | [], cs, hl, _ => by cases (show cs = [] from hl); exact ⟨[], rfl, by simp, rfl⟩
  | g :: l, cs, ⟨c, r, e, hg, hr⟩, hs => by
    obtain ⟨ds, h1, h2, h3⟩ := fgs_fds hr fun g hg => hs g (List.mem_cons_of_mem _ hg)
    obtain ⟨hd, ec, hv⟩ := hg
    have : ∃ d : Fd, d.g = g ∧ d.pt = ⟨0, 0, 0, 0⟩ ∧ FdAt h d ∧ c = d.cs := by
      have hsz := hs g (List.mem_cons_self ..)
      rcases hv with ⟨e0, rfl⟩ | ⟨e0, b, hb, hn, hget, rfl⟩
      · refine ⟨⟨g.x, g.y, g.z, g.iw, g.fr, ⟨0, 0, 0, 0⟩, none, 0, sl_none, g.vs⟩, rfl, rfl, ⟨by rw [e0]; intro k v hk; simp at hk, hsz⟩, ?_⟩
        rw [ec]; unfold frV Fd.cs; rw [e0]; rfl
      · refine ⟨⟨g.x, g.y, g.z, g.iw, g.fr, ⟨0, 0, 0, 0⟩, some ⟨b, 0, some 0⟩, g.vs.length, sl_r _ _, g.vs⟩, rfl, rfl, ⟨vec_new (.inr rfl) hget hn, hsz⟩, ?_⟩
        rw [ec]; rfl
    obtain ⟨d, k1, k2, k3, k4⟩ := this
    refine ⟨d :: ds, by rw [List.map_cons, k1, h1], ?_, by rw [e, h3, k4]; rfl⟩
    intro x hx
    rcases List.mem_cons.1 hx with rfl | hx
    · exact ⟨k2, k3⟩
    · exact h2 x hx

theorem FL.fds {N : Nat} {h : AH} {hd : Value} {l : List Fg} (hl : FL N h hd l) (hs : ∀ g ∈ l, g.vs.length < 9223372036854775808) :
    ∃ a c ds, hd = .slice a (List.length ds) c ∧ Sl a ∧ FdsAt h a ds ∧ ds.map Fd.g = l ∧ ∀ d ∈ ds, d.pt = ⟨0, 0, 0, 0⟩ := by
  rcases hl with ⟨e0, rfl⟩ | ⟨_, b, cs, hb, hn, hget, hf, rfl⟩
  · exact ⟨none, 0, [], rfl, sl_none, fun i d hi => by simp at hi, by rw [e0]; rfl, by simp⟩
  · obtain ⟨ds, h1, h2, h3⟩ := fgs_fds hf hs
    refine ⟨some ⟨b, 0, some 0⟩, l.length, ds, by rw [← h1, List.length_map], sl_r _ _, ?_, h1, fun d hd => (h2 d hd).1⟩
    intro i d hi
    refine ⟨(h2 d (List.mem_of_getElem? hi)).2, b, 0, some 0, rfl, .inr rfl, hn, ?_⟩
    rw [rd_rdB, hget, h3, rdB_cells, fd_length, if_pos (by have := (List.getElem?_eq_some_iff.1 hi).1; omega), Nat.zero_add, fd_drop ds i d hi]
theorem eqD_g {d e : Fd} (h : d.g = e.g) (p : d.pt = ⟨0, 0, 0, 0⟩) (q : e.pt = ⟨0, 0, 0, 0⟩) : eqD d e = true := by
  unfold Fd.g at h
  simp only [Fg.mk.injEq] at h
  obtain ⟨h1, h2, h3, h4, h5, h6⟩ := h
  simp [eqD, h1, h2, h3, h4, h5, h6, p, q, eqV_refl, eqL_refl eqV_refl]
theorem eqDs_g {ds es : List Fd} (h : ds.map Fd.g = es.map Fd.g) (p : ∀ d ∈ ds, d.pt = ⟨0, 0, 0, 0⟩) (q : ∀ d ∈ es, d.pt = ⟨0, 0, 0, 0⟩) : eqDs ds es = true := by
  refine eqL_true ?_ fun i a b ha hb => eqD_g ?_ (p a (List.mem_of_getElem? ha)) (q b (List.mem_of_getElem? hb))
  · have := congrArg List.length h; simpa using this
  · have := congrArg (fun l => l[i]?) h
    simp only [List.getElem?_map, ha, hb, Option.map_some, Option.some.injEq] at this
    exact this
end
end Go.AX.Tri
