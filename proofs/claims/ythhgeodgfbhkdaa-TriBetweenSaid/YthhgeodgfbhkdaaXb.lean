/- What comes in: vectors, corners, lists of corners, read as data. -/
import Derived.Test.YthhgeodgfbhkdaaWr
import Derived.Test.YthhgeodgfbhkdaaAxRf
import Derived.OpenShut
set_option linter.unusedVariables false
set_option linter.unusedSimpArgs false
set_option linter.unusedSectionVars false
namespace Go.AX.Tri
open Go Go.Proofs Go.AX Go.AX.Mc
set_option linter.unusedSimpArgs false
set_option linter.unusedVariables false
noncomputable section

theorem cells30 : Try.prog.cellsOf 30 = 6 := by kernel_rfl
theorem cells3 : Try.prog.cellsOf 3 = 1 := by kernel_rfl
theorem cells27 : Try.prog.cellsOf 27 = 1 := by kernel_rfl
theorem cells28 : Try.prog.cellsOf 28 = 1 := by kernel_rfl
theorem cells40 : Try.prog.cellsOf 40 = 4 := by kernel_rfl
theorem laidOut : laidOutB Try.prog = true := by kernel_rfl
theorem own : ownKnob Try.prog.godebug = none := by kernel_rfl

section
variable {H : Type} {enc : TypeId × Value → H} {W : World} {spare : Nat → Bool} {held : Bool}

theorem list4 {α : Type} : ∀ {l : List α}, l.length = 4 → ∃ a b c d, l = [a, b, c, d]
  | [_, _, _, _], _ => ⟨_, _, _, _, rfl⟩
theorem list6 {α : Type} : ∀ {l : List α}, l.length = 6 → ∃ a b c d e f, l = [a, b, c, d, e, f]
  | [_, _, _, _, _, _], _ => ⟨_, _, _, _, _, _, rfl⟩
theorem wf32 {n : Int} (h : (Lit.int .i32 n).wf = true) : -2147483648 ≤ n ∧ n < 2147483648 := by
  simp [Lit.wf, IntKind.min, IntKind.max, IntKind.signed, IntKind.bits] at h; omega

/-- cells of a world, as they stand in its heap. -/
theorem rd_cells {a : Addr} {n : Nat} {cs : List Value} (h : W.cells? 0 a n = some cs) (hn : 0 < n) (ha : a.spot = none) : rd (emb W) a.block a.off n = some (cs.map (absV W.heap.size)) ∧ cs.length = n ∧ a.block < W.heap.size := by
  have hb := World.cells?_block h hn
  obtain ⟨_, hl, hc⟩ := World.cells?_some h
  have := emb_rd (W := W) (b := a.block) (o := a.off) (l := cs) (fun j v hj => by
    have hj' : j < n := by have := (List.getElem?_eq_some_iff.1 hj).1; omega
    have := hc j hj'
    rw [hj] at this
    rw [← this]
    obtain ⟨b, o, s⟩ := a
    simp only at ha
    subst ha
    congr 1
    unfold Addr.add
    by_cases e : j = 0
    · subst e; rfl
    · rw [if_neg e]) hb (by intro e; rw [e] at hl; simp at hl; omega)
  rw [hl] at this
  exact ⟨this, hl, hb⟩

/-- element i of a slice stands there, so its address is plain. -/
theorem cells_elem {b o : Nat} {s : Option Nat} {n z i : Nat} {cs : List Value} (hz : 0 < z) (h0 : ∃ c0, W.cells? 0 ((⟨b, o, s⟩ : Addr).add (0 * z)) z = some c0) (h : W.cells? 0 ((⟨b, o, s⟩ : Addr).add (i * z)) z = some cs) :
    s = none ∧ b < W.heap.size ∧ cs.length = z ∧ rd (emb W) b (o + i * z) z = some (cs.map (absV W.heap.size)) := by
  obtain ⟨c0, h0⟩ := h0
  have hs : s = none := by
    obtain ⟨_, hl, hc⟩ := World.cells?_some h0
    have := hc 0 hz
    rw [List.getElem?_eq_getElem (by omega)] at this
    rw [Nat.zero_mul] at this
    unfold Addr.add at this
    simp only [if_true] at this
    unfold World.cell? at this
    cases s with
    | none => rfl
    | some s => split at this <;> simp at this
  subst hs
  have e : (⟨b, o, none⟩ : Addr).add (i * z) = ⟨b, o + i * z, none⟩ := add_none b o (i * z)
  rw [e] at h
  obtain ⟨h1, h2, h3⟩ := rd_cells h hz rfl
  exact ⟨rfl, h3, h2, h1⟩

theorem open_vec4 {fuel : Nat} {cs : List Value} {x : DataW H × List MemPlace} (h : DataW.trod enc Try.prog W 0 spare held fuel 40 cs = some x) : ∃ v : V4, cs = v.cs ∧ ∀ n, -2147483648 ≤ v.at n ∧ v.at n < 2147483648 := by
  obtain ⟨xs, m, _, _, hl, _, hx⟩ := DataW.trod_array Try.underlying40 h
  rw [cells40] at hl
  obtain ⟨c0, c1, c2, c3, rfl⟩ := list4 hl
  · have F : ∀ i, i < 4 → ∃ y, DataW.trod enc Try.prog W 0 spare held m 27 (([c0, c1, c2, c3].drop (i * Try.prog.cellsOf 27)).take (Try.prog.cellsOf 27)) = some y := by
      intro i hi
      have := hx i hi
      rw [this]
      exact ⟨_, List.getElem?_eq_getElem (by omega)⟩
    obtain ⟨y0, h0⟩ := F 0 (by omega)
    obtain ⟨y1, h1⟩ := F 1 (by omega)
    obtain ⟨y2, h2⟩ := F 2 (by omega)
    obtain ⟨y3, h3⟩ := F 3 (by omega)
    rw [cells27] at h0 h1 h2 h3
    obtain ⟨n0, e0, _, w0⟩ := DataW.trod_int Try.underlying27 h0
    obtain ⟨n1, e1, _, w1⟩ := DataW.trod_int Try.underlying27 h1
    obtain ⟨n2, e2, _, w2⟩ := DataW.trod_int Try.underlying27 h2
    obtain ⟨n3, e3, _, w3⟩ := DataW.trod_int Try.underlying27 h3
    simp at e0 e1 e2 e3
    refine ⟨⟨n0, n1, n2, n3⟩, by rw [e0, e1, e2, e3]; rfl, ?_⟩
    intro n
    have := wf32 w0
    have := wf32 w1
    have := wf32 w2
    have := wf32 w3
    match n with
    | 0 => assumption
    | 1 => assumption
    | 2 => assumption
    | n + 3 => assumption
theorem v4_abs (N : Nat) (v : V4) : v.cs.map (absV N) = v.cs := rfl

/-- a slice of vectors. -/
theorem open_vecs {fuel : Nat} {v : Value} {x : DataW H × List MemPlace} (h : DataW.trod enc Try.prog W 0 spare held fuel 28 [v] = some x) :
    ∃ a l c vs, absV W.heap.size v = .slice a l c ∧ Sl a ∧ l = List.length vs ∧ VecAt (emb W) a vs ∧ (∀ v ∈ vs, ∀ n, -2147483648 ≤ V4.at v n ∧ V4.at v n < 2147483648) ∧ (∀ b o l c, v = .slice (some ⟨b, o, none⟩) l c → b < W.heap.size → absV W.heap.size v = v) := by
  have T : ∀ b o l c, v = .slice (some ⟨b, o, none⟩) l c → b < W.heap.size → absV W.heap.size v = v := by
    rintro b o l c rfl hb; exact absV_slice hb
  rcases DataW.trod_slice Try.underlying28 h with ⟨e, _⟩ | ⟨a, len, cap, elems, rest, n, _, e, _, _, hle, _, hlen, he, _, _⟩
  · cases e
    exact ⟨none, 0, 0, [], rfl, sl_none, rfl, fun k v hk => by simp at hk, fun v hv => by simp at hv, T⟩
  · cases e
    by_cases h0 : len = 0
    · subst h0
      obtain ⟨a', c', e, hs⟩ := absV_slice0 W.heap.size a cap
      refine ⟨some a', 0, c', [], e, ?_, rfl, fun k v hk => by simp at hk, fun v hv => by simp at hv, T⟩
      obtain ⟨b, o, s⟩ := a'
      rcases hs with rfl | rfl
      · exact sl_s _ _
      · exact sl_e _ _
    · obtain ⟨b, o, s⟩ := a
      rw [cells40] at he
      have F : ∀ i, i < len → ∃ cs v4, W.cells? 0 ((⟨b, o, s⟩ : Addr).add (i * 4)) 4 = some cs ∧ cs = V4.cs v4 ∧ ∀ n, -2147483648 ≤ v4.at n ∧ v4.at n < 2147483648 := by
        intro i hi
        have := he i hi
        rw [List.getElem?_eq_getElem (by omega)] at this
        obtain ⟨cs, h1, h2⟩ := Option.bind_eq_some_iff.1 this
        obtain ⟨v4, h3, h4⟩ := open_vec4 h2
        exact ⟨cs, v4, h1, h3, h4⟩
      obtain ⟨c0, _, hc0, _, _⟩ := F 0 (by omega)
      have G : ∀ i, i < len → ∃ v4 : V4, s = none ∧ b < W.heap.size ∧ rd (emb W) b (o + i * 4) 4 = some v4.cs ∧ ∀ n, -2147483648 ≤ v4.at n ∧ v4.at n < 2147483648 := by
        intro i hi
        obtain ⟨cs, v4, h1, h2, h3⟩ := F i hi
        obtain ⟨g1, g2, _, g4⟩ := cells_elem (n := len) (by omega) ⟨c0, hc0⟩ h1
        exact ⟨v4, g1, g2, by rw [g4, h2]; rfl, h3⟩
      obtain ⟨_, hs, hb, _, _⟩ := G 0 (by omega)
      subst hs
      have hL : ∀ m, m ≤ len → ∃ vs : List V4, vs.length = m ∧ ∀ i v, vs[i]? = some v → rd (emb W) b (o + i * 4) 4 = some v.cs ∧ ∀ n, -2147483648 ≤ v.at n ∧ v.at n < 2147483648 := by
        intro m
        induction m with
        | zero => intro _; exact ⟨[], rfl, fun i v hi => by simp at hi⟩
        | succ m ih =>
          intro hm
          obtain ⟨vs, h1, h2⟩ := ih (by omega)
          obtain ⟨v4, _, _, h5, h6⟩ := G m (by omega)
          refine ⟨vs ++ [v4], by simp [h1], ?_⟩
          intro i v hi
          by_cases hlt : i < vs.length
          · rw [List.getElem?_append_left hlt] at hi; exact h2 i v hi
          · have : i = m := by have := (List.getElem?_eq_some_iff.1 hi).1; simp at this; omega
            subst this
            rw [List.getElem?_append_right (by omega), h1] at hi
            simp at hi
            subst hi
            exact ⟨h5, h6⟩
      obtain ⟨vs, hvl, hvs⟩ := hL len (Nat.le_refl _)
      refine ⟨some ⟨b, o, none⟩, len, cap, vs, absV_slice hb, sl_s _ _, hvl.symm, ?_, ?_, T⟩
      · intro k v hk
        exact ⟨b, o, none, rfl, .inl rfl, hb, (hvs k v hk).1⟩
      · intro v hv
        obtain ⟨i, hi⟩ := List.mem_iff_getElem?.1 hv
        exact (hvs i v hi).2

theorem open_win {fuel : Nat} {cs : List Value} {x : DataW H × List MemPlace} (h : DataW.trod enc Try.prog W 0 spare held fuel 30 cs = some x) :
    ∃ p : Wn, cs.map (absV W.heap.size) = p.cs ∧ WnAt (emb W) p ∧ (∀ b o l c, cs[5]? = some (.slice (some ⟨b, o, none⟩) l c) → b < W.heap.size → p.a = some ⟨b, o, none⟩ ∧ p.l = l ∧ p.c = c) := by
  obtain ⟨xs, n, _, _, hl, hlen, hf⟩ := DataW.trod_struct Try.underlying30 h
  rw [cells30] at hl
  obtain ⟨c0, c1, c2, c3, c4, c5, rfl⟩ := list6 hl
  · obtain ⟨y0, y1, y2, y3, y4, y5, rfl⟩ := list6 hlen
    · have h0 := hf 0 _ rfl
      have h1 := hf 1 _ rfl
      have h2 := hf 2 _ rfl
      have h3 := hf 3 _ rfl
      have h4 := hf 4 _ rfl
      have h5 := hf 5 _ rfl
      change DataW.trod enc Try.prog W 0 spare held n 3 (([c0, c1, c2, c3, c4, c5].drop 0).take (Try.prog.cellsOf 3)) = some y0 at h0
      change DataW.trod enc Try.prog W 0 spare held n 3 (([c0, c1, c2, c3, c4, c5].drop 1).take (Try.prog.cellsOf 3)) = some y1 at h1
      change DataW.trod enc Try.prog W 0 spare held n 27 (([c0, c1, c2, c3, c4, c5].drop 2).take (Try.prog.cellsOf 27)) = some y2 at h2
      change DataW.trod enc Try.prog W 0 spare held n 27 (([c0, c1, c2, c3, c4, c5].drop 3).take (Try.prog.cellsOf 27)) = some y3 at h3
      change DataW.trod enc Try.prog W 0 spare held n 27 (([c0, c1, c2, c3, c4, c5].drop 4).take (Try.prog.cellsOf 27)) = some y4 at h4
      change DataW.trod enc Try.prog W 0 spare held n 28 (([c0, c1, c2, c3, c4, c5].drop 5).take (Try.prog.cellsOf 28)) = some y5 at h5
      rw [cells3] at h0 h1
      rw [cells27] at h2 h3 h4
      rw [cells28] at h5
      obtain ⟨n0, e0, _, w0⟩ := DataW.trod_int Try.underlying3 h0
      obtain ⟨n1, e1, _, w1⟩ := DataW.trod_int Try.underlying3 h1
      obtain ⟨n2, e2, _, w2⟩ := DataW.trod_int Try.underlying27 h2
      obtain ⟨n3, e3, _, w3⟩ := DataW.trod_int Try.underlying27 h3
      obtain ⟨n4, e4, _, w4⟩ := DataW.trod_int Try.underlying27 h4
      obtain ⟨a, l, c, vs, e5, hs, hlv, hv, hn, hT⟩ := open_vecs (v := c5) h5
      simp at e0 e1 e2 e3 e4
      refine ⟨⟨n0, n1, n2, n3, n4, a, l, c, hs, vs⟩, ?_, ⟨hlv, hv, hn, wf32 w2, wf32 w3⟩, ?_⟩
      · simp only [List.map_cons, List.map_nil, e0, e1, e2, e3, e4, e5, Wn.cs]; rfl
      · intro b o l' c' h hb
        simp at h
        have := hT b o l' c' h hb
        rw [e5, h] at this
        cases this
        exact ⟨rfl, rfl, rfl⟩
end
end
end Go.AX.Tri
