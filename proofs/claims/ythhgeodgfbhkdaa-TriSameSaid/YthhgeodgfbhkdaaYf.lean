/- 'paintboxlaw22.TriSame' answers true at every input; what it is handed reads as before. -/
import Derived.Test.YthhgeodgfbhkdaaYd
import Derived.Test.YthhgeodgfbhkdaaXc
set_option linter.unusedVariables false
set_option linter.unusedSimpArgs false
set_option linter.unusedSectionVars false
namespace Go.AX.Tri
open Go Go.Proofs Go.AX Go.AX.Mc Go.ChangeShapes Go.WideShapes Go.RowKit
open Go.Proofs.Ythhgeodgfbhkdaa
set_option linter.unusedSimpArgs false
set_option linter.unusedVariables false
noncomputable section

theorem cells35 : Try.prog.cellsOf 35 = 1 := by kernel_rfl
theorem cells42 : Try.prog.cellsOf 42 = 10 := by kernel_rfl
theorem cells4 : Try.prog.cellsOf 4 = 1 := by kernel_rfl

section
variable {H : Type} {enc : TypeId × Value → H} {W : World} {spare : Nat → Bool} {held : Bool}
theorem list7 {α : Type} : ∀ {l : List α}, l.length = 7 → ∃ a b c d e f g, l = [a, b, c, d, e, f, g]
  | [_, _, _, _, _, _, _], _ => ⟨_, _, _, _, _, _, _, rfl⟩
theorem list10 {α : Type} : ∀ {l : List α}, l.length = 10 → ∃ a b c d e f g h i j, l = [a, b, c, d, e, f, g, h, i, j]
  | [_, _, _, _, _, _, _, _, _, _], _ => ⟨_, _, _, _, _, _, _, _, _, _, rfl⟩

theorem vecs_len {fuel : Nat} {v : Value} {x : DataW H × List MemPlace} (h : DataW.trod enc Try.prog W 0 spare held fuel 28 [v] = some x) {a : Option Addr} {l c : Nat} (hv : absV W.heap.size v = .slice a l c) : l ≤ maxLen := by
  rcases DataW.trod_slice Try.underlying28 h with ⟨e, _⟩ | ⟨a', len, cap, elems, rest, n, _, e, _, _, hle, hm, hlen, he, _, _⟩
  · cases e
    cases hv
    exact Nat.zero_le _
  · cases e
    by_cases h0 : len = 0
    · subst h0
      obtain ⟨a2, c2, e, hs⟩ := absV_slice0 W.heap.size a' cap
      rw [e] at hv; cases hv
      exact Nat.zero_le _
    · obtain ⟨b, o, s⟩ := a'
      cases s with
      | none =>
        unfold absV at hv
        simp only [h0, if_false] at hv
        split at hv
        · cases hv; omega
        · cases hv
      | some s =>
        unfold absV at hv
        simp only [h0, if_false] at hv
        cases hv

theorem open_frag {fuel : Nat} {cs : List Value} {x : DataW H × List MemPlace} (h : DataW.trod enc Try.prog W 0 spare held fuel 42 cs = some x) :
    ∃ d : Fd, cs.map (absV W.heap.size) = d.cs ∧ FdAt (emb W) d := by
  obtain ⟨xs, n, _, _, hl, hlen, hf⟩ := DataW.trod_struct Try.underlying42 h
  rw [cells42] at hl
  obtain ⟨c0, c1, c2, c3, c4, c5, c6, c7, c8, c9, rfl⟩ := list10 hl
  obtain ⟨y0, y1, y2, y3, y4, y5, y6, rfl⟩ := list7 hlen
  have h0 := hf 0 _ rfl
  have h1 := hf 1 _ rfl
  have h2 := hf 2 _ rfl
  have h3 := hf 3 _ rfl
  have h4 := hf 4 _ rfl
  have h5 := hf 5 _ rfl
  have h6 := hf 6 _ rfl
  change DataW.trod enc Try.prog W 0 spare held n 3 (([c0, c1, c2, c3, c4, c5, c6, c7, c8, c9].drop 0).take (Try.prog.cellsOf 3)) = some y0 at h0
  change DataW.trod enc Try.prog W 0 spare held n 3 (([c0, c1, c2, c3, c4, c5, c6, c7, c8, c9].drop 1).take (Try.prog.cellsOf 3)) = some y1 at h1
  change DataW.trod enc Try.prog W 0 spare held n 27 (([c0, c1, c2, c3, c4, c5, c6, c7, c8, c9].drop 2).take (Try.prog.cellsOf 27)) = some y2 at h2
  change DataW.trod enc Try.prog W 0 spare held n 27 (([c0, c1, c2, c3, c4, c5, c6, c7, c8, c9].drop 3).take (Try.prog.cellsOf 27)) = some y3 at h3
  change DataW.trod enc Try.prog W 0 spare held n 4 (([c0, c1, c2, c3, c4, c5, c6, c7, c8, c9].drop 4).take (Try.prog.cellsOf 4)) = some y4 at h4
  change DataW.trod enc Try.prog W 0 spare held n 40 (([c0, c1, c2, c3, c4, c5, c6, c7, c8, c9].drop 5).take (Try.prog.cellsOf 40)) = some y5 at h5
  change DataW.trod enc Try.prog W 0 spare held n 28 (([c0, c1, c2, c3, c4, c5, c6, c7, c8, c9].drop 9).take (Try.prog.cellsOf 28)) = some y6 at h6
  rw [cells3] at h0 h1
  rw [cells27] at h2 h3
  rw [cells4] at h4
  rw [cells40] at h5
  rw [cells28] at h6
  obtain ⟨n0, e0, _, w0⟩ := DataW.trod_int Try.underlying3 h0
  obtain ⟨n1, e1, _, w1⟩ := DataW.trod_int Try.underlying3 h1
  obtain ⟨n2, e2, _, w2⟩ := DataW.trod_int Try.underlying27 h2
  obtain ⟨n3, e3, _, w3⟩ := DataW.trod_int Try.underlying27 h3
  obtain ⟨b4, e4, _⟩ := DataW.trod_bool Try.underlying4 h4
  obtain ⟨pt, e5, _⟩ := open_vec4 h5
  obtain ⟨a, l, c, vs, e6, hs, hlv, hv, hn, hT⟩ := open_vecs (v := c9) h6
  have hsz := vecs_len (v := c9) h6 e6
  simp at e0 e1 e2 e3 e4
  change [c5, c6, c7, c8] = pt.cs at e5
  unfold V4.cs at e5
  simp only [List.cons.injEq, and_true] at e5
  obtain ⟨e7, e8, e9, e10⟩ := e5
  subst hlv
  refine ⟨⟨n0, n1, n2, n3, b4, pt, a, c, hs, vs⟩, ?_, ⟨hv, Nat.lt_of_le_of_lt hsz (by unfold maxLen; omega)⟩⟩
  simp only [List.map_cons, List.map_nil, e0, e1, e2, e3, e4, e6, e7, e8, e9, e10, Fd.cs]; rfl

set_option maxRecDepth 100000 in
theorem open_frags {fuel : Nat} {v : Value} {x : DataW H × List MemPlace} {base : Nat} (hval : Value.okWide Try.prog W .any base 35 v) (h : DataW.trod enc Try.prog W 0 spare held fuel 35 v.cells.toList = some x) : FsIn (emb W) (absV W.heap.size v) := by
  unfold Value.okWide at hval
  rw [Try.underlying35] at hval
  simp only at hval
  unfold Cell.okWide at hval
  rw [Try.underlying35] at hval
  simp only at hval
  have hv1 : v.cells.toList = [v] := by
    unfold Cell.ok at hval
    rw [Try.underlying35] at hval
    cases v <;> first | rfl | exact hval.elim
  rw [hv1] at h
  rcases DataW.trod_slice Try.underlying35 h with ⟨e, _⟩ | ⟨a, len, cap, elems, rest, n, _, e, _, _, hle, _, hlen, he, _, _⟩
  · cases e; exact ⟨none, 0, [], rfl, sl_none, fun H => slS_0 _ _ _, fun i d hi => by simp at hi⟩
  · cases e
    obtain ⟨b, o, s⟩ := a
    have hok : W.has Try.prog .any base ⟨b, o, s⟩ 42 cap := by
      unfold Cell.ok at hval
      rw [Try.underlying35] at hval
      exact hval.2.2
    obtain ⟨rfl, hb⟩ := has_plain hok
    rw [cells42] at he
    have G : ∀ i, i < len → ∃ d : Fd, FdAt (emb W) d ∧ rd (emb W) b (o + i * 10) 10 = some d.cs := by
      intro i hi
      have := he i hi
      rw [List.getElem?_eq_getElem (by omega)] at this
      obtain ⟨cs, h1, h2⟩ := Option.bind_eq_some_iff.1 this
      obtain ⟨p, h3, h4⟩ := open_frag h2
      rw [show (⟨b, o, none⟩ : Addr).add (i * 10) = ⟨b, o + i * 10, none⟩ from add_none b o (i * 10)] at h1
      obtain ⟨h5, _, _⟩ := rd_cells h1 (by omega) rfl
      exact ⟨p, h4, by rw [h5, h3]⟩
    have hL : ∀ m, m ≤ len → ∃ ds : List Fd, ds.length = m ∧ FdsAt (emb W) (some ⟨b, o, none⟩) ds := by
      intro m
      induction m with
      | zero => intro _; exact ⟨[], rfl, fun i v hi => by simp at hi⟩
      | succ m ih =>
        intro hm
        obtain ⟨ds, h1, h2⟩ := ih (by omega)
        obtain ⟨p, hp, hr⟩ := G m (by omega)
        refine ⟨ds ++ [p], by simp [h1], ?_⟩
        intro i v hi
        by_cases hlt : i < ds.length
        · rw [List.getElem?_append_left hlt] at hi; exact h2 i v hi
        · have : i = m := by have := (List.getElem?_eq_some_iff.1 hi).1; simp at this; omega
          subst this
          rw [List.getElem?_append_right (by omega), h1] at hi
          simp at hi
          subst hi
          exact ⟨hp, b, o, none, rfl, .inl rfl, hb, hr⟩
    obtain ⟨ds, h1, h2⟩ := hL len (Nat.le_refl _)
    rw [absV_slice hb]
    exact ⟨some ⟨b, o, none⟩, cap, ds, by rw [h1], sl_s _ _, fun H => slS_s _ _ _ _ _ _ _ (by omega) H, h2⟩
end

theorem triSame_calls {W : World} {v v' : Value} (h : FsIn (emb W) (absV W.heap.size v)) (h' : FsIn (emb W) (absV W.heap.size v')) : Calls Try.prog 9 #[v, v'] W fun e W' => e = .returned (.bool true) ∧ Below W.heap.size W W' :=
  law_calls xok hT mixed (fun d => clo_bool d true) (law9 (emb W) _ _ h h')

theorem par9 : ∀ t ∈ Try.f9.params.toList, Try.prog.readableRec t = true ∧ t < Try.prog.types.size := by
  rw [Try.params9]
  intro t ht
  simp at ht
  subst ht
  exact ⟨by kernel_rfl, of_decide_eq_true (by kernel_rfl)⟩

set_option maxRecDepth 100000 in
theorem triSame_lifted (os : Os) (started : os.Started) (H : Type) (enc : TypeId × Value → H) :
    ReturnsInHanded {} Try.checked os 9 .any (Rows.triSameSpec.pre6 enc Try.prog Try.f9 Rows.triSameRow.domain false) (Rows.triSameSpec.post enc Try.prog Try.f9 false true false false) := by
  refine returnsInHanded_of_change (C := Try.checked) own started (by kernel_rfl) Try.func9
    (ChangeSpec.witness6 (enc := enc) (C := Try.checked) false ⟨#[], #[.slice none 0 0, .slice none 0 0], []⟩ 8 (by kernel_rfl) (by kernel_rfl) (by kernel_rfl) (by kernel_rfl)) ?_
  intro W base args ds gs before hval0 hW hcnd _
  have hval : ∀ (j : Nat) t v, Try.f9.params[j]? = some t → args[j]? = some v → Value.okWide Try.prog W .any base t v := hval0
  have hW' := hW
  obtain ⟨p, q, hA0, hV, rfl, hfz, hnd⟩ := hW
  have hA : DataW.TrodAll enc Try.prog W 0 (fun _ => true) true Try.f9.params.toList args.toList ds p := hA0
  have hlt := hW'.lt
  have hAk := hA
  rw [Try.params9] at hA hval
  obtain ⟨v0, v1, d0, d1, p0, p1, rfl, rfl, hp, ⟨f0, h0⟩, ⟨f1, h1⟩⟩ := trodAll_two hA
  obtain ⟨rfl, rfl⟩ := trodVars_none hV
  refine (triSame_calls (open_frags (hval 0 35 v0 rfl rfl) h0) (open_frags (hval 1 35 v1 rfl rfl) h1)).mono fun e W' ⟨he, hb⟩ => ?_
  subst he
  refine ⟨_, rfl, post_of_below hW' hb (pa := p) (pv := []) ?_ ?_ ?_ ?_ ?_⟩
  · exact fun _ _ _ => trodAll_mk1 (shut_bool Try.underlying4 true)
  · intro sp hsp
    rw [List.append_nil] at hsp hlt ⊢
    exact trodAll_stays laidOut hb sp par9 hlt hsp hAk
  · intro sp _; rfl
  · simp
  · exact ok_one (t := 4) (by kernel_rfl) rfl (okb W')
end
end Go.AX.Tri

namespace Go.Proofs.Ythhgeodgfbhkdaa
open Go Go.Proofs
theorem triSame_holds : Rows.TriSameSaid :=
  OpenClaim.holds_of_wide 9 Try.f9 rfl rfl rfl rfl rfl rfl rfl ⟨rfl, rfl, rfl, rfl, rfl⟩ rfl rfl rfl rfl rfl (by kernel_rfl) Try.func9 (by kernel_rfl)
    (of_decide_eq_true (by kernel_rfl)) (by unfold Func.isWrapper; first | (rw [if_pos (by decide +kernel)]; kernel_rfl) | (rw [if_neg (by decide +kernel)]; exact ⟨rfl, rfl⟩))
    (fun os started H enc _ => Go.AX.Tri.triSame_lifted os started H enc)
#print axioms triSame_holds
end Go.Proofs.Ythhgeodgfbhkdaa
