/- 'paintboxlaw22.TriMesh' answers true at every input; what it is handed reads as before. -/
import Derived.Test.YthhgeodgfbhkdaaZg
import Derived.Test.YthhgeodgfbhkdaaNk
import Derived.ProofKit
set_option linter.unusedVariables false
set_option linter.unusedSimpArgs false
set_option linter.unusedSectionVars false
namespace Go.AX.Tri
open Go Go.Proofs Go.AX Go.AX.Mc Go.ChangeShapes Go.WideShapes Go.RowKit
open Go.Proofs.Ythhgeodgfbhkdaa
set_option linter.unusedSimpArgs false
set_option linter.unusedVariables false
noncomputable section

section
variable {H : Type} {enc : TypeId × Value → H} {W : World} {spare : Nat → Bool} {held : Bool}
/-- a slice whose elements have one cell. -/
theorem open_row {tS e : TypeId} (uS : Try.prog.underlying tS = some (.slice e)) (ce : Try.prog.cellsOf e = 1) {α : Type} (mk : α → Value) (hmk : ∀ N a, absV N (mk a) = mk a)
    (open1 : ∀ fuel cs x, DataW.trod enc Try.prog W 0 spare held fuel e cs = some x → ∃ a, cs = [mk a]) {fuel : Nat} {v : Value} {x : DataW H × List MemPlace} (h : DataW.trod enc Try.prog W 0 spare held fuel tS [v] = some x) :
    ∃ a c, ∃ xs : List α, absV W.heap.size v = .slice a xs.length c ∧ Sl a ∧ ∀ (i : Nat) u, xs[i]? = some u → ∃ b o r, a = some ⟨b, o, r⟩ ∧ (r = none ∨ r = some 0) ∧ b < (emb W).nx ∧ rd (emb W) b (o + i) 1 = some [mk u] := by
  rcases DataW.trod_slice uS h with ⟨e, _⟩ | ⟨a, len, cap, elems, rest, n, _, e, _, _, hle, _, hlen, he, _, _⟩
  · cases e
    exact ⟨none, 0, [], rfl, sl_none, fun k v hk => by simp at hk⟩
  · cases e
    by_cases h0 : len = 0
    · subst h0
      obtain ⟨a', c', e, hs⟩ := absV_slice0 W.heap.size a cap
      refine ⟨some a', c', [], e, ?_, fun k v hk => by simp at hk⟩
      obtain ⟨b, o, s⟩ := a'
      rcases hs with rfl | rfl
      · exact sl_s _ _
      · exact sl_e _ _
    · obtain ⟨b, o, s⟩ := a
      rw [ce] at he
      have F : ∀ i, i < len → ∃ cs u, W.cells? 0 ((⟨b, o, s⟩ : Addr).add (i * 1)) 1 = some cs ∧ cs = [mk u] := by
        intro i hi
        have := he i hi
        rw [List.getElem?_eq_getElem (by omega)] at this
        obtain ⟨cs, h1, h2⟩ := Option.bind_eq_some_iff.1 this
        obtain ⟨u, h3⟩ := open1 _ _ _ h2
        exact ⟨cs, u, h1, h3⟩
      obtain ⟨c0, _, hc0, _⟩ := F 0 (by omega)
      have G : ∀ i, i < len → ∃ u : α, s = none ∧ b < W.heap.size ∧ rd (emb W) b (o + i) 1 = some [mk u] := by
        intro i hi
        obtain ⟨cs, u, h1, h2⟩ := F i hi
        obtain ⟨g1, g2, _, g4⟩ := cells_elem (n := len) (by omega) ⟨c0, hc0⟩ h1
        refine ⟨u, g1, g2, ?_⟩
        rw [Nat.mul_one] at g4
        rw [g4, h2, List.map_cons, hmk]; rfl
      obtain ⟨_, hs, hb, _⟩ := G 0 (by omega)
      subst hs
      have hL : ∀ m, m ≤ len → ∃ vs : List α, vs.length = m ∧ ∀ i v, vs[i]? = some v → rd (emb W) b (o + i) 1 = some [mk v] := by
        intro m
        induction m with
        | zero => intro _; exact ⟨[], rfl, fun i v hi => by simp at hi⟩
        | succ m ih =>
          intro hm
          obtain ⟨vs, h1, h2⟩ := ih (by omega)
          obtain ⟨v4, _, _, h5⟩ := G m (by omega)
          refine ⟨vs ++ [v4], by simp [h1], ?_⟩
          intro i v hi
          by_cases hlt : i < vs.length
          · rw [List.getElem?_append_left hlt] at hi; exact h2 i v hi
          · have : i = m := by have := (List.getElem?_eq_some_iff.1 hi).1; simp at this; omega
            subst this
            rw [List.getElem?_append_right (by omega), h1] at hi
            simp at hi
            subst hi
            exact h5
      obtain ⟨vs, hvl, hvs⟩ := hL len (Nat.le_refl _)
      refine ⟨some ⟨b, o, none⟩, cap, vs, by rw [hvl]; exact absV_slice hb, sl_s _ _, ?_⟩
      intro k v hk
      exact ⟨b, o, none, rfl, .inl rfl, hb, hvs k v hk⟩

theorem cells4 : Try.prog.cellsOf 4 = 1 := by kernel_rfl
theorem open_ints {fuel : Nat} {v : Value} {x : DataW H × List MemPlace} (h : DataW.trod enc Try.prog W 0 spare held fuel 47 [v] = some x) : ∃ a c, ∃ xs : List Int, absV W.heap.size v = .slice a xs.length c ∧ Sl a ∧ IsAt (emb W) a xs :=
  open_row Try.underlying47 cells3 (fun n : Int => .int .i64 n) (fun _ _ => rfl) (fun fuel cs x h => by obtain ⟨n, e, _, _⟩ := DataW.trod_int Try.underlying3 h; exact ⟨n, e⟩) h
theorem open_bools {fuel : Nat} {v : Value} {x : DataW H × List MemPlace} (h : DataW.trod enc Try.prog W 0 spare held fuel 48 [v] = some x) : ∃ a c, ∃ xs : List Bool, absV W.heap.size v = .slice a xs.length c ∧ Sl a ∧ BsAt (emb W) a xs :=
  open_row Try.underlying48 cells4 (fun b : Bool => .bool b) (fun _ _ => rfl) (fun fuel cs x h => by obtain ⟨n, e, _⟩ := DataW.trod_bool Try.underlying4 h; exact ⟨n, e⟩) h
set_option maxRecDepth 100000 in
theorem one47 {v : Value} {base : Nat} (hval : Value.okWide Try.prog W .any base 47 v) : v.cells.toList = [v] := by
  unfold Value.okWide at hval
  rw [Try.underlying47] at hval
  simp only at hval
  unfold Cell.okWide at hval
  rw [Try.underlying47] at hval
  simp only at hval
  unfold Cell.ok at hval
  rw [Try.underlying47] at hval
  cases v <;> first | rfl | exact hval.elim
set_option maxRecDepth 100000 in
theorem one48 {v : Value} {base : Nat} (hval : Value.okWide Try.prog W .any base 48 v) : v.cells.toList = [v] := by
  unfold Value.okWide at hval
  rw [Try.underlying48] at hval
  simp only at hval
  unfold Cell.okWide at hval
  rw [Try.underlying48] at hval
  simp only at hval
  unfold Cell.ok at hval
  rw [Try.underlying48] at hval
  cases v <;> first | rfl | exact hval.elim
end

theorem par5 : ∀ t ∈ Try.f5.params.toList, Try.prog.readableRec t = true ∧ t < Try.prog.types.size := by
  rw [Try.params5]
  intro t ht
  simp at ht
  rcases ht with rfl | rfl
  · exact ⟨by kernel_rfl, of_decide_eq_true (by kernel_rfl)⟩
  · exact ⟨by kernel_rfl, of_decide_eq_true (by kernel_rfl)⟩

set_option maxRecDepth 100000 in
theorem triMesh_lifted (os : Os) (started : os.Started) (H : Type) (enc : TypeId × Value → H) :
    ReturnsInHanded {} Try.checked os 5 .any (Rows.triMeshSpec.pre6 enc Try.prog Try.f5 Rows.triMeshRow.domain false) (Rows.triMeshSpec.post enc Try.prog Try.f5 false true false false) := by
  refine returnsInHanded_of_change (C := Try.checked) own started (by kernel_rfl) Try.func5
    (ChangeSpec.witness6 (enc := enc) (C := Try.checked) false ⟨#[], #[.slice none 0 0, .slice none 0 0, .slice none 0 0], []⟩ 8 (by kernel_rfl) (by kernel_rfl) (by kernel_rfl) (by kernel_rfl)) ?_
  intro W base args ds gs before hval0 hW hcnd _
  have hval : ∀ (j : Nat) t v, Try.f5.params[j]? = some t → args[j]? = some v → Value.okWide Try.prog W .any base t v := hval0
  have hW' := hW
  obtain ⟨p, q, hA0, hV, rfl, hfz, hnd⟩ := hW
  have hA : DataW.TrodAll enc Try.prog W 0 (fun _ => true) true Try.f5.params.toList args.toList ds p := hA0
  have hlt := hW'.lt
  have hAk := hA
  rw [Try.params5] at hA hval
  obtain ⟨v0, v1, v2, d0, d1, d2, p0, p1, p2, rfl, rfl, hp, ⟨f0, h0⟩, ⟨f1, h1⟩, ⟨f2, h2⟩⟩ := trodAll_three hA
  obtain ⟨rfl, rfl⟩ := trodVars_none hV
  rw [one47 (hval 0 47 v0 rfl rfl)] at h0
  rw [one47 (hval 1 47 v1 rfl rfl)] at h1
  rw [one48 (hval 2 48 v2 rfl rfl)] at h2
  obtain ⟨ax, cx, xs, ex, okx, hx⟩ := open_ints h0
  obtain ⟨ay, cy, ys, ey, oky, hy⟩ := open_ints h1
  obtain ⟨af, cf, fl, ef, okf, hf⟩ := open_bools h2
  refine (law_calls' xok hT mixed (fun d => clo_bool d true) (.cons _ _ _ _ (ex ▸ absV_ok W.heap.size v0) (.cons _ _ _ _ (ey ▸ absV_ok W.heap.size v1) (.cons _ _ _ _ (ef ▸ absV_ok W.heap.size v2) .nil))) (law5 (emb W) ax ay af cx cy cf xs ys fl okx oky okf hx hy hf)).mono fun e W' ⟨he, hb⟩ => ?_
  subst he
  refine ⟨_, rfl, post_of_below hW' hb (pa := p) (pv := []) ?_ ?_ ?_ ?_ ?_⟩
  · exact fun _ _ _ => trodAll_mk1 (shut_bool Try.underlying4 true)
  · intro sp hsp
    rw [List.append_nil] at hsp hlt ⊢
    exact trodAll_stays laidOut hb sp par5 hlt hsp hAk
  · intro sp _; rfl
  · simp
  · exact ok_one (t := 4) (by kernel_rfl) rfl (okb W')
end
end Go.AX.Tri

namespace Go.Proofs.Ythhgeodgfbhkdaa
open Go Go.Proofs
theorem triMesh_holds : Rows.TriMeshSaid :=
  OpenClaim.holds_of_wide 5 Try.f5 rfl rfl rfl rfl rfl rfl rfl ⟨rfl, rfl, rfl, rfl, rfl⟩ rfl rfl rfl rfl rfl (by kernel_rfl) Try.func5 (by kernel_rfl)
    (of_decide_eq_true (by kernel_rfl)) (by unfold Func.isWrapper; first | (rw [if_pos (by decide +kernel)]; kernel_rfl) | (rw [if_neg (by decide +kernel)]; exact ⟨rfl, rfl⟩))
    (fun os started H enc _ => Go.AX.Tri.triMesh_lifted os started H enc)
#print axioms triMesh_holds
end Go.Proofs.Ythhgeodgfbhkdaa
