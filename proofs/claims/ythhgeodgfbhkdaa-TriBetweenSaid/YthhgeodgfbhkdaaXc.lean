/- 'paintboxlaw22.TriChecks' answers true at every input; what it is handed reads as before. -/
import Derived.Test.YthhgeodgfbhkdaaXa
import Derived.Test.YthhgeodgfbhkdaaXb
import Derived.Test.YthhgeodgfbhkdaaRows
import Derived.ProofKit
set_option linter.unusedVariables false
set_option linter.unusedSimpArgs false
set_option linter.unusedSectionVars false
namespace Go.AX.Tri
open Go Go.Proofs Go.AX Go.AX.Mc Go.ChangeShapes Go.WideShapes Go.RowKit
open Go.Proofs.Ythhgeodgfbhkdaa
set_option linter.unusedSimpArgs false
set_option linter.unusedVariables false
noncomputable section

theorem cells22 : Try.prog.cellsOf 22 = 1 := by kernel_rfl

section
variable {H : Type} {enc : TypeId × Value → H} {W : World} {spare : Nat → Bool} {held : Bool}
theorem has_plain {b o : Nat} {s : Option Nat} {r : Reach} {base e n : Nat} (h : W.has Try.prog r base ⟨b, o, s⟩ e n) : s = none ∧ b < W.heap.size := by
  obtain ⟨_, h1, row, cells, h2, _⟩ := h
  refine ⟨h1, ?_⟩
  unfold World.shape? at h2
  by_cases hb : b < W.heap.size
  · exact hb
  · rw [Array.getElem?_eq_none (by simpa using hb)] at h2; simp at h2

set_option maxRecDepth 100000 in
theorem open_wins {fuel : Nat} {v : Value} {x : DataW H × List MemPlace} {base : Nat} (hval : Value.okWide Try.prog W .any base 22 v) (h : DataW.trod enc Try.prog W 0 spare held fuel 22 v.cells.toList = some x) : WsIn (emb W) (absV W.heap.size v) := by
  unfold Value.okWide at hval
  rw [Try.underlying22] at hval
  simp only at hval
  unfold Cell.okWide at hval
  rw [Try.underlying22] at hval
  simp only at hval
  have hv1 : v.cells.toList = [v] := by
    unfold Cell.ok at hval
    rw [Try.underlying22] at hval
    cases v <;> first | rfl | exact hval.elim
  rw [hv1] at h
  rcases DataW.trod_slice Try.underlying22 h with ⟨e, _⟩ | ⟨a, len, cap, elems, rest, n, _, e, _, _, hle, _, hlen, he, _, _⟩
  · cases e; exact .inl rfl
  · cases e
    obtain ⟨b, o, s⟩ := a
    have hok : W.has Try.prog .any base ⟨b, o, s⟩ 30 cap := by
      unfold Cell.ok at hval
      rw [Try.underlying22] at hval
      exact hval.2.2
    obtain ⟨rfl, hb⟩ := has_plain hok
    rw [cells30] at he
    have G : ∀ i, i < len → ∃ p : Wn, rd (emb W) b (o + i * 6) 6 = some p.cs := by
      intro i hi
      have := he i hi
      rw [List.getElem?_eq_getElem (by omega)] at this
      obtain ⟨cs, h1, h2⟩ := Option.bind_eq_some_iff.1 this
      obtain ⟨p, h3, _⟩ := open_win h2
      rw [show (⟨b, o, none⟩ : Addr).add (i * 6) = ⟨b, o + i * 6, none⟩ from add_none b o (i * 6)] at h1
      obtain ⟨h4, _, _⟩ := rd_cells h1 (by omega) rfl
      exact ⟨p, by rw [h4, h3]⟩
    have hL : ∀ m, m ≤ len → ∃ ws : List Wn, ws.length = m ∧ WsAt (emb W) b o ws := by
      intro m
      induction m with
      | zero => intro _; exact ⟨[], rfl, fun i v hi => by simp at hi⟩
      | succ m ih =>
        intro hm
        obtain ⟨ws, h1, h2⟩ := ih (by omega)
        obtain ⟨p, hp⟩ := G m (by omega)
        refine ⟨ws ++ [p], by simp [h1], ?_⟩
        intro i v hi
        by_cases hlt : i < ws.length
        · rw [List.getElem?_append_left hlt] at hi; exact h2 i v hi
        · have : i = m := by have := (List.getElem?_eq_some_iff.1 hi).1; simp at this; omega
          subst this
          rw [List.getElem?_append_right (by omega), h1] at hi
          simp at hi
          subst hi
          exact hp
    obtain ⟨ws, h1, h2⟩ := hL len (Nat.le_refl _)
    refine .inr ⟨b, o, cap, ws, ?_, by omega, hb, h2⟩
    rw [absV_slice hb, h1]
end

theorem okb (W : World) : Value.okWide Try.prog W .any 0 4 (.bool true) := by simp [Value.okWide, Cell.okWide, Cell.ok, Try.underlying4]

theorem triChecks_calls {W : World} {v : Value} (h : WsIn (emb W) (absV W.heap.size v)) : Calls Try.prog 3 #[v] W fun e W' => e = .returned (.bool true) ∧ Below W.heap.size W W' :=
  law_calls xok hT mixed (fun d => clo_bool d true) (law3 (emb W) _ h)

theorem par3 : ∀ t ∈ Try.f3.params.toList, Try.prog.readableRec t = true ∧ t < Try.prog.types.size := by
  rw [Try.params3]
  intro t ht
  simp at ht
  subst ht
  exact ⟨by kernel_rfl, of_decide_eq_true (by kernel_rfl)⟩

set_option maxRecDepth 100000 in
theorem triChecks_lifted (os : Os) (started : os.Started) (H : Type) (enc : TypeId × Value → H) :
    ReturnsInHanded {} Try.checked os 3 .any (Rows.triChecksSpec.pre6 enc Try.prog Try.f3 Rows.triChecksRow.domain false) (Rows.triChecksSpec.post enc Try.prog Try.f3 false true false false) := by
  refine returnsInHanded_of_change (C := Try.checked) own started (by kernel_rfl) Try.func3
    (ChangeSpec.witness6 (enc := enc) (C := Try.checked) false ⟨#[], #[.slice none 0 0], []⟩ 8 (by kernel_rfl) (by kernel_rfl) (by kernel_rfl) (by kernel_rfl)) ?_
  intro W base args ds gs before hval0 hW hcnd _
  have hval : ∀ (j : Nat) t v, Try.f3.params[j]? = some t → args[j]? = some v → Value.okWide Try.prog W .any base t v := hval0
  have hW' := hW
  obtain ⟨p, q, hA0, hV, rfl, hfz, hnd⟩ := hW
  have hA : DataW.TrodAll enc Try.prog W 0 (fun _ => true) true Try.f3.params.toList args.toList ds p := hA0
  have hlt := hW'.lt
  have hAk := hA
  rw [Try.params3] at hA hval
  obtain ⟨v0, d0, rfl, rfl, ⟨fuel, h0⟩⟩ := trodAll_one hA
  obtain ⟨rfl, rfl⟩ := trodVars_none hV
  refine (triChecks_calls (open_wins (hval 0 22 v0 rfl rfl) h0)).mono fun e W' ⟨he, hb⟩ => ?_
  subst he
  refine ⟨_, rfl, post_of_below hW' hb (pa := p) (pv := []) ?_ ?_ ?_ ?_ ?_⟩
  · exact fun _ _ _ => trodAll_mk1 (shut_bool Try.underlying4 true)
  · intro sp hsp
    rw [List.append_nil] at hsp hlt ⊢
    exact trodAll_stays laidOut hb sp par3 hlt hsp hAk
  · intro sp _; rfl
  · simp
  · exact ok_one (t := 4) (by kernel_rfl) rfl (okb W')
end
end Go.AX.Tri

namespace Go.Proofs.Ythhgeodgfbhkdaa
open Go Go.Proofs
theorem triChecks_holds : Rows.TriChecksSaid :=
  OpenClaim.holds_of_wide 3 Try.f3 rfl rfl rfl rfl rfl rfl rfl ⟨rfl, rfl, rfl, rfl, rfl⟩ rfl rfl rfl rfl rfl (by kernel_rfl) Try.func3 (by kernel_rfl)
    (of_decide_eq_true (by kernel_rfl)) (by unfold Func.isWrapper; first | (rw [if_pos (by decide +kernel)]; kernel_rfl) | (rw [if_neg (by decide +kernel)]; exact ⟨rfl, rfl⟩))
    (fun os started H enc _ => Go.AX.Tri.triChecks_lifted os started H enc)
#print axioms triChecks_holds
end Go.Proofs.Ythhgeodgfbhkdaa
