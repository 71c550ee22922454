/- 'paintboxlaw22.TriAt' answers true at every input; what it is handed reads as before. -/
import Derived.Test.YthhgeodgfbhkdaaZg
import Derived.Test.YthhgeodgfbhkdaaSu
import Derived.ProofKit
set_option linter.unusedVariables false
set_option linter.unusedSimpArgs false
set_option linter.unusedSectionVars false
namespace Go.AX.Tri
open Go Go.Proofs Go.AX Go.AX.Mc Go.ChangeShapes Go.WideShapes Go.RowKit
open Go.Proofs.Ythhgeodgfbhkdaa
set_option linter.unusedSimpArgs false
set_option linter.unusedVariables false
noncomputable section

section
variable {H : Type} {enc : TypeId × Value → H} {W : World} {spare : Nat → Bool} {held : Bool}
set_option maxRecDepth 100000 in
theorem open_i64 {fuel : Nat} {v : Value} {x : DataW H × List MemPlace} {base : Nat} (hval : Value.okWide Try.prog W .any base 3 v) (h : DataW.trod enc Try.prog W 0 spare held fuel 3 v.cells.toList = some x) :
    ∃ n : Int, v = .int .i64 n := by
  unfold Value.okWide at hval
  rw [Try.underlying3] at hval
  simp only at hval
  unfold Cell.okWide at hval
  rw [Try.underlying3] at hval
  simp only at hval
  have hv1 : v.cells.toList = [v] := by
    unfold Cell.ok at hval
    rw [Try.underlying3] at hval
    cases v <;> first | rfl | exact hval.elim
  rw [hv1] at h
  obtain ⟨n, e, _, w⟩ := DataW.trod_int Try.underlying3 h
  simp at e
  exact ⟨n, e⟩
end

theorem par7 : ∀ t ∈ Try.f7.params.toList, Try.prog.readableRec t = true ∧ t < Try.prog.types.size := by
  rw [Try.params7]
  intro t ht
  simp at ht
  rcases ht with rfl | rfl
  · exact ⟨by kernel_rfl, of_decide_eq_true (by kernel_rfl)⟩
  · exact ⟨by kernel_rfl, of_decide_eq_true (by kernel_rfl)⟩

def smpW7 : List Value := [.int .i64 0, .int .i64 0, .int .i32 0, .int .i32 0, .int .i32 0, .slice none 0 0]
set_option maxRecDepth 100000 in
theorem triAt_lifted (os : Os) (started : os.Started) (H : Type) (enc : TypeId × Value → H) :
    ReturnsInHanded {} Try.checked os 7 .any (Rows.triAtSpec.pre6 enc Try.prog Try.f7 Rows.triAtRow.domain false) (Rows.triAtSpec.post enc Try.prog Try.f7 false true false false) := by
  refine returnsInHanded_of_change (C := Try.checked) own started (by kernel_rfl) Try.func7
    (ChangeSpec.witness6 (enc := enc) (C := Try.checked) false ⟨#[], #[.agg (smpW7 ++ (smpW7 ++ smpW7)).toArray, .int .i64 0, .int .i64 0], []⟩ 8 (by kernel_rfl) (by kernel_rfl) (by kernel_rfl) (by kernel_rfl)) ?_
  intro W base args ds gs before hval0 hW hcnd _
  have hval : ∀ (j : Nat) t v, Try.f7.params[j]? = some t → args[j]? = some v → Value.okWide Try.prog W .any base t v := hval0
  have hW' := hW
  obtain ⟨p, q, hA0, hV, rfl, hfz, hnd⟩ := hW
  have hA : DataW.TrodAll enc Try.prog W 0 (fun _ => true) true Try.f7.params.toList args.toList ds p := hA0
  have hlt := hW'.lt
  have hAk := hA
  rw [Try.params7] at hA hval
  obtain ⟨v0, v1, v2, d0, d1, d2, p0, p1, p2, rfl, rfl, hp, ⟨f0, h0⟩, ⟨f1, h1⟩, ⟨f2, h2⟩⟩ := trodAll_three hA
  obtain ⟨rfl, rfl⟩ := trodVars_none hV
  obtain ⟨a, b, c, ka, ⟨a1, a2⟩, ⟨b1, b2⟩, ⟨c1, c2⟩⟩ := open_tri (hval 0 31 v0 rfl rfl) h0
  obtain ⟨x, rfl⟩ := open_i64 (hval 1 3 v1 rfl rfl) h1
  obtain ⟨y, rfl⟩ := open_i64 (hval 2 3 v2 rfl rfl) h2
  refine (law_calls' xok hT mixed (fun d => clo_bool d true) (.cons _ _ _ _ ka (.cons _ _ _ _ (.int _ _) (.cons _ _ _ _ (.int _ _) .nil))) (law7 (emb W) a b c x y a2 b2 c2 a1 b1 c1)).mono fun e W' ⟨he, hb⟩ => ?_
  subst he
  refine ⟨_, rfl, post_of_below hW' hb (pa := p) (pv := []) ?_ ?_ ?_ ?_ ?_⟩
  · exact fun _ _ _ => trodAll_mk1 (shut_bool Try.underlying4 true)
  · intro sp hsp
    rw [List.append_nil] at hsp hlt ⊢
    exact trodAll_stays laidOut hb sp par7 hlt hsp hAk
  · intro sp _; rfl
  · simp
  · exact ok_one (t := 4) (by kernel_rfl) rfl (okb W')
end
end Go.AX.Tri

namespace Go.Proofs.Ythhgeodgfbhkdaa
open Go Go.Proofs
theorem triAt_holds : Rows.TriAtSaid :=
  OpenClaim.holds_of_wide 7 Try.f7 rfl rfl rfl rfl rfl rfl rfl ⟨rfl, rfl, rfl, rfl, rfl⟩ rfl rfl rfl rfl rfl (by kernel_rfl) Try.func7 (by kernel_rfl)
    (of_decide_eq_true (by kernel_rfl)) (by unfold Func.isWrapper; first | (rw [if_pos (by decide +kernel)]; kernel_rfl) | (rw [if_neg (by decide +kernel)]; exact ⟨rfl, rfl⟩))
    (fun os started H enc _ => Go.AX.Tri.triAt_lifted os started H enc)
#print axioms triAt_holds
end Go.Proofs.Ythhgeodgfbhkdaa
