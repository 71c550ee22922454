/- 'paintboxlaw22.TriFills' answers true at every input; what it is handed reads as before. -/
import Derived.Test.YthhgeodgfbhkdaaZg
import Derived.Test.YthhgeodgfbhkdaaRg
import Derived.ProofKit
set_option linter.unusedVariables false
set_option linter.unusedSimpArgs false
set_option linter.unusedSectionVars false
namespace Go.AX.Tri
open Go Go.Proofs Go.AX Go.AX.Mc Go.ChangeShapes Go.WideShapes Go.RowKit
open Go.Proofs.Ythhgeodgfbhkdaa
set_option linter.unusedSimpArgs false
set_option linter.unusedVariables false
noncomputable section

theorem par8 : ∀ t ∈ Try.f8.params.toList, Try.prog.readableRec t = true ∧ t < Try.prog.types.size := by
  rw [Try.params8]
  intro t ht
  simp at ht
  rcases ht with rfl | rfl
  · exact ⟨by kernel_rfl, of_decide_eq_true (by kernel_rfl)⟩
  · exact ⟨by kernel_rfl, of_decide_eq_true (by kernel_rfl)⟩

def smpW8 : List Value := [.int .i64 0, .int .i64 0, .int .i32 0, .int .i32 0, .int .i32 0, .slice none 0 0]
set_option maxRecDepth 100000 in
theorem triFills_lifted (os : Os) (started : os.Started) (H : Type) (enc : TypeId × Value → H) :
    ReturnsInHanded {} Try.checked os 8 .any (Rows.triFillsSpec.pre6 enc Try.prog Try.f8 Rows.triFillsRow.domain false) (Rows.triFillsSpec.post enc Try.prog Try.f8 false true false false) := by
  refine returnsInHanded_of_change (C := Try.checked) own started (by kernel_rfl) Try.func8
    (ChangeSpec.witness6 (enc := enc) (C := Try.checked) false ⟨#[], #[.agg (smpW8 ++ (smpW8 ++ smpW8)).toArray, .agg #[.int .i64 0, .int .i64 0, .int .i64 0, .int .i64 0]], []⟩ 8 (by kernel_rfl) (by kernel_rfl) (by kernel_rfl) (by kernel_rfl)) ?_
  intro W base args ds gs before hval0 hW hcnd _
  have hval : ∀ (j : Nat) t v, Try.f8.params[j]? = some t → args[j]? = some v → Value.okWide Try.prog W .any base t v := hval0
  have hW' := hW
  obtain ⟨p, q, hA0, hV, rfl, hfz, hnd⟩ := hW
  have hA : DataW.TrodAll enc Try.prog W 0 (fun _ => true) true Try.f8.params.toList args.toList ds p := hA0
  have hlt := hW'.lt
  have hAk := hA
  rw [Try.params8] at hA hval
  obtain ⟨v0, v1, d0, d1, p0, p1, rfl, rfl, hp, ⟨f0, h0⟩, ⟨f1, h1⟩⟩ := trodAll_two hA
  obtain ⟨rfl, rfl⟩ := trodVars_none hV
  obtain ⟨a, b, c, ka, ⟨a1, a2⟩, ⟨b1, b2⟩, ⟨c1, c2⟩⟩ := open_tri (hval 0 31 v0 rfl rfl) h0
  obtain ⟨px, py, pw, ph, kp⟩ := open_piece (hval 1 34 v1 rfl rfl) h1
  refine (law_calls' xok hT mixed (fun d => clo_bool d true) (.cons _ _ _ _ ka (.cons _ _ _ _ kp .nil)) (law8 (emb W) a b c px py pw ph a2 b2 c2 a1 b1 c1)).mono fun e W' ⟨he, hb⟩ => ?_
  subst he
  refine ⟨_, rfl, post_of_below hW' hb (pa := p) (pv := []) ?_ ?_ ?_ ?_ ?_⟩
  · exact fun _ _ _ => trodAll_mk1 (shut_bool Try.underlying4 true)
  · intro sp hsp
    rw [List.append_nil] at hsp hlt ⊢
    exact trodAll_stays laidOut hb sp par8 hlt hsp hAk
  · intro sp _; rfl
  · simp
  · exact ok_one (t := 4) (by kernel_rfl) rfl (okb W')
end
end Go.AX.Tri

namespace Go.Proofs.Ythhgeodgfbhkdaa
open Go Go.Proofs
theorem triFills_holds : Rows.TriFillsSaid :=
  OpenClaim.holds_of_wide 8 Try.f8 rfl rfl rfl rfl rfl rfl rfl ⟨rfl, rfl, rfl, rfl, rfl⟩ rfl rfl rfl rfl rfl (by kernel_rfl) Try.func8 (by kernel_rfl)
    (of_decide_eq_true (by kernel_rfl)) (by unfold Func.isWrapper; first | (rw [if_pos (by decide +kernel)]; kernel_rfl) | (rw [if_neg (by decide +kernel)]; exact ⟨rfl, rfl⟩))
    (fun os started H enc _ => Go.AX.Tri.triFills_lifted os started H enc)
#print axioms triFills_holds
end Go.Proofs.Ythhgeodgfbhkdaa
