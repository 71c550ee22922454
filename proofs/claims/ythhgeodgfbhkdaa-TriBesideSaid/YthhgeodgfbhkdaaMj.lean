/- 'paintboxlaw22.TriBeside' answers true at every input; what it is handed reads as before. -/
import Derived.Test.YthhgeodgfbhkdaaZg
import Derived.Test.YthhgeodgfbhkdaaMi
import Derived.ProofKit
set_option linter.unusedVariables false
set_option linter.unusedSimpArgs false
set_option linter.unusedSectionVars false
namespace Go.AX.Tri
open Go Go.Proofs Go.AX Go.AX.Mc Go.ChangeShapes Go.WideShapes Go.RowKit
open Go.Proofs.Ythhgeodgfbhkdaa
set_option linter.unusedSimpArgs false
set_option linter.unusedVariables false
noncomputable section

section
variable {H : Type} {enc : TypeId × Value → H} {W : World} {spare : Nat → Bool} {held : Bool}
set_option maxRecDepth 100000 in
theorem open_win1 {fuel : Nat} {v : Value} {x : DataW H × List MemPlace} {base : Nat} (hval : Value.okWide Try.prog W .any base 30 v) (h : DataW.trod enc Try.prog W 0 spare held fuel 30 v.cells.toList = some x) :
    ∃ d : Wn, VR (wM W.heap.size) (.agg d.cs.toArray) v ∧ WnAt (emb W) d := by
  unfold Value.okWide at hval
  rw [Try.underlying30] at hval
  simp only at hval
  obtain ⟨cs, rfl, hsz, _⟩ := hval
  change DataW.trod enc Try.prog W 0 spare held fuel 30 cs.toList = some x at h
  obtain ⟨p, h1, h2, _⟩ := open_win h
  exact ⟨p, vrl_agg cs h1, h2⟩
end

theorem par4 : ∀ t ∈ Try.f4.params.toList, Try.prog.readableRec t = true ∧ t < Try.prog.types.size := by
  rw [Try.params4]
  intro t ht
  simp at ht
  rcases ht with rfl | rfl
  · exact ⟨by kernel_rfl, of_decide_eq_true (by kernel_rfl)⟩
  · exact ⟨by kernel_rfl, of_decide_eq_true (by kernel_rfl)⟩

def smpW4 : List Value := [.int .i64 0, .int .i64 0, .int .i32 0, .int .i32 0, .int .i32 0, .slice none 0 0]
set_option maxRecDepth 100000 in
theorem triBeside_lifted (os : Os) (started : os.Started) (H : Type) (enc : TypeId × Value → H) :
    ReturnsInHanded {} Try.checked os 4 .any (Rows.triBesideSpec.pre6 enc Try.prog Try.f4 Rows.triBesideRow.domain false) (Rows.triBesideSpec.post enc Try.prog Try.f4 false true false false) := by
  refine returnsInHanded_of_change (C := Try.checked) own started (by kernel_rfl) Try.func4
    (ChangeSpec.witness6 (enc := enc) (C := Try.checked) false ⟨#[], #[.agg (smpW4 ++ (smpW4 ++ smpW4)).toArray, .agg smpW4.toArray], []⟩ 8 (by kernel_rfl) (by kernel_rfl) (by kernel_rfl) (by kernel_rfl)) ?_
  intro W base args ds gs before hval0 hW hcnd _
  have hval : ∀ (j : Nat) t v, Try.f4.params[j]? = some t → args[j]? = some v → Value.okWide Try.prog W .any base t v := hval0
  have hW' := hW
  obtain ⟨p, q, hA0, hV, rfl, hfz, hnd⟩ := hW
  have hA : DataW.TrodAll enc Try.prog W 0 (fun _ => true) true Try.f4.params.toList args.toList ds p := hA0
  have hlt := hW'.lt
  have hAk := hA
  rw [Try.params4] at hA hval
  obtain ⟨v0, v1, d0, d1, p0, p1, rfl, rfl, hp, ⟨f0, h0⟩, ⟨f1, h1⟩⟩ := trodAll_two hA
  obtain ⟨rfl, rfl⟩ := trodVars_none hV
  obtain ⟨a, b, c, ka, ⟨a1, a2⟩, ⟨b1, b2⟩, ⟨c1, c2⟩⟩ := open_tri (hval 0 31 v0 rfl rfl) h0
  obtain ⟨d, kp, d1'⟩ := open_win1 (hval 1 30 v1 rfl rfl) h1
  refine (law_calls' xok hT mixed (fun d => clo_bool d true) (.cons _ _ _ _ ka (.cons _ _ _ _ kp .nil)) (law4 (emb W) a b c d a1 b1 c1 d1')).mono fun e W' ⟨he, hb⟩ => ?_
  subst he
  refine ⟨_, rfl, post_of_below hW' hb (pa := p) (pv := []) ?_ ?_ ?_ ?_ ?_⟩
  · exact fun _ _ _ => trodAll_mk1 (shut_bool Try.underlying4 true)
  · intro sp hsp
    rw [List.append_nil] at hsp hlt ⊢
    exact trodAll_stays laidOut hb sp par4 hlt hsp hAk
  · intro sp _; rfl
  · simp
  · exact ok_one (t := 4) (by kernel_rfl) rfl (okb W')
end
end Go.AX.Tri

namespace Go.Proofs.Ythhgeodgfbhkdaa
open Go Go.Proofs
theorem triBeside_holds : Rows.TriBesideSaid :=
  OpenClaim.holds_of_wide 4 Try.f4 rfl rfl rfl rfl rfl rfl rfl ⟨rfl, rfl, rfl, rfl, rfl⟩ rfl rfl rfl rfl rfl (by kernel_rfl) Try.func4 (by kernel_rfl)
    (of_decide_eq_true (by kernel_rfl)) (by unfold Func.isWrapper; first | (rw [if_pos (by decide +kernel)]; kernel_rfl) | (rw [if_neg (by decide +kernel)]; exact ⟨rfl, rfl⟩))
    (fun os started H enc _ => Go.AX.Tri.triBeside_lifted os started H enc)
#print axioms triBeside_holds
end Go.Proofs.Ythhgeodgfbhkdaa
