/- 'paintboxlaw22.TriChecks' answers true at every input; what it is handed reads as before. -/
import Derived.Test.YthhgeodgfbhkdaaWt
import Derived.Test.YthhgeodgfbhkdaaAxRg
import Derived.Test.YthhgeodgfbhkdaaRows
import Derived.ProofKit
set_option linter.unusedVariables false
set_option linter.unusedSimpArgs false
set_option linter.unusedSectionVars false
namespace Go.AX.Tri
open Go Go.Proofs Go.AX Go.AX.Mc Go.ChangeShapes Go.WideShapes Go.RowKit
open Go.Proofs.Ythhgeodgfbhkdaa
set_option linter.unusedSimpArgs false
set_option linter.unusedVariables false
noncomputable section

theorem cells22 : Try.prog.cellsOf 22 = 1 := by kernel_rfl

section
variable {H : Type} {enc : TypeId × Value → H} {W : World} {spare : Nat → Bool} {held : Bool}
theorem has_plain {b o : Nat} {s : Option Nat} {r : Reach} {base e n : Nat} (h : W.has Try.prog r base ⟨b, o, s⟩ e n) : s = none ∧ b < W.heap.size := by
  obtain ⟨_, h1, row, cells, h2, _⟩ := h
  refine ⟨h1, ?_⟩
  unfold World.shape? at h2
  by_cases hb : b < W.heap.size
  · exact hb
  · rw [Array.getElem?_eq_none (by simpa using hb)] at h2; simp at h2

set_option maxRecDepth 100000 in
theorem open_wins {fuel : Nat} {v : Value} {x : DataW H × List MemPlace} {base : Nat} (hval : Value.okWide Try.prog W .any base 22 v) (h : DataW.trod enc Try.prog W 0 spare held fuel 22 v.cells.toList = some x) : WsIn (emb W) (absV W.heap.size v) := by
  unfold Value.okWide at hval
  rw [Try.underlying22] at hval
  simp only at hval
  unfold Cell.okWide at hval
  rw [Try.underlying22] at hval
  simp only at hval
  have hv1 : v.cells.toList = [v] := by
    unfold Cell.ok at hval
    rw [Try.underlying22] at hval
    cases v <;> first | rfl | exact hval.elim
  rw [hv1] at h
  rcases DataW.trod_slice Try.underlying22 h with ⟨e, _⟩ | ⟨a, len, cap, elems, rest, n, _, e, _, _, hle, _, hlen, he, _, _⟩
  · cases e; exact .inl rfl
  · cases e
    obtain ⟨b, o, s⟩ := a
    have hok : W.has Try.prog .any base ⟨b, o, s⟩ 30 cap := by
      unfold Cell.ok at hval
      rw [Try.underlying22] at hval
      exact hval.2.2
    obtain ⟨rfl, hb⟩ := has_plain hok
    rw [cells30] at he
    have G : ∀ i, i < len → ∃ p : Wn, rd (emb W) b (o + i * 6) 6 = some p.cs := by
      intro i hi
      have := he i hi
      rw [List.getElem?_eq_getElem (by omega)] at this
      obtain ⟨cs, h1, h2⟩ := Option.bind_eq_some_iff.1 this
      obtain ⟨p, h3, _⟩ := open_win h2
      rw [show (⟨b, o, none⟩ : Addr).add (i * 6) = ⟨b, o + i * 6, none⟩ from add_none b o (i * 6)] at h1
      obtain ⟨h4, _, _⟩ := rd_cells h1 (by omega) rfl
      exact ⟨p, by rw [h4, h3]⟩
    have hL : ∀ m, m ≤ len → ∃ ws : List Wn, ws.length = m ∧ WsAt (emb W) b o ws := by
      intro m
      induction m with
      | zero => intro _; exact ⟨[], rfl, fun i v hi => by simp at hi⟩
      | succ m ih =>
        intro hm
        obtain ⟨ws, h1, h2⟩ := ih (by omega)
        obtain ⟨p, hp⟩ := G m (by omega)
        refine ⟨ws ++ [p], by simp [h1], ?_⟩
        intro i v hi
        by_cases hlt : i < ws.length
        · rw [List.getElem?_append_left hlt] at hi; exact h2 i v hi
        · have : i = m := by have := (List.getElem?_eq_some_iff.1 hi).1; simp at this; omega
          subst this
          rw [List.getElem?_append_right (by omega), h1] at hi
          simp at hi
          subst hi
          exact hp
    obtain ⟨ws, h1, h2⟩ := hL len (Nat.le_refl _)
    refine .inr ⟨b, o, cap, ws, ?_, by omega, hb, h2⟩
    rw [absV_slice hb, h1]
end

theorem okb (W : World) : Value.okWide Try.prog W .any 0 4 (.bool true) := by simp [Value.okWide, Cell.okWide, Cell.ok, Try.underlying4]

theorem triChecks_calls {W : World} {v : Value} (h : WsIn (emb W) (absV W.heap.size v)) : Calls Try.prog 3 #[v] W fun e W' => e = .returned (.bool true) ∧ Below W.heap.size W W' :=
  law_calls xok hT mixed (fun d => clo_bool d true) (law3 (emb W) _ h)

theorem par3 : ∀ t ∈ Try.f3.params.toList, Try.prog.readableRec t = true ∧ t < Try.prog.types.size := by
  rw [Try.params3]
  intro t ht
  simp at ht
  subst ht
  exact ⟨by kernel_rfl, of_decide_eq_true (by kernel_rfl)⟩

set_option maxRecDepth 100000 in
theorem triChecks_lifted (os : Os) (started : os.Started) (H : Type) (enc : TypeId × Value → H) :
    ReturnsInHanded {} Try.checked os 3 .any (Rows.triChecksSpec.pre6 enc Try.prog Try.f3 Rows.triChecksRow.domain false) (Rows.triChecksSpec.post enc Try.prog Try.f3 false true false false) := by
  refine returnsInHanded_of_change (C := Try.checked) own started (by kernel_rfl) Try.func3
    (ChangeSpec.witness6 (enc := enc) (C := Try.checked) false ⟨#[], #[.slice none 0 0], []⟩ 8 (by kernel_rfl) (by kernel_rfl) (by kernel_rfl) (by kernel_rfl)) ?_
  intro W base args ds gs before hval0 hW hcnd _
  have hval : ∀ (j : Nat) t v, Try.f3.params[j]? = some t → args[j]? = some v → Value.okWide Try.prog W .any base t v := hval0
  have hW' := hW
  obtain ⟨p, q, hA0, hV, rfl, hfz, hnd⟩ := hW
  have hA : DataW.TrodAll enc Try.prog W 0 (fun _ => true) true Try.f3.params.toList args.toList ds p := hA0
  have hlt := hW'.lt
  have hAk := hA
  rw [Try.params3] at hA hval
  obtain ⟨v0, d0, rfl, rfl, ⟨fuel, h0⟩⟩ := trodAll_one hA
  obtain ⟨rfl, rfl⟩ := trodVars_none hV
  refine (triChecks_calls (open_wins (hval 0 22 v0 rfl rfl) h0)).mono fun e W' ⟨he, hb⟩ => ?_
  subst he
  refine ⟨_, rfl, post_of_below hW' hb (pa := p) (pv := []) ?_ ?_ ?_ ?_ ?_⟩
  · exact fun _ _ _ => trodAll_mk1 (shut_bool Try.underlying4 true)
  · intro sp hsp
    rw [List.append_nil] at hsp hlt ⊢
    exact trodAll_stays laidOut hb sp par3 hlt hsp hAk
  · intro sp _; rfl
  · simp
  · exact ok_one (t := 4) (by kernel_rfl) rfl (okb W')
end
end Go.AX.Tri

namespace Go.Proofs.Ythhgeodgfbhkdaa
open Go Go.Proofs
theorem triChecks_holds : Rows.TriChecksSaid :=
  OpenClaim.holds_of_wide 3 Try.f3 rfl rfl rfl rfl rfl rfl rfl ⟨rfl, rfl, rfl, rfl, rfl⟩ rfl rfl rfl rfl rfl (by kernel_rfl) Try.func3 (by kernel_rfl)
    (of_decide_eq_true (by kernel_rfl)) (by unfold Func.isWrapper; first | (rw [if_pos (by decide +kernel)]; kernel_rfl) | (rw [if_neg (by decide +kernel)]; exact ⟨rfl, rfl⟩))
    (fun os started H enc _ => Go.AX.Tri.triChecks_lifted os started H enc)
#print axioms triChecks_holds
end Go.Proofs.Ythhgeodgfbhkdaa
/- Contracts: three corners in memory of their own. -/
namespace Go.AX.Tri
open Go.Proofs Go.AX.Mc
set_option linter.unusedSimpArgs false
set_option linter.unusedVariables false
noncomputable section

theorem rd_app {h : AH} {b o n m : Nat} {l l' : List Value} (h1 : rd h b o n = some l) (h2 : rd h b (o + n) m = some l') : rd h b o (n + m) = some (l ++ l') := by
  rw [rd_rdB] at *
  cases hb : h.get b with
  | none => rw [hb] at h1; cases h1
  | some ab =>
    rw [hb] at h1 h2
    cases ab with
    | cells cs k z =>
      rw [rdB_cells] at *
      split at h1
      · split at h2
        · rename_i g1 g2
          cases h1
          cases h2
          rw [if_pos (by omega)]
          congr 1
          rw [List.take_add, List.drop_drop]
        · cases h2
      · cases h1
    | _ => cases h1
theorem rd_zero {h : AH} {b o n : Nat} {l : List Value} (h1 : rd h b o n = some l) : rd h b o 0 = some [] := by
  have := rd_part h1 0 0 (by omega)
  simpa using this
theorem vec_take {h : AH} {b o : Nat} {r : Option Nat} {vs : List V4} (hv : VecAt h (some ⟨b, o, r⟩) vs) (h0 : rd h b o 0 = some []) : ∀ n, n ≤ vs.length → rd h b o (n * 4) = some ((vs.take n).flatMap V4.cs)
  | 0, _ => by simpa using h0
  | n + 1, hn => by
    have i1 := vec_take hv h0 n (by omega)
    obtain ⟨v, ev⟩ : ∃ v, vs[n]? = some v := ⟨vs[n]'(by omega), List.getElem?_eq_getElem (by omega)⟩
    obtain ⟨b', o', r', e, _, _, h4⟩ := hv n v ev
    cases e
    have := rd_app i1 h4
    rw [Nat.add_mul, Nat.one_mul, this, List.take_add_one, ev, List.flatMap_append]
    simp
theorem flat_drop : ∀ (vs : List V4) (k : Nat) (v : V4), vs[k]? = some v → ((vs.flatMap V4.cs).drop (k * 4)).take 4 = v.cs
  | [], k, v, h => by simp at h
  | w :: vs, 0, v, h => by cases h; rfl
  | w :: vs, k + 1, v, h => by
    rw [List.flatMap_cons, show (k + 1) * 4 = w.cs.length + k * 4 by simp only [V4.cs, List.length_cons, List.length_nil]; omega, List.drop_append]
    simp only [List.drop_eq_nil_of_le (show w.cs.length ≤ w.cs.length + k * 4 by omega), List.nil_append, Nat.add_sub_cancel_left]
    exact flat_drop vs k v h
theorem vec_new {h : AH} {b z : Nat} {vs : List V4} {k : Nat} {r : Option Nat} (hr : r = none ∨ r = some 0) (hb : h.get b = some (.cells (vs.flatMap V4.cs) k z)) (hn : b < h.nx) : VecAt h (some ⟨b, 0, r⟩) vs := by
  intro i v hi
  refine ⟨b, 0, r, rfl, hr, hn, ?_⟩
  rw [rd_rdB, hb, rdB_cells, v4_length, if_pos (by have := (List.getElem?_eq_some_iff.1 hi).1; omega), Nat.zero_add]
  rw [flat_drop vs i v hi]

/-- a header that can be sliced. -/
def Pl (h : AH) (p : Wn) : Prop := (p.a = none ∧ p.l = 0 ∧ p.c = 0) ∨ (∃ b o, p.a = some ⟨b, o, none⟩ ∧ p.l ≤ p.c ∧ b < h.nx ∧ rd h b o 0 = some []) ∨
  ∃ b, p.a = some ⟨b, 0, some 0⟩ ∧ 0 < p.l ∧ p.c = p.l ∧ b < h.nx ∧ rd h b 0 0 = some []

/-- a copy of at most six vectors, in a block of its own. -/
structure Cp (H : AH) (G : List (Option AB)) (p p' : Wn) : Prop where
  x : p'.x = p.x
  y : p'.y = p.y
  z : p'.z = p.z
  w : p'.w = p.w
  s : p'.s = p.s
  vs : p'.vs = p.vs.take 6
  len : p'.l = p'.vs.length
  vec : ∀ u v G', VecAt (ext H (u :: v :: (G ++ G'))) p'.a p'.vs
  own : ∃ b r, p'.a = some ⟨b, 0, r⟩ ∧ H.nx ≤ b
  pl : ∀ u v G', Pl (ext H (u :: v :: (G ++ G'))) p'
theorem Cp.more {H : AH} {G : List (Option AB)} {p p' : Wn} (h : Cp H G p p') (E : List (Option AB)) : Cp H (G ++ E) p p' :=
  ⟨h.x, h.y, h.z, h.w, h.s, h.vs, h.len, fun u v G' => by rw [List.append_assoc]; exact h.vec u v _, h.own, fun u v G' => by rw [List.append_assoc]; exact h.pl u v _⟩
end
end Go.AX.Tri
/- Vectors compared, as the executor compares them. -/
namespace Go.AX.Tri
open Go Go.Proofs Go.AX.Mc
set_option linter.unusedSimpArgs false
set_option linter.unusedVariables false
noncomputable section

theorem eq27 (d : Nat) (a b : Int) : pure? Try.prog (Op.equalIn (d + 1) 27 (.int .i32 a) (.int .i32 b)) = .ok (a == b) := by kernel_rfl
def eqV (v w : V4) : Bool := v.a == w.a && (v.b == w.b && (v.c == w.c && v.d == w.d))
theorem eq40 (d : Nat) (v w : V4) : pure? Try.prog (Op.equalIn (d + 2) 40 (.agg v.cs.toArray) (.agg w.cs.toArray)) = .ok (eqV v w) := by
  rw [Op.equalIn, pure?_bind]
  have h1 : pure? Try.prog (underlying 40) = .ok (.array 4 27) := by kernel_rfl
  rw [h1]
  simp only
  rw [pure?_bind]
  have h2 : pure? Try.prog (sizeOf 27) = .ok 1 := by kernel_rfl
  rw [h2]
  simp only [Std.Legacy.Range.forIn_eq_forIn_range', Std.Legacy.Range.size, Nat.sub_zero, Nat.add_one_sub_one, Nat.div_one]
  rw [show List.range' 0 4 = [0, 1, 2, 3] from rfl]
  have p : ∀ (v : V4) (k : Nat), k < 4 → pure? Try.prog (part 27 v.cs.toArray (k * 1)) = .ok (.int .i32 (v.at k)) := by
    intro v k hk
    obtain ⟨a, b, c, d⟩ := v
    rcases (show k = 0 ∨ k = 1 ∨ k = 2 ∨ k = 3 by omega) with rfl | rfl | rfl | rfl <;> kernel_rfl
  have q : ∀ k, k < 4 → ∀ st : Option Bool × Unit, pure? Try.prog (do let x ← part 27 v.cs.toArray (k * 1); let y ← part 27 w.cs.toArray (k * 1); let r ← Op.equalIn (d + 1) 27 x y; if (!r) = true then pure (ForInStep.done (some false, ())) else pure (ForInStep.yield (none, ()))) = .ok (bif v.at k == w.at k then ForInStep.yield ((none, ()) : Option Bool × Unit) else ForInStep.done (some false, ())) := by
    intro k hk st
    simp only [pure?_bind, p _ k hk, eq27]
    cases v.at k == w.at k <;> rfl
  unfold eqV
  have q0 := q 0 (by omega) (none, ())
  have q1 := q 1 (by omega) (none, ())
  have q2 := q 2 (by omega) (none, ())
  have q3 := q 3 (by omega) (none, ())
  simp only [V4.at] at q0 q1 q2 q3
  simp only [List.forIn_cons, List.forIn_nil]
  rw [pure?_bind, pure?_bind, q0]
  cases (v.a == w.a)
  · rfl
  simp only [cond_true]
  rw [pure?_bind, q1]
  cases (v.b == w.b)
  · rfl
  simp only [cond_true]
  rw [pure?_bind, q2]
  cases (v.c == w.c)
  · rfl
  simp only [cond_true]
  rw [pure?_bind, q3]
  cases (v.d == w.d) <;> rfl
theorem aBin_agg {op : BinOp} {t : TypeId} {ox oy : Operand} {l l' : List Value} {r : Value} {H : AH} (hl : (l.all (clo 3)) = true) (hl' : (l'.all (clo 3)) = true) (hr : clo 5 r = true)
    (h : pure? Try.prog (do eqGuard op t ox oy (.agg l.toArray) (.agg l'.toArray); binOp op t (.agg l.toArray) (.agg l'.toArray)) = .ok r) : aBin Try.prog op t ox oy none (.agg l.toArray) (.agg l'.toArray) H = some (.val r H) := by
  have e : aBin Try.prog op t ox oy none (.agg l.toArray) (.agg l'.toArray) H = aBin' Try.prog op t ox oy none (.agg l.toArray) (.agg l'.toArray) H := by unfold aBin; rfl
  rw [e]
  unfold aBin'
  rw [clo_agg4, clo_agg4, hl, hl', h]
  simp only [Bool.and_self, cond_true, ofPR, hr]
theorem eqG_e (ox oy : Operand) (l l' : List Value) : pure? Try.prog (eqGuard .eql 40 ox oy (.agg l.toArray) (.agg l'.toArray)) = .ok () := by
  kernel_rfl
theorem eqG_n (ox oy : Operand) (l l' : List Value) : pure? Try.prog (eqGuard .neq 40 ox oy (.agg l.toArray) (.agg l'.toArray)) = .ok () := by
  kernel_rfl
theorem bin_neqV (ox oy : Operand) (v w : V4) (H : AH) : aBin Try.prog .neq 40 ox oy none (.agg v.cs.toArray) (.agg w.cs.toArray) H = some (.val (.bool (!eqV v w)) H) := by
  refine aBin_agg rfl rfl (clo_bool _ _) ?_
  rw [pure?_bind, eqG_n]
  have e : binOp .neq 40 (.agg v.cs.toArray) (.agg w.cs.toArray) = (do let r ← Op.equalIn (9998 + 2) 40 (.agg v.cs.toArray) (.agg w.cs.toArray); pure (.bool (!r))) := by kernel_rfl
  simp only [e]
  rw [pure?_bind, eq40]; rfl
theorem bin_eqlV (ox oy : Operand) (v w : V4) (H : AH) : aBin Try.prog .eql 40 ox oy none (.agg v.cs.toArray) (.agg w.cs.toArray) H = some (.val (.bool (eqV v w)) H) := by
  refine aBin_agg rfl rfl (clo_bool _ _) ?_
  rw [pure?_bind, eqG_e]
  have e : binOp .eql 40 (.agg v.cs.toArray) (.agg w.cs.toArray) = (do let r ← Op.equalIn (9998 + 2) 40 (.agg v.cs.toArray) (.agg w.cs.toArray); pure (.bool r)) := by kernel_rfl
  simp only [e]
  rw [pure?_bind, eq40]; rfl
end
end Go.AX.Tri
/- Contracts: lists of vectors compared. -/
namespace Go.AX.Tri
open Go.Proofs Go.AX.Mc
set_option linter.unusedSimpArgs false
set_option linter.unusedVariables false
noncomputable section

def eqL {α : Type} (e : α → α → Bool) : List α → List α → Bool
  | [], [] => true
  | a :: l, b :: m => e a b && eqL e l m
  | _, _ => false
theorem eqL_true {α : Type} {e : α → α → Bool} : ∀ {l m : List α}, l.length = m.length → (∀ (i : Nat) (a b : α), l[i]? = some a → m[i]? = some b → e a b = true) → eqL e l m = true
  | [], [], _, _ => rfl
  | a :: l, b :: m, h, k => by
    rw [eqL, k 0 a b rfl rfl, eqL_true (by simpa using h) (fun i x y hx hy => k (i + 1) x y hx hy)]; rfl
  | [], _ :: _, h, _ => by simp at h
  | _ :: _, [], h, _ => by simp at h
theorem eqL_false {α : Type} {e : α → α → Bool} : ∀ {l m : List α} (i : Nat) (a b : α), l[i]? = some a → m[i]? = some b → e a b = false → eqL e l m = false
  | a :: l, b :: m, 0, x, y, hx, hy, h => by cases hx; cases hy; rw [eqL, h]; rfl
  | a :: l, b :: m, i + 1, x, y, hx, hy, h => by rw [eqL, eqL_false i x y hx hy h]; exact Bool.and_false _
  | [], _, i, x, y, hx, hy, h => by simp at hx
  | _ :: _, [], i, x, y, hx, hy, h => by simp at hy
theorem eqL_len {α : Type} {e : α → α → Bool} : ∀ {l m : List α}, l.length ≠ m.length → eqL e l m = false
  | [], [], h => absurd rfl h
  | a :: l, b :: m, h => by rw [eqL, eqL_len (fun k => h (by simp [k]))]; exact Bool.and_false _
  | [], _ :: _, _ => rfl
  | _ :: _, [], _ => rfl
theorem eqL_refl {α : Type} {e : α → α → Bool} (h : ∀ a, e a a = true) : ∀ l : List α, eqL e l l = true
  | [] => rfl
  | a :: l => by rw [eqL, h, eqL_refl h l]; rfl
abbrev eqVs := eqL eqV
theorem eqV_refl (v : V4) : eqV v v = true := by simp [eqV]

theorem bin_neqV' (ox oy : Operand) (a b c d a' b' c' d' : Int) (H : AH) : aBin Try.prog .neq 40 ox oy none (.agg [.int .i32 a, .int .i32 b, .int .i32 c, .int .i32 d].toArray) (.agg [.int .i32 a', .int .i32 b', .int .i32 c', .int .i32 d'].toArray) H = some (.val (.bool (!eqV ⟨a, b, c, d⟩ ⟨a', b', c', d'⟩)) H) := bin_neqV ox oy ⟨a, b, c, d⟩ ⟨a', b', c', d'⟩ H
theorem bin_eqlV' (ox oy : Operand) (a b c d a' b' c' d' : Int) (H : AH) : aBin Try.prog .eql 40 ox oy none (.agg [.int .i32 a, .int .i32 b, .int .i32 c, .int .i32 d].toArray) (.agg [.int .i32 a', .int .i32 b', .int .i32 c', .int .i32 d'].toArray) H = some (.val (.bool (eqV ⟨a, b, c, d⟩ ⟨a', b', c', d'⟩)) H) := bin_eqlV ox oy ⟨a, b, c, d⟩ ⟨a', b', c', d'⟩ H

theorem w1 {i : Nat} (h : i < 9223372036854775807) : wrapF .i64 ((i : Int) + 1) = ((i + 1 : Nat) : Int) := by rw [w64_id (by omega) (by omega)]; rfl

theorem loop45 {env : List Lp} {k : List KF} {Q : QF} (a a' : Option Addr) (c c' : Nat) (vs ws : List V4) (hl : vs.length = ws.length) (hsz : vs.length < 9223372036854775808) (h : AH) (hv : VecAt h a vs) (hw : VecAt h a' ws)
    (q1 : ∀ fr, eqVs vs ws = false → tmp fr (pa 4) = .bool false → Kt T env false k .ret fr [] (ext h []) Q)
    (q2 : ∀ fr, eqVs vs ws = true → Kt T env false k .normal fr [] (ext h []) Q) :
    ∀ (m i : Nat), i + m = vs.length → ∀ (fr : Tr Value), (∀ (j : Nat) v w, j < i → vs[j]? = some v → ws[j]? = some w → eqV v w = true) →
      tmp fr (pa 0) = .slice a vs.length c → tmp fr (pa 1) = .slice a' ws.length c' → tmp fr (pa 12) = .int .i64 vs.length → tmp fr (pa 13) = .int .i64 i →
      X T env false (.loop a45l0) (.blk 0 :: k) fr [] (ext h []) Q := by
  intro m
  induction m with
  | zero =>
    intro i hi fr h5 t0 t1 t12 t13
    rw [X_loop]
    change X _ _ _ (.seq _ _) _ _ _ _ _
    simp only [t0, t1, t12, t13, show ¬ ((i : Int) < vs.length) by omega, decide_false, go_sem, bin_add, bin_sub, bin_mul, Nat.reduceAdd, Nat.reduceMul, Nat.reduceEqDiff, Nat.reduceLeDiff, Nat.reduceLT, Nat.reduceSub, reduceIte, reduceCtorEq, Int.reduceToNat, Int.reduceNeg, Int.reduceLE, Int.reduceLT, Int.reduceEq, Nat.reduceOr, Nat.reduceShiftRight, Nat.reduceMod, Nat.reduceBNe, Nat.reduceBEq]
    refine q2 _ (eqL_true hl fun j v w hj hk => h5 j v w ?_ hj hk)
    have := (List.getElem?_eq_some_iff.1 hj).1; omega
  | succ m ih =>
    intro i hi fr h5 t0 t1 t12 t13
    have hlt : (i : Int) < vs.length := by omega
    have h0 : i < vs.length := by omega
    have h1 : i < ws.length := by omega
    obtain ⟨v, ev⟩ : ∃ v, vs[i]? = some v := ⟨vs[i]'(by omega), List.getElem?_eq_getElem (by omega)⟩
    obtain ⟨w, ew⟩ : ∃ v, ws[i]? = some v := ⟨ws[i]'(by omega), List.getElem?_eq_getElem (by omega)⟩
    obtain ⟨b, o, r, ha, hr, hb, r1⟩ := hv i v ev
    obtain ⟨b', o', r', ha', hr', hb', r2⟩ := hw i w ew
    rw [X_loop]
    change X _ _ _ (.seq _ _) _ _ _ _ _
    rw [ha] at t0
    rw [ha'] at t1
    rcases hr with rfl | rfl <;> rcases hr' with rfl | rfl
    all_goals
      simp only [t0, t1, t12, t13, hlt, go_sem, bin_add, bin_sub, bin_mul, Nat.reduceAdd, Nat.reduceMul, Nat.reduceEqDiff, Nat.reduceLeDiff, Nat.reduceLT, Nat.reduceSub, reduceIte, reduceCtorEq, Int.reduceToNat, Int.reduceNeg, Int.reduceLE, Int.reduceLT, Int.reduceEq, Nat.reduceOr, Nat.reduceShiftRight, Nat.reduceMod, Nat.reduceBNe, Nat.reduceBEq]
      refine X_drawE 0 (by rfl) ?_
      simp only [V4.cs, t0, t1, t13, h0, h1, rd_old _ _ _ _ _ hb, rd_old _ _ _ _ _ hb', r1, r2, bin_neqV', go_sem, bin_add, bin_sub, bin_mul, Nat.reduceAdd, Nat.reduceMul, Nat.reduceEqDiff, Nat.reduceLeDiff, Nat.reduceLT, Nat.reduceSub, reduceIte, reduceCtorEq, Int.reduceToNat, Int.reduceNeg, Int.reduceLE, Int.reduceLT, Int.reduceEq, Nat.reduceOr, Nat.reduceShiftRight, Nat.reduceMod, Nat.reduceBNe, Nat.reduceBEq]
      refine Cd_split ?_ ?_ <;> intro g
      · simp only [g, go_sem, bin_add, bin_sub, bin_mul, Nat.reduceAdd, Nat.reduceMul, Nat.reduceEqDiff, Nat.reduceLeDiff, Nat.reduceLT, Nat.reduceSub, reduceIte, reduceCtorEq, Int.reduceToNat, Int.reduceNeg, Int.reduceLE, Int.reduceLT, Int.reduceEq, Nat.reduceOr, Nat.reduceShiftRight, Nat.reduceMod, Nat.reduceBNe, Nat.reduceBEq]
        refine q1 _ (eqL_false i v w ev ew (by simpa using g)) ?_
        simp only [go_sem, bin_add, bin_sub, bin_mul, Nat.reduceAdd, Nat.reduceMul, Nat.reduceEqDiff, Nat.reduceLeDiff, Nat.reduceLT, Nat.reduceSub, reduceIte, reduceCtorEq, Int.reduceToNat, Int.reduceNeg, Int.reduceLE, Int.reduceLT, Int.reduceEq, Nat.reduceOr, Nat.reduceShiftRight, Nat.reduceMod, Nat.reduceBNe, Nat.reduceBEq]
      · simp only [g, t13, go_sem, bin_add, bin_sub, bin_mul, Nat.reduceAdd, Nat.reduceMul, Nat.reduceEqDiff, Nat.reduceLeDiff, Nat.reduceLT, Nat.reduceSub, reduceIte, reduceCtorEq, Int.reduceToNat, Int.reduceNeg, Int.reduceLE, Int.reduceLT, Int.reduceEq, Nat.reduceOr, Nat.reduceShiftRight, Nat.reduceMod, Nat.reduceBNe, Nat.reduceBEq]
        refine ih (i + 1) (by omega) _ ?_ ?_ ?_ ?_ ?_
        · intro j x y hj hx hy
          by_cases e : j = i
          · subst e
            rw [ev] at hx; cases hx
            rw [ew] at hy; cases hy
            simpa using g
          · exact h5 j x y (by omega) hx hy
        · simp only [t0, ha, go_sem, bin_add, bin_sub, bin_mul, Nat.reduceAdd, Nat.reduceMul, Nat.reduceEqDiff, Nat.reduceLeDiff, Nat.reduceLT, Nat.reduceSub, reduceIte, reduceCtorEq, Int.reduceToNat, Int.reduceNeg, Int.reduceLE, Int.reduceLT, Int.reduceEq, Nat.reduceOr, Nat.reduceShiftRight, Nat.reduceMod, Nat.reduceBNe, Nat.reduceBEq]
        · simp only [t1, ha', go_sem, bin_add, bin_sub, bin_mul, Nat.reduceAdd, Nat.reduceMul, Nat.reduceEqDiff, Nat.reduceLeDiff, Nat.reduceLT, Nat.reduceSub, reduceIte, reduceCtorEq, Int.reduceToNat, Int.reduceNeg, Int.reduceLE, Int.reduceLT, Int.reduceEq, Nat.reduceOr, Nat.reduceShiftRight, Nat.reduceMod, Nat.reduceBNe, Nat.reduceBEq]
        · simp only [t12, go_sem, bin_add, bin_sub, bin_mul, Nat.reduceAdd, Nat.reduceMul, Nat.reduceEqDiff, Nat.reduceLeDiff, Nat.reduceLT, Nat.reduceSub, reduceIte, reduceCtorEq, Int.reduceToNat, Int.reduceNeg, Int.reduceLE, Int.reduceLT, Int.reduceEq, Nat.reduceOr, Nat.reduceShiftRight, Nat.reduceMod, Nat.reduceBNe, Nat.reduceBEq]
        · simp only [go_sem, bin_add, bin_sub, bin_mul, Nat.reduceAdd, Nat.reduceMul, Nat.reduceEqDiff, Nat.reduceLeDiff, Nat.reduceLT, Nat.reduceSub, reduceIte, reduceCtorEq, Int.reduceToNat, Int.reduceNeg, Int.reduceLE, Int.reduceLT, Int.reduceEq, Nat.reduceOr, Nat.reduceShiftRight, Nat.reduceMod, Nat.reduceBNe, Nat.reduceBEq, t13]
          rw [w1 (by omega)]

theorem c45 {env : List Lp} (a a' : Option Addr) (c c' : Nat) (vs ws : List V4) (H : AH) (s1 : Sl a) (s2 : Sl a') (hsz : vs.length < 9223372036854775808) (hv : VecAt H a vs) (hw : VecAt H a' ws) (Q : AEnd → AH → Prop) :
    C T env 45 [.slice a vs.length c, .slice a' ws.length c'] H Q = Q (.ret (.bool (eqVs vs ws))) H := by
  refine C_det ?_ Q
  rw [C_fn T45 rfl]
  simp only [a45, s1 _ _ _, s2 _ _ _, go_sem, bin_add, bin_sub, bin_mul, Nat.reduceAdd, Nat.reduceMul, Nat.reduceEqDiff, Nat.reduceLeDiff, Nat.reduceLT, Nat.reduceSub, reduceIte, reduceCtorEq, Int.reduceToNat, Int.reduceNeg, Int.reduceLE, Int.reduceLT, Int.reduceEq, Nat.reduceOr, Nat.reduceShiftRight, Nat.reduceMod, Nat.reduceBNe, Nat.reduceBEq]
  refine Cd_split ?_ ?_ <;> intro g <;> simp only [g, s1 _ _ _, s2 _ _ _, go_sem, bin_add, bin_sub, bin_mul, Nat.reduceAdd, Nat.reduceMul, Nat.reduceEqDiff, Nat.reduceLeDiff, Nat.reduceLT, Nat.reduceSub, reduceIte, reduceCtorEq, Int.reduceToNat, Int.reduceNeg, Int.reduceLE, Int.reduceLT, Int.reduceEq, Nat.reduceOr, Nat.reduceShiftRight, Nat.reduceMod, Nat.reduceBNe, Nat.reduceBEq]
  · rw [show eqVs vs ws = false from eqL_len (by simp at g; omega)]
  · have hl : vs.length = ws.length := by simp at g; omega
    refine loop45 a a' c c' vs ws hl hsz H.now (hv.mono (Nat.le_refl _) fun _ _ _ _ => rfl) (hw.mono (Nat.le_refl _) fun _ _ _ _ => rfl) ?_ ?_ vs.length 0 (by omega) _ (by intro j; omega) ?_ ?_ ?_ ?_
    · intro fr he h4
      simp only [h4, he, go_sem, bin_add, bin_sub, bin_mul, Nat.reduceAdd, Nat.reduceMul, Nat.reduceEqDiff, Nat.reduceLeDiff, Nat.reduceLT, Nat.reduceSub, reduceIte, reduceCtorEq, Int.reduceToNat, Int.reduceNeg, Int.reduceLE, Int.reduceLT, Int.reduceEq, Nat.reduceOr, Nat.reduceShiftRight, Nat.reduceMod, Nat.reduceBNe, Nat.reduceBEq]
    · intro fr he
      simp only [he, go_sem, bin_add, bin_sub, bin_mul, Nat.reduceAdd, Nat.reduceMul, Nat.reduceEqDiff, Nat.reduceLeDiff, Nat.reduceLT, Nat.reduceSub, reduceIte, reduceCtorEq, Int.reduceToNat, Int.reduceNeg, Int.reduceLE, Int.reduceLT, Int.reduceEq, Nat.reduceOr, Nat.reduceShiftRight, Nat.reduceMod, Nat.reduceBNe, Nat.reduceBEq]
    all_goals simp only [go_sem, bin_add, bin_sub, bin_mul, Nat.reduceAdd, Nat.reduceMul, Nat.reduceEqDiff, Nat.reduceLeDiff, Nat.reduceLT, Nat.reduceSub, reduceIte, reduceCtorEq, Int.reduceToNat, Int.reduceNeg, Int.reduceLE, Int.reduceLT, Int.reduceEq, Nat.reduceOr, Nat.reduceShiftRight, Nat.reduceMod, Nat.reduceBNe, Nat.reduceBEq]
end
end Go.AX.Tri
