/- What comes in: three corners, a box. -/
import Derived.Test.YthhgeodgfbhkdaaXc
import Derived.Test.YthhgeodgfbhkdaaZf
set_option linter.unusedVariables false
set_option linter.unusedSimpArgs false
set_option linter.unusedSectionVars false
namespace Go.AX.Tri
open Go Go.Proofs Go.AX Go.AX.Mc Go.ChangeShapes Go.WideShapes Go.RowKit
set_option linter.unusedSimpArgs false
set_option linter.unusedVariables false
noncomputable section

theorem law_calls' {P : Program} {X : XT} {T : FT} (hX : XOk P X) (hT : ∀ f fn, T f = some fn → prepF P X f = some fn) (hP : P.follows .mixedOrders = true) {f : FuncId} {args : Array Value} {al : List Value} {W : World} {v : Value} (hv : ∀ d, clo d v = true)
    (ha : VRL (wM W.heap.size) al args.toList) (h : C T [] f al (emb W) fun x H' => x = .ret v ∧ H' = emb W) : Calls P f args W fun e W' => e = .returned v ∧ RowKit.Below W.heap.size W W' := by
  obtain ⟨n, x, H', h1, rfl, rfl⟩ := h
  refine (call_ok hX hT (draw_ok hX hP) (emb_rel W) (emb_dom W) ha h1).mono ?_
  rintro e W' ⟨m', hs, hr, hd, v', rfl, hv'⟩
  refine ⟨by rw [VR.eq_of_clo 1 (hv 1) hv'], hs.os, hs.tape, hs.output, hs.size, ?_⟩
  intro b hb
  refine hs.blk b hb ?_
  intro j y hj hy hlo
  have h1 := emb_lt hj
  have : (emb W).lo = W.heap.size := rfl
  omega

theorem rowAt_le {p : Program} {fits : TypeId → Bool} {d e count off n : Nat} (h : rowAt p fits d e count off n = true) : off ≤ count * p.cellsOf e := by
  cases d with
  | zero => simp [rowAt] at h
  | succ d =>
    unfold rowAt at h
    simp only at h
    split at h
    · cases h
    · rename_i hs
      have hs' : 0 < p.cellsOf e := Nat.pos_of_ne_zero hs
      have hd := Nat.div_add_mod off (p.cellsOf e)
      have hm := Nat.mod_lt off hs'
      have key : off / p.cellsOf e < count ∨ (off % p.cellsOf e = 0 ∧ off / p.cellsOf e ≤ count) := by
        simp only [Bool.or_eq_true, Bool.and_eq_true, beq_iff_eq, decide_eq_true_eq] at h
        omega
      have hc : off / p.cellsOf e < count → off ≤ count * p.cellsOf e := by
        intro hlt
        have : (off / p.cellsOf e + 1) * p.cellsOf e ≤ count * p.cellsOf e := Nat.mul_le_mul_right _ hlt
        rw [Nat.add_mul, Nat.one_mul, Nat.mul_comm] at this
        omega
      rcases key with k | ⟨k0, k1⟩
      · exact hc k
      · have : off / p.cellsOf e * p.cellsOf e ≤ count * p.cellsOf e := Nat.mul_le_mul_right _ k1
        rw [Nat.mul_comm] at this
        omega
theorem liesAt_le {p : Program} : ∀ {d e count off u n : Nat}, liesAt p d e count off u n = true → off ≤ count * p.cellsOf e
  | 0, _, _, _, _, _, h => by simp [liesAt] at h
  | d + 1, e, count, off, u, n, h => by
    unfold liesAt at h
    rw [Bool.or_eq_true] at h
    rcases h with h | h
    · exact rowAt_le h
    · split at h
      · exact liesAt_le h
      · cases h

section
variable {H : Type} {enc : TypeId × Value → H} {W : World} {spare : Nat → Bool} {held : Bool}
theorem has_zero {b o : Nat} {s : Option Nat} {r : Reach} {base e n : Nat} (h : W.has Try.prog r base ⟨b, o, s⟩ e n) : rd (emb W) b o 0 = some [] := by
  obtain ⟨_, _, row, cells, h2, h3⟩ := h
  have hl := liesAt_le h3
  unfold World.shape? at h2
  simp only at h2 hl
  cases hb : W.heap[b]? with
  | none => rw [hb] at h2; cases h2
  | some ob =>
    rw [hb] at h2
    cases ob with
    | cells c t f =>
      simp only [Option.some.injEq, Prod.mk.injEq] at h2
      obtain ⟨_, rfl⟩ := h2
      rw [rd_rdB, emb_get, hb]
      simp only [Option.map_some, embB]
      rw [rdB_cells, if_pos]
      · simp
      · have := Nat.div_mul_le_self c.size (Try.prog.cellsOf row)
        simp only [List.length_map, Array.length_toList]
        omega
    | _ => cases h2

theorem vrl_agg {N : Nat} (cs : Array Value) {l : List Value} (h : cs.toList.map (absV N) = l) : VR (wM N) (.agg l.toArray) (.agg cs) := by
  refine .agg _ _ ?_
  rw [← h]
  exact absL_ok _ _

theorem cells31 : Try.prog.cellsOf 31 = 18 := by kernel_rfl
theorem cells34 : Try.prog.cellsOf 34 = 4 := by kernel_rfl
theorem types31 : Try.prog.cellTypes Try.prog.depth 31 = some [3, 3, 27, 27, 27, 28, 3, 3, 27, 27, 27, 28, 3, 3, 27, 27, 27, 28] := by kernel_rfl
theorem types30 : Try.prog.cellTypes Try.prog.depth 30 = some [3, 3, 27, 27, 27, 28] := by kernel_rfl

set_option maxRecDepth 100000 in
theorem cell_pl {base : Nat} {v : Value} (hv : Cell.okWide Try.prog W .any base 28 v) : (v = .slice none 0 0) ∨ ∃ b o l c, v = .slice (some ⟨b, o, none⟩) l c ∧ l ≤ c ∧ b < W.heap.size ∧ rd (emb W) b o 0 = some [] := by
  unfold Cell.okWide at hv
  rw [Try.underlying28] at hv
  simp only at hv
  unfold Cell.ok at hv
  rw [Try.underlying28] at hv
  cases v
  case slice a l c =>
    cases a with
    | none =>
      cases l with
      | zero => cases c with
        | zero => exact .inl rfl
        | succ c => exact hv.elim
      | succ l => exact hv.elim
    | some a =>
      obtain ⟨h1, _, h2⟩ := hv
      obtain ⟨b, o, s⟩ := a
      obtain ⟨rfl, hb⟩ := has_plain h2
      exact .inr ⟨b, o, l, c, rfl, h1, hb, has_zero h2⟩
  all_goals exact hv.elim

set_option maxRecDepth 100000 in
theorem open_win' {fuel base : Nat} {cs : List Value} {x : DataW H × List MemPlace} (h : DataW.trod enc Try.prog W 0 spare held fuel 30 cs = some x) (hc : ∀ v, cs[5]? = some v → Cell.okWide Try.prog W .any base 28 v) :
    ∃ p : Wn, cs.map (absV W.heap.size) = p.cs ∧ WnAt (emb W) p ∧ Pl (emb W) p := by
  obtain ⟨p, h1, h2, h3⟩ := open_win h
  refine ⟨p, h1, h2, ?_⟩
  have h5 := congrArg (fun l => l[5]?) h1
  simp only [List.getElem?_map] at h5
  cases e : cs[5]? with
  | none => rw [e] at h5; simp [Wn.cs] at h5
  | some v =>
    rw [e] at h5
    rcases cell_pl (hc v e) with rfl | ⟨b, o, l, c, rfl, hl, hb, h0⟩
    · have e2 : absV W.heap.size (.slice none 0 0) = .slice p.a p.l p.c := by simpa [Wn.cs] using h5
      have e3 : (Value.slice none 0 0) = .slice p.a p.l p.c := e2
      cases hp : p.a with
      | none =>
        rw [hp] at e3
        simp only [Value.slice.injEq] at e3
        exact .inl ⟨hp, e3.2.1.symm, e3.2.2.symm⟩
      | some a => rw [hp] at e3; simp at e3
    · obtain ⟨k1, k2, k3⟩ := h3 b o l c e hb
      exact .inr (.inl ⟨b, o, k1, by omega, hb, h0⟩)

theorem list18 {α : Type} {l : List α} (h : l.length = 18) : (l.take 6).length = 6 ∧ ((l.drop 6).take 6).length = 6 ∧ ((l.drop 12).take 6).length = 6 ∧ l = l.take 6 ++ ((l.drop 6).take 6 ++ (l.drop 12).take 6) := by
  refine ⟨by rw [List.length_take]; omega, by rw [List.length_take, List.length_drop]; omega, by rw [List.length_take, List.length_drop]; omega, ?_⟩
  have h1 : (l.drop 12).take 6 = l.drop 12 := List.take_of_length_le (by rw [List.length_drop]; omega)
  rw [h1]
  have h2 : (l.drop 6).take 6 ++ l.drop 12 = l.drop 6 := by
    have := List.take_append_drop 6 (l.drop 6)
    rw [List.drop_drop] at this
    exact this
  rw [h2]
  exact (List.take_append_drop 6 l).symm

set_option maxRecDepth 100000 in
theorem open_tri {fuel : Nat} {v : Value} {x : DataW H × List MemPlace} {base : Nat} (hval : Value.okWide Try.prog W .any base 31 v) (h : DataW.trod enc Try.prog W 0 spare held fuel 31 v.cells.toList = some x) :
    ∃ a b c : Wn, VR (wM W.heap.size) (.agg (tri18 a b c).toArray) v ∧ (WnAt (emb W) a ∧ Pl (emb W) a) ∧ (WnAt (emb W) b ∧ Pl (emb W) b) ∧ (WnAt (emb W) c ∧ Pl (emb W) c) := by
  unfold Value.okWide at hval
  rw [Try.underlying31] at hval
  simp only at hval
  obtain ⟨cs, rfl, hsz, ts, hts, _, hr⟩ := hval
  rw [types31] at hts
  cases hts
  rw [cells31] at hsz
  change DataW.trod enc Try.prog W 0 spare held fuel 31 cs.toList = some x at h
  obtain ⟨xs, m, _, _, hl, hlen, hx⟩ := DataW.trod_array Try.underlying31 h
  rw [cells30] at hx
  have F : ∀ i, i < 3 → ∃ p : Wn, ((cs.toList.drop (i * 6)).take 6).map (absV W.heap.size) = p.cs ∧ WnAt (emb W) p ∧ Pl (emb W) p := by
    intro i hi
    have h1 := hx i hi
    rw [List.getElem?_eq_getElem (by omega)] at h1
    refine open_win' h1 (base := base) fun w hw => ?_
    rw [List.getElem?_take_of_lt (by omega), List.getElem?_drop] at hw
    have h2 : cs[i * 6 + 5]? = some w := by simpa using hw
    obtain ⟨u, hu, hk⟩ := hr _ _ h2
    rcases (show i = 0 ∨ i = 1 ∨ i = 2 by omega) with rfl | rfl | rfl
    all_goals
      cases hu
      exact hk
  obtain ⟨a, ea, ha⟩ := F 0 (by omega)
  obtain ⟨b, eb, hb⟩ := F 1 (by omega)
  obtain ⟨c, ec, hc⟩ := F 2 (by omega)
  refine ⟨a, b, c, vrl_agg cs ?_, ha, hb, hc⟩
  have hl18 : cs.toList.length = 18 := by simpa using hsz
  obtain ⟨_, _, _, e⟩ := list18 hl18
  rw [e, List.map_append, List.map_append]
  rw [show cs.toList.take 6 = (cs.toList.drop (0 * 6)).take 6 by simp, ea, eb, ec]
  rfl

set_option maxRecDepth 100000 in
theorem open_piece {fuel : Nat} {v : Value} {x : DataW H × List MemPlace} {base : Nat} (hval : Value.okWide Try.prog W .any base 34 v) (h : DataW.trod enc Try.prog W 0 spare held fuel 34 v.cells.toList = some x) :
    ∃ px py pw ph : Int, VR (wM W.heap.size) (.agg [.int .i64 px, .int .i64 py, .int .i64 pw, .int .i64 ph].toArray) v := by
  unfold Value.okWide at hval
  rw [Try.underlying34] at hval
  simp only at hval
  obtain ⟨cs, rfl, hsz, _⟩ := hval
  rw [cells34] at hsz
  change DataW.trod enc Try.prog W 0 spare held fuel 34 cs.toList = some x at h
  obtain ⟨xs, n, _, _, hl, hlen, hf⟩ := DataW.trod_struct Try.underlying34 h
  obtain ⟨c0, c1, c2, c3, e⟩ := list4 (show cs.toList.length = 4 by simpa using hsz)
  obtain ⟨y0, y1, y2, y3, rfl⟩ := list4 hlen
  rw [e] at hf
  have h0 := hf 0 _ rfl
  have h1 := hf 1 _ rfl
  have h2 := hf 2 _ rfl
  have h3 := hf 3 _ rfl
  change DataW.trod enc Try.prog W 0 spare held n 3 (([c0, c1, c2, c3].drop 0).take (Try.prog.cellsOf 3)) = some y0 at h0
  change DataW.trod enc Try.prog W 0 spare held n 3 (([c0, c1, c2, c3].drop 1).take (Try.prog.cellsOf 3)) = some y1 at h1
  change DataW.trod enc Try.prog W 0 spare held n 3 (([c0, c1, c2, c3].drop 2).take (Try.prog.cellsOf 3)) = some y2 at h2
  change DataW.trod enc Try.prog W 0 spare held n 3 (([c0, c1, c2, c3].drop 3).take (Try.prog.cellsOf 3)) = some y3 at h3
  rw [cells3] at h0 h1 h2 h3
  obtain ⟨n0, e0, _, _⟩ := DataW.trod_int Try.underlying3 h0
  obtain ⟨n1, e1, _, _⟩ := DataW.trod_int Try.underlying3 h1
  obtain ⟨n2, e2, _, _⟩ := DataW.trod_int Try.underlying3 h2
  obtain ⟨n3, e3, _, _⟩ := DataW.trod_int Try.underlying3 h3
  simp at e0 e1 e2 e3
  refine ⟨n0, n1, n2, n3, vrl_agg cs ?_⟩
  rw [e, e0, e1, e2, e3]
  rfl
end
end
end Go.AX.Tri
/- Maps whose keys are cells: what is found. -/
namespace Go.AX.Tri
open Go Go.Proofs Go.AX.Mc
set_option linter.unusedSimpArgs false
set_option linter.unusedVariables false
noncomputable section

/-- a cell's key. -/
def kC (x y : Int) : Value := .agg [.int .i64 x, .int .i64 y].toArray
def F44 : Array Field := [{ name := "x", type := 3, offset := 0, embedded := false, tag := "", pkgPath := "paintbox/paintboxlaw22", byteOffset := 0 }, { name := "y", type := 3, offset := 1, embedded := false, tag := "", pkgPath := "paintbox/paintboxlaw22", byteOffset := 8 }].toArray
theorem un44 : pure? Try.prog (underlying 44) = .ok (.struct F44) := by kernel_rfl
theorem eq3 (d : Nat) (a b : Int) : pure? Try.prog (Op.equalIn (d + 1) 3 (.int .i64 a) (.int .i64 b)) = .ok (a == b) := by kernel_rfl
theorem part0 (x y : Int) : pure? Try.prog (part 3 [Value.int .i64 x, Value.int .i64 y].toArray 0) = .ok (.int .i64 x) := by kernel_rfl
theorem part1 (x y : Int) : pure? Try.prog (part 3 [Value.int .i64 x, Value.int .i64 y].toArray 1) = .ok (.int .i64 y) := by kernel_rfl
theorem stood44 : Try.prog.stoodInHeld 44 = false := by kernel_rfl
theorem eq44 (d : Nat) (x y x' y' : Int) : pure? Try.prog (Op.equalIn (d + 2) 44 (kC x y) (kC x' y')) = .ok (x == x' && y == y') := by
  unfold kC
  rw [Op.equalIn, pure?_bind, un44]
  simp only
  rw [pure?_bind, show pure? Try.prog program = .ok Try.prog from rfl]
  simp only [stood44, Bool.false_eq_true, if_false]
  unfold F44
  simp only [List.forIn_toArray, List.forIn_cons, List.forIn_nil, pure?_bind]
  simp only [show ("x" ≠ "_") = True from eq_true (by decide), show ("y" ≠ "_") = True from eq_true (by decide), if_true, pure?_bind, part0, part1, eq3]
  cases (x == x')
  · rfl
  simp only [Bool.not_true, Bool.false_eq_true, if_false, Bool.true_and]
  rw [show pure? Try.prog (pure (ForInStep.yield ((none, ()) : Option Bool × Unit))) = .ok (ForInStep.yield (none, ())) from rfl]
  simp only [pure?_bind, part0, part1, eq3]
  cases (y == y') <;> rfl

theorem check44 (emp : Bool) (x y : Int) : pure? Try.prog (Instr.checkKey emp 10000 44 (kC x y)) = .ok () := by
  unfold kC
  rw [Instr.checkKey, pure?_bind, un44]
  simp only
  unfold F44
  have c3 : ∀ v, pure? Try.prog (Instr.checkKey emp 9999 3 (.int .i64 v)) = .ok () := fun v => by kernel_rfl
  simp only [List.forIn_toArray, List.forIn_cons, List.forIn_nil, pure?_bind]
  simp only [show ("x" ≠ "_") = True from eq_true (by decide), show ("y" ≠ "_") = True from eq_true (by decide), if_true, pure?_bind, part0, part1, c3]
  rw [show pure? Try.prog (pure (ForInStep.yield PUnit.unit)) = .ok (ForInStep.yield PUnit.unit) from rfl]
  simp only [pure?_bind, part1, c3]
  rfl

/-- entries: cells with what they bear; an entry's number is its place. -/
abbrev CL := List (Int × Int × Value)
def ents : CL → Nat → List MapEntry
  | [], _ => []
  | (x, y, v) :: r, i => { key := kC x y, val := v, born := i } :: ents r (i + 1)
/-- where a cell stands, and with what. -/
def fnd : CL → Int → Int → Nat → Option (Nat × Value)
  | [], _, _, _ => none
  | (a, b, v) :: r, x, y, i => bif x == a && y == b then some (i, v) else fnd r x y (i + 1)
theorem ask44 (x y : Int) : ∀ (L : CL) (i j : Nat), pure? Try.prog (Instr.findAsking 44 (kC x y) (ents L j) i) = .ok (fnd L x y i)
  | [], i, _ => rfl
  | (a, b, v) :: r, i, j => by
    have ih := ask44 x y r (i + 1) (j + 1)
    have e1 : pure? Try.prog (Op.equal 44 (kC x y) (kC a b)) = .ok (x == a && y == b) := eq44 9998 x y a b
    unfold ents
    rw [Instr.findAsking, pure?_bind, e1]
    unfold fnd
    cases (x == a && y == b)
    · exact ih
    · rfl
theorem now44 (x y : Int) (L : CL) (j : Nat) : Instr.findNow (.struct F44) (kC x y) (ents L j) 0 = if L = [] then some none else none := by
  cases L with
  | nil => rfl
  | cons e r =>
    obtain ⟨a, b, v⟩ := e
    rw [if_neg (by simp)]
    rfl
theorem find44 (emp : Bool) (x y : Int) (L : CL) (j : Nat) : aFind Try.prog emp 44 (kC x y) (ents L j) = some (fnd L x y 0) := by
  unfold aFind
  have hc : clo 3 (kC x y) = true := rfl
  have hp : pure? Try.prog (do Instr.checkKey emp 10000 44 (kC x y); Instr.findKey 44 (kC x y) (ents L j)) = .ok (fnd L x y 0) := by
    rw [pure?_bind, check44]
    simp only
    unfold Instr.findKey
    rw [pure?_bind, un44]
    simp only [now44 x y L j]
    cases L with
    | nil => rfl
    | cons e r => exact ask44 x y _ 0 j
  rw [hc, hp]; rfl

/-! ## Lists of cells -/
def getC (L : CL) (x y : Int) : Option Value := (fnd L x y 0).map Prod.snd
theorem fnd_shift (x y : Int) : ∀ (L : CL) (i : Nat), fnd L x y i = (fnd L x y 0).map fun q => (q.1 + i, q.2)
  | [], i => rfl
  | (a, b, v) :: r, i => by
    unfold fnd
    cases (x == a && y == b)
    · simp only [cond_false]
      rw [fnd_shift x y r (i + 1), fnd_shift x y r (0 + 1)]
      cases fnd r x y 0 with
      | none => rfl
      | some q => simp only [Option.map_some]; congr 2; omega
    · simp
theorem fnd_some {x y : Int} {v : Value} : ∀ {L : CL} {i : Nat}, fnd L x y 0 = some (i, v) → L[i]? = some (x, y, v)
  | [], i, h => by simp [fnd] at h
  | (a, b, w) :: r, i, h => by
    unfold fnd at h
    cases hk : (x == a && y == b)
    · rw [hk] at h
      simp only [cond_false] at h
      rw [fnd_shift] at h
      cases hr : fnd r x y 0 with
      | none => rw [hr] at h; simp at h
      | some q =>
        rw [hr] at h
        simp only [Option.map_some, Option.some.injEq, Prod.mk.injEq] at h
        obtain ⟨h1, h2⟩ := h
        have := fnd_some (L := r) (i := q.1) (v := q.2) hr
        rw [← h1, Nat.zero_add, List.getElem?_cons_succ, this, h2]
    · rw [hk] at h
      simp only [cond_true, Option.some.injEq, Prod.mk.injEq] at h
      rw [Bool.and_eq_true, beq_iff_eq, beq_iff_eq] at hk
      rw [← h.1, hk.1, hk.2, h.2]; rfl
theorem ents_len : ∀ (L : CL) (j : Nat), (ents L j).length = L.length
  | [], _ => rfl
  | (a, b, v) :: r, j => by unfold ents; rw [List.length_cons, List.length_cons, ents_len r]
theorem ents_get : ∀ (L : CL) (j i : Nat) (x y : Int) (v : Value), L[i]? = some (x, y, v) → (ents L j)[i]? = some { key := kC x y, val := v, born := j + i }
  | [], j, i, x, y, v, h => by simp at h
  | (a, b, w) :: r, j, 0, x, y, v, h => by cases h; rfl
  | (a, b, w) :: r, j, i + 1, x, y, v, h => by
    unfold ents
    rw [List.getElem?_cons_succ, ents_get r (j + 1) i x y v h]
    congr 2; omega
theorem ents_snoc : ∀ (L : CL) (j : Nat) (x y : Int) (v : Value), ents (L ++ [(x, y, v)]) j = ents L j ++ [{ key := kC x y, val := v, born := j + L.length }]
  | [], j, x, y, v => rfl
  | (a, b, w) :: r, j, x, y, v => by
    show _ :: ents (r ++ [(x, y, v)]) (j + 1) = _
    rw [ents_snoc r (j + 1), List.length_cons, show j + 1 + r.length = j + (r.length + 1) by omega]; rfl
theorem ents_mod : ∀ (L : CL) (j i : Nat) (w : Value), ents (L.modify i fun c => (c.1, c.2.1, w)) j = (ents L j).modify i fun e => { e with val := w }
  | [], j, i, w => by cases i <;> rfl
  | (a, b, v) :: r, j, 0, w => rfl
  | (a, b, v) :: r, j, i + 1, w => by
    show _ :: ents (r.modify i _) (j + 1) = _ :: ((ents r (j + 1)).modify i _)
    rw [ents_mod r (j + 1) i w]
theorem mod_key : ∀ (es : List MapEntry) (i : Nat) (k : Value) (e : MapEntry), es[i]? = some e → e.key = k → (es.modify i fun e => { e with key := k }) = es
  | [], i, k, e, h, _ => by simp at h
  | e' :: r, 0, k, e, h, hk => by
    cases h
    show { e' with key := k } :: r = _
    rw [← hk]
  | e' :: r, i + 1, k, e, h, hk => by
    show e' :: (r.modify i _) = _
    rw [mod_key r i k e h hk]
theorem born_at : ∀ (L : CL) (j k i : Nat), i < L.length → bornAt ((j + i : Nat) : Int) (ents L j) k = some (k + i)
  | [], j, k, i, h => by simp at h
  | (a, b, v) :: r, j, k, 0, h => by
    unfold ents bornAt
    simp
  | (a, b, v) :: r, j, k, i + 1, h => by
    unfold ents bornAt
    have e : (((j : Nat) : Int) == ((j + (i + 1) : Nat) : Int)) = false := by rw [Bool.eq_false_iff]; intro h2; rw [beq_iff_eq] at h2; omega
    simp only [e, cond_false]
    have := born_at r (j + 1) (k + 1) i (by simpa using h)
    rw [show j + (i + 1) = j + 1 + i by omega, this]
    congr 1; omega
theorem same44 (x y : Int) : Instr.sameBits 10000 (kC x y) (kC x y) = true := by
  unfold kC
  simp [Instr.sameBits]
end
end Go.AX.Tri
/- Maps whose keys are cells: the operations. -/
namespace Go.AX.Tri
open Go Go.Proofs Go.AX.Mc
set_option linter.unusedSimpArgs false
set_option linter.unusedVariables false
noncomputable section

def lkV (kt : TypeId) (z : Value) (ok : Bool) (m k : Value) (H : AH) : Option ANext := val? H (aLookup Try.prog kt z ok m k H)
theorem e_lookup (kt : TypeId) (z : Value) (ok : Bool) (m k : Ar) (fr : Tr Value) (H : AH) : oLookup Try.prog kt z ok m k fr H = lkV kt z ok (ev fr m) (ev fr k) H := rfl
def upV (kt : TypeId) (m k v : Value) (H : AH) : Option ANext := heap? (aMapUpdate Try.prog kt m k v H)
theorem e_mapUpdate (kt : TypeId) (m k v : Ar) (fr : Tr Value) (H : AH) : oMapUpdate Try.prog kt m k v fr H = upV kt (ev fr m) (ev fr k) (ev fr v) H := rfl
def enV (kt : TypeId) (z m k : Value) (H : AH) : Option ANext := aMapEntry Try.prog kt z m k H
theorem e_mapEntry (kt : TypeId) (z : Value) (m k : Ar) (fr : Tr Value) (H : AH) : oMapEntry Try.prog kt z m k fr H = enV kt z (ev fr m) (ev fr k) H := rfl
def esV (m s v : Value) (H : AH) : Option ANext := heap? (aEntryStore m s v H)
theorem e_entryStore (m s v : Ar) (fr : Tr Value) (H : AH) : oEntryStore m s v fr H = esV (ev fr m) (ev fr s) (ev fr v) H := rfl
theorem e_mkMap (fr : Tr Value) (H : AH) : oMkMap fr H = some (.val (.map (some H.nx)) (H.push (.map [] 0))) := rfl
theorem flat_map (r : Option Nat) : flat (.map r) = true := rfl

theorem lk44 {z : Value} {r : Nat} {x y : Int} {H : AH} {L : CL} {c : Nat} (h : H.get r = some (.map (ents L 0) c)) :
    lkV 44 z false (.map (some r)) (.agg [.int .i64 x, .int .i64 y].toArray) H = some (.val ((getC L x y).getD z) H) := by
  unfold lkV aLookup
  have hf := fun emp => find44 emp x y L 0
  unfold kC at hf
  simp only [h, hf]
  unfold getC
  cases fnd L x y 0 with
  | none => rfl
  | some q => rfl
theorem up44 {v : Value} {r : Nat} {x y : Int} {H : AH} {L : CL} (h : H.get r = some (.map (ents L 0) L.length)) (hn : getC L x y = none) :
    upV 44 (.map (some r)) (.agg [.int .i64 x, .int .i64 y].toArray) v H = some (.val undef (H.set r (.map (ents (L ++ [(x, y, v)]) 0) (L.length + 1)))) := by
  have hf := fun emp => find44 emp x y L 0
  unfold kC at hf
  have hnone : fnd L x y 0 = none := by unfold getC at hn; cases hq : fnd L x y 0 with
    | none => rfl
    | some q => rw [hq] at hn; simp at hn
  unfold upV aMapUpdate
  simp only [h, hf, hnone]
  rw [ents_snoc, Nat.zero_add]; rfl
/-- one more at a cell. -/
def bump (L : CL) (x y : Int) (v : Value) : CL := match fnd L x y 0 with
  | some (i, _) => L.modify i fun c => (c.1, c.2.1, v)
  | none => L ++ [(x, y, v)]
/-- the entry's number. -/
def numC (L : CL) (x y : Int) : Nat := match fnd L x y 0 with
  | some (i, _) => i
  | none => L.length
def hadC (L : CL) (x y : Int) (z : Value) : CL := match fnd L x y 0 with
  | some _ => L
  | none => L ++ [(x, y, z)]
theorem en44 {z : Value} {r : Nat} {x y : Int} {H : AH} {L : CL} (h : H.get r = some (.map (ents L 0) L.length)) :
    enV 44 z (.map (some r)) (.agg [.int .i64 x, .int .i64 y].toArray) H = some (.val (.tuple #[(getC L x y).getD z, .int .i64 (numC L x y : Int)]) (H.set r (.map (ents (hadC L x y z) 0) (hadC L x y z).length))) := by
  have hf := fun emp => find44 emp x y L 0
  have hs := same44 x y
  unfold kC at hf hs
  unfold enV aMapEntry
  simp only [h, hf]
  unfold getC numC hadC
  cases hq : fnd L x y 0 with
  | none =>
    simp only [Option.map_none, Option.getD_none]
    rw [ents_snoc, Nat.zero_add, List.length_append]; rfl
  | some q =>
    obtain ⟨i, v⟩ := q
    have hi := fnd_some hq
    have he := ents_get L 0 i x y v hi
    have hk : keyAt (ents L 0) i (.agg [.int .i64 x, .int .i64 y].toArray) = kC x y := by unfold keyAt; rw [he]
    simp only [hk, he]
    rw [show Instr.sameBits 10000 (kC x y) (Value.agg [.int .i64 x, .int .i64 y].toArray) = true from same44 x y]
    simp only [cond_true, Option.map_some, Option.getD_some, Nat.zero_add]
    rw [show (Value.agg [Value.int .i64 x, .int .i64 y].toArray) = kC x y from rfl, mod_key _ _ _ _ he rfl]
theorem mod_end {α : Type} (f : α → α) (a : α) : ∀ L : List α, (L ++ [a]).modify L.length f = L ++ [f a]
  | [] => rfl
  | e :: r => by
    show e :: ((r ++ [a]).modify r.length f) = _
    rw [mod_end f a r]; rfl
theorem es44 {z v : Value} {r : Nat} {x y : Int} {H : AH} {L : CL} (h : H.get r = some (.map (ents (hadC L x y z) 0) (hadC L x y z).length)) :
    esV (.map (some r)) (.int .i64 (numC L x y : Int)) v H = some (.val undef (H.set r (.map (ents (bump L x y v) 0) (bump L x y v).length))) := by
  unfold esV aEntryStore
  simp only [h]
  unfold numC hadC bump
  cases hq : fnd L x y 0 with
  | none =>
    have hb := born_at (L ++ [(x, y, z)]) 0 0 L.length (by simp)
    rw [Nat.zero_add] at hb
    simp only [hb]
    have hm := ents_mod (L ++ [(x, y, z)]) 0 L.length v
    have e : (L ++ [(x, y, z)]).modify L.length (fun c => (c.1, c.2.1, v)) = L ++ [(x, y, v)] := mod_end _ _ _
    rw [← hm, e]
    simp only [List.length_append]; rfl
  | some q =>
    obtain ⟨i, w⟩ := q
    have hi := fnd_some hq
    have hl : i < L.length := (List.getElem?_eq_some_iff.1 hi).1
    have hb := born_at L 0 0 i hl
    rw [Nat.zero_add] at hb
    simp only [hb]
    rw [← ents_mod, List.length_modify]; rfl

theorem fnd_iff {L : CL} {x y : Int} : fnd L x y 0 = none ↔ ∀ v, (x, y, v) ∉ L := by
  constructor
  · intro h v hv
    induction L with
    | nil => simp at hv
    | cons e r ih =>
      obtain ⟨a, b, w⟩ := e
      unfold fnd at h
      cases hk : (x == a && y == b)
      · rw [hk] at h
        simp only [cond_false] at h
        rw [fnd_shift] at h
        rcases List.mem_cons.1 hv with e | hv
        · simp only [Prod.mk.injEq] at e
          rw [e.1, e.2.1] at hk
          simp at hk
        · refine ih ?_ hv
          cases hr : fnd r x y 0 with
          | none => rfl
          | some q => rw [hr] at h; simp at h
      · rw [hk] at h; simp at h
  · intro h
    cases hq : fnd L x y 0 with
    | none => rfl
    | some q =>
      obtain ⟨i, v⟩ := q
      exact absurd (List.mem_of_getElem? (fnd_some hq)) (h v)
end
end Go.AX.Tri
