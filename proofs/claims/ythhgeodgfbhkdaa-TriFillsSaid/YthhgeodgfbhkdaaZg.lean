/- What comes in: three corners, a box. -/
import Derived.Test.YthhgeodgfbhkdaaAxRg
import Derived.Test.YthhgeodgfbhkdaaZd
set_option linter.unusedVariables false
set_option linter.unusedSimpArgs false
set_option linter.unusedSectionVars false
namespace Go.AX.Tri
open Go Go.Proofs Go.AX Go.AX.Mc Go.ChangeShapes Go.WideShapes Go.RowKit
set_option linter.unusedSimpArgs false
set_option linter.unusedVariables false
noncomputable section

theorem law_calls' {P : Program} {X : XT} {T : FT} (hX : XOk P X) (hT : ∀ f fn, T f = some fn → prepF P X f = some fn) (hP : P.follows .mixedOrders = true) {f : FuncId} {args : Array Value} {al : List Value} {W : World} {v : Value} (hv : ∀ d, clo d v = true)
    (ha : VRL (wM W.heap.size) al args.toList) (h : C T [] f al (emb W) fun x H' => x = .ret v ∧ H' = emb W) : Calls P f args W fun e W' => e = .returned v ∧ RowKit.Below W.heap.size W W' := by
  obtain ⟨n, x, H', h1, rfl, rfl⟩ := h
  refine (call_ok hX hT (draw_ok hX hP) (emb_rel W) (emb_dom W) ha h1).mono ?_
  rintro e W' ⟨m', hs, hr, hd, v', rfl, hv'⟩
  refine ⟨by rw [VR.eq_of_clo 1 (hv 1) hv'], hs.os, hs.tape, hs.output, hs.size, ?_⟩
  intro b hb
  refine hs.blk b hb ?_
  intro j y hj hy hlo
  have h1 := emb_lt hj
  have : (emb W).lo = W.heap.size := rfl
  omega

theorem rowAt_le {p : Program} {fits : TypeId → Bool} {d e count off n : Nat} (h : rowAt p fits d e count off n = true) : off ≤ count * p.cellsOf e := by
  cases d with
  | zero => simp [rowAt] at h
  | succ d =>
    unfold rowAt at h
    simp only at h
    split at h
    · cases h
    · rename_i hs
      have hs' : 0 < p.cellsOf e := Nat.pos_of_ne_zero hs
      have hd := Nat.div_add_mod off (p.cellsOf e)
      have hm := Nat.mod_lt off hs'
      have key : off / p.cellsOf e < count ∨ (off % p.cellsOf e = 0 ∧ off / p.cellsOf e ≤ count) := by
        simp only [Bool.or_eq_true, Bool.and_eq_true, beq_iff_eq, decide_eq_true_eq] at h
        omega
      have hc : off / p.cellsOf e < count → off ≤ count * p.cellsOf e := by
        intro hlt
        have : (off / p.cellsOf e + 1) * p.cellsOf e ≤ count * p.cellsOf e := Nat.mul_le_mul_right _ hlt
        rw [Nat.add_mul, Nat.one_mul, Nat.mul_comm] at this
        omega
      rcases key with k | ⟨k0, k1⟩
      · exact hc k
      · have : off / p.cellsOf e * p.cellsOf e ≤ count * p.cellsOf e := Nat.mul_le_mul_right _ k1
        rw [Nat.mul_comm] at this
        omega
theorem liesAt_le {p : Program} : ∀ {d e count off u n : Nat}, liesAt p d e count off u n = true → off ≤ count * p.cellsOf e
  | 0, _, _, _, _, _, h => by simp [liesAt] at h
  | d + 1, e, count, off, u, n, h => by
    unfold liesAt at h
    rw [Bool.or_eq_true] at h
    rcases h with h | h
    · exact rowAt_le h
    · split at h
      · exact liesAt_le h
      · cases h

section
variable {H : Type} {enc : TypeId × Value → H} {W : World} {spare : Nat → Bool} {held : Bool}
theorem has_zero {b o : Nat} {s : Option Nat} {r : Reach} {base e n : Nat} (h : W.has Try.prog r base ⟨b, o, s⟩ e n) : rd (emb W) b o 0 = some [] := by
  obtain ⟨_, _, row, cells, h2, h3⟩ := h
  have hl := liesAt_le h3
  unfold World.shape? at h2
  simp only at h2 hl
  cases hb : W.heap[b]? with
  | none => rw [hb] at h2; cases h2
  | some ob =>
    rw [hb] at h2
    cases ob with
    | cells c t f =>
      simp only [Option.some.injEq, Prod.mk.injEq] at h2
      obtain ⟨_, rfl⟩ := h2
      rw [rd_rdB, emb_get, hb]
      simp only [Option.map_some, embB]
      rw [rdB_cells, if_pos]
      · simp
      · have := Nat.div_mul_le_self c.size (Try.prog.cellsOf row)
        simp only [List.length_map, Array.length_toList]
        omega
    | _ => cases h2

theorem vrl_agg {N : Nat} (cs : Array Value) {l : List Value} (h : cs.toList.map (absV N) = l) : VR (wM N) (.agg l.toArray) (.agg cs) := by
  refine .agg _ _ ?_
  rw [← h]
  exact absL_ok _ _

theorem cells31 : Try.prog.cellsOf 31 = 18 := by kernel_rfl
theorem cells34 : Try.prog.cellsOf 34 = 4 := by kernel_rfl
theorem types31 : Try.prog.cellTypes Try.prog.depth 31 = some [3, 3, 27, 27, 27, 28, 3, 3, 27, 27, 27, 28, 3, 3, 27, 27, 27, 28] := by kernel_rfl
theorem types30 : Try.prog.cellTypes Try.prog.depth 30 = some [3, 3, 27, 27, 27, 28] := by kernel_rfl

set_option maxRecDepth 100000 in
theorem cell_pl {base : Nat} {v : Value} (hv : Cell.okWide Try.prog W .any base 28 v) : (v = .slice none 0 0) ∨ ∃ b o l c, v = .slice (some ⟨b, o, none⟩) l c ∧ l ≤ c ∧ b < W.heap.size ∧ rd (emb W) b o 0 = some [] := by
  unfold Cell.okWide at hv
  rw [Try.underlying28] at hv
  simp only at hv
  unfold Cell.ok at hv
  rw [Try.underlying28] at hv
  cases v
  case slice a l c =>
    cases a with
    | none =>
      cases l with
      | zero => cases c with
        | zero => exact .inl rfl
        | succ c => exact hv.elim
      | succ l => exact hv.elim
    | some a =>
      obtain ⟨h1, _, h2⟩ := hv
      obtain ⟨b, o, s⟩ := a
      obtain ⟨rfl, hb⟩ := has_plain h2
      exact .inr ⟨b, o, l, c, rfl, h1, hb, has_zero h2⟩
  all_goals exact hv.elim

set_option maxRecDepth 100000 in
theorem open_win' {fuel base : Nat} {cs : List Value} {x : DataW H × List MemPlace} (h : DataW.trod enc Try.prog W 0 spare held fuel 30 cs = some x) (hc : ∀ v, cs[5]? = some v → Cell.okWide Try.prog W .any base 28 v) :
    ∃ p : Wn, cs.map (absV W.heap.size) = p.cs ∧ WnAt (emb W) p ∧ Pl (emb W) p := by
  obtain ⟨p, h1, h2, h3⟩ := open_win h
  refine ⟨p, h1, h2, ?_⟩
  have h5 := congrArg (fun l => l[5]?) h1
  simp only [List.getElem?_map] at h5
  cases e : cs[5]? with
  | none => rw [e] at h5; simp [Wn.cs] at h5
  | some v =>
    rw [e] at h5
    rcases cell_pl (hc v e) with rfl | ⟨b, o, l, c, rfl, hl, hb, h0⟩
    · have e2 : absV W.heap.size (.slice none 0 0) = .slice p.a p.l p.c := by simpa [Wn.cs] using h5
      have e3 : (Value.slice none 0 0) = .slice p.a p.l p.c := e2
      cases hp : p.a with
      | none =>
        rw [hp] at e3
        simp only [Value.slice.injEq] at e3
        exact .inl ⟨hp, e3.2.1.symm, e3.2.2.symm⟩
      | some a => rw [hp] at e3; simp at e3
    · obtain ⟨k1, k2, k3⟩ := h3 b o l c e hb
      exact .inr (.inl ⟨b, o, k1, by omega, hb, h0⟩)

theorem list18 {α : Type} {l : List α} (h : l.length = 18) : (l.take 6).length = 6 ∧ ((l.drop 6).take 6).length = 6 ∧ ((l.drop 12).take 6).length = 6 ∧ l = l.take 6 ++ ((l.drop 6).take 6 ++ (l.drop 12).take 6) := by
  refine ⟨by rw [List.length_take]; omega, by rw [List.length_take, List.length_drop]; omega, by rw [List.length_take, List.length_drop]; omega, ?_⟩
  have h1 : (l.drop 12).take 6 = l.drop 12 := List.take_of_length_le (by rw [List.length_drop]; omega)
  rw [h1]
  have h2 : (l.drop 6).take 6 ++ l.drop 12 = l.drop 6 := by
    have := List.take_append_drop 6 (l.drop 6)
    rw [List.drop_drop] at this
    exact this
  rw [h2]
  exact (List.take_append_drop 6 l).symm

set_option maxRecDepth 100000 in
theorem open_tri {fuel : Nat} {v : Value} {x : DataW H × List MemPlace} {base : Nat} (hval : Value.okWide Try.prog W .any base 31 v) (h : DataW.trod enc Try.prog W 0 spare held fuel 31 v.cells.toList = some x) :
    ∃ a b c : Wn, VR (wM W.heap.size) (.agg (tri18 a b c).toArray) v ∧ (WnAt (emb W) a ∧ Pl (emb W) a) ∧ (WnAt (emb W) b ∧ Pl (emb W) b) ∧ (WnAt (emb W) c ∧ Pl (emb W) c) := by
  unfold Value.okWide at hval
  rw [Try.underlying31] at hval
  simp only at hval
  obtain ⟨cs, rfl, hsz, ts, hts, _, hr⟩ := hval
  rw [types31] at hts
  cases hts
  rw [cells31] at hsz
  change DataW.trod enc Try.prog W 0 spare held fuel 31 cs.toList = some x at h
  obtain ⟨xs, m, _, _, hl, hlen, hx⟩ := DataW.trod_array Try.underlying31 h
  rw [cells30] at hx
  have F : ∀ i, i < 3 → ∃ p : Wn, ((cs.toList.drop (i * 6)).take 6).map (absV W.heap.size) = p.cs ∧ WnAt (emb W) p ∧ Pl (emb W) p := by
    intro i hi
    have h1 := hx i hi
    rw [List.getElem?_eq_getElem (by omega)] at h1
    refine open_win' h1 (base := base) fun w hw => ?_
    rw [List.getElem?_take_of_lt (by omega), List.getElem?_drop] at hw
    have h2 : cs[i * 6 + 5]? = some w := by simpa using hw
    obtain ⟨u, hu, hk⟩ := hr _ _ h2
    rcases (show i = 0 ∨ i = 1 ∨ i = 2 by omega) with rfl | rfl | rfl
    all_goals
      cases hu
      exact hk
  obtain ⟨a, ea, ha⟩ := F 0 (by omega)
  obtain ⟨b, eb, hb⟩ := F 1 (by omega)
  obtain ⟨c, ec, hc⟩ := F 2 (by omega)
  refine ⟨a, b, c, vrl_agg cs ?_, ha, hb, hc⟩
  have hl18 : cs.toList.length = 18 := by simpa using hsz
  obtain ⟨_, _, _, e⟩ := list18 hl18
  rw [e, List.map_append, List.map_append]
  rw [show cs.toList.take 6 = (cs.toList.drop (0 * 6)).take 6 by simp, ea, eb, ec]
  rfl

set_option maxRecDepth 100000 in
theorem open_piece {fuel : Nat} {v : Value} {x : DataW H × List MemPlace} {base : Nat} (hval : Value.okWide Try.prog W .any base 34 v) (h : DataW.trod enc Try.prog W 0 spare held fuel 34 v.cells.toList = some x) :
    ∃ px py pw ph : Int, VR (wM W.heap.size) (.agg [.int .i64 px, .int .i64 py, .int .i64 pw, .int .i64 ph].toArray) v := by
  unfold Value.okWide at hval
  rw [Try.underlying34] at hval
  simp only at hval
  obtain ⟨cs, rfl, hsz, _⟩ := hval
  rw [cells34] at hsz
  change DataW.trod enc Try.prog W 0 spare held fuel 34 cs.toList = some x at h
  obtain ⟨xs, n, _, _, hl, hlen, hf⟩ := DataW.trod_struct Try.underlying34 h
  obtain ⟨c0, c1, c2, c3, e⟩ := list4 (show cs.toList.length = 4 by simpa using hsz)
  obtain ⟨y0, y1, y2, y3, rfl⟩ := list4 hlen
  rw [e] at hf
  have h0 := hf 0 _ rfl
  have h1 := hf 1 _ rfl
  have h2 := hf 2 _ rfl
  have h3 := hf 3 _ rfl
  change DataW.trod enc Try.prog W 0 spare held n 3 (([c0, c1, c2, c3].drop 0).take (Try.prog.cellsOf 3)) = some y0 at h0
  change DataW.trod enc Try.prog W 0 spare held n 3 (([c0, c1, c2, c3].drop 1).take (Try.prog.cellsOf 3)) = some y1 at h1
  change DataW.trod enc Try.prog W 0 spare held n 3 (([c0, c1, c2, c3].drop 2).take (Try.prog.cellsOf 3)) = some y2 at h2
  change DataW.trod enc Try.prog W 0 spare held n 3 (([c0, c1, c2, c3].drop 3).take (Try.prog.cellsOf 3)) = some y3 at h3
  rw [cells3] at h0 h1 h2 h3
  obtain ⟨n0, e0, _, _⟩ := DataW.trod_int Try.underlying3 h0
  obtain ⟨n1, e1, _, _⟩ := DataW.trod_int Try.underlying3 h1
  obtain ⟨n2, e2, _, _⟩ := DataW.trod_int Try.underlying3 h2
  obtain ⟨n3, e3, _, _⟩ := DataW.trod_int Try.underlying3 h3
  simp at e0 e1 e2 e3
  refine ⟨n0, n1, n2, n3, vrl_agg cs ?_⟩
  rw [e, e0, e1, e2, e3]
  rfl
end
end
end Go.AX.Tri
/- Digits: lists that a function tells; great whole numbers by their digits. -/
namespace Go.AX.Tri
open Go.Proofs Go.AX.Mc
set_option linter.unusedSimpArgs false
set_option linter.unusedVariables false
noncomputable section

def fnL (N : Nat) (f : Nat → Value) : List Value := (List.range N).map f
def upF (f : Nat → Value) (i : Nat) (v : Value) : Nat → Value := fun j => if j = i then v else f j
theorem fn_length (N : Nat) (f : Nat → Value) : (fnL N f).length = N := by simp [fnL]
theorem fn_congr {N : Nat} {f g : Nat → Value} (h : ∀ i, i < N → f i = g i) : fnL N f = fnL N g := by
  unfold fnL
  exact List.map_congr_left fun i hi => h i (List.mem_range.1 hi)
theorem fn_at {N : Nat} (f : Nat → Value) {i : Nat} (h : i < N) : (fnL N f)[i]? = some (f i) := by
  unfold fnL
  rw [List.getElem?_map, List.getElem?_range h]; rfl
theorem fn_get {N : Nat} (f : Nat → Value) {i : Nat} (h : i < N) : ((fnL N f).drop i).take 1 = [f i] := by
  have := fn_at f h
  obtain ⟨h1, h2⟩ := List.getElem?_eq_some_iff.1 this
  rw [List.drop_eq_getElem_cons h1, h2]; rfl
theorem fn_set {N : Nat} (f : Nat → Value) {i : Nat} (h : i < N) (v : Value) : (fnL N f).take i ++ v :: (fnL N f).drop (i + 1) = fnL N (upF f i v) := by
  apply List.ext_getElem?
  intro j
  by_cases hj : j < N
  · rw [fn_at _ hj]
    unfold upF
    rcases Nat.lt_trichotomy j i with k | k | k
    · rw [List.getElem?_append_left (by rw [List.length_take, fn_length]; omega), List.getElem?_take_of_lt k, fn_at _ hj, if_neg (by omega)]
    · subst k
      rw [List.getElem?_append_right (by rw [List.length_take, fn_length]; omega), List.length_take, fn_length, show j - min j N = 0 by omega, if_pos rfl]; rfl
    · rw [List.getElem?_append_right (by rw [List.length_take, fn_length]; omega), List.length_take, fn_length, show j - min i N = (j - (i + 1)) + 1 by omega, List.getElem?_cons_succ, List.getElem?_drop, show i + 1 + (j - (i + 1)) = j by omega, fn_at _ hj, if_neg (by omega)]
  · rw [List.getElem?_eq_none (by rw [List.length_append, List.length_take, List.length_cons, List.length_drop, fn_length]; omega), List.getElem?_eq_none (by rw [fn_length]; omega)]
theorem fn_take (N : Nat) (f : Nat → Value) : (fnL N f).take N = fnL N f := List.take_of_length_le (by rw [fn_length]; exact Nat.le_refl _)
theorem fn_drop0 (N : Nat) (f : Nat → Value) : (fnL N f).drop N = [] := List.drop_eq_nil_of_le (by rw [fn_length]; exact Nat.le_refl _)

abbrev Bs : Nat := 65536
def dgN (n i : Nat) : Nat := n / Bs ^ i % Bs
def dV (n : Nat) : Nat → Value := fun i => .int .u32 ((dgN n i : Nat) : Int)
def dg (n : Nat) : List Value := fnL 12 (dV n)
theorem dgN_lt (n i : Nat) : dgN n i < Bs := Nat.mod_lt _ (by decide)
def Qf (o a d k i : Nat) : Nat := o % Bs ^ (i + k) + a % Bs ^ i * d * Bs ^ k
theorem row_q (o a d k i : Nat) : Qf o a d k (i + 1) = Qf o a d k i + Bs ^ (i + k) * (dgN o (i + k) + dgN a i * d) := by
  unfold Qf dgN
  rw [show i + 1 + k = (i + k) + 1 by omega, Nat.mod_pow_succ, Nat.mod_pow_succ]
  rw [Nat.pow_add Bs i k]
  generalize Bs ^ i = p
  generalize Bs ^ k = q
  generalize o % (p * q) = r
  generalize o / (p * q) % Bs = s
  generalize a % p = t
  generalize a / p % Bs = u
  grind
theorem pw_pos (i : Nat) : 0 < Bs ^ i := Nat.pow_pos (by decide)
theorem row_c (o a d k i : Nat) : Qf o a d k (i + 1) / Bs ^ (i + 1 + k) = (dgN o (i + k) + dgN a i * d + Qf o a d k i / Bs ^ (i + k)) / Bs := by
  rw [show i + 1 + k = (i + k) + 1 by omega, Nat.pow_succ, ← Nat.div_div_eq_div_mul, row_q, Nat.add_mul_div_left _ _ (pw_pos _), Nat.add_comm]
theorem row_d (o a d k i : Nat) : dgN (o + a * d * Bs ^ k) (i + k) = (dgN o (i + k) + dgN a i * d + Qf o a d k i / Bs ^ (i + k)) % Bs := by
  have e : o + a * d * Bs ^ k = Qf o a d k (i + 1) + Bs ^ (i + k) * (Bs * (o / Bs ^ (i + k + 1) + a / Bs ^ (i + 1) * d)) := by
    unfold Qf
    have h1 := Nat.mod_add_div o (Bs ^ (i + k + 1))
    have h2 := Nat.mod_add_div a (Bs ^ (i + 1))
    rw [show i + 1 + k = (i + k) + 1 by omega]
    generalize o % Bs ^ (i + k + 1) = r at *
    generalize o / Bs ^ (i + k + 1) = s at *
    generalize a % Bs ^ (i + 1) = t at *
    generalize a / Bs ^ (i + 1) = u at *
    subst h1
    subst h2
    rw [Nat.pow_succ, Nat.pow_succ, Nat.pow_add Bs i k]
    generalize Bs ^ i = p
    generalize Bs ^ k = q
    grind
  unfold dgN
  rw [e, Nat.add_mul_div_left _ _ (pw_pos _), Nat.add_mul_mod_self_left, row_q, Nat.add_mul_div_left _ _ (pw_pos _), Nat.add_comm]
  rfl
theorem row_le (o a d k i : Nat) : Qf o a d k i / Bs ^ (i + k) ≤ d := by
  have h : Qf o a d k i < Bs ^ (i + k) * (1 + d) := by
    unfold Qf
    have h1 := Nat.mod_lt o (pw_pos (i + k))
    have h2 : a % Bs ^ i * d * Bs ^ k ≤ Bs ^ i * d * Bs ^ k := Nat.mul_le_mul_right _ (Nat.mul_le_mul_right _ (Nat.le_of_lt (Nat.mod_lt a (pw_pos i))))
    have h3 : Bs ^ i * d * Bs ^ k = Bs ^ (i + k) * d := by rw [Nat.pow_add]; generalize Bs ^ i = p; generalize Bs ^ k = q; grind
    rw [Nat.mul_add, Nat.mul_one]
    omega
  have := Nat.div_lt_of_lt_mul h
  omega
theorem row_0 (o a d k : Nat) : Qf o a d k 0 / Bs ^ (0 + k) = 0 := by
  unfold Qf
  rw [Nat.pow_zero, Nat.mod_one, Nat.zero_mul, Nat.zero_mul, Nat.add_zero]
  exact Nat.div_eq_of_lt (Nat.mod_lt _ (pw_pos _))
theorem dgN_low {o x k j : Nat} (h : j < k) : dgN (o + x * Bs ^ k) j = dgN o j := by
  unfold dgN
  obtain ⟨m, rfl⟩ : ∃ m, k = j + (m + 1) := ⟨k - j - 1, by omega⟩
  rw [Nat.pow_add, Nat.pow_succ, show x * (Bs ^ j * (Bs ^ m * Bs)) = Bs ^ j * (Bs * (x * Bs ^ m)) by generalize Bs ^ j = p; generalize Bs ^ m = q; grind, Nat.add_mul_div_left _ _ (pw_pos _), Nat.add_mul_mod_self_left]
end
end Go.AX.Tri
/- Contracts: great whole numbers by their digits: sums. -/
namespace Go.AX.Tri
open Go.Proofs Go.AX.Mc
set_option linter.unusedSimpArgs false
set_option linter.unusedVariables false
noncomputable section

abbrev B32 : Nat := 4294967296
theorem w_u32 (n : Nat) : wrapF .u32 (n : Int) = ((n % 4294967296 : Nat) : Int) := by
  show (n : Int) % 4294967296 = _
  omega
theorem mask16 (a : Nat) : a &&& 65535 = a % 65536 := Nat.and_two_pow_sub_one_eq_mod a 16
theorem and_u32 (a b : Nat) : wrapF .u32 ((BitVec.ofInt 32 (a : Int) &&& BitVec.ofInt 32 (b : Int)).toNat : Int) = (((a % B32) &&& (b % B32) : Nat) : Int) := by
  rw [w_u32]
  simp only [BitVec.ofInt_natCast, BitVec.toNat_and, BitVec.toNat_ofNat]
  congr 1
  exact Nat.mod_eq_of_lt (Nat.and_lt_two_pow (n := 32) _ (Nat.mod_lt _ (by decide)))
section
variable (H : AH) (ty : TypeId) (ox oy : Operand) (nk : Option NilK) (a b : Nat)
theorem v_add : aBin Try.prog .add ty ox oy nk (.int .u32 a) (.int .u32 b) H = some (.val (.int .u32 (((a + b) % B32 : Nat) : Int)) H) := by rw [bin_add, ← w_u32]; rfl
theorem v_and : aBin Try.prog .and ty ox oy nk (.int .u32 a) (.int .u32 65535) H = some (.val (.int .u32 ((a % 65536 : Nat) : Int)) H) := by
  rw [show (65535 : Int) = ((65535 : Nat) : Int) from rfl, bin_and]
  have := and_u32 a 65535
  rw [show (65535 : Nat) % B32 = 65535 from rfl, mask16, Nat.mod_mod_of_dvd _ (by decide)] at this
  rw [← this]; rfl
theorem v_shr : aBin Try.prog .shr ty ox oy nk (.int .u32 a) (.int .u64 16) H = some (.val (.int .u32 ((a / 65536 : Nat) : Int)) H) := by
  rw [bin_shr16, show min 16 IntKind.u32.bits = 16 from rfl, fdiv_nat]
theorem u_and16 : aBin Try.prog .and ty ox oy nk (.int .u64 a) (.int .u64 65535) H = some (.val (.int .u64 ((a % 65536 : Nat) : Int)) H) := by
  rw [show (65535 : Int) = ((65535 : Nat) : Int) from rfl, u_and, show (65535 : Nat) % B64 = 65535 from rfl, mask16, Nat.mod_mod_of_dvd _ (by decide)]
theorem u_shr16 : aBin Try.prog .shr ty ox oy nk (.int .u64 a) (.int .u64 16) H = some (.val (.int .u64 ((a / 65536 : Nat) : Int)) H) := by
  rw [bin_shr16, show min 16 IntKind.u64.bits = 16 from rfl, fdiv_nat]
end

def mixF (P o m : Nat) : Nat → Value := fun j => if j < m then dV P j else dV o j
theorem mix_self (P o m : Nat) : mixF P o m m = .int .u32 ((dgN o m : Nat) : Int) := by unfold mixF; rw [if_neg (Nat.lt_irrefl _)]; rfl
theorem mix_up (P o m : Nat) {N : Nat} {v : Nat} (hv : v = dgN P m) : fnL N (upF (mixF P o m) m (.int .u32 (v : Int))) = fnL N (mixF P o (m + 1)) := by
  refine fn_congr fun i _ => ?_
  unfold upF mixF
  by_cases h : i = m
  · subst h; rw [if_pos rfl, if_pos (by omega), hv]; rfl
  · rw [if_neg h]
    by_cases k : i < m
    · rw [if_pos k, if_pos (by omega)]
    · rw [if_neg k, if_neg (by omega)]
theorem mix_0 (P o : Nat) : mixF P o 0 = dV o := by funext j; unfold mixF; rw [if_neg (by omega)]
theorem mix_all (P o : Nat) : fnL 12 (mixF P o 12) = dg P := by
  refine fn_congr fun i hi => ?_
  unfold mixF; rw [if_pos hi]
theorem dV_eq (n i : Nat) : dV n i = .int .u32 ((dgN n i : Nat) : Int) := rfl
theorem zero12 : [Value.int .u32 0, .int .u32 0, .int .u32 0, .int .u32 0, .int .u32 0, .int .u32 0, .int .u32 0, .int .u32 0, .int .u32 0, .int .u32 0, .int .u32 0, .int .u32 0] = dg 0 := by
  unfold dg
  refine Eq.trans (b := fnL 12 fun _ => .int .u32 0) rfl (fn_congr fun i _ => ?_)
  unfold dV dgN
  simp

theorem dV_flat (N n : Nat) : (fnL N (dV n)).all flat = true := by
  rw [List.all_eq_true]
  intro x hx
  obtain ⟨i, _, rfl⟩ := List.mem_map.1 hx
  rfl
theorem dV_clo (N n d : Nat) : (fnL N (dV n)).all (clo d) = true := by
  rw [List.all_eq_true]
  intro x hx
  obtain ⟨i, _, rfl⟩ := List.mem_map.1 hx
  exact clo_int _ _ _

theorem loop58 {env : List Lp} {k : List KF} {Q : QF} {a b : Nat} {G : AH} (hlo : G.lo ≤ G.nx) {R : List (Option AB)} {x4 : Value}
    (q2 : ∀ fr, tmp fr (pa 2) = .pointer (some ⟨G.nx, 0, none⟩) → tmp fr (pa 4) = x4 → Kt T env false k .normal fr [] (ext G (blk (dg (a + b)) :: blk (dg b) :: R)) Q) :
    ∀ (m i : Nat), i + m = 12 → ∀ fr : Tr Value, tmp fr (pa 2) = .pointer (some ⟨G.nx, 0, none⟩) → tmp fr (pa 3) = .pointer (some ⟨G.nx + 1, 0, none⟩) → tmp fr (pa 4) = x4 → tmp fr (pa 5) = .int .u32 ((Qf a b 1 0 i / Bs ^ (i + 0) : Nat) : Int) → tmp fr (pa 8) = .int .i64 (i : Int) →
      X T env false (.loop a58l0) (.blk 0 :: k) fr [] (ext G (blk (fnL 12 (mixF (a + b) a i)) :: blk (dg b) :: R)) Q := by
  intro m
  induction m with
  | zero =>
    intro i hi fr t2 t3 t4 t5 t8
    have hi' : i = 12 := by omega
    subst hi'
    rw [X_loop]
    change X _ _ _ (.seq _ _) _ _ _ _ _
    simp only [t8, show ¬ (((12 : Nat) : Int) < 12) by omega, decide_false, go_sem, bin_add, bin_sub, bin_mul, Nat.reduceAdd, Nat.reduceMul, Nat.reduceEqDiff, Nat.reduceLeDiff, Nat.reduceLT, Nat.reduceSub, reduceIte, reduceCtorEq, Int.reduceToNat, Int.reduceNeg, Int.reduceLE, Int.reduceLT, Int.reduceEq, Nat.reduceOr, Nat.reduceShiftRight, Nat.reduceMod, Nat.reduceBNe, Nat.reduceBEq]
    rw [mix_all]
    refine q2 _ ?_ ?_
    all_goals simp only [t2, t4, go_sem, bin_add, bin_sub, bin_mul, Nat.reduceAdd, Nat.reduceMul, Nat.reduceEqDiff, Nat.reduceLeDiff, Nat.reduceLT, Nat.reduceSub, reduceIte, reduceCtorEq, Int.reduceToNat, Int.reduceNeg, Int.reduceLE, Int.reduceLT, Int.reduceEq, Nat.reduceOr, Nat.reduceShiftRight, Nat.reduceMod, Nat.reduceBNe, Nat.reduceBEq]
  | succ m ih =>
    intro i hi fr t2 t3 t4 t5 t8
    have hlt : (i : Int) < 12 := by omega
    have hi12 : i < 12 := by omega
    have h1 : i + 1 ≤ 12 := by omega
    have d1 := dgN_lt a i
    have d2 := dgN_lt b i
    have hc := row_le a b 1 0 i
    have e1 := row_c a b 1 0 i
    have e2 := row_d a b 1 0 i
    rw [Nat.mul_one] at e1 e2
    rw [Nat.mul_one, Nat.pow_zero, Nat.mul_one] at e2
    simp only [Nat.add_zero] at hc e1 e2
    rw [X_loop]
    change X _ _ _ (.seq _ _) _ _ _ _ _
    simp only [t2, t3, t4, t5, t8, hlt, go_sem, bin_add, bin_sub, bin_mul, Nat.reduceAdd, Nat.reduceMul, Nat.reduceEqDiff, Nat.reduceLeDiff, Nat.reduceLT, Nat.reduceSub, reduceIte, reduceCtorEq, Int.reduceToNat, Int.reduceNeg, Int.reduceLE, Int.reduceLT, Int.reduceEq, Nat.reduceOr, Nat.reduceShiftRight, Nat.reduceMod, Nat.reduceBNe, Nat.reduceBEq]
    refine X_drawE 0 (by rfl) ?_
    simp only [t2, t3, t4, t5, t8, hlt, hi12, h1, Nat.mul_one, fn_length, dg, fn_get _ hi12, mix_self, dV_eq, v_add, go_sem, Nat.reduceAdd, Nat.reduceMul, Nat.reduceEqDiff, Nat.reduceLeDiff, Nat.reduceLT, Nat.reduceSub, reduceIte, reduceCtorEq, Int.reduceToNat, Int.reduceNeg, Int.reduceLE, Int.reduceLT, Int.reduceEq, Nat.reduceOr, Nat.reduceShiftRight, Nat.reduceMod, Nat.reduceBNe, Nat.reduceBEq]
    simp only [t2, t3, t4, t5, t8, hlt, hi12, h1, hlo, Nat.mul_one, fn_length, dg, fn_get _ hi12, fn_set _ hi12, mix_self, dV_eq, v_add, v_and, v_shr, go_sem, Nat.reduceAdd, Nat.reduceMul, Nat.reduceEqDiff, Nat.reduceLeDiff, Nat.reduceLT, Nat.reduceSub, reduceIte, reduceCtorEq, Int.reduceToNat, Int.reduceNeg, Int.reduceLE, Int.reduceLT, Int.reduceEq, Nat.reduceOr, Nat.reduceShiftRight, Nat.reduceMod, Nat.reduceBNe, Nat.reduceBEq]
    simp only [go_sem, bin_add, bin_sub, bin_mul, Nat.reduceAdd, Nat.reduceMul, Nat.reduceEqDiff, Nat.reduceLeDiff, Nat.reduceLT, Nat.reduceSub, reduceIte, reduceCtorEq, Int.reduceToNat, Int.reduceNeg, Int.reduceLE, Int.reduceLT, Int.reduceEq, Nat.reduceOr, Nat.reduceShiftRight, Nat.reduceMod, Nat.reduceBNe, Nat.reduceBEq]
    generalize hcv : Qf a b 1 0 i / Bs ^ i = cv at *
    have hs : ((dgN a i + dgN b i) % B32 + cv) % B32 = dgN a i + dgN b i + cv := by
      show ((dgN a i + dgN b i) % 4294967296 + cv) % 4294967296 = _
      unfold Bs at d1 d2; omega
    rw [hs, mix_up (a + b) a i (v := (dgN a i + dgN b i + cv) % 65536) e2.symm]
    refine ih (i + 1) (by omega) _ ?_ ?_ ?_ ?_ ?_
    · simp only [t2, go_sem, bin_add, bin_sub, bin_mul, Nat.reduceAdd, Nat.reduceMul, Nat.reduceEqDiff, Nat.reduceLeDiff, Nat.reduceLT, Nat.reduceSub, reduceIte, reduceCtorEq, Int.reduceToNat, Int.reduceNeg, Int.reduceLE, Int.reduceLT, Int.reduceEq, Nat.reduceOr, Nat.reduceShiftRight, Nat.reduceMod, Nat.reduceBNe, Nat.reduceBEq]
    · simp only [t3, go_sem, bin_add, bin_sub, bin_mul, Nat.reduceAdd, Nat.reduceMul, Nat.reduceEqDiff, Nat.reduceLeDiff, Nat.reduceLT, Nat.reduceSub, reduceIte, reduceCtorEq, Int.reduceToNat, Int.reduceNeg, Int.reduceLE, Int.reduceLT, Int.reduceEq, Nat.reduceOr, Nat.reduceShiftRight, Nat.reduceMod, Nat.reduceBNe, Nat.reduceBEq]
    · simp only [t4, go_sem, bin_add, bin_sub, bin_mul, Nat.reduceAdd, Nat.reduceMul, Nat.reduceEqDiff, Nat.reduceLeDiff, Nat.reduceLT, Nat.reduceSub, reduceIte, reduceCtorEq, Int.reduceToNat, Int.reduceNeg, Int.reduceLE, Int.reduceLT, Int.reduceEq, Nat.reduceOr, Nat.reduceShiftRight, Nat.reduceMod, Nat.reduceBNe, Nat.reduceBEq]
    · simp only [go_sem, bin_add, bin_sub, bin_mul, Nat.reduceAdd, Nat.reduceMul, Nat.reduceEqDiff, Nat.reduceLeDiff, Nat.reduceLT, Nat.reduceSub, reduceIte, reduceCtorEq, Int.reduceToNat, Int.reduceNeg, Int.reduceLE, Int.reduceLT, Int.reduceEq, Nat.reduceOr, Nat.reduceShiftRight, Nat.reduceMod, Nat.reduceBNe, Nat.reduceBEq]
      rw [Nat.add_zero, e1]
    · simp only [go_sem, bin_add, bin_sub, bin_mul, Nat.reduceAdd, Nat.reduceMul, Nat.reduceEqDiff, Nat.reduceLeDiff, Nat.reduceLT, Nat.reduceSub, reduceIte, reduceCtorEq, Int.reduceToNat, Int.reduceNeg, Int.reduceLE, Int.reduceLT, Int.reduceEq, Nat.reduceOr, Nat.reduceShiftRight, Nat.reduceMod, Nat.reduceBNe, Nat.reduceBEq]
      rw [w1 (by omega)]

theorem c58 {env : List Lp} (a b : Nat) (H : AH) (Q : AEnd → AH → Prop) : C T env 58 [.agg (dg a).toArray, .agg (dg b).toArray] H Q = Q (.ret (.agg (dg (a + b)).toArray)) H := by
  refine C_det ?_ Q
  rw [C_fn T58 rfl]
  simp only [a58, zero12, go_sem, bin_add, bin_sub, bin_mul, Nat.reduceAdd, Nat.reduceMul, Nat.reduceEqDiff, Nat.reduceLeDiff, Nat.reduceLT, Nat.reduceSub, reduceIte, reduceCtorEq, Int.reduceToNat, Int.reduceNeg, Int.reduceLE, Int.reduceLT, Int.reduceEq, Nat.reduceOr, Nat.reduceShiftRight, Nat.reduceMod, Nat.reduceBNe, Nat.reduceBEq]
  have h0 : dg a = fnL 12 (mixF (a + b) a 0) := by rw [mix_0]; rfl
  rw [h0]
  refine loop58 (G := H.now) (Nat.le_refl _) (x4 := .pointer (some ⟨H.now.nx + 2, 0, none⟩)) ?_ 12 0 rfl _ ?_ ?_ ?_ ?_ ?_
  · intro fr t2 t4
    simp only [t2, t4, dg, fn_length, fn_take, fn_drop0, dV_flat, dV_clo, Nat.le_refl, go_sem, bin_add, bin_sub, bin_mul, Nat.reduceAdd, Nat.reduceMul, Nat.reduceEqDiff, Nat.reduceLeDiff, Nat.reduceLT, Nat.reduceSub, reduceIte, reduceCtorEq, Int.reduceToNat, Int.reduceNeg, Int.reduceLE, Int.reduceLT, Int.reduceEq, Nat.reduceOr, Nat.reduceShiftRight, Nat.reduceMod, Nat.reduceBNe, Nat.reduceBEq]
  · simp only [go_sem, bin_add, bin_sub, bin_mul, Nat.reduceAdd, Nat.reduceMul, Nat.reduceEqDiff, Nat.reduceLeDiff, Nat.reduceLT, Nat.reduceSub, reduceIte, reduceCtorEq, Int.reduceToNat, Int.reduceNeg, Int.reduceLE, Int.reduceLT, Int.reduceEq, Nat.reduceOr, Nat.reduceShiftRight, Nat.reduceMod, Nat.reduceBNe, Nat.reduceBEq]
  · simp only [go_sem, bin_add, bin_sub, bin_mul, Nat.reduceAdd, Nat.reduceMul, Nat.reduceEqDiff, Nat.reduceLeDiff, Nat.reduceLT, Nat.reduceSub, reduceIte, reduceCtorEq, Int.reduceToNat, Int.reduceNeg, Int.reduceLE, Int.reduceLT, Int.reduceEq, Nat.reduceOr, Nat.reduceShiftRight, Nat.reduceMod, Nat.reduceBNe, Nat.reduceBEq]
  · simp only [go_sem, bin_add, bin_sub, bin_mul, Nat.reduceAdd, Nat.reduceMul, Nat.reduceEqDiff, Nat.reduceLeDiff, Nat.reduceLT, Nat.reduceSub, reduceIte, reduceCtorEq, Int.reduceToNat, Int.reduceNeg, Int.reduceLE, Int.reduceLT, Int.reduceEq, Nat.reduceOr, Nat.reduceShiftRight, Nat.reduceMod, Nat.reduceBNe, Nat.reduceBEq]
  · simp only [go_sem, bin_add, bin_sub, bin_mul, Nat.reduceAdd, Nat.reduceMul, Nat.reduceEqDiff, Nat.reduceLeDiff, Nat.reduceLT, Nat.reduceSub, reduceIte, reduceCtorEq, Int.reduceToNat, Int.reduceNeg, Int.reduceLE, Int.reduceLT, Int.reduceEq, Nat.reduceOr, Nat.reduceShiftRight, Nat.reduceMod, Nat.reduceBNe, Nat.reduceBEq]
    rw [row_0]; rfl
  · simp only [go_sem, bin_add, bin_sub, bin_mul, Nat.reduceAdd, Nat.reduceMul, Nat.reduceEqDiff, Nat.reduceLeDiff, Nat.reduceLT, Nat.reduceSub, reduceIte, reduceCtorEq, Int.reduceToNat, Int.reduceNeg, Int.reduceLE, Int.reduceLT, Int.reduceEq, Nat.reduceOr, Nat.reduceShiftRight, Nat.reduceMod, Nat.reduceBNe, Nat.reduceBEq]
end
end Go.AX.Tri
