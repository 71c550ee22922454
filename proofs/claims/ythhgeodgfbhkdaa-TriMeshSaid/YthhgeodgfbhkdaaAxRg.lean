/- The whole world as an abstract heap that is never written; from a contract of the calculus to a call in the model. -/
import Derived.Test.YthhgeodgfbhkdaaAxZA
import Derived.Test.YthhgeodgfbhkdaaAxRe
import Derived.Carry
import Derived.Test.YthhgeodgfbhkdaaWt
import Derived.OpenShut
set_option linter.unusedVariables false
set_option linter.unusedSimpArgs false
set_option linter.unusedSectionVars false
namespace Go.AX.Mc
open Go.AX
noncomputable section

/-- how the world lies: each block is itself. -/
def wM (N : Nat) : M := { bk := id, sp := fun _ => 0, dm := fun i => i < N, lp := fun _ => default }

theorem abs_ex (m : M) : ∀ (n : Nat) (v : Value), SizeOf.sizeOf v < n → ∃ a, VR m a v
  | 0, v, h => by omega
  | n + 1, v, h => by
    have F : ∀ l : List Value, (∀ x ∈ l, SizeOf.sizeOf x < n) → ∃ l', VRL m l' l := by
      intro l
      induction l with
      | nil => intro _; exact ⟨[], .nil⟩
      | cons x l ih =>
        intro hl
        obtain ⟨a, ha⟩ := abs_ex m n x (hl x (List.mem_cons_self ..))
        obtain ⟨l', hl'⟩ := ih fun y hy => hl y (List.mem_cons_of_mem _ hy)
        exact ⟨a :: l', .cons _ _ _ _ ha hl'⟩
    cases hf : flat v
    · match v, hf, h with
      | .agg cs, _, h =>
        obtain ⟨l', hl'⟩ := F cs.toList fun x hx => by
          have h1 := Array.sizeOf_lt_of_mem (Array.mem_toList_iff.1 hx)
          simp at h; omega
        exact ⟨.agg l'.toArray, .agg _ _ (by simpa using hl')⟩
      | .tuple cs, _, h =>
        obtain ⟨l', hl'⟩ := F cs.toList fun x hx => by
          have h1 := Array.sizeOf_lt_of_mem (Array.mem_toList_iff.1 hx)
          simp at h; omega
        exact ⟨.tuple l'.toArray, .tuple _ _ (by simpa using hl')⟩
    · exact ⟨.chan none, .top _ hf⟩

def absV (N : Nat) (v : Value) : Value := match v with
  | .int k n => .int k n
  | .bool b => .bool b
  | .slice none l c => .slice none l c
  | .slice (some ⟨b, o, none⟩) l c => if b < N then .slice (some ⟨b, o, none⟩) l c else if l = 0 then .slice (some ⟨0, 0, some 1⟩) 0 0 else .chan none
  | .slice (some ⟨_, _, some _⟩) l _ => if l = 0 then .slice (some ⟨0, 0, some 1⟩) 0 0 else .chan none
  | v => Classical.choose (abs_ex (wM N) (SizeOf.sizeOf v + 1) v (Nat.lt_succ_self _))
theorem absV_ok (N : Nat) (v : Value) : VR (wM N) (absV N v) v := by
  unfold absV
  split
  · exact .int _ _
  · exact .bool _
  · exact .sl0 _ _
  · split
    · rename_i h; exact .sl (m := wM N) _ _ _ _ h
    · split
      · rename_i h; subst h; exact .sle _ _ _ _
      · exact .top _ rfl
  · split
    · rename_i h; subst h; exact .sle _ _ _ _
    · exact .top _ rfl
  · exact Classical.choose_spec (abs_ex (wM N) (SizeOf.sizeOf _ + 1) _ (Nat.lt_succ_self _))
theorem absV_slice {N b o l c : Nat} (h : b < N) : absV N (.slice (some ⟨b, o, none⟩) l c) = .slice (some ⟨b, o, none⟩) l c := if_pos h
/-- a slice of no elements. -/
theorem absV_slice0 (N : Nat) (a : Addr) (c : Nat) : ∃ a' c', absV N (.slice (some a) 0 c) = .slice (some a') 0 c' ∧ (a'.spot = none ∨ a'.spot = some 1) := by
  obtain ⟨b, o, s⟩ := a
  cases s with
  | none =>
    by_cases h : b < N
    · exact ⟨_, _, if_pos h, .inl rfl⟩
    · refine ⟨⟨0, 0, some 1⟩, 0, ?_, .inr rfl⟩
      show (if b < N then _ else _) = _
      rw [if_neg h]; rfl
  | some s => exact ⟨⟨0, 0, some 1⟩, 0, rfl, .inr rfl⟩
theorem absL_ok (N : Nat) : ∀ l : List Value, VRL (wM N) (l.map (absV N)) l
  | [] => .nil
  | v :: l => .cons _ _ _ _ (absV_ok N v) (absL_ok N l)

/-! ## The heap -/
def embB (N : Nat) (o : Obj) : AB := match o with
  | .cells c _ _ => .cells (c.toList.map (absV N)) 2 0
  | _ => .dead
def embT (N : Nat) : Nat → List Obj → Tr AB → Tr AB
  | _, [], t => t
  | k, o :: l, t => embT N (k + 1) l (t.put (pa k) (embB N o))
theorem embT_get (N : Nat) : ∀ (l : List Obj) (k i : Nat) (t : Tr AB), (embT N k l t).get (pa i) = if k ≤ i ∧ i < k + l.length then (l[i - k]?).map (embB N) else t.get (pa i)
  | [], k, i, t => by simp [embT]; omega
  | o :: l, k, i, t => by
    simp only [embT, List.length_cons]
    rw [embT_get N l (k + 1) i, Tr.get_put]
    by_cases h1 : i = k
    · subst h1
      rw [if_neg (by omega), if_pos rfl, if_pos (by omega), Nat.sub_self]; rfl
    · rw [if_neg (fun e => h1 (pa_inj e).symm)]
      by_cases h2 : k + 1 ≤ i ∧ i < k + 1 + l.length
      · rw [if_pos h2, if_pos (by omega), show i - k = (i - (k + 1)) + 1 by omega, List.getElem?_cons_succ]
      · rw [if_neg h2, if_neg (by omega)]
def emb (W : World) : AH := ⟨embT W.heap.size 0 W.heap.toList .e, W.heap.size, W.heap.size⟩
theorem emb_get (W : World) (i : Nat) : (emb W).get i = (W.heap[i]?).map (embB W.heap.size) := by
  show (embT W.heap.size 0 W.heap.toList .e).get (pa i) = _
  rw [embT_get, Tr.get_empty]
  by_cases h : i < W.heap.size
  · rw [if_pos ⟨Nat.zero_le _, by simpa using h⟩]; simp
  · rw [if_neg (by simpa using h), Array.getElem?_eq_none (by omega)]; rfl
theorem emb_lt {W : World} {i : Nat} {b : AB} (h : (emb W).get i = some b) : i < W.heap.size := by
  rw [emb_get] at h
  by_cases hi : i < W.heap.size
  · exact hi
  · rw [Array.getElem?_eq_none (by omega)] at h; cases h
theorem emb_rel (W : World) : Rel (wM W.heap.size) (emb W) W where
  blk i b h := by
    rw [emb_get] at h
    show BR _ i b W.heap[i]?
    cases ho : W.heap[i]? with
    | none => rw [ho] at h; cases h
    | some o =>
      rw [ho] at h
      cases h
      cases o with
      | cells c t f => obtain ⟨f1, f2⟩ := f; exact .cells _ 2 0 c t f1 f2 (fun _ => by simp) (fun e => by cases e) (by rw [List.take_of_length_le (by simp)]; exact absL_ok _ _) (.inl rfl)
      | _ => exact .dead _
  dm i b h _ := emb_lt h
  inj i j b c _ _ _ _ e := e
  lt i b h := emb_lt h
theorem emb_dom (W : World) : Dom (wM W.heap.size) (emb W) := fun i h => h
/-- cells that stand in the world. -/
theorem emb_rd {W : World} {b o : Nat} {l : List Value} (h : ∀ j v, l[j]? = some v → W.cell? ⟨b, o + j, none⟩ = some v) (hb : b < W.heap.size) (hl : l ≠ []) : rd (emb W) b o l.length = some (l.map (absV W.heap.size)) := by
  rw [rd_rdB, emb_get]
  have h0 := h 0 _ (List.getElem?_eq_getElem (List.length_pos_iff.2 hl))
  unfold World.cell? at h0
  cases ho : W.heap[b]? with
  | none => simp [ho] at h0
  | some ob =>
    cases ob with
    | cells c t f =>
      simp only [Option.map_some, embB]
      rw [rdB_cells]
      have hc : ∀ j v, l[j]? = some v → c[o + j]? = some v := by
        intro j v hj
        have := h j v hj
        simpa [World.cell?, ho] using this
      have hlen : o + l.length ≤ c.size := by
        have hp := List.length_pos_iff.2 hl
        have := hc (l.length - 1) _ (List.getElem?_eq_getElem (by omega))
        have := (Array.getElem?_eq_some_iff.1 this).1
        omega
      rw [if_pos (by simpa using hlen)]
      congr 1
      apply List.ext_getElem?
      intro j
      rw [List.getElem?_take]
      by_cases hj : j < l.length
      · rw [if_pos hj, List.getElem?_drop, List.getElem?_map, List.getElem?_map, List.getElem?_eq_getElem hj]
        have := hc j _ (List.getElem?_eq_getElem hj)
        rw [Array.getElem?_toList, this]
      · rw [if_neg hj, List.getElem?_map, List.getElem?_eq_none (by omega)]; rfl
    | _ => simp [ho] at h0

/-- A law's contract, in the model: it answers true, and what was there stays. -/
theorem law_calls {P : Program} {X : XT} {T : FT} (hX : XOk P X) (hT : ∀ f fn, T f = some fn → prepF P X f = some fn) (hP : P.follows .mixedOrders = true) {f : FuncId} {args : Array Value} {W : World} {v : Value} (hv : ∀ d, clo d v = true)
    (h : C T [] f (args.toList.map (absV W.heap.size)) (emb W) fun x H' => x = .ret v ∧ H' = emb W) : Calls P f args W fun e W' => e = .returned v ∧ RowKit.Below W.heap.size W W' := by
  obtain ⟨n, x, H', h1, rfl, rfl⟩ := h
  refine (call_ok hX hT (draw_ok hX hP) (emb_rel W) (emb_dom W) (absL_ok _ _) h1).mono ?_
  rintro e W' ⟨m', hs, hr, hd, v', rfl, hv'⟩
  refine ⟨by rw [VR.eq_of_clo 1 (hv 1) hv'], hs.os, hs.tape, hs.output, hs.size, ?_⟩
  intro b hb
  refine hs.blk b hb ?_
  intro j y hj hy hlo
  have h1 := emb_lt hj
  have : (emb W).lo = W.heap.size := rfl
  omega

end
end Go.AX.Mc

namespace Go.AX.Mc
open Go Go.ChangeShapes Go.RowKit
section
variable {H : Type} {enc : TypeId × Value → H} {P : Program}

theorem trodAll_stays (hl : laidOutB P = true) {W W' : World} (hb : Below W.heap.size W W') (sp : Nat → Bool) : ∀ {ts : List TypeId} {vs : List Value} {ds : List (DataW H)} {ps : List MemPlace}, (∀ t ∈ ts, P.readableRec t = true ∧ t < P.types.size) →
    (∀ p ∈ ps, p.block < W.heap.size) → (∀ p ∈ ps, sp p.block = true) → DataW.TrodAll enc P W 0 (fun _ => true) true ts vs ds ps → DataW.TrodAll enc P W' 0 sp true ts vs ds ps
  | [], [], [], _, _, _, _, h => h
  | t :: ts, v :: vs, d :: ds, _, ht, hlt, hsp, ⟨p, q, h1, h2, e⟩ => by
    subst e
    refine ⟨p, q, ?_, ?_, rfl⟩
    · exact WideElems.Trod_stays hl (ht t (List.mem_cons_self ..)).1 (ht t (List.mem_cons_self ..)).2 h1 (fun x hx => hb.same (hlt x (List.mem_append_left _ hx))) (fun x hx => hsp x (List.mem_append_left _ hx))
    · exact trodAll_stays hl hb sp (fun t h => ht t (List.mem_cons_of_mem _ h)) (fun p h => hlt p (List.mem_append_right _ h)) (fun p h => hsp p (List.mem_append_right _ h)) h2

theorem post_of_below {f : Func} {s : ChangeSpec} {apart fresh handsOn again : Bool} {W W' : World} {args : Array Value} {v : Value} {ds gs : List (DataW H)} {before pa pv : List MemPlace}
    (hW : DataW.Whole enc P f.params.toList s.vars apart W args.toList ds gs before) (hb : Below W.heap.size W W')
    (hres : ∀ (b : Nat) (sp : Nat → Bool) (hd : Bool), DataW.TrodAll enc P W' b sp hd f.resultTypes.toList (v.resultList f.resultTypes.size) (s.fn H (ds ++ gs)).results [])
    (hargs : ∀ sp : Nat → Bool, (∀ p ∈ before, sp p.block = true) → DataW.TrodAll enc P W' 0 sp true f.params.toList args.toList (s.fn H (ds ++ gs)).args pa)
    (hvars : ∀ sp : Nat → Bool, (∀ p ∈ before, sp p.block = true) → DataW.TrodVars enc P W' sp s.vars (s.fn H (ds ++ gs)).vars pv)
    (hps : before = pa ++ pv)
    (hok : ∀ (j : Nat) (t : TypeId) (r : Value), f.resultTypes[j]? = some t → (v.resultList f.resultTypes.size)[j]? = some r → Value.okWide P W' .any 0 t r) :
    s.post enc P f apart fresh handsOn again W args v W' := by
  have hold : ∀ p ∈ before, (fun b => decide (b < W.heap.size)) p.block = true := fun p hp => by simpa using hW.lt p hp
  have hlt := hW.lt
  refine ⟨ds, gs, before, [], pa, pv, hW, hres _ _ _, hargs _ hold, hvars _ hold, World.keptBut_mono (fun p hp => ⟨hp, ?_⟩) (hb.frame (· ∈ before)), fun _ => ?_⟩
  · rw [hps, List.mem_append] at hp
    exact Or.inr hp
  · obtain ⟨_, _, _, _, _, hz, hn⟩ := hW
    refine ⟨hok, _, _, ([] ++ pa) ++ pv, ⟨[] ++ pa, pv, trodAll_append (hargs _ (fun _ _ => rfl)) (hres _ _ _), hvars _ (fun _ _ => rfl), rfl, ?_, ?_⟩, ?_⟩
    · intro b off hp
      have hp' : MemPlace.cell b off ∈ before := by rw [hps]; simpa using hp
      rw [hb.frozen (hlt _ hp')]
      exact hz b off hp'
    · intro ha
      have := hn ha
      rw [hps] at this
      simpa using this
    · intro p hp _
      rw [hps]
      simpa using hp
end
end Go.AX.Mc
/- What comes in: vectors, corners, lists of corners, read as data. -/
namespace Go.AX.Tri
open Go Go.Proofs Go.AX Go.AX.Mc
set_option linter.unusedSimpArgs false
set_option linter.unusedVariables false
noncomputable section

theorem cells30 : Try.prog.cellsOf 30 = 6 := by kernel_rfl
theorem cells3 : Try.prog.cellsOf 3 = 1 := by kernel_rfl
theorem cells27 : Try.prog.cellsOf 27 = 1 := by kernel_rfl
theorem cells28 : Try.prog.cellsOf 28 = 1 := by kernel_rfl
theorem cells40 : Try.prog.cellsOf 40 = 4 := by kernel_rfl
theorem laidOut : laidOutB Try.prog = true := by kernel_rfl
theorem own : ownKnob Try.prog.godebug = none := by kernel_rfl

section
variable {H : Type} {enc : TypeId × Value → H} {W : World} {spare : Nat → Bool} {held : Bool}

theorem list4 {α : Type} : ∀ {l : List α}, l.length = 4 → ∃ a b c d, l = [a, b, c, d]
  | [_, _, _, _], _ => ⟨_, _, _, _, rfl⟩
theorem list6 {α : Type} : ∀ {l : List α}, l.length = 6 → ∃ a b c d e f, l = [a, b, c, d, e, f]
  | [_, _, _, _, _, _], _ => ⟨_, _, _, _, _, _, rfl⟩
theorem wf32 {n : Int} (h : (Lit.int .i32 n).wf = true) : -2147483648 ≤ n ∧ n < 2147483648 := by
  simp [Lit.wf, IntKind.min, IntKind.max, IntKind.signed, IntKind.bits] at h; omega

/-- cells of a world, as they stand in its heap. -/
theorem rd_cells {a : Addr} {n : Nat} {cs : List Value} (h : W.cells? 0 a n = some cs) (hn : 0 < n) (ha : a.spot = none) : rd (emb W) a.block a.off n = some (cs.map (absV W.heap.size)) ∧ cs.length = n ∧ a.block < W.heap.size := by
  have hb := World.cells?_block h hn
  obtain ⟨_, hl, hc⟩ := World.cells?_some h
  have := emb_rd (W := W) (b := a.block) (o := a.off) (l := cs) (fun j v hj => by
    have hj' : j < n := by have := (List.getElem?_eq_some_iff.1 hj).1; omega
    have := hc j hj'
    rw [hj] at this
    rw [← this]
    obtain ⟨b, o, s⟩ := a
    simp only at ha
    subst ha
    congr 1
    unfold Addr.add
    by_cases e : j = 0
    · subst e; rfl
    · rw [if_neg e]) hb (by intro e; rw [e] at hl; simp at hl; omega)
  rw [hl] at this
  exact ⟨this, hl, hb⟩

/-- element i of a slice stands there, so its address is plain. -/
theorem cells_elem {b o : Nat} {s : Option Nat} {n z i : Nat} {cs : List Value} (hz : 0 < z) (h0 : ∃ c0, W.cells? 0 ((⟨b, o, s⟩ : Addr).add (0 * z)) z = some c0) (h : W.cells? 0 ((⟨b, o, s⟩ : Addr).add (i * z)) z = some cs) :
    s = none ∧ b < W.heap.size ∧ cs.length = z ∧ rd (emb W) b (o + i * z) z = some (cs.map (absV W.heap.size)) := by
  obtain ⟨c0, h0⟩ := h0
  have hs : s = none := by
    obtain ⟨_, hl, hc⟩ := World.cells?_some h0
    have := hc 0 hz
    rw [List.getElem?_eq_getElem (by omega)] at this
    rw [Nat.zero_mul] at this
    unfold Addr.add at this
    simp only [if_true] at this
    unfold World.cell? at this
    cases s with
    | none => rfl
    | some s => split at this <;> simp at this
  subst hs
  have e : (⟨b, o, none⟩ : Addr).add (i * z) = ⟨b, o + i * z, none⟩ := add_none b o (i * z)
  rw [e] at h
  obtain ⟨h1, h2, h3⟩ := rd_cells h hz rfl
  exact ⟨rfl, h3, h2, h1⟩

theorem open_vec4 {fuel : Nat} {cs : List Value} {x : DataW H × List MemPlace} (h : DataW.trod enc Try.prog W 0 spare held fuel 40 cs = some x) : ∃ v : V4, cs = v.cs ∧ ∀ n, -2147483648 ≤ v.at n ∧ v.at n < 2147483648 := by
  obtain ⟨xs, m, _, _, hl, _, hx⟩ := DataW.trod_array Try.underlying40 h
  rw [cells40] at hl
  obtain ⟨c0, c1, c2, c3, rfl⟩ := list4 hl
  · have F : ∀ i, i < 4 → ∃ y, DataW.trod enc Try.prog W 0 spare held m 27 (([c0, c1, c2, c3].drop (i * Try.prog.cellsOf 27)).take (Try.prog.cellsOf 27)) = some y := by
      intro i hi
      have := hx i hi
      rw [this]
      exact ⟨_, List.getElem?_eq_getElem (by omega)⟩
    obtain ⟨y0, h0⟩ := F 0 (by omega)
    obtain ⟨y1, h1⟩ := F 1 (by omega)
    obtain ⟨y2, h2⟩ := F 2 (by omega)
    obtain ⟨y3, h3⟩ := F 3 (by omega)
    rw [cells27] at h0 h1 h2 h3
    obtain ⟨n0, e0, _, w0⟩ := DataW.trod_int Try.underlying27 h0
    obtain ⟨n1, e1, _, w1⟩ := DataW.trod_int Try.underlying27 h1
    obtain ⟨n2, e2, _, w2⟩ := DataW.trod_int Try.underlying27 h2
    obtain ⟨n3, e3, _, w3⟩ := DataW.trod_int Try.underlying27 h3
    simp at e0 e1 e2 e3
    refine ⟨⟨n0, n1, n2, n3⟩, by rw [e0, e1, e2, e3]; rfl, ?_⟩
    intro n
    have := wf32 w0
    have := wf32 w1
    have := wf32 w2
    have := wf32 w3
    match n with
    | 0 => assumption
    | 1 => assumption
    | 2 => assumption
    | n + 3 => assumption
theorem v4_abs (N : Nat) (v : V4) : v.cs.map (absV N) = v.cs := rfl

/-- a slice of vectors. -/
theorem open_vecs {fuel : Nat} {v : Value} {x : DataW H × List MemPlace} (h : DataW.trod enc Try.prog W 0 spare held fuel 28 [v] = some x) :
    ∃ a l c vs, absV W.heap.size v = .slice a l c ∧ Sl a ∧ l = List.length vs ∧ VecAt (emb W) a vs ∧ (∀ v ∈ vs, ∀ n, -2147483648 ≤ V4.at v n ∧ V4.at v n < 2147483648) ∧ (∀ b o l c, v = .slice (some ⟨b, o, none⟩) l c → b < W.heap.size → absV W.heap.size v = v) := by
  have T : ∀ b o l c, v = .slice (some ⟨b, o, none⟩) l c → b < W.heap.size → absV W.heap.size v = v := by
    rintro b o l c rfl hb; exact absV_slice hb
  rcases DataW.trod_slice Try.underlying28 h with ⟨e, _⟩ | ⟨a, len, cap, elems, rest, n, _, e, _, _, hle, _, hlen, he, _, _⟩
  · cases e
    exact ⟨none, 0, 0, [], rfl, sl_none, rfl, fun k v hk => by simp at hk, fun v hv => by simp at hv, T⟩
  · cases e
    by_cases h0 : len = 0
    · subst h0
      obtain ⟨a', c', e, hs⟩ := absV_slice0 W.heap.size a cap
      refine ⟨some a', 0, c', [], e, ?_, rfl, fun k v hk => by simp at hk, fun v hv => by simp at hv, T⟩
      obtain ⟨b, o, s⟩ := a'
      rcases hs with rfl | rfl
      · exact sl_s _ _
      · exact sl_e _ _
    · obtain ⟨b, o, s⟩ := a
      rw [cells40] at he
      have F : ∀ i, i < len → ∃ cs v4, W.cells? 0 ((⟨b, o, s⟩ : Addr).add (i * 4)) 4 = some cs ∧ cs = V4.cs v4 ∧ ∀ n, -2147483648 ≤ v4.at n ∧ v4.at n < 2147483648 := by
        intro i hi
        have := he i hi
        rw [List.getElem?_eq_getElem (by omega)] at this
        obtain ⟨cs, h1, h2⟩ := Option.bind_eq_some_iff.1 this
        obtain ⟨v4, h3, h4⟩ := open_vec4 h2
        exact ⟨cs, v4, h1, h3, h4⟩
      obtain ⟨c0, _, hc0, _, _⟩ := F 0 (by omega)
      have G : ∀ i, i < len → ∃ v4 : V4, s = none ∧ b < W.heap.size ∧ rd (emb W) b (o + i * 4) 4 = some v4.cs ∧ ∀ n, -2147483648 ≤ v4.at n ∧ v4.at n < 2147483648 := by
        intro i hi
        obtain ⟨cs, v4, h1, h2, h3⟩ := F i hi
        obtain ⟨g1, g2, _, g4⟩ := cells_elem (n := len) (by omega) ⟨c0, hc0⟩ h1
        exact ⟨v4, g1, g2, by rw [g4, h2]; rfl, h3⟩
      obtain ⟨_, hs, hb, _, _⟩ := G 0 (by omega)
      subst hs
      have hL : ∀ m, m ≤ len → ∃ vs : List V4, vs.length = m ∧ ∀ i v, vs[i]? = some v → rd (emb W) b (o + i * 4) 4 = some v.cs ∧ ∀ n, -2147483648 ≤ v.at n ∧ v.at n < 2147483648 := by
        intro m
        induction m with
        | zero => intro _; exact ⟨[], rfl, fun i v hi => by simp at hi⟩
        | succ m ih =>
          intro hm
          obtain ⟨vs, h1, h2⟩ := ih (by omega)
          obtain ⟨v4, _, _, h5, h6⟩ := G m (by omega)
          refine ⟨vs ++ [v4], by simp [h1], ?_⟩
          intro i v hi
          by_cases hlt : i < vs.length
          · rw [List.getElem?_append_left hlt] at hi; exact h2 i v hi
          · have : i = m := by have := (List.getElem?_eq_some_iff.1 hi).1; simp at this; omega
            subst this
            rw [List.getElem?_append_right (by omega), h1] at hi
            simp at hi
            subst hi
            exact ⟨h5, h6⟩
      obtain ⟨vs, hvl, hvs⟩ := hL len (Nat.le_refl _)
      refine ⟨some ⟨b, o, none⟩, len, cap, vs, absV_slice hb, sl_s _ _, hvl.symm, ?_, ?_, T⟩
      · intro k v hk
        exact ⟨b, o, none, rfl, .inl rfl, hb, (hvs k v hk).1⟩
      · intro v hv
        obtain ⟨i, hi⟩ := List.mem_iff_getElem?.1 hv
        exact (hvs i v hi).2

theorem open_win {fuel : Nat} {cs : List Value} {x : DataW H × List MemPlace} (h : DataW.trod enc Try.prog W 0 spare held fuel 30 cs = some x) :
    ∃ p : Wn, cs.map (absV W.heap.size) = p.cs ∧ WnAt (emb W) p ∧ (∀ b o l c, cs[5]? = some (.slice (some ⟨b, o, none⟩) l c) → b < W.heap.size → p.a = some ⟨b, o, none⟩ ∧ p.l = l ∧ p.c = c) := by
  obtain ⟨xs, n, _, _, hl, hlen, hf⟩ := DataW.trod_struct Try.underlying30 h
  rw [cells30] at hl
  obtain ⟨c0, c1, c2, c3, c4, c5, rfl⟩ := list6 hl
  · obtain ⟨y0, y1, y2, y3, y4, y5, rfl⟩ := list6 hlen
    · have h0 := hf 0 _ rfl
      have h1 := hf 1 _ rfl
      have h2 := hf 2 _ rfl
      have h3 := hf 3 _ rfl
      have h4 := hf 4 _ rfl
      have h5 := hf 5 _ rfl
      change DataW.trod enc Try.prog W 0 spare held n 3 (([c0, c1, c2, c3, c4, c5].drop 0).take (Try.prog.cellsOf 3)) = some y0 at h0
      change DataW.trod enc Try.prog W 0 spare held n 3 (([c0, c1, c2, c3, c4, c5].drop 1).take (Try.prog.cellsOf 3)) = some y1 at h1
      change DataW.trod enc Try.prog W 0 spare held n 27 (([c0, c1, c2, c3, c4, c5].drop 2).take (Try.prog.cellsOf 27)) = some y2 at h2
      change DataW.trod enc Try.prog W 0 spare held n 27 (([c0, c1, c2, c3, c4, c5].drop 3).take (Try.prog.cellsOf 27)) = some y3 at h3
      change DataW.trod enc Try.prog W 0 spare held n 27 (([c0, c1, c2, c3, c4, c5].drop 4).take (Try.prog.cellsOf 27)) = some y4 at h4
      change DataW.trod enc Try.prog W 0 spare held n 28 (([c0, c1, c2, c3, c4, c5].drop 5).take (Try.prog.cellsOf 28)) = some y5 at h5
      rw [cells3] at h0 h1
      rw [cells27] at h2 h3 h4
      rw [cells28] at h5
      obtain ⟨n0, e0, _, w0⟩ := DataW.trod_int Try.underlying3 h0
      obtain ⟨n1, e1, _, w1⟩ := DataW.trod_int Try.underlying3 h1
      obtain ⟨n2, e2, _, w2⟩ := DataW.trod_int Try.underlying27 h2
      obtain ⟨n3, e3, _, w3⟩ := DataW.trod_int Try.underlying27 h3
      obtain ⟨n4, e4, _, w4⟩ := DataW.trod_int Try.underlying27 h4
      obtain ⟨a, l, c, vs, e5, hs, hlv, hv, hn, hT⟩ := open_vecs (v := c5) h5
      simp at e0 e1 e2 e3 e4
      refine ⟨⟨n0, n1, n2, n3, n4, a, l, c, hs, vs⟩, ?_, ⟨hlv, hv, hn, wf32 w2, wf32 w3⟩, ?_⟩
      · simp only [List.map_cons, List.map_nil, e0, e1, e2, e3, e4, e5, Wn.cs]; rfl
      · intro b o l' c' h hb
        simp at h
        have := hT b o l' c' h hb
        rw [e5, h] at this
        cases this
        exact ⟨rfl, rfl, rfl⟩
end
end
end Go.AX.Tri
