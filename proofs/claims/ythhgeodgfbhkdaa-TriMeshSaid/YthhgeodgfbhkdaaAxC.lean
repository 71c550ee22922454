/- The abstract executor 'AX', soundness (2): how an abstract heap lies in a world; laying, reading and writing blocks. -/
import Derived.Test.YthhgeodgfbhkdaaAxB
import Derived.Laws.IdiomCopy
set_option linter.unusedVariables false
set_option linter.unusedSimpArgs false
set_option linter.unusedSectionVars false
namespace Go.AX

def endCode : AEx → Option Code
  | .ret => some .ret
  | .exit id => some (.exit id)
  | _ => none

/-- an entry of a map. -/
structure ER (m : M) (e e' : MapEntry) : Prop where
  key : e'.key = e.key
  clo : clo 3 e.key = true
  born : e'.born = e.born
  val : VR m e.val e'.val

inductive ERL (m : M) : List MapEntry → List MapEntry → Prop
  | nil : ERL m [] []
  | cons (e e' : MapEntry) (l l' : List MapEntry) (h : ER m e e') (hl : ERL m l l') : ERL m (e :: l) (e' :: l')

/-- a block. -/
inductive BR (m : M) (id : Nat) : AB → Option Obj → Prop
  | cells (cs : List Value) (k z : Nat) (c : Array Value) (t : TypeId) (f1 f2 : Nat) (h0 : k ≠ 1 → c.size = cs.length) (h1 : k = 1 → c.size = cs.length + m.sp id * z)
      (hv : VRL m cs (c.toList.take cs.length)) (hf : k = 2 ∨ f2 ≤ f1 ∨ c.size ≤ f1) : BR m id (.cells cs k z) (some (.cells c t (f1, f2)))
  | map (es : List MapEntry) (clock : Nat) (es' : Array MapEntry) (h : ERL m es es'.toList) : BR m id (.map es clock) (some (.map es' clock))
  | iter (s : ByteArray) (p : Nat) : BR m id (.iter s p) (some (.stringIter s p))
  | loop (st : LoopState) (pend : Option AEx) (c : Option Code) (h : c = pend.bind endCode) : BR m id (.loop st pend) (some (.loop { m.lp id with state := st, pending := c }))
  | dfr : BR m id .dfr (some (.deferred (some [])))
  | dead (o : Option Obj) : BR m id .dead o

/-- the heap. -/
structure Rel (m : M) (H : AH) (w : World) : Prop where
  blk : ∀ i b, H.get i = some b → BR m i b w.heap[m.bk i]?
  dm : ∀ i b, H.get i = some b → b ≠ .dead → m.dm i
  inj : ∀ i j b c, H.get i = some b → H.get j = some c → b ≠ .dead → c ≠ .dead → m.bk i = m.bk j → i = j
  lt : ∀ i b, H.get i = some b → i < H.nx

/-- from one state to a later one. -/
structure Step (m m' : M) (H H' : AH) (w w' : World) : Prop where
  le : m.Le m'
  dm : ∀ i, m'.dm i → m.dm i ∨ (H.nx ≤ i ∧ i < H'.nx)
  lo : H'.lo ≤ H.lo
  nx : H.nx ≤ H'.nx
  os : w'.os = w.os
  tape : w'.tape = w.tape
  output : w'.output = w.output
  size : w.heap.size ≤ w'.heap.size
  blk : ∀ b, b < w.heap.size → (∀ j y, H.get j = some y → y ≠ .dead → H'.lo ≤ j → m.bk j ≠ b) → w'.heap[b]? = w.heap[b]?
  org : ∀ i y, H'.get i = some y → y ≠ .dead → w.heap.size ≤ m'.bk i ∨ (∃ j z, H.get j = some z ∧ z ≠ .dead ∧ m'.bk i = m.bk j ∧ (i = j ∨ H'.lo ≤ j))

def Fresh (m : M) (H H' : AH) : Prop := ∀ i, H.nx ≤ i → i < H'.nx → ¬ m.dm i

theorem ERL.mono {m m' : M} (hm : m.Le m') {l l' : List MapEntry} (h : ERL m l l') : ERL m' l l' := by
  induction h with
  | nil => exact .nil
  | cons e e' l l' h hl ih => exact .cons _ _ _ _ ⟨h.key, h.clo, h.born, h.val.mono hm⟩ ih

theorem BR.mono {m m' : M} (hm : m.Le m') {i : Nat} {b : AB} {o : Option Obj} (hd : b ≠ .dead → m.dm i) (h : BR m i b o) : BR m' i b o := by
  cases h with
  | cells cs k z c t f1 f2 h0 h1 hv hf => exact .cells cs k z c t f1 f2 h0 (fun e => by rw [hm.sp i (hd (by simp))]; exact h1 e) (hv.mono hm) hf
  | map es clock es' h => exact .map es clock es' (h.mono hm)
  | iter s p => exact .iter s p
  | loop st pend c h => rw [← hm.lp i (hd (by simp))]; exact .loop st pend c h
  | dfr => exact .dfr
  | dead o => exact .dead o

theorem BR.some {m : M} {i : Nat} {b : AB} {o : Option Obj} (h : BR m i b o) (hb : b ≠ .dead) : ∃ x, o = some x := by
  cases h with
  | dead => exact absurd rfl hb
  | _ => exact ⟨_, rfl⟩

theorem Rel.bk_lt {m : M} {H : AH} {w : World} (h : Rel m H w) {i : Nat} {b : AB} (hi : H.get i = some b) (hb : b ≠ .dead) : m.bk i < w.heap.size := by
  obtain ⟨x, hx⟩ := (h.blk i b hi).some hb
  exact (Array.getElem?_eq_some_iff.1 hx).1

theorem Step.refl {m : M} {H : AH} {w : World} : Step m m H H w w :=
  ⟨.refl m, fun _ h => .inl h, Nat.le_refl _, Nat.le_refl _, rfl, rfl, rfl, Nat.le_refl _, fun _ _ _ => rfl, fun i y hi hy => .inr ⟨i, y, hi, hy, rfl, .inl rfl⟩⟩

theorem Step.trans {m m1 m2 : M} {H H1 H2 : AH} {w w1 w2 : World} (h : Step m m1 H H1 w w1) (k : Step m1 m2 H1 H2 w1 w2) : Step m m2 H H2 w w2 where
  le := h.le.trans k.le
  dm i hi := by
    rcases k.dm i hi with h1 | ⟨h1, h2⟩
    · rcases h.dm i h1 with h3 | ⟨h3, h4⟩
      · exact .inl h3
      · exact .inr ⟨h3, by have := k.nx; omega⟩
    · exact .inr ⟨by have := h.nx; omega, h2⟩
  lo := Nat.le_trans k.lo h.lo
  nx := Nat.le_trans h.nx k.nx
  os := k.os.trans h.os
  tape := k.tape.trans h.tape
  output := k.output.trans h.output
  size := Nat.le_trans h.size k.size
  blk b hb hc := by
    have hlo := k.lo
    rw [k.blk b (by have := h.size; omega) ?_]
    · exact h.blk b hb fun j y hj hy hl => hc j y hj hy (by omega)
    · intro j y hj hy hl e
      rcases h.org j y hj hy with h1 | ⟨i, z, hi, hz, e1, e2⟩
      · omega
      · refine hc i z hi hz ?_ (e1.symm.trans e)
        rcases e2 with rfl | e2 <;> omega
  org i y hi hy := by
    have hlo := k.lo
    rcases k.org i y hi hy with h1 | ⟨j, z, hj, hz, e1, e2⟩
    · exact .inl (by have := h.size; omega)
    · rcases h.org j z hj hz with h1 | ⟨l, x, hl, hx, e3, e4⟩
      · exact .inl (by omega)
      · refine .inr ⟨l, x, hl, hx, e1.trans e3, ?_⟩
        rcases e2 with rfl | e2 <;> rcases e4 with rfl | e4 <;> first | exact .inl rfl | (right; omega)

theorem Fresh.of_le {m : M} {H H1 H2 : AH} (h : Fresh m H H2) (h2 : H1.nx ≤ H2.nx) : Fresh m H H1 := fun i h3 h4 => h i h3 (by omega)
theorem Fresh.step {m m1 : M} {H H1 H2 : AH} {w w1 : World} (h : Fresh m H H2) (k : Step m m1 H H1 w w1) : Fresh m1 H1 H2 := fun i h3 h4 hd => by
  rcases k.dm i hd with h5 | ⟨h5, h6⟩
  · exact h i (by have := k.nx; omega) h4 h5
  · omega

/-! ## A new block -/
def M.add (m : M) (i b s : Nat) (l : Loop) : M :=
  { bk := fun j => if j = i then b else m.bk j, sp := fun j => if j = i then s else m.sp j, dm := fun j => m.dm j ∨ j = i, lp := fun j => if j = i then l else m.lp j }
theorem M.le_add (m : M) {i b s : Nat} {l : Loop} (h : ¬ m.dm i) : m.Le (m.add i b s l) :=
  ⟨fun _ h => .inl h, fun j hj => if_neg fun e : j = i => h (e ▸ hj), fun j hj => if_neg fun e : j = i => h (e ▸ hj), fun j hj => if_neg fun e : j = i => h (e ▸ hj)⟩
theorem M.add_bk (m : M) (i b s : Nat) (l : Loop) : (m.add i b s l).bk i = b := if_pos rfl
theorem M.add_sp (m : M) (i b s : Nat) (l : Loop) : (m.add i b s l).sp i = s := if_pos rfl
theorem M.add_lp (m : M) (i b s : Nat) (l : Loop) : (m.add i b s l).lp i = l := if_pos rfl
theorem M.add_dm (m : M) (i b s : Nat) (l : Loop) : (m.add i b s l).dm i := .inr rfl

theorem heap_alloc_lt (w : World) (o : Obj) {k : Nat} (h : k < w.heap.size) : (w.alloc o).heap[k]? = w.heap[k]? := by
  show (w.heap.push o)[k]? = _
  rw [Array.getElem?_push, if_neg (by omega)]
theorem heap_alloc_new (w : World) (o : Obj) : (w.alloc o).heap[w.heap.size]? = some o := by
  show (w.heap.push o)[_]? = _
  rw [Array.getElem?_push, if_pos rfl]
theorem size_alloc (w : World) (o : Obj) : (w.alloc o).heap.size = w.heap.size + 1 := Array.size_push ..

theorem Rel.push {m : M} {H : AH} {w : World} (h : Rel m H w) (hd : ¬ m.dm H.nx) (b : AB) (o : Obj) (s : Nat) (l : Loop)
    (hb : BR (m.add H.nx w.heap.size s l) H.nx b (some o)) :
    Rel (m.add H.nx w.heap.size s l) (H.push b) (w.alloc o) ∧ Step m (m.add H.nx w.heap.size s l) H (H.push b) w (w.alloc o) := by
  have hle := m.le_add (b := w.heap.size) (s := s) (l := l) hd
  refine ⟨⟨?_, ?_, ?_, ?_⟩, ⟨hle, ?_, Nat.le_refl _, Nat.le_succ _, rfl, rfl, rfl, by rw [size_alloc]; omega, fun k hk _ => heap_alloc_lt w o hk, ?_⟩⟩
  · intro i c hi
    by_cases e : i = H.nx
    · subst e
      rw [AH.get_push_same] at hi
      cases hi
      rw [M.add_bk, heap_alloc_new]
      exact hb
    · rw [AH.get_push_ne _ _ e] at hi
      by_cases hc : c = .dead
      · subst hc; exact .dead _
      · have h1 := h.dm i c hi hc
        rw [hle.bk i h1, heap_alloc_lt w o (h.bk_lt hi hc)]
        exact (h.blk i c hi).mono hle fun _ => h1
  · intro i c hi hc
    by_cases e : i = H.nx
    · exact .inr e
    · rw [AH.get_push_ne _ _ e] at hi
      exact .inl (h.dm i c hi hc)
  · intro i j c d hi hj hc hd' e
    by_cases ei : i = H.nx <;> by_cases ej : j = H.nx
    · omega
    · rw [AH.get_push_ne _ _ ej] at hj
      rw [ei, M.add_bk, hle.bk j (h.dm j d hj hd')] at e
      have := h.bk_lt hj hd'
      omega
    · rw [AH.get_push_ne _ _ ei] at hi
      rw [ej, M.add_bk, hle.bk i (h.dm i c hi hc)] at e
      have := h.bk_lt hi hc
      omega
    · rw [AH.get_push_ne _ _ ei] at hi
      rw [AH.get_push_ne _ _ ej] at hj
      rw [hle.bk j (h.dm j d hj hd'), hle.bk i (h.dm i c hi hc)] at e
      exact h.inj i j c d hi hj hc hd' e
  · intro i c hi
    rw [AH.nx_push]
    by_cases e : i = H.nx
    · omega
    · rw [AH.get_push_ne _ _ e] at hi
      have := h.lt i c hi
      omega
  · intro i hi
    rcases hi with hi | hi
    · exact .inl hi
    · exact .inr ⟨by omega, by rw [AH.nx_push]; omega⟩
  · intro i y hi hy
    by_cases e : i = H.nx
    · exact .inl (by rw [e, M.add_bk]; omega)
    · rw [AH.get_push_ne _ _ e] at hi
      exact .inr ⟨i, y, hi, hy, hle.bk i (h.dm i y hi hy), .inl rfl⟩

/-- a row of just these cells. -/
theorem Rel.push_cells {m : M} {H : AH} {w : World} (h : Rel m H w) (hd : ¬ m.dm H.nx) (cs : List Value) (cs' : Array Value) (t : TypeId) (hv : VRL m cs cs'.toList) (k z : Nat) (hk : k ≠ 1) :
    ∃ m', Rel m' (H.push (.cells cs k z)) (w.alloc (.cells cs' t)) ∧ Step m m' H (H.push (.cells cs k z)) w (w.alloc (.cells cs' t)) ∧ m'.dm H.nx ∧ m'.bk H.nx = w.heap.size := by
  have hle := m.le_add (b := w.heap.size) (s := 0) (l := default) hd
  have hl := hv.length
  simp only [Array.length_toList] at hl
  obtain ⟨h1, h2⟩ := h.push hd (.cells cs k z) (.cells cs' t) 0 default
    (.cells cs k z cs' t 0 0 (fun _ => by omega) (fun e => absurd e hk) (by rw [List.take_of_length_le (by simp; omega)]; exact hv.mono hle) (.inr (.inl (Nat.le_refl _))))
  exact ⟨_, h1, h2, M.add_dm _ _ _ _ _, M.add_bk _ _ _ _ _⟩

/-! ## Reading -/
theorem rd_spec {H : AH} {b o n : Nat} {l : List Value} (h : rd H b o n = some l) : ∃ cs k z, H.get b = some (.cells cs k z) ∧ o + n ≤ cs.length ∧ l = (cs.drop o).take n := by
  unfold rd at h
  split at h
  · rename_i cs k z hb
    cases hc : Nat.ble (o + n) cs.length <;> rw [hc] at h
    · cases h
    · simp only [cond_true, Option.some.injEq] at h
      exact ⟨cs, k, z, hb, Nat.le_of_ble_eq_true hc, h.symm⟩
  · cases h

theorem rd_length {H : AH} {b o n : Nat} {l : List Value} (h : rd H b o n = some l) : l.length = n := by
  obtain ⟨cs, k, z, _, h1, rfl⟩ := rd_spec h
  simp; omega

theorem Rel.rd {m : M} {H : AH} {w : World} (h : Rel m H w) {b o n : Nat} {l : List Value} (hr : rd H b o n = some l) :
    ∃ l' : List Value, VRL m l l' ∧ ∀ j v, l'[j]? = some v → w.cell? ⟨m.bk b, o + j, none⟩ = some v := by
  obtain ⟨cs, k, z, hb, hn, rfl⟩ := rd_spec hr
  have hblk := h.blk b _ hb
  generalize hw : w.heap[m.bk b]? = ob at hblk
  cases hblk with
  | cells _ _ _ c t f1 f2 h0 h1 hv hf =>
    refine ⟨((c.toList.take cs.length).drop o).take n, (hv.drop o).take n, fun j v hj => ?_⟩
    rw [List.getElem?_take] at hj
    split at hj
    · rw [List.getElem?_drop, List.getElem?_take] at hj
      split at hj
      · simp only [World.cell?, hw]
        simpa using hj
      · cases hj
    · cases hj

theorem add_none (b o j : Nat) : (⟨b, o, none⟩ : Addr).add j = ⟨b, o + j, none⟩ := by unfold Addr.add; split <;> simp_all

theorem Rel.loadCells {P : Program} {m : M} {H : AH} {w : World} (h : Rel m H w) {b o n : Nat} {l : List Value} (hr : AX.rd H b o n = some l) :
    ∃ l' : List Value, VRL m l l' ∧ (Go.loadCells ⟨m.bk b, o, none⟩ n).run P w = .ok l'.toArray w := by
  obtain ⟨l', hv, hc⟩ := h.rd hr
  have hn : l'.length = n := by rw [hv.length, rd_length hr]
  refine ⟨l', hv, ?_⟩
  have := run_loadCells_list (P := P) w ⟨m.bk b, o, none⟩ l' fun j v hj => by rw [add_none]; exact hc j v hj
  rwa [hn] at this

/-! ## Writing -/
theorem heap_setCell_ne (w : World) (b o : Nat) (v : Value) {k : Nat} (h : k ≠ b) : (w.setCell ⟨b, o, none⟩ v).heap[k]? = w.heap[k]? := by
  simp only [World.setCell, Array.getElem?_modify]; rw [if_neg (by omega)]
theorem heap_setCell_same (w : World) (b o : Nat) (v : Value) {c : Array Value} {t : TypeId} {f : Nat × Nat} (h : w.heap[b]? = some (.cells c t f)) :
    (w.setCell ⟨b, o, none⟩ v).heap[b]? = some (.cells (c.setIfInBounds o v) t f) := by
  simp [World.setCell, Array.getElem?_modify, h]

theorem setCells_facts (b : Nat) : ∀ (vs : List Value) (o : Nat) (w : World) (c : Array Value) (t : TypeId) (f : Nat × Nat), w.heap[b]? = some (.cells c t f) → o + vs.length ≤ c.size →
    ∃ c' : Array Value, (w.setCells b o vs).heap[b]? = some (.cells c' t f) ∧ c'.toList = splice c.toList o vs ∧ (∀ k, k ≠ b → (w.setCells b o vs).heap[k]? = w.heap[k]?) ∧
      (w.setCells b o vs).heap.size = w.heap.size ∧ (w.setCells b o vs).os = w.os ∧ (w.setCells b o vs).tape = w.tape ∧ (w.setCells b o vs).output = w.output
  | [], o, w, c, t, f, h, hl => ⟨c, h, by simp [splice], fun _ _ => rfl, rfl, rfl, rfl, rfl⟩
  | v :: r, o, w, c, t, f, h, hl => by
    simp only [List.length_cons] at hl
    obtain ⟨c', h1, h2, h3, h4, h5, h6, h7⟩ := setCells_facts b r (o + 1) (w.setCell ⟨b, o, none⟩ v) (c.setIfInBounds o v) t f (heap_setCell_same w b o v h) (by simp; omega)
    refine ⟨c', h1, ?_, fun k hk => (h3 k hk).trans (heap_setCell_ne w b o v hk), h4.trans (by simp [World.setCell]), h5.trans rfl, h6.trans rfl, h7.trans rfl⟩
    rw [h2]
    simp only [splice, List.length_cons, Array.toList_setIfInBounds]
    have e1 : (c.toList.set o v).take (o + 1) = c.toList.take o ++ [v] := by
      rw [List.take_set, List.take_succ_eq_append_getElem (by simp; omega), List.set_append_right _ _ (by simp; omega)]
      simp [Nat.min_eq_left (show o ≤ c.size by omega)]
    have e2 : (c.toList.set o v).drop (o + 1 + r.length) = c.toList.drop (o + (r.length + 1)) := by
      rw [List.drop_set, if_pos (by omega)]; congr 1; omega
    rw [e1, e2]; simp

theorem Rel.set {m : M} {H : AH} {w w' : World} (h : Rel m H w) {i : Nat} {b : AB} (hi : H.get i = some b) (hb : b ≠ .dead) (x : AB) (hx : BR m i x w'.heap[m.bk i]?)
    (ho : ∀ k, k ≠ m.bk i → w'.heap[k]? = w.heap[k]?) (hs : w'.heap.size = w.heap.size) (h1 : w'.os = w.os) (h2 : w'.tape = w.tape) (h3 : w'.output = w.output) :
    Rel m (H.set i x) w' ∧ Step m m H (H.set i x) w w' := by
  refine ⟨⟨?_, ?_, ?_, ?_⟩, ⟨.refl m, fun _ h => .inl h, Nat.min_le_left _ _, Nat.le_refl _, h1, h2, h3, by omega, ?_, ?_⟩⟩
  · intro j c hj
    by_cases e : j = i
    · subst e; rw [AH.get_set_same] at hj; cases hj; exact hx
    · rw [AH.get_set_ne _ _ _ e] at hj
      by_cases hc : c = .dead
      · subst hc; exact .dead _
      · rw [ho _ fun e' => e (h.inj j i c b hj hi hc hb e')]
        exact h.blk j c hj
  · intro j c hj hc
    by_cases e : j = i
    · subst e; exact h.dm j b hi hb
    · rw [AH.get_set_ne _ _ _ e] at hj; exact h.dm j c hj hc
  · intro j k c d hj hk hc hd e
    have G : ∀ {j c}, (H.set i x).get j = some c → c ≠ .dead → ∃ c', H.get j = some c' ∧ c' ≠ .dead := by
      intro j c hj hc
      by_cases e : j = i
      · subst e; exact ⟨b, hi, hb⟩
      · rw [AH.get_set_ne _ _ _ e] at hj; exact ⟨c, hj, hc⟩
    obtain ⟨c', hj', hc'⟩ := G hj hc
    obtain ⟨d', hk', hd'⟩ := G hk hd
    exact h.inj j k c' d' hj' hk' hc' hd' e
  · intro j c hj
    rw [AH.nx_set]
    by_cases e : j = i
    · subst e; exact h.lt j b hi
    · rw [AH.get_set_ne _ _ _ e] at hj; exact h.lt j c hj
  · intro k _ hk
    refine ho k fun e => hk i b hi hb (Nat.min_le_right _ _) e.symm
  · intro j y hj hy
    by_cases e : j = i
    · subst e; exact .inr ⟨j, b, hi, hb, rfl, .inl rfl⟩
    · rw [AH.get_set_ne _ _ _ e] at hj; exact .inr ⟨j, y, hj, hy, rfl, .inl rfl⟩

theorem VRL.splice {m : M} {cs cs' vs vs' : List Value} (h : VRL m cs cs') (k : VRL m vs vs') (o : Nat) : VRL m (splice cs o vs) (splice cs' o vs') := by
  unfold AX.splice
  rw [k.length]
  exact (h.take o).append (k.append (h.drop _))

theorem splice_length {cs vs : List Value} {o : Nat} (h : o + vs.length ≤ cs.length) : (splice cs o vs).length = cs.length := by
  simp [splice]; omega

theorem splice_take {cs vs : List Value} {o n : Nat} (h : o + vs.length ≤ n) (hn : n ≤ cs.length) : (splice cs o vs).take n = splice (cs.take n) o vs := by
  have e : (cs.take n).drop (o + vs.length) = (cs.drop (o + vs.length)).take (n - (o + vs.length)) := List.drop_take ..
  have e2 : (cs.take n).take o = cs.take o := by rw [List.take_take, Nat.min_eq_left (by omega)]
  unfold splice
  rw [e, e2, List.take_append, List.take_append, List.length_take, Nat.min_eq_left (show o ≤ cs.length by omega)]
  rw [List.take_of_length_le (show (cs.take o).length ≤ n by simp; omega), List.take_of_length_le (show vs.length ≤ n - o by omega)]
  congr 3
  omega

theorem wr_spec {H H' : AH} {b o : Nat} {vs : List Value} (h : wr H b o vs = some H') :
    ∃ cs k z, H.get b = some (.cells cs k z) ∧ o + vs.length ≤ cs.length ∧ k ≠ 2 ∧ (∀ v ∈ vs, flat v = true) ∧ H' = H.set b (.cells (splice cs o vs) k z) := by
  unfold wr at h
  split at h
  · rename_i cs k z hb
    cases hc : (Nat.ble (o + vs.length) cs.length && !Nat.beq k 2 && vs.all flat) <;> rw [hc] at h
    · cases h
    · simp only [cond_true, Option.some.injEq] at h
      simp only [Bool.and_eq_true, Bool.not_eq_true'] at hc
      exact ⟨cs, k, z, hb, Nat.le_of_ble_eq_true hc.1.1, fun e => by subst e; simp at hc, by simpa using hc.2, h.symm⟩
  · cases h

theorem oneCell_of_flat {v : Value} (h : flat v = true) : v.oneCell' = true := by cases v <;> first | rfl | simp [flat] at h

theorem Rel.wr {P : Program} {m : M} {H H' : AH} {w : World} (h : Rel m H w) {b o : Nat} {vs vs' : List Value} (hv : VRL m vs vs') (hr : wr H b o vs = some H') :
    ∃ w', (Go.storeCells ⟨m.bk b, o, none⟩ vs').run P w = .ok () w' ∧ Rel m H' w' ∧ Step m m H H' w w' := by
  obtain ⟨cs, k, z, hb, hn, hk, hf, rfl⟩ := wr_spec hr
  have hblk := h.blk b _ hb
  generalize hw : w.heap[m.bk b]? = ob at hblk
  cases hblk with
  | cells _ _ _ c t f1 f2 h0 h1 hcs hfz =>
    have hlen := hcs.length
    have hvl := hv.length
    have hc : cs.length ≤ c.size := by
      by_cases e : k = 1
      · have := h1 e; omega
      · have := h0 e; omega
    obtain ⟨c', g1, g2, g3, g4, g5, g6, g7⟩ := setCells_facts (m.bk b) vs' o w c t (f1, f2) hw (by omega)
    have hfl : ∀ v ∈ vs', flat v = true := by
      intro v hvm
      obtain ⟨i, hi⟩ := List.mem_iff_getElem?.1 hvm
      have hi' : i < vs.length := by
        have := (List.getElem?_eq_some_iff.1 hi).1; omega
      obtain ⟨v', e1, e2⟩ := hv.get i (List.getElem?_eq_getElem hi')
      rw [hi] at e1; cases e1
      rw [e2.flat]; exact hf _ (List.getElem_mem hi')
    have hrun := run_storeCells_cells (P := P) (m.bk b) o vs' 0 w (fun j hj => by simp [World.cell?, hw]; omega)
      (fun j hj => by
        simp only [World.frozen?, hw]
        rcases hfz with e | e | e
        · exact absurd e hk
        · simp; omega
        · simp; omega)
      (fun v hv => oneCell_of_flat (hfl v hv))
    refine ⟨_, hrun, ?_⟩
    have hsz : c'.size = c.size := by
      rw [← Array.length_toList, g2, splice_length (by simp; omega)]; simp
    exact h.set hb (by simp) _ (by
      rw [Nat.add_zero, g1]
      refine .cells _ _ _ c' t f1 f2 (fun e => ?_) (fun e => ?_) ?_ (by rw [hsz]; exact hfz)
      · rw [hsz, splice_length hn]; exact h0 e
      · rw [hsz, splice_length hn]; exact h1 e
      · rw [g2, splice_length hn, splice_take (by omega) (by simpa using hc)]
        exact hcs.splice hv o) (by simpa using g3) (by simpa using g4) (by simpa using g5) (by simpa using g6) (by simpa using g7)

end Go.AX
