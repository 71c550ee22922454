/- The abstract executor 'AX', soundness (3): what each operation does. -/
import Derived.Test.YthhgeodgfbhkdaaAxC
set_option linter.unusedVariables false
set_option linter.unusedSimpArgs false
set_option linter.unusedSectionVars false
namespace Go.AX
variable {P : Program} {m : M} {H : AH} {w : World}

/-! ## Types -/
theorem sizeT_run {t : TypeId} {n : Nat} (h : sizeT P t = some n) (w : World) : (sizeOf t).run P w = .ok n w := by
  unfold sizeT at h
  split at h
  · rename_i i hi
    cases h
    simp [sizeOf, typeInfo, hi]
  · cases h

theorem isAggT_run {t : TypeId} {b : Bool} (h : isAggT P t = some b) (w : World) : (isAgg t).run P w = .ok b w := by
  unfold isAggT at h
  cases hu : P.underlying t with
  | none => rw [hu] at h; cases h
  | some d => rw [hu] at h; cases d <;> cases h <;> simp [isAgg, run_underlying hu]

theorem zeroT_run {t : TypeId} {z : Value} (h : zeroT P t = some z) (w : World) : (zeroValue t).run P w = .ok z w := by
  unfold zeroT at h
  split at h
  · rename_i i hi
    split at h
    · rename_i z' hz
      cases hc : (clo 4 z' && Nat.beq z'.cells.toList.length i.size && z'.cells.toList.all flat) <;> rw [hc] at h
      · cases h
      · cases h
        simp [zeroValue, typeInfo, hi, hz]
    · cases h
  · cases h

theorem zeroT_spec {t : TypeId} {z : Value} (h : zeroT P t = some z) :
    clo 4 z = true ∧ sizeT P t = some z.cells.toList.length ∧ ∀ v ∈ z.cells.toList, flat v = true := by
  unfold zeroT at h
  split at h
  · rename_i i hi
    split at h
    · rename_i z' hz
      cases hc : (clo 4 z' && Nat.beq z'.cells.toList.length i.size && z'.cells.toList.all flat) <;> rw [hc] at h
      · cases h
      · cases h
        simp only [Bool.and_eq_true] at hc
        exact ⟨hc.1.1, by simp only [sizeT, hi]; rw [Nat.eq_of_beq_eq_true hc.1.2], List.all_eq_true.1 hc.2⟩
    · cases h
  · cases h

/-! ## Pure runs -/
theorem pure?_ok {α : Type} {s : Sem α} : ∀ {x : α}, pure? P s = .ok x → ∀ w, s.run P w = .ok x w := by
  induction s with
  | pure a => intro x h w; simp only [pure?] at h; cases h; rfl
  | program k ih => intro x h w; simp only [pure?] at h; exact ih P h w
  | mark mk k ih => intro x h w; simp only [pure?] at h; exact ih h w
  | halt hl => intro x h; cases hl <;> simp [pure?] at h
  | _ => intro x h; simp [pure?] at h

theorem pure?_panic {α : Type} {s : Sem α} : ∀ {v : Value}, pure? P s = .panic v → ∀ w, s.run P w = .halt (.panic v) w := by
  induction s with
  | pure a => intro x h w; simp only [pure?] at h; cases h
  | program k ih => intro x h w; simp only [pure?] at h; exact ih P h w
  | mark mk k ih => intro x h w; simp only [pure?] at h; exact ih h w
  | halt hl => intro x h w; cases hl <;> simp only [pure?] at h <;> cases h; rfl
  | _ => intro x h; simp [pure?] at h

/-! ## Operands -/
def FrR (m : M) (fr : Tr Value) (a : Act) : Prop := ∀ t, VR m (tmp fr (pa t)) (a.tmps.getD t undef)

theorem FrR.mono {m m' : M} (hm : m.Le m') {fr : Tr Value} {a : Act} (h : FrR m fr a) : FrR m' fr a := fun t => (h t).mono hm

theorem arOf_sound {fr : Tr Value} {a : Act} (hf : FrR m fr a) {x : Operand} {r : Ar} (h : arOf x = some r) : VR m (ev fr r) (a.eval x) := by
  cases x with
  | tmp t => simp only [arOf] at h; cases h; exact hf t
  | const v =>
    simp only [arOf] at h
    cases hc : clo 4 v <;> rw [hc] at h
    · cases h
    · cases h; exact VR.of_clo m 4 v hc
  | func f => simp only [arOf] at h; cases h; exact .func _ _ _ _ _ (by simp) .nil .nil
  | global g => simp [arOf] at h

theorem arsOf_sound {fr : Tr Value} {a : Act} (hf : FrR m fr a) : ∀ {l : List Operand} {r : List Ar}, arsOf l = some r → VRL m (evs fr r) (l.map a.eval)
  | [], r, h => by simp only [arsOf] at h; cases h; exact .nil
  | x :: l, r, h => by
    simp only [arsOf] at h
    split at h
    · rename_i y ys h1 h2
      cases h
      exact .cons _ _ _ _ (arOf_sound hf h1) (arsOf_sound hf h2)
    · cases h

theorem evs_length (fr : Tr Value) : ∀ l : List Ar, (evs fr l).length = l.length
  | [] => rfl
  | x :: l => by simp [evs, evs_length fr l]

/-- an optional operand. -/
inductive VRO (m : M) : Option Value → Option Value → Prop
  | none : VRO m none none
  | some (v v' : Value) (h : VR m v v') : VRO m (some v) (some v')

theorem arO_sound {fr : Tr Value} {a : Act} (hf : FrR m fr a) {x : Option Operand} {r : Option Ar} (h : arO x = some r) : VRO m (evO fr r) (x.map a.eval) := by
  cases x with
  | none => simp only [arO] at h; cases h; exact .none
  | some x =>
    simp only [arO] at h
    split at h
    · rename_i y hy; cases h; exact .some _ _ (arOf_sound hf hy)
    · cases h

/-! ## What is said of an operation -/
def ANext.heap : ANext → AH
  | .val _ h | .enter _ _ h | .round _ _ h | .panic _ h => h

/-- the operation's run comes to what the executor says. -/
inductive Good (P : Program) (m : M) (H : AH) (w : World) (r : Result Next) : ANext → Prop
  | val (v : Value) (H' : AH) (m' : M) (w' : World) (v' : Value) (h : r = .ok (.value v') w' ∨ (r = .ok .skip w' ∧ v' = undef)) (hv : VR m' v v') (hr : Rel m' H' w') (hs : Step m m' H H' w w') : Good P m H w r (.val v H')
  | enter (f : FuncId) (args : List Value) (args' : Array Value) (h : r = (callFunc f args').run P w) (hv : VRL m args args'.toList) : Good P m H w r (.enter f args H)
  | round (l : Nat) (args : List Value) (args' : Array Value) (h : r = (Instr.yield (m.bk l) args').run P w) (hd : m.dm l) (hv : VRL m args args'.toList) : Good P m H w r (.round l args H)
  | panic (v : Value) (h : r = .halt (.panic v) w) (hc : clo 5 v = true) : Good P m H w r (.panic v H)

theorem Good.here {P : Program} {m : M} {H : AH} {w : World} {r : Result Next} {v v' : Value} (hR : Rel m H w) (h : r = .ok (.value v') w) (hv : VR m v v') : Good P m H w r (.val v H) :=
  .val v H m w v' (.inl h) hv hR .refl

theorem good_ofPR {r : Result Next} {s : Sem Value} {nx : ANext} (hR : Rel m H w) (hr : r = (s >>= fun v => pure (Next.value v)).run P w) (h : ofPR H (pure? P s) = some nx) : Good P m H w r nx := by
  unfold ofPR at h
  split at h
  · rename_i v hv
    cases hc : clo 5 v <;> rw [hc] at h
    · cases h
    · cases h
      exact .here hR (by rw [hr, Sem.run_bind, pure?_ok hv w]; rfl) (VR.of_clo m 5 v hc)
  · rename_i v hv
    cases hc : clo 5 v <;> rw [hc] at h
    · cases h
    · cases h
      exact .panic v (by rw [hr, Sem.run_bind, pure?_panic hv w]; rfl) hc
  · cases h

/-! ## Inversion: values known in part -/
theorem VR.inv_ptr {b o : Nat} {v : Value} (h : VR m (.pointer (some ⟨b, o, none⟩)) v) : v = .pointer (some ⟨m.bk b, o, none⟩) ∧ m.dm b := by cases h with | ptr _ _ h => exact ⟨rfl, h⟩
theorem VR.inv_int {k : IntKind} {n : Int} {v : Value} (h : VR m (.int k n) v) : v = .int k n := by cases h; rfl
theorem VR.inv_bool {b : Bool} {v : Value} (h : VR m (.bool b) v) : v = .bool b := by cases h; rfl
theorem VR.inv_str {s : ByteArray} {v : Value} (h : VR m (.string s) v) : v = .string s := by cases h; rfl
theorem VR.inv_agg {c : Array Value} {v : Value} (h : VR m (.agg c) v) : ∃ c', v = .agg c' ∧ VRL m c.toList c'.toList := by cases h with | agg _ c' h => exact ⟨c', rfl, h⟩
theorem VR.inv_tuple {c : Array Value} {v : Value} (h : VR m (.tuple c) v) : ∃ c', v = .tuple c' ∧ VRL m c.toList c'.toList := by cases h with | tuple _ c' h => exact ⟨c', rfl, h⟩
theorem VR.inv_sl {b o l c : Nat} {v : Value} (h : VR m (.slice (some ⟨b, o, none⟩) l c) v) : v = .slice (some ⟨m.bk b, o, none⟩) l c ∧ m.dm b := by cases h with | sl _ _ _ _ h => exact ⟨rfl, h⟩
theorem VR.inv_slr {b o l c : Nat} {v : Value} (h : VR m (.slice (some ⟨b, o, some 0⟩) l c) v) : v = .slice (some ⟨m.bk b, o, none⟩) l (c + m.sp b) ∧ m.dm b := by cases h with | slr _ _ _ _ h => exact ⟨rfl, h⟩
theorem VR.inv_sl0 {l c : Nat} {v : Value} (h : VR m (.slice none l c) v) : v = .slice none l c := by cases h; rfl
theorem VR.inv_map {r : Nat} {v : Value} (h : VR m (.map (some r)) v) : v = .map (some (m.bk r)) ∧ m.dm r := by cases h with | map _ h => exact ⟨rfl, h⟩
theorem VR.inv_map0 {v : Value} (h : VR m (.map none) v) : v = .map none := by cases h; rfl
theorem VR.inv_iface {t : TypeId} {x v : Value} (h : VR m (.iface t x) v) : ∃ x', v = .iface t x' ∧ VR m x x' := by cases h with | iface _ _ x' h => exact ⟨x', rfl, h⟩

/-! ## Loads and stores -/
theorem aLoadA_sound {t : TypeId} {n : Nat} {v v' r : Value} (hR : Rel m H w) (ht : isAggT P t = some true) (hn : sizeT P t = some n) (hv : VR m v v') (h : aLoadA n v H = some r) :
    ∃ r', (Instr.loadAt t v').run P w = .ok r' w ∧ VR m r r' := by
  unfold aLoadA at h
  split at h
  · rename_i b o
    split at h
    · rename_i l hl
      cases h
      obtain ⟨rfl, hd⟩ := hv.inv_ptr
      obtain ⟨l', h1, h2⟩ := hR.loadCells (P := P) hl
      exact ⟨.agg l'.toArray, by simp [Instr.loadAt, Instr.sureAddr, loadVar, isAggT_run ht, sizeT_run hn, h2], .agg _ _ (by simpa using h1)⟩
    · cases h
  · cases h

theorem aLoad1_sound {t : TypeId} {v v' r : Value} (hR : Rel m H w) (ht : isAggT P t = some false) (hv : VR m v v') (h : aLoad1 v H = some r) :
    ∃ r', (Instr.loadAt t v').run P w = .ok r' w ∧ VR m r r' := by
  unfold aLoad1 at h
  split at h
  · rename_i b o
    split at h
    · rename_i x hl
      cases h
      obtain ⟨rfl, hd⟩ := hv.inv_ptr
      obtain ⟨l', h1, h2⟩ := hR.rd hl
      cases h1 with
      | cons _ x' _ l'' hx hnil =>
        have := h2 0 x' (by simp)
        simp only [Nat.add_zero] at this
        exact ⟨x', by simp [Instr.loadAt, Instr.sureAddr, loadVar, isAggT_run ht, this], hx⟩
    · cases h
  · cases h

theorem aStore_sound {t : TypeId} {n : Nat} {a a' v v' : Value} {nx : ANext} (hR : Rel m H w) (hn : sizeT P t = some n) (ha : VR m a a') (hv : VR m v v') (h : aStore n a v H = some nx) :
    Good P m H w ((Instr.storeAt t a' v' >>= fun _ => pure Next.skip).run P w) nx := by
  unfold aStore at h
  split at h
  · rename_i b o
    cases hc : Nat.beq v.cells.toList.length n <;> rw [hc] at h
    · cases h
    · simp only [cond_true] at h
      split at h
      · rename_i H' hw
        cases h
        obtain ⟨rfl, hd⟩ := ha.inv_ptr
        obtain ⟨w', h1, h2, h3⟩ := hR.wr (P := P) hv.cells hw
        have hsz : v'.cells.size = n := by
          rw [← Array.length_toList, hv.cells.length]; exact Nat.eq_of_beq_eq_true hc
        refine .val _ _ m w' undef (.inr ⟨?_, rfl⟩) (VR.of_clo m 1 _ rfl) h2 h3
        simp [Instr.storeAt, Instr.sureAddr, storeVar, sizeT_run hn, hsz, h1]
      · cases h
  · cases h

end Go.AX
/- The abstract executor 'AX', soundness (4): blocks that are made; values put together. -/
namespace Go.AX
variable {P : Program} {m : M} {H : AH} {w : World}

theorem fresh_nx {b : AB} (h : Fresh m H (H.push b)) : ¬ m.dm H.nx := h H.nx (Nat.le_refl _) (Nat.lt_succ_self _)

theorem run_newVar (t : TypeId) (v : Value) : (newVar t v).run P w = .ok ⟨w.heap.size, 0, none⟩ (w.alloc (.cells v.cells t)) := by
  simp only [newVar, newRow, Sem.run_bind, run_newObj, Result.andThen_ok, Sem.run_pure]; rfl

theorem good_push_ptr {r : Result Next} {cs : List Value} {cs' : Array Value} {t : TypeId} (hR : Rel m H w) (hF : Fresh m H (H.push (.cells cs 0 0))) (hv : VRL m cs cs'.toList)
    (hr : r = .ok (.value (.pointer (some ⟨w.heap.size, 0, none⟩))) (w.alloc (.cells cs' t))) : Good P m H w r (.val (ptr H.nx 0) (H.push (.cells cs 0 0))) := by
  obtain ⟨m', h1, h2, h3, h4⟩ := hR.push_cells (fresh_nx hF) cs cs' t hv 0 0 (by simp)
  exact .val _ _ m' _ _ (.inl hr) (by rw [← h4]; exact .ptr _ _ h3) h1 h2

theorem g_alloc {t : TypeId} {z : Value} (hR : Rel m H w) (hz : zeroT P t = some z) (hF : Fresh m H (H.push (.cells z.cells.toList 0 0))) :
    Good P m H w ((Instr.alloc t true (.tuple #[]) >>= fun v => pure (Next.value v)).run P w) (.val (ptr H.nx 0) (H.push (.cells z.cells.toList 0 0))) :=
  good_push_ptr hR hF (VR.of_clo m 4 _ (zeroT_spec hz).1).cells (t := t) (cs' := z.cells) (by simp [Instr.alloc, zeroT_run hz, run_newVar])

theorem g_box {t : TypeId} {v v' : Value} (hR : Rel m H w) (hv : VR m v v') (hF : Fresh m H (H.push (.cells v.cells.toList 0 0))) :
    Good P m H w ((Instr.box t v' >>= fun v => pure (Next.value v)).run P w) (.val (ptr H.nx 0) (H.push (.cells v.cells.toList 0 0))) :=
  good_push_ptr hR hF hv.cells (t := t) (cs' := v'.cells) (by simp [Instr.box, run_newVar])

/-! ## Parts laid into cells -/
theorem foldl_put (off : Nat) : ∀ (l : List Value) (k : Nat) (c : Array Value), off + k + l.length ≤ c.size →
    ((l.zipIdx k).foldl (fun cs x => cs.setIfInBounds (off + x.2) x.1) c).toList = splice c.toList (off + k) l
  | [], k, c, _ => by simp [splice]
  | v :: l, k, c, h => by
    simp only [List.length_cons] at h
    simp only [List.zipIdx_cons, List.foldl_cons]
    rw [foldl_put off l (k + 1) _ (by simp; omega)]
    simp only [splice, List.length_cons, Array.toList_setIfInBounds]
    have e1 : (c.toList.set (off + k) v).take (off + (k + 1)) = c.toList.take (off + k) ++ [v] := by
      rw [show off + (k + 1) = off + k + 1 by omega, List.take_set, List.take_succ_eq_append_getElem (by simp; omega), List.set_append_right _ _ (by simp; omega)]
      simp [Nat.min_eq_left (show off + k ≤ c.size by omega)]
    have e2 : (c.toList.set (off + k) v).drop (off + (k + 1) + l.length) = c.toList.drop (off + k + (l.length + 1)) := by
      rw [List.drop_set, if_pos (by omega)]; congr 1; omega
    rw [e1, e2]; simp

/-- parts of a value, as the executor has them and as the model has them. -/
inductive PartsR (m : M) (place : Nat → Option (Nat × Nat)) : List (Nat × Nat × Value) → List (Nat × Value) → Prop
  | nil : PartsR m place [] []
  | cons (off size i : Nat) (v v' : Value) (l : List (Nat × Nat × Value)) (l' : List (Nat × Value)) (hp : place i = some (off, size)) (hv : VR m v v') (hl : PartsR m place l l') :
      PartsR m place ((off, size, v) :: l) ((i, v') :: l')

theorem fill_sound {place : Nat → Option (Nat × Nat)} {ps : List (Nat × Nat × Value)} {ps' : List (Nat × Value)} (hp : PartsR m place ps ps') :
    ∀ {cs r : List Value} {c : Array Value}, VRL m cs c.toList → fillL cs ps = some r → ∃ c', Instr.fill place c ps' = some c' ∧ VRL m r c'.toList := by
  induction hp with
  | nil => intro cs r c hc h; simp only [fillL] at h; cases h; exact ⟨c, rfl, hc⟩
  | cons off size i v v' l l' hp hv hl ih =>
    intro cs r c hc h
    simp only [fillL] at h
    cases hb : (Nat.beq v.cells.toList.length size && Nat.ble (off + size) cs.length) <;> rw [hb] at h
    · cases h
    · simp only [cond_true] at h
      simp only [Bool.and_eq_true] at hb
      have e1 := Nat.eq_of_beq_eq_true hb.1
      have e2 := Nat.le_of_ble_eq_true hb.2
      have e3 := hv.cells.length
      have e4 := hc.length
      simp only [Array.length_toList] at e1 e3 e4
      have hz : (v'.cells.zipIdx.foldl (fun cs x => cs.setIfInBounds (off + x.2) x.1) c).toList = splice c.toList off v'.cells.toList := by
        rw [← Array.foldl_toList, Array.toList_zipIdx, foldl_put off v'.cells.toList 0 c (by simp; omega), Nat.add_zero]
      obtain ⟨c', h1, h2⟩ := ih (by rw [hz]; exact hc.splice hv.cells off) h
      refine ⟨c', ?_, h2⟩
      simp only [Instr.fill, hp]
      rw [if_neg (by simp; omega)]
      exact h1

theorem partsS_sound {fs : Array Field} {place : Nat → Option (Nat × Nat)} (hpl : ∀ i f n, fs[i]? = some f → sizeT P f.type = some n → place i = some (f.offset, n)) {fr : Tr Value} {a : Act} (hf : FrR m fr a) :
    ∀ {ps : List (Nat × Operand)} {l : List (Nat × Nat × Ar)}, partsS P fs ps = some l → PartsR m place (evP fr l) (ps.map fun x => (x.1, a.eval x.2))
  | [], l, h => by simp only [partsS] at h; cases h; exact .nil
  | (i, x) :: ps, l, h => by
    simp only [partsS] at h
    split at h
    · rename_i f hfi
      split at h
      · rename_i n y ys h1 h2 h3
        cases h
        exact .cons _ _ _ _ _ _ _ (hpl i f n hfi h1) (arOf_sound hf h2) (partsS_sound hpl hf h3)
      · cases h
    · cases h

theorem partsA_sound {n : Nat} {fr : Tr Value} {a : Act} (hf : FrR m fr a) :
    ∀ {ps : List (Nat × Operand)} {l : List (Nat × Nat × Ar)}, partsA n ps = some l → PartsR m (fun i => some (i * n, n)) (evP fr l) (ps.map fun x => (x.1, a.eval x.2))
  | [], l, h => by simp only [partsA] at h; cases h; exact .nil
  | (i, x) :: ps, l, h => by
    simp only [partsA] at h
    split at h
    · rename_i y ys h1 h2
      cases h
      exact .cons _ _ _ _ _ _ _ rfl (arOf_sound hf h1) (partsA_sound hf h2)
    · cases h

theorem run_mapM_places : ∀ (l : List Field) (hl : ∀ f ∈ l, ∃ n, sizeT P f.type = some n), ∃ ns : List (Nat × Nat), (l.mapM (m := Sem) fun f => do pure (f.offset, ← sizeOf f.type)).run P w = .ok ns w ∧
    ∀ (i : Nat) (f : Field) (n : Nat), l[i]? = some f → sizeT P f.type = some n → ns[i]? = some (f.offset, n)
  | [], _ => ⟨[], by simp, by simp⟩
  | f :: l, hl => by
    obtain ⟨n, hn⟩ := hl f (by simp)
    obtain ⟨ns, h1, h2⟩ := run_mapM_places l fun f hf => hl f (by simp [hf])
    refine ⟨(f.offset, n) :: ns, by simp only [List.mapM_cons, Sem.run_bind, sizeT_run hn, Result.andThen_ok, Sem.run_pure, h1], fun i g k hg hk => ?_⟩
    cases i with
    | zero => simp at hg; subst hg; rw [hn] at hk; cases hk; simp
    | succ i => simpa using h2 i g k (by simpa using hg) hk

theorem g_buildS {t : TypeId} {fs : Array Field} {z : Value} {fr : Tr Value} {a : Act} {ps : Array (Nat × Operand)} {l : List (Nat × Nat × Ar)} {cs : List Value} (hR : Rel m H w) (hf : FrR m fr a)
    (hu : P.underlying t = some (.struct fs)) (hz : zeroT P t = some z) (hall : ∀ f ∈ fs, ∃ n, sizeT P f.type = some n) (hp : partsS P fs ps.toList = some l) (h : fillL z.cells.toList (evP fr l) = some cs) :
    Good P m H w ((Instr.build t (ps.map fun x => (x.1, a.eval x.2)) >>= fun v => pure (Next.value v)).run P w) (.val (.agg cs.toArray) H) := by
  obtain ⟨ns, h1, h2⟩ := run_mapM_places (P := P) (w := w) fs.toList (by simpa using hall)
  obtain ⟨c', h3, h4⟩ := fill_sound (partsS_sound (place := fun i => ns[i]?) (fun i f n hi hn => h2 i f n (by simpa using hi) hn) hf hp) (VR.of_clo m 4 _ (zeroT_spec hz).1).cells h
  have hm : (fs.mapM (m := Sem) fun f => do pure (f.offset, ← sizeOf f.type)).run P w = .ok ns.toArray w := by
    rw [← Array.toArray_toList (xs := fs), List.mapM_toArray, Sem.run_map, h1]; rfl
  refine .here hR (v' := .agg c') ?_ (.agg _ _ (by simpa using h4))
  simp only [Instr.build, Sem.run_bind, zeroT_run hz, run_underlying hu, Result.andThen_ok, hm]
  have h3' : Instr.fill (fun x => ns.toArray[x]?) z.cells (ps.map fun x => (x.1, a.eval x.2)).toList = some c' := by
    rw [Array.toList_map, ← h3]; congr 1; funext i; simp
  simp only [h3', Sem.run_pure, Result.andThen_ok]

theorem g_buildA {t e : TypeId} {len n : Nat} {z : Value} {fr : Tr Value} {a : Act} {ps : Array (Nat × Operand)} {l : List (Nat × Nat × Ar)} {cs : List Value} (hR : Rel m H w) (hf : FrR m fr a)
    (hu : P.underlying t = some (.array len e)) (hz : zeroT P t = some z) (hn : sizeT P e = some n) (hp : partsA n ps.toList = some l) (h : fillL z.cells.toList (evP fr l) = some cs) :
    Good P m H w ((Instr.build t (ps.map fun x => (x.1, a.eval x.2)) >>= fun v => pure (Next.value v)).run P w) (.val (.agg cs.toArray) H) := by
  obtain ⟨c', h3, h4⟩ := fill_sound (partsA_sound hf hp) (VR.of_clo m 4 _ (zeroT_spec hz).1).cells h
  refine .here hR (v' := .agg c') ?_ (.agg _ _ (by simpa using h4))
  simp only [Instr.build, Sem.run_bind, zeroT_run hz, run_underlying hu, Result.andThen_ok, sizeT_run hn]
  have h3' : Instr.fill (fun i => some (i * n, n)) z.cells (ps.map fun x => (x.1, a.eval x.2)).toList = some c' := by
    rw [Array.toList_map, ← h3]
  simp only [h3', Sem.run_pure, Result.andThen_ok]

/-! ## Rows of zeros -/
theorem repl_range (z : List Value) : ∀ k, (List.range (k * z.length)).map (fun i => z.toArray[i % z.length]!) = repl z k
  | 0 => by simp [repl]
  | k + 1 => by
    rw [show (k + 1) * z.length = z.length + k * z.length by rw [Nat.add_mul]; omega, List.range_add, List.map_append, List.map_map]
    have e1 : (List.range z.length).map (fun i => z.toArray[i % z.length]!) = z := by
      apply List.ext_getElem (by simp)
      intro i h1 h2
      simp only [List.getElem_map, List.getElem_range]
      rw [Nat.mod_eq_of_lt h2]
      simp [h2]
    have e2 : (List.range (k * z.length)).map ((fun i => z.toArray[i % z.length]!) ∘ fun x => z.length + x) = (List.range (k * z.length)).map (fun i => z.toArray[i % z.length]!) := by
      apply List.map_congr_left
      intro i _
      simp [Nat.add_mod_left]
    rw [e1, e2, repl_range z k, repl]

theorem repl_length (z : List Value) : ∀ k, (repl z k).length = k * z.length
  | 0 => by simp [repl]
  | k + 1 => by rw [repl, List.length_append, repl_length z k, Nat.add_mul]; omega

theorem repl_clo {z : List Value} {d : Nat} (h : z.all (clo d) = true) : ∀ k, (repl z k).all (clo d) = true
  | 0 => rfl
  | k + 1 => by simp only [repl, List.all_append, h, repl_clo h k, Bool.and_self]

theorem zeroT_cells {t : TypeId} {z : Value} (hz : zeroT P t = some z) : VRL m z.cells.toList z.cells.toList := (VR.of_clo m 4 _ (zeroT_spec hz).1).cells

theorem repl_rel {z : List Value} (h : VRL m z z) : ∀ k, VRL m (repl z k) (repl z k)
  | 0 => .nil
  | k + 1 => h.append (repl_rel h k)

theorem good_push_sl {r : Result Next} {cs : List Value} {cs' : Array Value} {t : TypeId} {l c : Nat} (hR : Rel m H w) (hF : Fresh m H (H.push (.cells cs 0 0))) (hv : VRL m cs cs'.toList)
    (hr : r = .ok (.value (.slice (some ⟨w.heap.size, 0, none⟩) l c)) (w.alloc (.cells cs' t))) : Good P m H w r (.val (sl H.nx 0 l c) (H.push (.cells cs 0 0))) := by
  obtain ⟨m', h1, h2, h3, h4⟩ := hR.push_cells (fresh_nx hF) cs cs' t hv 0 0 (by simp)
  exact .val _ _ m' _ _ (.inl hr) (by rw [← h4]; exact .sl _ _ _ _ h3) h1 h2

def zrow (z : Value) (k : Nat) : Array Value := if k = 0 then #[] else z.cells
theorem zeros_array {e : TypeId} {z : Value} (_hz : zeroT P e = some z) (k n : Nat) (hn : z.cells.toList.length = n) :
    ((Array.range (k * n)).map fun i => (zrow z (k * n))[i % (zrow z (k * n)).size]!).toList = repl z.cells.toList k := by
  unfold zrow
  by_cases h0 : k * n = 0
  · rw [h0]
    have := repl_length z.cells.toList k
    rw [hn, h0] at this
    simp [List.length_eq_zero_iff.1 this]
  · rw [if_neg h0, Array.toList_map, Array.toList_range, ← repl_range, hn]
    simp only [Array.length_toList] at hn
    simp [hn]

theorem g_buildSlice {t e : TypeId} {len n : Nat} {z : Value} {fr : Tr Value} {a : Act} {ps : Array (Nat × Operand)} {l : List (Nat × Nat × Ar)} {cs : List Value} (hR : Rel m H w) (hf : FrR m fr a)
    (hu : P.underlying t = some (.slice e)) (hz : zeroT P e = some z) (hn : sizeT P e = some n) (hle : len * n ≤ 16777216) (hp : partsA n ps.toList = some l) (h : fillL (repl z.cells.toList len) (evP fr l) = some cs)
    (hF : Fresh m H (H.push (.cells cs 0 0))) :
    Good P m H w ((Instr.buildSlice t len (ps.map fun x => (x.1, a.eval x.2)) >>= fun v => pure (Next.value v)).run P w) (.val (sl H.nx 0 len len) (H.push (.cells cs 0 0))) := by
  have hzn : z.cells.toList.length = n := by
    have := (zeroT_spec hz).2.1; rw [hn] at this; exact (Option.some.inj this).symm
  have h2 := zeros_array hz len n hzn
  obtain ⟨c', h3, h4⟩ := fill_sound (partsA_sound hf hp) (c := (Array.range (len * n)).map fun i => (zrow z (len * n))[i % (zrow z (len * n)).size]!) (by rw [h2]; exact repl_rel (zeroT_cells hz) len) h
  refine good_push_sl hR hF h4 (t := e) ?_
  have h3' : Instr.fill (fun i => some (i * n, n)) ((Array.range (len * n)).map fun i => (zrow z (len * n))[i % (zrow z (len * n)).size]!) (ps.map fun x => (x.1, a.eval x.2)).toList = some c' := by
    rw [Array.toList_map, ← h3]
  simp only [Instr.buildSlice, Sem.run_bind, run_underlying hu, Result.andThen_ok, sizeT_run hn]
  rw [if_neg (by omega)]
  unfold zrow at h3'
  by_cases h0 : len * n = 0
  · rw [if_pos h0] at h3'
    simp only [h0, if_true, Sem.run_bind, Sem.run_pure, Result.andThen_ok] at h3' ⊢
    simp only [h3', Sem.run_bind, newRow, run_newObj, Sem.run_pure, Result.andThen_ok]; rfl
  · rw [if_neg h0] at h3'
    simp only [h0, if_false, Sem.run_bind, zeroT_run hz, Sem.run_pure, Result.andThen_ok]
    simp only [h3', Sem.run_bind, newRow, run_newObj, Sem.run_pure, Result.andThen_ok]; rfl

end Go.AX
