/- The abstract executor 'AX', soundness (4): blocks that are made; values put together. -/
import Derived.Test.YthhgeodgfbhkdaaAxD
set_option linter.unusedVariables false
set_option linter.unusedSimpArgs false
set_option linter.unusedSectionVars false
namespace Go.AX
variable {P : Program} {m : M} {H : AH} {w : World}

theorem fresh_nx {b : AB} (h : Fresh m H (H.push b)) : ¬ m.dm H.nx := h H.nx (Nat.le_refl _) (Nat.lt_succ_self _)

theorem run_newVar (t : TypeId) (v : Value) : (newVar t v).run P w = .ok ⟨w.heap.size, 0, none⟩ (w.alloc (.cells v.cells t)) := by
  simp only [newVar, newRow, Sem.run_bind, run_newObj, Result.andThen_ok, Sem.run_pure]; rfl

theorem good_push_ptr {r : Result Next} {cs : List Value} {cs' : Array Value} {t : TypeId} (hR : Rel m H w) (hF : Fresh m H (H.push (.cells cs 0 0))) (hv : VRL m cs cs'.toList)
    (hr : r = .ok (.value (.pointer (some ⟨w.heap.size, 0, none⟩))) (w.alloc (.cells cs' t))) : Good P m H w r (.val (ptr H.nx 0) (H.push (.cells cs 0 0))) := by
  obtain ⟨m', h1, h2, h3, h4⟩ := hR.push_cells (fresh_nx hF) cs cs' t hv 0 0 (by simp)
  exact .val _ _ m' _ _ (.inl hr) (by rw [← h4]; exact .ptr _ _ h3) h1 h2

theorem g_alloc {t : TypeId} {z : Value} (hR : Rel m H w) (hz : zeroT P t = some z) (hF : Fresh m H (H.push (.cells z.cells.toList 0 0))) :
    Good P m H w ((Instr.alloc t true (.tuple #[]) >>= fun v => pure (Next.value v)).run P w) (.val (ptr H.nx 0) (H.push (.cells z.cells.toList 0 0))) :=
  good_push_ptr hR hF (VR.of_clo m 4 _ (zeroT_spec hz).1).cells (t := t) (cs' := z.cells) (by simp [Instr.alloc, zeroT_run hz, run_newVar])

theorem g_box {t : TypeId} {v v' : Value} (hR : Rel m H w) (hv : VR m v v') (hF : Fresh m H (H.push (.cells v.cells.toList 0 0))) :
    Good P m H w ((Instr.box t v' >>= fun v => pure (Next.value v)).run P w) (.val (ptr H.nx 0) (H.push (.cells v.cells.toList 0 0))) :=
  good_push_ptr hR hF hv.cells (t := t) (cs' := v'.cells) (by simp [Instr.box, run_newVar])

/-! ## Parts laid into cells -/
theorem foldl_put (off : Nat) : ∀ (l : List Value) (k : Nat) (c : Array Value), off + k + l.length ≤ c.size →
    ((l.zipIdx k).foldl (fun cs x => cs.setIfInBounds (off + x.2) x.1) c).toList = splice c.toList (off + k) l
  | [], k, c, _ => by simp [splice]
  | v :: l, k, c, h => by
    simp only [List.length_cons] at h
    simp only [List.zipIdx_cons, List.foldl_cons]
    rw [foldl_put off l (k + 1) _ (by simp; omega)]
    simp only [splice, List.length_cons, Array.toList_setIfInBounds]
    have e1 : (c.toList.set (off + k) v).take (off + (k + 1)) = c.toList.take (off + k) ++ [v] := by
      rw [show off + (k + 1) = off + k + 1 by omega, List.take_set, List.take_succ_eq_append_getElem (by simp; omega), List.set_append_right _ _ (by simp; omega)]
      simp [Nat.min_eq_left (show off + k ≤ c.size by omega)]
    have e2 : (c.toList.set (off + k) v).drop (off + (k + 1) + l.length) = c.toList.drop (off + k + (l.length + 1)) := by
      rw [List.drop_set, if_pos (by omega)]; congr 1; omega
    rw [e1, e2]; simp

/-- parts of a value, as the executor has them and as the model has them. -/
inductive PartsR (m : M) (place : Nat → Option (Nat × Nat)) : List (Nat × Nat × Value) → List (Nat × Value) → Prop
  | nil : PartsR m place [] []
  | cons (off size i : Nat) (v v' : Value) (l : List (Nat × Nat × Value)) (l' : List (Nat × Value)) (hp : place i = some (off, size)) (hv : VR m v v') (hl : PartsR m place l l') :
      PartsR m place ((off, size, v) :: l) ((i, v') :: l')

theorem fill_sound {place : Nat → Option (Nat × Nat)} {ps : List (Nat × Nat × Value)} {ps' : List (Nat × Value)} (hp : PartsR m place ps ps') :
    ∀ {cs r : List Value} {c : Array Value}, VRL m cs c.toList → fillL cs ps = some r → ∃ c', Instr.fill place c ps' = some c' ∧ VRL m r c'.toList := by
  induction hp with
  | nil => intro cs r c hc h; simp only [fillL] at h; cases h; exact ⟨c, rfl, hc⟩
  | cons off size i v v' l l' hp hv hl ih =>
    intro cs r c hc h
    simp only [fillL] at h
    cases hb : (Nat.beq v.cells.toList.length size && Nat.ble (off + size) cs.length) <;> rw [hb] at h
    · cases h
    · simp only [cond_true] at h
      simp only [Bool.and_eq_true] at hb
      have e1 := Nat.eq_of_beq_eq_true hb.1
      have e2 := Nat.le_of_ble_eq_true hb.2
      have e3 := hv.cells.length
      have e4 := hc.length
      simp only [Array.length_toList] at e1 e3 e4
      have hz : (v'.cells.zipIdx.foldl (fun cs x => cs.setIfInBounds (off + x.2) x.1) c).toList = splice c.toList off v'.cells.toList := by
        rw [← Array.foldl_toList, Array.toList_zipIdx, foldl_put off v'.cells.toList 0 c (by simp; omega), Nat.add_zero]
      obtain ⟨c', h1, h2⟩ := ih (by rw [hz]; exact hc.splice hv.cells off) h
      refine ⟨c', ?_, h2⟩
      simp only [Instr.fill, hp]
      rw [if_neg (by simp; omega)]
      exact h1

theorem partsS_sound {fs : Array Field} {place : Nat → Option (Nat × Nat)} (hpl : ∀ i f n, fs[i]? = some f → sizeT P f.type = some n → place i = some (f.offset, n)) {fr : Tr Value} {a : Act} (hf : FrR m fr a) :
    ∀ {ps : List (Nat × Operand)} {l : List (Nat × Nat × Ar)}, partsS P fs ps = some l → PartsR m place (evP fr l) (ps.map fun x => (x.1, a.eval x.2))
  | [], l, h => by simp only [partsS] at h; cases h; exact .nil
  | (i, x) :: ps, l, h => by
    simp only [partsS] at h
    split at h
    · rename_i f hfi
      split at h
      · rename_i n y ys h1 h2 h3
        cases h
        exact .cons _ _ _ _ _ _ _ (hpl i f n hfi h1) (arOf_sound hf h2) (partsS_sound hpl hf h3)
      · cases h
    · cases h

theorem partsA_sound {n : Nat} {fr : Tr Value} {a : Act} (hf : FrR m fr a) :
    ∀ {ps : List (Nat × Operand)} {l : List (Nat × Nat × Ar)}, partsA n ps = some l → PartsR m (fun i => some (i * n, n)) (evP fr l) (ps.map fun x => (x.1, a.eval x.2))
  | [], l, h => by simp only [partsA] at h; cases h; exact .nil
  | (i, x) :: ps, l, h => by
    simp only [partsA] at h
    split at h
    · rename_i y ys h1 h2
      cases h
      exact .cons _ _ _ _ _ _ _ rfl (arOf_sound hf h1) (partsA_sound hf h2)
    · cases h

theorem run_mapM_places : ∀ (l : List Field) (hl : ∀ f ∈ l, ∃ n, sizeT P f.type = some n), ∃ ns : List (Nat × Nat), (l.mapM (m := Sem) fun f => do pure (f.offset, ← sizeOf f.type)).run P w = .ok ns w ∧
    ∀ (i : Nat) (f : Field) (n : Nat), l[i]? = some f → sizeT P f.type = some n → ns[i]? = some (f.offset, n)
  | [], _ => ⟨[], by simp, by simp⟩
  | f :: l, hl => by
    obtain ⟨n, hn⟩ := hl f (by simp)
    obtain ⟨ns, h1, h2⟩ := run_mapM_places l fun f hf => hl f (by simp [hf])
    refine ⟨(f.offset, n) :: ns, by simp only [List.mapM_cons, Sem.run_bind, sizeT_run hn, Result.andThen_ok, Sem.run_pure, h1], fun i g k hg hk => ?_⟩
    cases i with
    | zero => simp at hg; subst hg; rw [hn] at hk; cases hk; simp
    | succ i => simpa using h2 i g k (by simpa using hg) hk

theorem g_buildS {t : TypeId} {fs : Array Field} {z : Value} {fr : Tr Value} {a : Act} {ps : Array (Nat × Operand)} {l : List (Nat × Nat × Ar)} {cs : List Value} (hR : Rel m H w) (hf : FrR m fr a)
    (hu : P.underlying t = some (.struct fs)) (hz : zeroT P t = some z) (hall : ∀ f ∈ fs, ∃ n, sizeT P f.type = some n) (hp : partsS P fs ps.toList = some l) (h : fillL z.cells.toList (evP fr l) = some cs) :
    Good P m H w ((Instr.build t (ps.map fun x => (x.1, a.eval x.2)) >>= fun v => pure (Next.value v)).run P w) (.val (.agg cs.toArray) H) := by
  obtain ⟨ns, h1, h2⟩ := run_mapM_places (P := P) (w := w) fs.toList (by simpa using hall)
  obtain ⟨c', h3, h4⟩ := fill_sound (partsS_sound (place := fun i => ns[i]?) (fun i f n hi hn => h2 i f n (by simpa using hi) hn) hf hp) (VR.of_clo m 4 _ (zeroT_spec hz).1).cells h
  have hm : (fs.mapM (m := Sem) fun f => do pure (f.offset, ← sizeOf f.type)).run P w = .ok ns.toArray w := by
    rw [← Array.toArray_toList (xs := fs), List.mapM_toArray, Sem.run_map, h1]; rfl
  refine .here hR (v' := .agg c') ?_ (.agg _ _ (by simpa using h4))
  simp only [Instr.build, Sem.run_bind, zeroT_run hz, run_underlying hu, Result.andThen_ok, hm]
  have h3' : Instr.fill (fun x => ns.toArray[x]?) z.cells (ps.map fun x => (x.1, a.eval x.2)).toList = some c' := by
    rw [Array.toList_map, ← h3]; congr 1; funext i; simp
  simp only [h3', Sem.run_pure, Result.andThen_ok]

theorem g_buildA {t e : TypeId} {len n : Nat} {z : Value} {fr : Tr Value} {a : Act} {ps : Array (Nat × Operand)} {l : List (Nat × Nat × Ar)} {cs : List Value} (hR : Rel m H w) (hf : FrR m fr a)
    (hu : P.underlying t = some (.array len e)) (hz : zeroT P t = some z) (hn : sizeT P e = some n) (hp : partsA n ps.toList = some l) (h : fillL z.cells.toList (evP fr l) = some cs) :
    Good P m H w ((Instr.build t (ps.map fun x => (x.1, a.eval x.2)) >>= fun v => pure (Next.value v)).run P w) (.val (.agg cs.toArray) H) := by
  obtain ⟨c', h3, h4⟩ := fill_sound (partsA_sound hf hp) (VR.of_clo m 4 _ (zeroT_spec hz).1).cells h
  refine .here hR (v' := .agg c') ?_ (.agg _ _ (by simpa using h4))
  simp only [Instr.build, Sem.run_bind, zeroT_run hz, run_underlying hu, Result.andThen_ok, sizeT_run hn]
  have h3' : Instr.fill (fun i => some (i * n, n)) z.cells (ps.map fun x => (x.1, a.eval x.2)).toList = some c' := by
    rw [Array.toList_map, ← h3]
  simp only [h3', Sem.run_pure, Result.andThen_ok]

/-! ## Rows of zeros -/
theorem repl_range (z : List Value) : ∀ k, (List.range (k * z.length)).map (fun i => z.toArray[i % z.length]!) = repl z k
  | 0 => by simp [repl]
  | k + 1 => by
    rw [show (k + 1) * z.length = z.length + k * z.length by rw [Nat.add_mul]; omega, List.range_add, List.map_append, List.map_map]
    have e1 : (List.range z.length).map (fun i => z.toArray[i % z.length]!) = z := by
      apply List.ext_getElem (by simp)
      intro i h1 h2
      simp only [List.getElem_map, List.getElem_range]
      rw [Nat.mod_eq_of_lt h2]
      simp [h2]
    have e2 : (List.range (k * z.length)).map ((fun i => z.toArray[i % z.length]!) ∘ fun x => z.length + x) = (List.range (k * z.length)).map (fun i => z.toArray[i % z.length]!) := by
      apply List.map_congr_left
      intro i _
      simp [Nat.add_mod_left]
    rw [e1, e2, repl_range z k, repl]

theorem repl_length (z : List Value) : ∀ k, (repl z k).length = k * z.length
  | 0 => by simp [repl]
  | k + 1 => by rw [repl, List.length_append, repl_length z k, Nat.add_mul]; omega

theorem repl_clo {z : List Value} {d : Nat} (h : z.all (clo d) = true) : ∀ k, (repl z k).all (clo d) = true
  | 0 => rfl
  | k + 1 => by simp only [repl, List.all_append, h, repl_clo h k, Bool.and_self]

theorem zeroT_cells {t : TypeId} {z : Value} (hz : zeroT P t = some z) : VRL m z.cells.toList z.cells.toList := (VR.of_clo m 4 _ (zeroT_spec hz).1).cells

theorem repl_rel {z : List Value} (h : VRL m z z) : ∀ k, VRL m (repl z k) (repl z k)
  | 0 => .nil
  | k + 1 => h.append (repl_rel h k)

theorem good_push_sl {r : Result Next} {cs : List Value} {cs' : Array Value} {t : TypeId} {l c : Nat} (hR : Rel m H w) (hF : Fresh m H (H.push (.cells cs 0 0))) (hv : VRL m cs cs'.toList)
    (hr : r = .ok (.value (.slice (some ⟨w.heap.size, 0, none⟩) l c)) (w.alloc (.cells cs' t))) : Good P m H w r (.val (sl H.nx 0 l c) (H.push (.cells cs 0 0))) := by
  obtain ⟨m', h1, h2, h3, h4⟩ := hR.push_cells (fresh_nx hF) cs cs' t hv 0 0 (by simp)
  exact .val _ _ m' _ _ (.inl hr) (by rw [← h4]; exact .sl _ _ _ _ h3) h1 h2

def zrow (z : Value) (k : Nat) : Array Value := if k = 0 then #[] else z.cells
theorem zeros_array {e : TypeId} {z : Value} (_hz : zeroT P e = some z) (k n : Nat) (hn : z.cells.toList.length = n) :
    ((Array.range (k * n)).map fun i => (zrow z (k * n))[i % (zrow z (k * n)).size]!).toList = repl z.cells.toList k := by
  unfold zrow
  by_cases h0 : k * n = 0
  · rw [h0]
    have := repl_length z.cells.toList k
    rw [hn, h0] at this
    simp [List.length_eq_zero_iff.1 this]
  · rw [if_neg h0, Array.toList_map, Array.toList_range, ← repl_range, hn]
    simp only [Array.length_toList] at hn
    simp [hn]

theorem g_buildSlice {t e : TypeId} {len n : Nat} {z : Value} {fr : Tr Value} {a : Act} {ps : Array (Nat × Operand)} {l : List (Nat × Nat × Ar)} {cs : List Value} (hR : Rel m H w) (hf : FrR m fr a)
    (hu : P.underlying t = some (.slice e)) (hz : zeroT P e = some z) (hn : sizeT P e = some n) (hle : len * n ≤ 16777216) (hp : partsA n ps.toList = some l) (h : fillL (repl z.cells.toList len) (evP fr l) = some cs)
    (hF : Fresh m H (H.push (.cells cs 0 0))) :
    Good P m H w ((Instr.buildSlice t len (ps.map fun x => (x.1, a.eval x.2)) >>= fun v => pure (Next.value v)).run P w) (.val (sl H.nx 0 len len) (H.push (.cells cs 0 0))) := by
  have hzn : z.cells.toList.length = n := by
    have := (zeroT_spec hz).2.1; rw [hn] at this; exact (Option.some.inj this).symm
  have h2 := zeros_array hz len n hzn
  obtain ⟨c', h3, h4⟩ := fill_sound (partsA_sound hf hp) (c := (Array.range (len * n)).map fun i => (zrow z (len * n))[i % (zrow z (len * n)).size]!) (by rw [h2]; exact repl_rel (zeroT_cells hz) len) h
  refine good_push_sl hR hF h4 (t := e) ?_
  have h3' : Instr.fill (fun i => some (i * n, n)) ((Array.range (len * n)).map fun i => (zrow z (len * n))[i % (zrow z (len * n)).size]!) (ps.map fun x => (x.1, a.eval x.2)).toList = some c' := by
    rw [Array.toList_map, ← h3]
  simp only [Instr.buildSlice, Sem.run_bind, run_underlying hu, Result.andThen_ok, sizeT_run hn]
  rw [if_neg (by omega)]
  unfold zrow at h3'
  by_cases h0 : len * n = 0
  · rw [if_pos h0] at h3'
    simp only [h0, if_true, Sem.run_bind, Sem.run_pure, Result.andThen_ok] at h3' ⊢
    simp only [h3', Sem.run_bind, newRow, run_newObj, Sem.run_pure, Result.andThen_ok]; rfl
  · rw [if_neg h0] at h3'
    simp only [h0, if_false, Sem.run_bind, zeroT_run hz, Sem.run_pure, Result.andThen_ok]
    simp only [h3', Sem.run_bind, newRow, run_newObj, Sem.run_pure, Result.andThen_ok]; rfl

end Go.AX
