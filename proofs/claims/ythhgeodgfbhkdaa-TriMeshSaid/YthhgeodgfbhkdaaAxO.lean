/- The abstract executor 'AX', soundness (14): bodies, rounds, loops over functions, code. -/
import Derived.Test.YthhgeodgfbhkdaaAxM
import Derived.RangeFuncLeaves
set_option linter.unusedVariables false
set_option linter.unusedSimpArgs false
set_option linter.unusedSectionVars false
namespace Go.AX
variable {P : Program} {X : XT} {m : M} {H : AH} {w : World}

/-! ## A call's frame -/
theorem get_puts : ∀ (l : List Value) (k i : Nat) (t : Tr Value), (t.puts k l).get (pa i) = if k ≤ i ∧ i < k + l.length then l[i - k]? else t.get (pa i)
  | [], k, i, t => by simp [Tr.puts]; omega
  | v :: l, k, i, t => by
    simp only [Tr.puts, List.length_cons]
    rw [get_puts l (k + 1) i, Tr.get_put]
    by_cases e : k = i
    · subst e
      rw [if_neg (by omega), if_pos rfl, if_pos (by omega), Nat.sub_self]; rfl
    · rw [if_neg fun h => e (pa_inj h)]
      by_cases h1 : k + 1 ≤ i ∧ i < k + 1 + l.length
      · rw [if_pos h1, if_pos (by omega), show i - k = (i - (k + 1)) + 1 by omega, List.getElem?_cons_succ]
      · rw [if_neg h1, if_neg (by omega)]

theorem enter_fr {args : List Value} {args' : Array Value} (h : VRL m args args'.toList) {nt : Nat} (hn : args.length ≤ nt) : FrI nt m (Tr.e.puts 0 args) { tmps := args' ++ Array.replicate (nt - args'.size) undef, defers := [] } := by
  have hl := h.length
  simp only [Array.length_toList] at hl
  refine ⟨fun t => ?_, by simp; omega⟩
  unfold tmp
  rw [get_puts]
  simp only [Nat.zero_le, true_and, Nat.zero_add, Nat.sub_zero, Array.getD_eq_getD_getElem?]
  by_cases e : t < args.length
  · rw [if_pos e, List.getElem?_eq_getElem e]
    obtain ⟨v', h1, h2⟩ := h.get t (List.getElem?_eq_getElem e)
    simp only [Array.getElem?_toList] at h1
    rw [Array.getElem?_append, if_pos (by omega), h1]
    exact h2
  · rw [if_neg e, Tr.get_empty]
    simp only
    rw [Array.getElem?_append, if_neg (by omega), Array.getElem?_replicate]
    split <;> exact VR.of_clo m 1 _ rfl

/-! ## A call's end -/
theorem Rel.lower (h : Rel m H w) {l : Nat} : Rel m ⟨H.bl, H.nx, l⟩ w := ⟨h.blk, h.dm, h.inj, h.lt⟩

theorem trim_sound {m' : M} {h : AH} {w' : World} {v v' : Value} (hR : Rel m H w) (hD : Dom m H) (hs : Step m m' ⟨H.bl, H.nx, H.nx⟩ h w w') (hr : Rel m' h w') (hd : Dom m' h) (hv : VR m' v v') :
    ∃ m2, Step m m2 H (trim H v h) w w' ∧ Rel m2 (trim H v h) w' ∧ Dom m2 (trim H v h) ∧ VR m2 v v' := by
  unfold trim
  cases hb : (Nat.ble H.nx h.lo && clo 5 v)
  · simp only [cond_false]
    refine ⟨m', ⟨hs.le, hs.dm, Nat.min_le_left _ _, hs.nx, hs.os, hs.tape, hs.output, hs.size, ?_, ?_⟩, hr.lower, hd, hv⟩
    · intro b hb' hj
      exact hs.blk b hb' fun j y hjy hy hlo => hj j y hjy hy (Nat.le_trans (Nat.min_le_right _ _) hlo)
    · intro i y hi hy
      rcases hs.org i y hi hy with h1 | ⟨j, z, h1, h2, h3, h4⟩
      · exact .inl h1
      · exact .inr ⟨j, z, h1, h2, h3, h4.imp id fun h => Nat.le_trans (Nat.min_le_right _ _) h⟩
  · simp only [cond_true]
    simp only [Bool.and_eq_true] at hb
    have hlo := Nat.le_of_ble_eq_true hb.1
    have hsame : ∀ b, b < w.heap.size → w'.heap[b]? = w.heap[b]? := fun b hb' => hs.blk b hb' fun j y hjy hy hj => by
      have := hR.lt j y hjy
      omega
    refine ⟨m, ⟨.refl m, fun _ h => .inl h, Nat.le_refl _, Nat.le_refl _, hs.os, hs.tape, hs.output, hs.size, fun b hb' _ => hsame b hb', fun i y hi hy => .inr ⟨i, y, hi, hy, rfl, .inl rfl⟩⟩, ⟨?_, hR.dm, hR.inj, hR.lt⟩, hD, ?_⟩
    · intro i b hi
      by_cases hb' : b = .dead
      · subst hb'; exact .dead _
      · rw [hsame _ (hR.bk_lt hi hb')]; exact hR.blk i b hi
    · have := VR.eq_of_clo 5 hb.2 hv
      rw [this]; exact VR.of_clo m 5 v hb.2

/-- the marks are taken. -/
theorem leave_sound {fn : Func} {tmps : Array Value} {R : Ending → World → Prop} {u : FrameMode} (hu : u ≠ .run) : ∀ (df : List Nat) (ds : List Deferred) (H h : AH) (w : World), DefR m df ds → leave df H = some h → Rel m H w →
    (∀ w', Step m m H h w w' → Rel m h w' → LeavesIn Fence.wide 0 P fn tmps R [] u w') → LeavesInM Fence.wide 0 P fn tmps R ds u w
  | [], ds, H, h, w, hdf, hl, hR, hk => by
    cases hdf
    simp only [leave] at hl
    cases hl
    exact hk w .refl hR
  | b :: df, ds, H, h, w, hdf, hl, hR, hk => by
    cases hdf with
    | cons _ _ ds' hdm hdf' =>
      simp only [leave] at hl
      split at hl
      · rename_i hb
        have hblk := hR.blk b _ hb
        generalize ho : w.heap[m.bk b]? = o at hblk
        cases hblk with
        | dfr =>
          have hset := hR.set (w' := w.putObj (m.bk b) (.deferred none)) hb (by simp) .dead (.dead _) (fun k hk => World.putObj_heap_other hk) (by simp) rfl rfl rfl
          refine ⟨hu, .inl ⟨m.bk b, w.putObj (m.bk b) (.deferred none), rfl, run_takeDeferred ho, ?_⟩⟩
          exact leave_sound hu df ds' _ h _ hdf' hl hset.1 fun w' hs hr => hk w' (hset.2.trans hs) hr
      · cases hl

theorem aRes_sound {fr : Tr Value} {a : Act} {r : ResultVar} {ar : ARes} {v : Value} (hf : FrR m fr a) (hR : Rel m H w) (hp : prepRes P r = some ar) (h : aRes H fr ar = some v) :
    ∃ v', (match r with | .tmp t => pure (a.tmps.getD t undef) | .cell b t => do loadVar t (← asAddr (a.tmps.getD b undef)) : Sem Value).run P w = .ok v' w ∧ VR m v v' := by
  cases r with
  | tmp t =>
    simp only [prepRes] at hp
    cases hp
    simp only [aRes] at h
    cases h
    exact ⟨_, rfl, hf t⟩
  | cell b t =>
    simp only [prepRes] at hp
    have L : ∀ v', (Instr.loadAt t (a.tmps.getD b undef)).run P w = .ok v' w → (∃ ad, a.tmps.getD b undef = .pointer (some ad)) → (do loadVar t (← asAddr (a.tmps.getD b undef)) : Sem Value).run P w = .ok v' w := by
      intro v' hl ⟨ad, had⟩
      rw [had] at hl ⊢
      simpa [Instr.loadAt, Instr.sureAddr, asAddr] using hl
    have K : ∀ v0, VR m v0 (a.tmps.getD b undef) → (∃ ad, v0 = .pointer (some ad)) → ∃ ad, a.tmps.getD b undef = .pointer (some ad) := by
      intro v0 hv ⟨ad, had⟩
      subst had
      generalize a.tmps.getD b undef = x at hv
      cases hv; exact ⟨_, rfl⟩
    split at hp
    · rename_i n h1 h2
      cases hp
      simp only [aRes] at h
      obtain ⟨v', k1, k2⟩ := aLoadA_sound hR h1 h2 (hf b) h
      refine ⟨v', L v' k1 (K _ (hf b) ?_), k2⟩
      unfold aLoadA at h
      split at h
      · rename_i e; exact ⟨_, e⟩
      · cases h
    · rename_i n h1 h2
      cases hp
      simp only [aRes] at h
      obtain ⟨v', k1, k2⟩ := aLoad1_sound hR h1 (hf b) h
      refine ⟨v', L v' k1 (K _ (hf b) ?_), k2⟩
      unfold aLoad1 at h
      split at h
      · rename_i e; exact ⟨_, e⟩
      · cases h
    · cases hp

theorem aRess_sound {fr : Tr Value} {a : Act} (hf : FrR m fr a) (hR : Rel m H w) : ∀ {rs : List ResultVar} {ars : List ARes} {vs : List Value}, prepRess P rs = some ars → aRess H fr ars = some vs →
    ∃ vs', (rs.mapM fun r => (match r with | .tmp t => pure (a.tmps.getD t undef) | .cell b t => do loadVar t (← asAddr (a.tmps.getD b undef)) : Sem Value)).run P w = .ok vs' w ∧ VRL m vs vs'
  | [], ars, vs, hp, h => by
    simp only [prepRess] at hp
    cases hp
    simp only [aRess] at h
    cases h
    exact ⟨[], by simp, .nil⟩
  | r :: rs, ars, vs, hp, h => by
    simp only [prepRess] at hp
    split at hp
    · rename_i x y h1 h2
      cases hp
      simp only [aRess] at h
      split at h
      · rename_i v vs0 h3 h4
        cases h
        obtain ⟨v', k1, k2⟩ := aRes_sound hf hR h1 h3
        obtain ⟨vs', k3, k4⟩ := aRess_sound hf hR h2 h4
        exact ⟨v' :: vs', by simp only [List.mapM_cons, Sem.run_bind, k1, Result.andThen_ok, k3, Sem.run_pure], .cons _ _ _ _ k2 k4⟩
      · cases h
    · cases hp

theorem results_sound {fn : Func} {fr : Tr Value} {a : Act} {ars : List ARes} {vs : List Value} (hf : FrR m fr a) (hR : Rel m H w) (hp : prepRess P fn.results.toList = some ars) (h : aRess H fr ars = some vs) :
    ∃ v', (results fn a.tmps).run P w = .ok v' w ∧ VR m (tupleOf vs) v' := by
  obtain ⟨vs', h1, h2⟩ := aRess_sound hf hR hp h
  have hm : (fn.results.mapM fun r => (match r with | .tmp t => pure (a.tmps.getD t undef) | .cell b t => do loadVar t (← asAddr (a.tmps.getD b undef)) : Sem Value)).run P w = .ok vs'.toArray w := by
    rw [← Array.toArray_toList (xs := fn.results), List.mapM_toArray, Sem.run_map]
    rw [h1]; rfl
  refine ⟨if h : vs'.toArray.size = 1 then vs'.toArray[0] else .tuple vs'.toArray, ?_, ?_⟩
  · have e : results fn a.tmps = ((fn.results.mapM fun r => (match r with | .tmp t => pure (a.tmps.getD t undef) | .cell b t => do loadVar t (← asAddr (a.tmps.getD b undef)) : Sem Value)) >>= fun vs => pure (if h : vs.size = 1 then vs[0] else .tuple vs)) := by
      unfold results
      congr 1
    rw [e, Sem.run_bind, hm]; rfl
  · have hl := h2.length
    cases h2 with
    | nil => exact .tuple _ _ .nil
    | cons v v' l l' hv hl' =>
      cases hl' with
      | nil => exact hv
      | cons v2 v2' l2 l2' hv2 hl2 =>
        simp only [tupleOf]
        rw [dif_neg (by simp)]
        exact .tuple _ _ (.cons _ _ _ _ hv (.cons _ _ _ _ hv2 hl2))

/-! ## Bodies -/
def CodeOk (P : Program) (X : XT) (T : FT) (n : Nat) : Prop :=
  ∀ (F : Fence) (env : List Lp) (r : Bool) (c : Code) (ac : ACode) (nt : Nat) (m : M) (w : World) (st st' : St) (e : AEx) (a : Act) (Q : Exit → Act → World → Prop), WF F → (r = false → F = Fence.wide) →
    prepCode P X nt c = some ac → EnvOk P X m env → aCode T n env r ac st = some (e, st') → FrI nt m st.fr a → DefR m st.df a.defers → Rel m st.h w → Dom m st.h →
    (∀ e' a' w', Done nt m st.h w e st' e' a' w' → Q e' a' w') → c.wpIn F 0 P Q a w ∧ ∀ d, c = .loop d → wpLoop F 0 P d Q a w

theorem prepF_spec {f : FuncId} {fn : AFn} (h : prepF P X f = some fn) : ∃ (g : Func) (c : Code), P.funcs[f]? = some g ∧ g.body = some c ∧ (g.name == "runtime.NumGoroutine") = false ∧ prepCode P X g.ntmps c = some fn.body ∧ prepRess P g.results.toList = some fn.results ∧ fn.nargs ≤ g.ntmps := by
  unfold prepF at h
  split at h
  · rename_i g hg
    unfold prepFn at h
    split at h
    · cases h
    · rename_i c hc
      split at h
      · rename_i body results h1 h2
        cases hb : (Nat.ble (g.params.size + g.nfree) g.ntmps && !(g.name == "runtime.NumGoroutine")) <;> rw [hb] at h
        · cases h
        · cases h
          simp only [Bool.and_eq_true, Bool.not_eq_true'] at hb
          exact ⟨g, c, hg, hc, hb.2, h1, h2, Nat.le_of_ble_eq_true hb.1⟩
      · cases h
  · cases h

theorem callFunc_body {f : FuncId} {fn : Func} {c : Code} (hf : P.funcs[f]? = some fn) (hname : (fn.name == "runtime.NumGoroutine") = false) (hb : fn.body = some c) (args : Array Value) (w : World) :
    (callFunc f args).run P w = .ok (.enter f args) w := by
  have h1 : fn.name ≠ "runtime.NumGoroutine" := by simpa using hname
  simp [callFunc, hf, h1, hb]

theorem body_sound {T : FT} (hT : ∀ f fn, T f = some fn → prepF P X f = some fn) {n : Nat} (hn : CodeOk P X T n) {env : List Lp} {f : FuncId} {args : List Value} {args' : Array Value} {r : AEnd} {H' : AH}
    (hE : EnvOk P X m env) (hR : Rel m H w) (hD : Dom m H) (hv : VRL m args args'.toList) (h : aBody T (aCode T n env false) f args H = some (r, H')) :
    (callFunc f args').run P w = .ok (.enter f args') w ∧ CallsIn Fence.wide 0 P f args' w (EndR m H w r H') := by
  unfold aBody at h
  split at h
  · cases h
  · rename_i fn hfn
    obtain ⟨g, c, h1, h2, h3, h4, h5, h6⟩ := prepF_spec (hT f fn hfn)
    cases hb : Nat.beq args.length fn.nargs <;> rw [hb] at h
    · cases h
    · simp only [cond_true] at h
      have hlen := Nat.eq_of_beq_eq_true hb
      refine ⟨callFunc_body h1 h3 h2 args' w, ?_⟩
      have hfr := enter_fr hv (nt := g.ntmps) (by omega)
      refine callsIn_of_wp_marks h1 h2 trivial ?_
      have G : ∀ (e : AEx) (st : St), aCode T n env false fn.body { fr := Tr.e.puts 0 args, df := [], h := ⟨H.bl, H.nx, H.nx⟩ } = some (e, st) →
          (∀ e' a' w', Done g.ntmps m ⟨H.bl, H.nx, H.nx⟩ w e st e' a' w' → bodyPostM Fence.wide 0 P g (EndR m H w r H') e' a' w') →
          c.wpIn Fence.wide 0 P (bodyPostM Fence.wide 0 P g (EndR m H w r H')) { tmps := args' ++ Array.replicate (g.ntmps - args'.size) undef, defers := [] } w := by
        intro e st hrun hQ
        exact (hn Fence.wide env false c fn.body g.ntmps m w _ st e _ _ (.inl rfl) (fun _ => rfl) h4 hE hrun hfr .nil hR.lower hD hQ).1
      have E : ∀ (st : St) (a' : Act) (w' : World) (e' : Exit), aEnd H fn st = some (r, H') → (∃ m', FrI g.ntmps m' st.fr a' ∧ DefR m' st.df a'.defers ∧ Step m m' ⟨H.bl, H.nx, H.nx⟩ st.h w w' ∧ Rel m' st.h w' ∧ Dom m' st.h) →
          LeavesInM Fence.wide 0 P g a'.tmps (EndR m H w r H') a'.defers .returning w' := by
        intro st a' w' e' hend ⟨m', k1, k2, k3, k4, k5⟩
        unfold aEnd at hend
        split at hend
        · cases hend
        · rename_i hh hl
          split at hend
          · rename_i vs hvs
            cases hend
            refine leave_sound (by simp) st.df a'.defers st.h hh w' k2 hl k4 fun w'' hs hr => ?_
            obtain ⟨v', q1, q2⟩ := results_sound k1.rel hr h5 hvs
            refine ⟨v', q1, ?_⟩
            obtain ⟨m2, p1, p2, p3, p4⟩ := trim_sound hR hD (k3.trans hs) hr (k5.step hs) q2
            exact ⟨m2, p1, p2, p3, v', rfl, p4⟩
          · cases hend
      split at h
      · rename_i st hrun
        refine G _ st hrun fun e' a' w' hd => ?_
        obtain ⟨m', k0, k1, k⟩ := hd
        cases e' <;> first | exact k0.elim | exact E st a' w' .ret h ⟨m', k1 (by simp), k⟩
      · rename_i st hrun
        refine G _ st hrun fun e' a' w' hd => ?_
        obtain ⟨m', k0, k1, k⟩ := hd
        cases e' <;> first | exact k0.elim | exact E st a' w' .ret h ⟨m', k1 (by simp), k⟩
      · rename_i ch st hrun
        refine G _ st hrun fun e' a' w' hd => ?_
        obtain ⟨m', k0, k1, k2, k3, k4, k5⟩ := hd
        cases e' with
        | panic ch' =>
          have : ch = ch' := k0
          subst this
          split at h
          · rename_i hh hl
            cases h
            refine leave_sound (by simp) st.df a'.defers st.h hh w' k2 hl k4 fun w'' hs hr => ?_
            have hst := k3.trans hs
            refine ⟨m', ⟨hst.le, hst.dm, Nat.min_le_left _ _, hst.nx, hst.os, hst.tape, hst.output, hst.size, ?_, ?_⟩, hr.lower, (k5.step hs : Dom m' hh), rfl⟩
            · intro b hb' hj
              exact hst.blk b hb' fun j y hjy hy hlo => hj j y hjy hy (Nat.le_trans (Nat.min_le_right _ _) hlo)
            · intro i y hi hy
              rcases hst.org i y hi hy with h1 | ⟨j, z, h1, h2, h3, h4⟩
              · exact .inl h1
              · exact .inr ⟨j, z, h1, h2, h3, h4.imp id fun h => Nat.le_trans (Nat.min_le_right _ _) h⟩
          · cases h
        | _ => exact k0.elim
      · cases h

/-! ## Rounds -/
theorem findLp_spec {l : Nat} : ∀ {env : List Lp} {x : Lp} {env' : List Lp}, findLp l env = some (x, env') → x ∈ env ∧ x.id = l ∧ ∀ y ∈ env', y ∈ env
  | [], x, env', h => by simp only [findLp] at h; cases h
  | y :: env, x, env', h => by
    simp only [findLp] at h
    cases hb : Nat.beq y.id l <;> rw [hb] at h
    · obtain ⟨h1, h2, h3⟩ := findLp_spec h
      exact ⟨List.mem_cons_of_mem _ h1, h2, fun z hz => List.mem_cons_of_mem _ (h3 z hz)⟩
    · cases h
      exact ⟨List.mem_cons_self .., Nat.eq_of_beq_eq_true hb, fun z hz => List.mem_cons_of_mem _ hz⟩

theorem putMany_list : ∀ {ps : List Tmp} {args args' : List Value} {fr fr' : Tr Value} {tmps : Array Value}, putMany fr (pasOf ps) args = some fr' → VRL m args args' → FrR m fr { tmps, defers := [] } → (∀ t ∈ ps, t < tmps.size) →
    args'.length = ps.length ∧ FrR m fr' { tmps := (ps.zip args').foldl (fun tmps x => tmps.setIfInBounds x.1 x.2) tmps, defers := [] } ∧ ((ps.zip args').foldl (fun tmps x => tmps.setIfInBounds x.1 x.2) tmps).size = tmps.size
  | [], args, args', fr, fr', tmps, h, hv, hf, _ => by
    cases args with
    | nil => cases hv; simp only [pasOf, putMany] at h; cases h; exact ⟨rfl, hf, rfl⟩
    | cons v l => simp only [pasOf, putMany] at h; cases h
  | t :: ps, args, args', fr, fr', tmps, h, hv, hf, hlt => by
    cases args with
    | nil => simp only [pasOf, putMany] at h; cases h
    | cons v l =>
      simp only [pasOf, putMany] at h
      cases hv with
      | cons _ v' _ l' hv1 hv2 =>
        have h1 : FrR m (fr.put (pa t) v) { tmps := tmps.setIfInBounds t v', defers := [] } := hf.put1 hv1 (hlt t (List.mem_cons_self ..))
        obtain ⟨k1, k2, k3⟩ := putMany_list h hv2 h1 (fun u hu => by rw [Array.size_setIfInBounds]; exact hlt u (List.mem_cons_of_mem _ hu))
        exact ⟨by simp [k1], by simpa using k2, by simpa using k3⟩

theorem zip_fold (ps : Array Tmp) (args tmps : Array Value) : (ps.zip args).foldl (fun tmps x => tmps.setIfInBounds x.1 x.2) tmps = (ps.toList.zip args.toList).foldl (fun tmps x => tmps.setIfInBounds x.1 x.2) tmps := by
  rw [← Array.foldl_toList, Array.toList_zip]

theorem Rel.loop (h : Rel m H w) {i : Nat} {s : LoopState} {p : Option AEx} (hi : H.get i = some (.loop s p)) : w.heap[m.bk i]? = some (.loop { m.lp i with state := s, pending := p.bind endCode }) := by
  have := h.blk i _ hi
  generalize w.heap[m.bk i]? = o at this
  cases this with | loop _ _ c hc => rw [hc]

/-- a loop's record is laid anew. -/
theorem Rel.setLoop (h : Rel m H w) {i : Nat} {s : LoopState} {p : Option AEx} (hi : H.get i = some (.loop s p)) (s' : LoopState) (p' : Option AEx) :
    Rel m (H.set i (.loop s' p')) (w.putObj (m.bk i) (.loop { m.lp i with state := s', pending := p'.bind endCode })) ∧ Step m m H (H.set i (.loop s' p')) w (w.putObj (m.bk i) (.loop { m.lp i with state := s', pending := p'.bind endCode })) := by
  have hlt := h.bk_lt hi (by simp)
  refine h.set (w' := w.putObj (m.bk i) (.loop { m.lp i with state := s', pending := p'.bind endCode })) hi (by simp) _ ?_ (fun k hk => World.putObj_heap_other hk) (by simp) rfl rfl rfl
  rw [World.putObj_heap_same hlt]
  exact .loop _ _ _ rfl

theorem round_sound {T : FT} {n : Nat} (hn : CodeOk P X T n) {env : List Lp} (hE : EnvOk P X m env) : RfOk P m (aRound (aCode T n) env) := by
  intro m1 w H l args args' r H' hle hR hD hv hdl h
  unfold aRound at h
  split at h
  · rename_i x env' s0 p0 hfind hget
    obtain ⟨hx, rfl, hsub⟩ := findLp_spec hfind
    have hE1 : EnvOk P X m1 env' := fun y hy => ((hE.mono hle) y (hsub y hy))
    obtain ⟨hxd, nt, q1, q2, q3, q4, q5, q6⟩ := (hE.mono hle) x hx
    split at h
    · cases h
    · rename_i fr hput
      rw [← q3] at hput
      obtain ⟨k1, k2, k3⟩ := putMany_list hput hv q2 (by rw [q1]; exact q4)
      rw [← zip_fold] at k2 k3
      have hrec := hR.loop hget
      refine ⟨_, _, _, _, run_yield hrec (by simpa using k1), ?_⟩
      refine roundIn_of_wpIn trivial ?_
      have hF : WF (Fence.wide.inRound (m1.bk x.id)) := .inr ⟨_, rfl⟩
      cases hy : aCode T n env' true x.assign { fr := fr, df := [], h := H } with
      | none => rw [hy] at h; cases h
      | some y =>
        obtain ⟨e1, st1⟩ := y
        rw [hy] at h
        refine (hn _ env' true _ x.assign nt m1 w _ st1 e1 _ _ hF (fun h => by cases h) q5 hE1 hy ⟨k2, by rw [k3]; exact q1⟩ .nil hR hD ?_).1
        intro e' a1 w1 hd1
        obtain ⟨m2, p0, p1, p2, p3, p4, p5⟩ := hd1
        cases e1 with
        | normal =>
          cases e' <;> first | exact p0.elim | skip
          simp only [rBody] at h
          split at h
          · rename_i hg1
            have hb2 : m2.bk x.id = m1.bk x.id := p3.le.bk _ hxd
            have hrec1 := p4.loop hg1
            rw [hb2] at hrec1
            refine ⟨_, run_beginRound hrec1 rfl, ?_⟩
            obtain ⟨hr2, hs2⟩ := p4.setLoop hg1 .busy none
            rw [hb2] at hr2 hs2
            cases hy2 : aCode T n env' true x.body { st1 with h := st1.h.set x.id (.loop .busy none) } with
            | none => rw [hy2] at h; cases h
            | some y2 =>
              obtain ⟨e2, st2⟩ := y2
              rw [hy2] at h
              refine (hn _ env' true _ x.body nt m2 _ _ st2 e2 _ _ hF (fun h => by cases h) q6 (hE1.mono p3.le) hy2 (p1 (by simp)) p2 hr2 (p5.step hs2) ?_).1
              intro e'' a2 w2 hd2
              obtain ⟨m3, z0, z1, z2, z3, z4, z5⟩ := hd2
              simp only [rEnd] at h
              split at h
              · rename_i pz hdf hg2
                have hb3 : m3.bk x.id = m1.bk x.id := (z3.le.bk _ (p3.le.dm _ hxd)).trans hb2
                have hrec2 := z4.loop hg2
                rw [hb3] at hrec2
                have hall := (p3.trans hs2).trans z3
                have FIN : ∀ (s' : LoopState) (p' : Option AEx) (b : Bool), (r, H') = (.ret (.bool b), st2.h.set x.id (.loop s' p')) → ∀ w4, w4 = w2.putObj (m1.bk x.id) (.loop { m3.lp x.id with state := s', pending := p'.bind endCode }) →
                    EndR m1 H w r H' (.returned (.bool b)) w4 := by
                  intro s' p' b he w4 hw4
                  cases he
                  subst hw4
                  obtain ⟨hr4, hs4⟩ := z4.setLoop hg2 s' p'
                  rw [hb3] at hr4 hs4
                  exact ⟨m3, hall.trans hs4, hr4, z5.step hs4, _, rfl, .bool _⟩
                split at h
                · cases e'' <;> first | exact z0.elim | skip
                  refine ⟨_, _, run_endRound none hrec2, ?_⟩
                  exact FIN .ready none true (Option.some.inj h).symm _ rfl
                · cases e'' <;> first | exact z0.elim | skip
                  refine ⟨_, _, run_endRound (some .ret) hrec2, ?_⟩
                  exact FIN .done (some .ret) false (Option.some.inj h).symm _ rfl
                · rename_i id
                  cases e'' with
                  | exit id' =>
                    have : id = id' := z0
                    subst this
                    refine ⟨_, _, run_endRound (some (.exit id)) hrec2, ?_⟩
                    exact FIN .done (some (.exit id)) false (Option.some.inj h).symm _ rfl
                  | _ => exact z0.elim
                · cases h
              · cases h
          · cases h
        | exit i => simp only [rBody] at h; cases h
        | ret => simp only [rBody] at h; cases h
        | panic ch => simp only [rBody] at h; cases h
  · cases h

end Go.AX
