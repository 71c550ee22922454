/- The abstract executor 'AX', soundness (15): loops over functions; code; calls. -/
import Derived.Test.YthhgeodgfbhkdaaAxO
set_option linter.unusedVariables false
set_option linter.unusedSimpArgs false
set_option linter.unusedSectionVars false
namespace Go.AX
variable {P : Program} {X : XT} {m : M} {H : AH} {w : World}

theorem pasOf_length : ∀ l : List Tmp, (pasOf l).length = l.length
  | [] => rfl
  | _ :: l => by simp [pasOf, pasOf_length l]

theorem Dom.push (h : Dom m H) (x : AB) (b s : Nat) (l : Loop) : Dom (m.add H.nx b s l) (H.push x) := by
  intro i hi
  rw [AH.nx_push]
  rcases hi with hi | hi
  · have := h i hi; omega
  · omega

theorem range_sound {T : FT} (hT : ∀ f fn, T f = some fn → prepF P X f = some fn) {n : Nat} (hn : CodeOk P X T n) {env : List Lp} {g : Operand} {ps : Array Tmp} {c1 c2 : Code} {f : Ar} {a1 a2 : ACode} {nt : Nat} {st st' : St} {e : AEx} {a : Act}
    {Q : Exit → Act → World → Prop} (hE : EnvOk P X m env) (hf : arOf g = some f) (h1 : prepCode P X nt c1 = some a1) (h2 : prepCode P X nt c2 = some a2) (hps : ∀ t ∈ ps.toList, t < nt)
    (h : cRange T (aCode T n) env false (ev st.fr f) (pasOf ps.toList) a1 a2 st = some (e, st')) (hA : FrI nt m st.fr a) (hDf : DefR m st.df a.defers) (hR : Rel m st.h w) (hD : Dom m st.h)
    (hQ : ∀ e' a' w', Done nt m st.h w e st' e' a' w' → Q e' a' w') : (Code.rangeFunc g ps c1 c2).wpIn Fence.wide 0 P Q a w := by
  have hg := arOf_sound hA.rel hf
  unfold cRange at h
  split at h
  · rename_i gf first cap hev _
    rw [hev] at hg
    refine wpIn_rangeFunc fun fn _ => ?_
    -- the two blocks
    have hfr1 : ¬ m.dm st.h.nx := fun hd => by have := hD _ hd; omega
    obtain ⟨r1, s1⟩ := hR.push hfr1 .dfr (.deferred (some [])) 0 default .dfr
    have hD1 := hD.push .dfr w.heap.size 0 default
    let lp : Loop := { state := .ready, pending := none, fn, tmps := a.tmps, params := ps, assign := c1, body := c2, defers := w.heap.size }
    have hfr2 : ¬ (m.add st.h.nx w.heap.size 0 default).dm (st.h.push .dfr).nx := fun hd => by have := hD1 _ hd; omega
    obtain ⟨r2, s2⟩ := r1.push hfr2 (.loop .ready none) (.loop lp) 0 lp (by
      have := BR.loop (m := (m.add st.h.nx w.heap.size 0 default).add (st.h.push .dfr).nx (w.alloc (.deferred (some []))).heap.size 0 lp) (id := (st.h.push .dfr).nx) .ready none none rfl
      rwa [M.add_lp] at this)
    have hD2 := hD1.push (.loop .ready none) (w.alloc (.deferred (some []))).heap.size 0 lp
    generalize hm2 : (m.add st.h.nx w.heap.size 0 default).add (st.h.push .dfr).nx (w.alloc (.deferred (some []))).heap.size 0 lp = m2 at r2 s2 hD2
    have s12 := s1.trans s2
    have hle := s12.le
    have hnx1 : (st.h.push .dfr).nx = st.h.nx + 1 := rfl
    have e1 : m2.bk (st.h.nx + 1) = w.heap.size + 1 := by rw [← hm2, ← hnx1, M.add_bk, size_alloc]
    have e2 : m2.lp (st.h.nx + 1) = lp := by rw [← hm2, ← hnx1, M.add_lp]
    have e3 : m2.dm (st.h.nx + 1) := by rw [← hm2, ← hnx1]; exact M.add_dm _ _ _ _ _
    have e4 : m2.bk st.h.nx = w.heap.size := by
      have := s2.le.bk st.h.nx (M.add_dm _ _ _ _ _)
      rw [this, M.add_bk]
    have e5 : m2.dm st.h.nx := s2.le.dm _ (M.add_dm _ _ _ _ _)
    have hlp : LpOk P X m2 ⟨st.h.nx + 1, st.fr, pasOf ps.toList, a1, a2⟩ := by
      refine ⟨e3, nt, ?_⟩
      simp only [e2]
      exact ⟨hA.size, (hA.mono hle).rel, rfl, hps, h1, h2⟩
    have hE2 : EnvOk P X m2 (⟨st.h.nx + 1, st.fr, pasOf ps.toList, a1, a2⟩ :: env) := by
      intro y hy
      rcases List.mem_cons.1 hy with rfl | hy
      · exact hlp
      · exact (hE y hy).mono hle
    generalize hgv : a.eval g = gv at hg
    cases hg with
    | func _ _ _ first' cap' hfy hx1 hx2 =>
      have hyv : VR m2 (.func (.yield (st.h.nx + 1)) #[] #[]) (.func (.yield (w.heap.size + 1)) #[] #[]) := by
        have := VR.yield (m := m2) (st.h.nx + 1) e3
        rwa [e1] at this
      have hargs : VRL m2 (first.toList ++ (Value.func (.yield (st.h.nx + 1)) #[] #[] :: cap.toList)) ((first' ++ #[Value.func (.yield (w.heap.size + 1)) #[] #[]]) ++ cap').toList := by
        rw [Array.toList_append, Array.toList_append, List.append_assoc]
        exact (hx1.mono hle).append (.cons _ _ _ _ hyv (hx2.mono hle))
      cases hb : aBody T (aCode T n ((⟨st.h.nx + 1, st.fr, pasOf ps.toList, a1, a2⟩ : Lp) :: env) false) gf (first.toList ++ (Value.func (.yield (st.h.nx + 1)) #[] #[] :: cap.toList)) ((st.h.push .dfr).push (.loop .ready none)) with
      | none => rw [hb] at h; cases h
      | some res =>
        obtain ⟨r, H1⟩ := res
        rw [hb] at h
        obtain ⟨b1, b2⟩ := body_sound hT hn hE2 r2 hD2 hargs hb
        refine ⟨w.heap.size + 1, [{ target := .collected w.heap.size, args := #[] }], (w.alloc (.deferred (some []))).alloc (.loop lp), { target := .fn (.func gf) cap', args := first' ++ #[Value.func (.yield (w.heap.size + 1)) #[] #[]] },
          (w.alloc (.deferred (some []))).alloc (.loop lp), gf, (first' ++ #[Value.func (.yield (w.heap.size + 1)) #[] #[]]) ++ cap', (w.alloc (.deferred (some []))).alloc (.loop lp),
          run_enterLoop_outer fn a.tmps ps c1 c2, ?_, fun _ _ => trivial, b1, WF.depth (.inl rfl), b2.mono ?_⟩
        · rw [run_resolve_value rfl, hgv]
          simp [Deferred.ofValue, Act.eval]
        · intro en w3 hend
          obtain ⟨m3, z1, z2, z3, z4⟩ := hend
          have hall := s12.trans z1
          have hdf : DefR m3 (st.h.nx :: st.df) ({ target := .collected w.heap.size, args := #[] } :: a.defers) := by
            have := DefR.cons (m := m3) st.h.nx st.df a.defers (z1.le.dm _ e5) (hDf.mono hall.le)
            rwa [z1.le.bk _ e5, e4] at this
          have hA3 : FrI nt m3 st.fr { a with defers := { target := .collected w.heap.size, args := #[] } :: a.defers } := ⟨(hA.mono hall.le).rel, hA.size⟩
          cases r with
          | ret v =>
            obtain ⟨v', rfl, hv'⟩ := z4
            have hbl : m3.bk (st.h.nx + 1) = w.heap.size + 1 := (z1.le.bk _ e3).trans e1
            simp only [cAfter] at h
            have FIN : ∀ (s' : LoopState) (p' : Option AEx), H1.get (st.h.nx + 1) = some (.loop s' p') → s' ≠ .busy → ∃ w4, (Instr.endLoop (w.heap.size + 1)).run P w3 = .ok (p'.bind endCode) w4 ∧
                Step m m3 st.h (H1.set (st.h.nx + 1) (.loop .exhausted p')) w w4 ∧ Rel m3 (H1.set (st.h.nx + 1) (.loop .exhausted p')) w4 ∧ Dom m3 (H1.set (st.h.nx + 1) (.loop .exhausted p')) := by
              intro s' p' hget hsb
              have hrec := z2.loop hget
              rw [hbl] at hrec
              obtain ⟨hr4, hs4⟩ := z2.setLoop hget .exhausted p'
              rw [hbl] at hr4 hs4
              exact ⟨_, run_endLoop hrec hsb, hall.trans hs4, hr4, z3.step hs4⟩
            split at h
            · rename_i hget
              cases h
              obtain ⟨w4, k1, k2, k3, k4⟩ := FIN .ready none hget (by simp)
              exact ⟨_, _, k1, hQ _ _ _ ⟨m3, trivial, fun _ => hA3, hdf, k2, k3, k4⟩⟩
            · rename_i hget
              cases h
              obtain ⟨w4, k1, k2, k3, k4⟩ := FIN .done (some .ret) hget (by simp)
              exact ⟨_, _, k1, wpIn_ret (hQ _ _ _ ⟨m3, trivial, fun _ => hA3, hdf, k2, k3, k4⟩)⟩
            · rename_i id hget
              cases h
              obtain ⟨w4, k1, k2, k3, k4⟩ := FIN .done (some (.exit id)) hget (by simp)
              exact ⟨_, _, k1, wpIn_exit (hQ _ _ _ ⟨m3, rfl, fun _ => hA3, hdf, k2, k3, k4⟩)⟩
            · cases h
          | panic ch =>
            have : en = .panicked ch := z4
            subst this
            simp only [cAfter] at h
            cases h
            exact hQ _ _ _ ⟨m3, rfl, fun _ => hA3, hdf, hall, z2, z3⟩
  · cases h

theorem wpIn_scope {F : Fence} {n : Nat} {c : Code} {Q : Exit → Act → World → Prop} {a : Act} (h : c.wpIn F n P (fun e a w => (∀ l, e ≠ .goto l) ∧ Q e a w) a w) : (Code.scope c).wpIn F n P Q a w := by
  intro b k cs hro hb hr
  have h0 : (lone (b.atR a (.code (.scope c) :: k)) cs w).fenced P F := fenced_calm hb hr rfl
  have h1 : step P (lone (b.atR a (.code (.scope c) :: k)) cs w) = .next (lone (b.atR a (.code c :: .inScope c :: k)) cs w) := step_lone_go (by simp [stepG, stepG.exec, Frame.atR])
  have h2 : ∀ a w, step P (lone (b.atR a (.inScope c :: k)) cs w) = .next (lone (b.atR a k) cs w) := fun a w => step_lone_go (by simp [stepG, stepG.exec, Frame.atR])
  obtain ⟨e, a₁, w₁, ⟨hg, hq⟩, harr⟩ := h b (.inScope c :: k) cs hro hb hr
  cases e with
  | normal => exact ⟨.normal, a₁, w₁, hq, .head h0 h1 (StepsIn.trans harr (.one (fenced_calm hb hr rfl) (h2 a₁ w₁)))⟩
  | exit id =>
    have hx : exitTo id (.inScope c :: k) = exitTo id k := by simp [exitTo]
    exact ⟨.exit id, a₁, w₁, hq, fun k' hk => .head h0 h1 (harr.1 k' (by rw [hx]; exact hk)),
      fun hr' hk => let ⟨k₁, h3, h4⟩ := harr.2 hr' (by rw [hx]; exact hk); ⟨k₁, h3, .head h0 h1 h4⟩⟩
  | goto l => exact absurd rfl (hg l)
  | ret => exact ⟨_, a₁, w₁, hq, .of_steps (.one h0 h1) harr⟩
  | panic ch => exact ⟨_, a₁, w₁, hq, .of_steps (.one h0 h1) harr⟩
  | outgrown => exact ⟨_, a₁, w₁, hq, .of_steps (.one h0 h1) harr⟩

theorem code_sound {T : FT} (hX : XOk P X) (hT : ∀ f fn, T f = some fn → prepF P X f = some fn) (hDr : DrawOk P X) : ∀ n, CodeOk P X T n := by
  intro n
  induction n with
  | zero => intro F env r c ac nt m w st st' e a Q hF hFr hp hE h; cases h
  | succ n ih =>
    intro F env r c ac nt m w st st' e a Q hF hFr hp hE h hA hDf hR hD hQ
    change cStep T (aCode T n) env r ac st = some (e, st') at h
    have hcf : CfOk P m (aBody T (aCode T n env false)) := fun m1 w H f args args' r H' hle hR hD hv hb => body_sound hT ih (hE.mono hle) hR hD hv hb
    have hrf : RfOk P m (aRound (aCode T n) env) := round_sound ih hE
    cases c with
    | skip =>
      simp only [prepCode] at hp
      cases hp
      cases h
      exact ⟨wpIn_skip (hQ _ _ _ ⟨m, trivial, fun _ => hA, hDf, .refl, hR, hD⟩), fun d he => by cases he⟩
    | label l =>
      simp only [prepCode] at hp
      cases hp
      cases h
      exact ⟨wpIn_label (hQ _ _ _ ⟨m, trivial, fun _ => hA, hDf, .refl, hR, hD⟩), fun d he => by cases he⟩
    | region id ops draws =>
      cases draws with
      | false =>
        simp only [prepCode] at hp
        cases hpo : prepOps P X nt ops (fun _ => 0) 0 ops.toList with
        | none => rw [hpo] at hp; cases hp
        | some al =>
          rw [hpo] at hp
          cases hp
          refine ⟨wpIn_region ?_, fun d he => by cases he⟩
          have := ops_sound hF hX (Q := Q) ops.toList al 0 m w st a rfl hpo h hA hDf hR hD hcf hrf hQ
          rwa [Array.length_toList, ← List.range_eq_range'] at this
      | true =>
        simp only [prepCode] at hp
        cases hb : (ordOk ops (fun j => (Region.before ops).getD j 0) && edgeOk ops (fun j => (Region.before ops).getD j 0)) <;> rw [hb] at hp
        · cases hp
        · simp only [cond_true] at hp
          cases hpo : prepOps P X nt ops (fun j => (Region.before ops).getD j 0) 0 ops.toList with
          | none => rw [hpo] at hp; cases hp
          | some al =>
            rw [hpo] at hp
            cases hp
            exact ⟨hDr F hF nt id ops al m w st st' e a _ _ Q hb hpo h hA hDf hR hD hcf hrf hQ, fun d he => by cases he⟩
    | seq x y =>
      simp only [prepCode] at hp
      split at hp
      · rename_i ax ay h1 h2
        cases hp
        refine ⟨wpIn_seq ?_, fun d he => by cases he⟩
        simp only [cStep] at h
        cases hx : aCode T n env r ax st with
        | none => rw [hx] at h; cases h
        | some res =>
          obtain ⟨e1, st1⟩ := res
          rw [hx] at h
          refine (ih F env r x ax nt m w st st1 e1 a _ hF hFr h1 hE hx hA hDf hR hD ?_).1
          intro e' a' w' hd
          obtain ⟨m', k0, k1, k2, k3, k4, k5⟩ := hd
          cases e1 with
          | normal =>
            cases e' <;> first | exact k0.elim | skip
            simp only [cSeq] at h
            exact (ih F env r y ay nt m' w' st1 st' e a' Q hF hFr h2 (hE.mono k3.le) h (k1 (by simp)) k2 k4 k5 fun e' a' w'' hd => hQ _ _ _ (hd.after k3)).1
          | exit i => cases h; cases e' <;> first | exact k0.elim | exact hQ _ _ _ ⟨m', k0, k1, k2, k3, k4, k5⟩
          | ret => cases h; cases e' <;> first | exact k0.elim | exact hQ _ _ _ ⟨m', k0, k1, k2, k3, k4, k5⟩
          | panic ch => cases h; cases e' <;> first | exact k0.elim | exact hQ _ _ _ ⟨m', k0, k1, k2, k3, k4, k5⟩
      · cases hp
    | cond g x y =>
      simp only [prepCode] at hp
      split at hp
      · rename_i ag ax ay h1 h2 h3
        cases hp
        refine ⟨?_, fun d he => by cases he⟩
        have hg := arOf_sound hA.rel h1
        simp only [cStep, cCond] at h
        split at h
        · rename_i hb
          rw [hb] at hg
          exact wpIn_cond_true hg.inv_bool (ih F env r x ax nt m w st st' e a Q hF hFr h2 hE h hA hDf hR hD hQ).1
        · rename_i hb
          rw [hb] at hg
          exact wpIn_cond_false hg.inv_bool (ih F env r y ay nt m w st st' e a Q hF hFr h3 hE h hA hDf hR hD hQ).1
        · cases h
      · cases hp
    | block id x =>
      simp only [prepCode] at hp
      cases hx0 : prepCode P X nt x with
      | none => rw [hx0] at hp; cases hp
      | some ax =>
        rw [hx0] at hp
        cases hp
        refine ⟨wpIn_block ?_, fun d he => by cases he⟩
        simp only [cStep] at h
        cases hx : aCode T n env r ax st with
        | none => rw [hx] at h; cases h
        | some res =>
          obtain ⟨e1, st1⟩ := res
          rw [hx] at h
          refine (ih F env r x ax nt m w st st1 e1 a _ hF hFr hx0 hE hx hA hDf hR hD ?_).1
          intro e' a' w' hd
          obtain ⟨m', k0, k⟩ := hd
          cases e1 with
          | normal => cases h; cases e' <;> first | exact k0.elim | exact hQ _ _ _ ⟨m', k0, k⟩
          | exit i =>
            cases e' with
            | exit j =>
              have : i = j := k0
              subst this
              simp only [cBlock] at h
              cases hb : Nat.beq i id <;> rw [hb] at h
              · cases h
                have hne : i ≠ id := fun e => by subst e; simp at hb
                simp only [Exit.inBlock, hne, if_false]
                exact hQ _ _ _ ⟨m', rfl, k⟩
              · cases h
                simp only [Exit.inBlock, Nat.eq_of_beq_eq_true hb, if_true]
                exact hQ _ _ _ ⟨m', trivial, fun _ => k.1 (by simp), k.2⟩
            | _ => exact k0.elim
          | ret => cases h; cases e' <;> first | exact k0.elim | exact hQ _ _ _ ⟨m', k0, k⟩
          | panic ch => cases h; cases e' <;> first | exact k0.elim | exact hQ _ _ _ ⟨m', k0, k⟩
    | loop x =>
      simp only [prepCode] at hp
      cases hx0 : prepCode P X nt x with
      | none => rw [hx0] at hp; cases hp
      | some ax =>
        rw [hx0] at hp
        have hp' : prepCode P X nt (.loop x) = some (.loop ax) := by simp only [prepCode, hx0]; rfl
        cases hp
        have key : wpLoop F 0 P x Q a w := by
          refine wpLoop_of ?_
          simp only [cStep] at h
          cases hx : aCode T n env r ax st with
          | none => rw [hx] at h; cases h
          | some res =>
            obtain ⟨e1, st1⟩ := res
            rw [hx] at h
            refine (ih F env r x ax nt m w st st1 e1 a _ hF hFr hx0 hE hx hA hDf hR hD ?_).1
            intro e' a' w' hd
            obtain ⟨m', k0, k1, k2, k3, k4, k5⟩ := hd
            cases e1 with
            | normal =>
              cases e' <;> first | exact k0.elim | skip
              simp only [cSeq] at h
              exact (ih F env r (.loop x) (.loop ax) nt m' w' st1 st' e a' Q hF hFr hp' (hE.mono k3.le) h (k1 (by simp)) k2 k4 k5 fun e' a' w'' hd => hQ _ _ _ (hd.after k3)).2 x rfl
            | exit i => cases h; cases e' <;> first | exact k0.elim | exact hQ _ _ _ ⟨m', k0, k1, k2, k3, k4, k5⟩
            | ret => cases h; cases e' <;> first | exact k0.elim | exact hQ _ _ _ ⟨m', k0, k1, k2, k3, k4, k5⟩
            | panic ch => cases h; cases e' <;> first | exact k0.elim | exact hQ _ _ _ ⟨m', k0, k1, k2, k3, k4, k5⟩
        exact ⟨wpIn_of_wpLoop key, fun d he => by cases he; exact key⟩
    | rangeFunc g ps c1 c2 =>
      simp only [prepCode] at hp
      split at hp
      · rename_i f a1 a2 h1 h2 h3
        cases hb : ps.toList.all (fun t => Nat.blt t nt) <;> rw [hb] at hp
        · cases hp
        · cases hp
          refine ⟨?_, fun d he => by cases he⟩
          simp only [cStep] at h
          cases r with
          | true => simp only [cRange] at h; split at h <;> first | cases h | (rename_i hh; cases hh)
          | false =>
            have := hFr rfl
            subst this
            exact range_sound hT ih hE h1 h2 h3 (fun t ht => by have := List.all_eq_true.1 hb t ht; rwa [Nat.blt_eq] at this) h hA hDf hR hD hQ
      · cases hp
    | exit id =>
      simp only [prepCode] at hp
      cases hp
      cases h
      exact ⟨wpIn_exit (hQ _ _ _ ⟨m, rfl, fun _ => hA, hDf, .refl, hR, hD⟩), fun d he => by cases he⟩
    | scope x =>
      simp only [prepCode] at hp
      cases hx0 : prepCode P X nt x with
      | none => rw [hx0] at hp; cases hp
      | some ax =>
        rw [hx0] at hp
        cases hp
        refine ⟨wpIn_scope ?_, fun d he => by cases he⟩
        simp only [cStep] at h
        refine (ih F env r x ax nt m w st st' e a _ hF hFr hx0 hE h hA hDf hR hD ?_).1
        intro e' a' w' hd
        refine ⟨fun l hl => ?_, hQ _ _ _ hd⟩
        subst hl
        obtain ⟨m', k0, k⟩ := hd
        cases e <;> exact k0.elim
    | goto l => simp only [prepCode] at hp; cases hp
    | ret =>
      simp only [prepCode] at hp
      cases hp
      cases h
      exact ⟨wpIn_ret (hQ _ _ _ ⟨m, trivial, fun _ => hA, hDf, .refl, hR, hD⟩), fun d he => by cases he⟩
    | refuse s => simp only [prepCode] at hp; cases hp

/-- a call from outside. -/
theorem call_ok {T : FT} (hX : XOk P X) (hT : ∀ f fn, T f = some fn → prepF P X f = some fn) (hDr : DrawOk P X) {n : Nat} {f : FuncId} {args : List Value} {args' : Array Value} {r : AEnd} {H' : AH}
    (hR : Rel m H w) (hD : Dom m H) (hv : VRL m args args'.toList) (h : aCall T n [] f args H = some (r, H')) : Calls P f args' w (EndR m H w r H') :=
  callsIn_wide.1 (body_sound hT (code_sound hX hT hDr n) (fun x hx => by cases hx) hR hD hv h).2

end Go.AX
