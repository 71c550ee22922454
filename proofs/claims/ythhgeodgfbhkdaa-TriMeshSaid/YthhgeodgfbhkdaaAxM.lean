/- The abstract executor 'AX', soundness (12): one operation within an activation; regions in the text's order. -/
import Derived.Test.YthhgeodgfbhkdaaAxL
import Derived.RangeFuncRecord
import Derived.RangeFuncIn
set_option linter.unusedVariables false
set_option linter.unusedSimpArgs false
set_option linter.unusedSectionVars false
namespace Go.AX
variable {P : Program} {X : XT} {m : M} {H : AH} {w : World}

/-! ## States -/
/-- what is numbered lies below the heap's end. -/
def Dom (m : M) (H : AH) : Prop := ∀ i, m.dm i → i < H.nx
theorem Dom.fresh {H' : AH} (h : Dom m H) : Fresh m H H' := fun i h1 _ hd => absurd (h i hd) (by omega)
theorem Dom.step {m' : M} {H' : AH} {w' : World} (h : Dom m H) (s : Step m m' H H' w w') : Dom m' H' := fun i hi => by
  rcases s.dm i hi with h1 | h1
  · have := h i h1; have := s.nx; omega
  · exact h1.2

/-- an activation's temporaries. -/
structure FrI (nt : Nat) (m : M) (fr : Tr Value) (a : Act) : Prop where
  rel : FrR m fr a
  size : a.tmps.size = nt

theorem FrI.mono {nt : Nat} {m m' : M} {fr : Tr Value} {a : Act} (hm : m.Le m') (h : FrI nt m fr a) : FrI nt m' fr a := ⟨h.rel.mono hm, h.size⟩

theorem tmp_put (fr : Tr Value) (p q : Pa) (v : Value) : tmp (fr.put p v) q = if p = q then v else tmp fr q := by
  unfold tmp; rw [Tr.get_put]; by_cases e : p = q <;> simp only [e, if_true, if_false]

theorem FrR.put1 {fr : Tr Value} {a : Act} {d : Nat} {v v' : Value} (h : FrR m fr a) (hv : VR m v v') (hd : d < a.tmps.size) : FrR m (fr.put (pa d) v) { a with tmps := a.tmps.setIfInBounds d v' } := by
  intro t
  rw [tmp_put]
  by_cases e : d = t
  · subst e
    rw [if_pos rfl]
    simpa [Array.getD_eq_getD_getElem?, Array.getElem?_setIfInBounds, hd] using hv
  · rw [if_neg fun h => e (pa_inj h)]
    have := h t
    simpa [Array.getD_eq_getD_getElem?, Array.getElem?_setIfInBounds, e] using this

theorem FrI.put {nt : Nat} {fr : Tr Value} {a : Act} {o : Option Tmp} {d : Option Pa} {v v' : Value} (h : FrI nt m fr a) (hd : dstOf nt o = some d) (hv : VR m v v') : FrI nt m (putT fr d v) (a.put o v') := by
  cases o with
  | none => simp only [dstOf] at hd; cases hd; exact h
  | some t =>
    simp only [dstOf] at hd
    obtain ⟨h1, h2⟩ : Nat.blt t nt = true ∧ some (pa t) = d := by
      cases hb : Nat.blt t nt <;> rw [hb] at hd
      · cases hd
      · exact ⟨rfl, Option.some.inj hd⟩
    subst h2
    rw [Nat.blt_eq] at h1
    exact ⟨FrR.put1 h.rel hv (by rw [h.size]; exact h1), by simp [Act.put, h.size]⟩

/-- the marks of loops over functions. -/
inductive DefR (m : M) : List Nat → List Deferred → Prop
  | nil : DefR m [] []
  | cons (b : Nat) (l : List Nat) (ds : List Deferred) (h : m.dm b) (hl : DefR m l ds) : DefR m (b :: l) ({ target := .collected (m.bk b), args := #[] } :: ds)

theorem DefR.mono {m m' : M} (hm : m.Le m') {l : List Nat} {ds : List Deferred} (h : DefR m l ds) : DefR m' l ds := by
  induction h with
  | nil => exact .nil
  | cons b l ds h hl ih => rw [← hm.bk b h]; exact .cons _ _ _ (hm.dm _ h) ih

/-- the records of the loops round about. -/
def LpOk (P : Program) (X : XT) (m : M) (x : Lp) : Prop :=
  m.dm x.id ∧ ∃ nt, (m.lp x.id).tmps.size = nt ∧ FrR m x.fr { tmps := (m.lp x.id).tmps, defers := [] } ∧ pasOf (m.lp x.id).params.toList = x.params ∧ (∀ t ∈ (m.lp x.id).params.toList, t < nt) ∧
    prepCode P X nt (m.lp x.id).assign = some x.assign ∧ prepCode P X nt (m.lp x.id).body = some x.body
def EnvOk (P : Program) (X : XT) (m : M) (env : List Lp) : Prop := ∀ x ∈ env, LpOk P X m x

theorem LpOk.mono {m m' : M} (hm : m.Le m') {x : Lp} (h : LpOk P X m x) : LpOk P X m' x := by
  obtain ⟨h1, nt, h2, h3, h4⟩ := h
  refine ⟨hm.dm _ h1, nt, ?_⟩
  rw [hm.lp _ h1]
  exact ⟨h2, h3.mono hm, h4⟩
theorem EnvOk.mono {m m' : M} (hm : m.Le m') {env : List Lp} (h : EnvOk P X m env) : EnvOk P X m' env := fun x hx => (h x hx).mono hm

/-- the fences that are used: none, but for the round. -/
def WF (F : Fence) : Prop := F = Fence.wide ∨ ∃ l, F = Fence.wide.inRound l
theorem WF.fn {F : Fence} (h : WF F) (f : FuncId) : F.fn f := by
  rcases h with rfl | ⟨l, rfl⟩ <;> trivial
theorem WF.depth {F : Fence} (h : WF F) : F.depth.isSome = true → 1 ≤ 0 := by
  rcases h with rfl | ⟨l, rfl⟩ <;> intro h <;> cases h
theorem WF.room {F : Fence} (h : WF F) (n : Nat) : F.room n := by
  rcases h with rfl | ⟨l, rfl⟩ <;> exact fun _ h => by cases h
theorem WF.calls {F : Fence} (h : WF F) {f : FuncId} {args : Array Value} {R : Ending → World → Prop} (hc : CallsIn Fence.wide 0 P f args w R) : CallsIn F 0 P f args w R := by
  rcases h with rfl | ⟨l, rfl⟩ <;> exact hc
theorem WF.rounds {F : Fence} (h : WF F) {l : Nat} {f : FuncId} {tmps : Array Value} {c d : Code} {R : Ending → World → Prop} (hc : RoundIn Fence.wide 0 P l f tmps c d w R) : RoundIn F 0 P l f tmps c d w R := by
  rcases h with rfl | ⟨l, rfl⟩ <;> exact hc

/-- how a call ends. -/
def EndR (m : M) (H : AH) (w : World) (r : AEnd) (H' : AH) (e : Ending) (w' : World) : Prop :=
  ∃ m', Step m m' H H' w w' ∧ Rel m' H' w' ∧ Dom m' H' ∧ match r with
    | .ret v => ∃ v', e = .returned v' ∧ VR m' v v'
    | .panic ch => e = .panicked ch

def CfOk (P : Program) (m : M) (cf : CallF) : Prop :=
  ∀ m1 w H f args args' r H', m.Le m1 → Rel m1 H w → Dom m1 H → VRL m1 args args'.toList → cf f args H = some (r, H') →
    (callFunc f args').run P w = .ok (.enter f args') w ∧ CallsIn Fence.wide 0 P f args' w (EndR m1 H w r H')
def RfOk (P : Program) (m : M) (rf : RoundF) : Prop :=
  ∀ m1 w H l args args' r H', m.Le m1 → Rel m1 H w → Dom m1 H → VRL m1 args args'.toList → m1.dm l → rf l args H = some (r, H') →
    ∃ f tmps c d, (Instr.yield (m1.bk l) args').run P w = .ok (.round (m1.bk l) f tmps c d) w ∧ RoundIn Fence.wide 0 P (m1.bk l) f tmps c d w (EndR m1 H w r H')

theorem CfOk.mono {m m' : M} {cf : CallF} (hm : m.Le m') (h : CfOk P m cf) : CfOk P m' cf := fun m1 w H f args args' r H' hle => h m1 w H f args args' r H' (hm.trans hle)
theorem RfOk.mono {m m' : M} {rf : RoundF} (hm : m.Le m') (h : RfOk P m rf) : RfOk P m' rf := fun m1 w H f args args' r H' hle => h m1 w H f args args' r H' (hm.trans hle)

/-! ## One operation -/
/-- an operation made ready. -/
structure OpR (P : Program) (X : XT) (nt : Nat) (ops : Array Oper) (o : Oper) (ao : AOper) : Prop where
  prep : prepOp P X o.op = some (ao.kind, ao.run)
  dst : dstOf nt o.dst = some ao.dst
  guard : guardOf ops o.guard = some ao.guard

theorem OpR.sem {nt : Nat} {ops : Array Oper} {o : Oper} {ao : AOper} (h : OpR P X nt ops o ao) (r : Option Nat) (ρ : Operand → Value) : o.semAt r ρ = execOp ρ o := by
  refine Oper.semAt_eq r ρ o fun c e => ?_
  have := h.prep
  rw [e] at this
  simp only [prepOp] at this
  cases this

theorem want_eq {nt : Nat} {fr : Tr Value} {a : Act} {ops : Array Oper} {o : Oper} {ao : AOper} (hA : FrI nt m fr a) (h : OpR P X nt ops o ao) (hkn : want fr ao.guard = true ∨ known fr ao.guard = true) : Region.wanted o (yielded ops a.tmps) = want fr ao.guard := by
  have hg := h.guard
  unfold Region.wanted
  cases ho : o.guard with
  | none => rw [ho] at hg; simp only [guardOf] at hg; rw [← Option.some.inj hg]; rfl
  | some g =>
    obtain ⟨j, b⟩ := g
    rw [ho] at hg
    simp only [guardOf] at hg
    split at hg
    · rename_i d hd
      rw [← Option.some.inj hg] at hkn ⊢
      simp only [want, yielded, hd, Option.bind_some] at hkn ⊢
      simp only [known] at hkn
      have hr := hA.rel d
      unfold tmp at hr
      cases hf : fr.get (pa d) with
      | none =>
        rw [hf] at hr
        simp only at hr
        cases ht : a.tmps[d]? with
        | none => rfl
        | some v =>
          simp only [Array.getD_eq_getD_getElem?, ht, Option.getD_some] at hr
          cases v <;> first | rfl | cases hr
      | some v =>
        rw [hf] at hr
        simp only at hr
        cases ht : a.tmps[d]? with
        | none =>
          simp only [Array.getD_eq_getD_getElem?, ht, Option.getD_none] at hr
          cases v <;> first | rfl | cases hr
        | some v' =>
          simp only [Array.getD_eq_getD_getElem?, ht, Option.getD_some] at hr
          cases hr <;> first | rfl | (rename_i c; cases c <;> cases b <;> rfl) | (rw [hf] at hkn; simp at hkn)
    · cases hg

/-- what an operation leaves. -/
theorem do_sound {F : Fence} (hF : WF F) (hX : XOk P X) {nt : Nat} {ops : Array Oper} {o : Oper} {ao : AOper} {st st' : St} {a : Act} {e : AEx} {cf : CallF} {rf : RoundF} (ho : OpR P X nt ops o ao)
    (hA : FrI nt m st.fr a) (hR : Rel m st.h w) (hD : Dom m st.h) (hcf : CfOk P m cf) (hrf : RfOk P m rf) (h : aDo cf rf ao st = some (e, st')) {next : Act → World → Prop} {Q : Exit → Act → World → Prop}
    (hnext : ∀ m' v v' w', e = .normal → st'.fr = putT st.fr ao.dst v → VR m' v v' → Step m m' st.h st'.h w w' → Rel m' st'.h w' → Dom m' st'.h → next (a.put o.dst v') w')
    (hpanic : ∀ m' ch w', e = .panic ch → st'.fr = st.fr → Step m m' st.h st'.h w w' → Rel m' st'.h w' → Dom m' st'.h → Q (.panic ch) a w') :
    o.wpIn F 0 P a w next Q ∧ st'.df = st.df := by
  unfold aDo at h
  cases hn : ao.run st.fr st.h with
  | none => rw [hn] at h; cases h
  | some nx =>
    have hgood := op_sound hX ho.prep hA.rel hR hn (hD.fresh)
    rw [hn] at h
    have W : ∀ (Pr : Prop), (o.uponIn F 0 P a next Q ((execOp a.eval o).run P w) ∧ Pr) → (o.wpIn F 0 P a w next Q ∧ Pr) := by
      intro Pr hu
      refine ⟨⟨fun f _ => hF.fn f, ?_⟩, hu.2⟩
      rw [ho.sem]
      exact hu.1
    apply W
    cases hgood with
    | val v H' m' w' v' hr hv hr' hs =>
      cases h
      have hd' := hD.step hs
      rcases hr with hr | ⟨hr, rfl⟩
      · rw [hr]; exact ⟨hnext m' v v' w' rfl rfl hv hs hr' hd', rfl⟩
      · rw [hr]; exact ⟨hnext m' v undef w' rfl rfl hv hs hr' hd', rfl⟩
    | panic v hr hc =>
      cases h
      rw [hr]
      exact ⟨hpanic m _ w rfl rfl .refl hR hD, rfl⟩
    | enter f args args' hr hv =>
      simp only at h
      cases hcr : cf f args st.h with
      | none => rw [hcr] at h; cases h
      | some r =>
        obtain ⟨r, H'⟩ := r
        rw [hcr] at h
        obtain ⟨h1, h2⟩ := hcf m w st.h f args args' r H' (.refl m) hR hD hv hcr
        rw [hr, h1]
        cases r with
        | ret v =>
          cases h
          refine ⟨⟨hF.depth, hF.calls (h2.mono fun e w' he => ?_)⟩, rfl⟩
          obtain ⟨m', k1, k2, k3, v', rfl, k5⟩ := he
          exact hnext m' v v' w' rfl rfl k5 k1 k2 k3
        | panic ch =>
          cases h
          refine ⟨⟨hF.depth, hF.calls (h2.mono fun e w' he => ?_)⟩, rfl⟩
          obtain ⟨m', k1, k2, k3, k4⟩ := he
          cases k4
          exact hpanic m' ch w' rfl rfl k1 k2 k3
    | round l args args' hr hd hv =>
      simp only at h
      cases hcr : rf l args st.h with
      | none => rw [hcr] at h; cases h
      | some r =>
        obtain ⟨r, H'⟩ := r
        rw [hcr] at h
        obtain ⟨f, tmps, c, d, h1, h2⟩ := hrf m w st.h l args args' r H' (.refl m) hR hD hv hd hcr
        rw [hr, h1]
        cases r with
        | ret v =>
          cases h
          refine ⟨⟨hF.depth, hF.rounds (h2.mono fun e w' he => ?_)⟩, rfl⟩
          obtain ⟨m', k1, k2, k3, v', rfl, k5⟩ := he
          exact hnext m' v v' w' rfl rfl k5 k1 k2 k3
        | panic ch =>
          cases h
          refine ⟨⟨hF.depth, hF.rounds (h2.mono fun e w' he => ?_)⟩, rfl⟩
          obtain ⟨m', k1, k2, k3, k4⟩ := he
          cases k4
          exact hpanic m' ch w' rfl rfl k1 k2 k3

end Go.AX
/- The abstract executor 'AX', soundness (13): regions, code, bodies, rounds. -/
namespace Go.AX
variable {P : Program} {X : XT} {m : M} {H : AH} {w : World}

def ExR : AEx → Exit → Prop
  | .normal, .normal => True
  | .exit i, .exit j => i = j
  | .ret, .ret => True
  | .panic c, .panic d => c = d
  | _, _ => False

/-- what code leaves. -/
def Done (nt : Nat) (m : M) (H : AH) (w : World) (e : AEx) (st' : St) (e' : Exit) (a' : Act) (w' : World) : Prop :=
  ∃ m', ExR e e' ∧ ((∀ ch, e ≠ .panic ch) → FrI nt m' st'.fr a') ∧ DefR m' st'.df a'.defers ∧ Step m m' H st'.h w w' ∧ Rel m' st'.h w' ∧ Dom m' st'.h

theorem Done.after {nt : Nat} {m m1 : M} {H H1 : AH} {w w1 : World} {e : AEx} {st' : St} {e' : Exit} {a' : Act} {w' : World} (s : Step m m1 H H1 w w1) (h : Done nt m1 H1 w1 e st' e' a' w') : Done nt m H w e st' e' a' w' := by
  obtain ⟨m', h1, h2, h3, h4, h5, h6⟩ := h
  exact ⟨m', h1, h2, h3, s.trans h4, h5, h6⟩

theorem put_defers (a : Act) (d : Option Tmp) (v : Value) : (a.put d v).defers = a.defers := by cases d <;> rfl

/-! ## Regions in the text's order -/
theorem aDo_exit {cf : CallF} {rf : RoundF} {o : AOper} {st st' : St} {e : AEx} (h : aDo cf rf o st = some (e, st')) : e = .normal ∨ ∃ ch, e = .panic ch := by
  unfold aDo at h
  split at h
  · cases h; exact .inl rfl
  · cases h; exact .inr ⟨_, rfl⟩
  · split at h
    · cases h; exact .inl rfl
    · cases h; exact .inr ⟨_, rfl⟩
    · cases h
  · split at h
    · cases h; exact .inl rfl
    · cases h; exact .inr ⟨_, rfl⟩
    · cases h
  · cases h

theorem ops_sound {F : Fence} (hF : WF F) (hX : XOk P X) {nt : Nat} {ops : Array Oper} {bf : Nat → Nat} {cf : CallF} {rf : RoundF} {Q : Exit → Act → World → Prop} {e : AEx} {st' : St} :
    ∀ (rest : List Oper) (al : List AOper) (j : Nat) (m : M) (w : World) (st : St) (a : Act), ops.toList.drop j = rest → prepOps P X nt ops bf j rest = some al → aOps cf rf al st = some (e, st') →
      FrI nt m st.fr a → DefR m st.df a.defers → Rel m st.h w → Dom m st.h → CfOk P m cf → RfOk P m rf → (∀ e' a' w', Done nt m st.h w e st' e' a' w' → Q e' a' w') →
      wpOpsIn F 0 P ops Q (List.range' j rest.length) a w := by
  intro rest
  induction rest with
  | nil =>
    intro al j m w st a hdrop hprep h hA hDf hR hD hcf hrf hQ
    simp only [prepOps] at hprep
    cases hprep
    cases h
    exact hQ _ _ _ ⟨m, trivial, fun _ => hA, hDf, .refl, hR, hD⟩
  | cons o rest ih =>
    intro al j m w st a hdrop hprep h hA hDf hR hD hcf hrf hQ
    simp only [prepOps] at hprep
    split at hprep
    · rename_i kind run dst guard al' h1 h2 h3 h4
      cases hprep
      have hoj : ops[j]? = some o := by
        rw [← Array.getElem?_toList, ← List.head?_drop, hdrop]; rfl
      have hdrop' : ops.toList.drop (j + 1) = rest := by
        rw [← List.drop_drop, hdrop]; rfl
      have hop : OpR P X nt ops o { run, dst, guard, kind, bf := bf j } := ⟨h1, h2, h3⟩
      simp only [List.length_cons, List.range'_succ, wpOpsIn, hoj]
      have hw := want_eq hA hop
      change (bif want st.fr guard then oNext (aOps cf rf al') (aDo cf rf { run, dst, guard, kind, bf := bf j } st) else bif known st.fr guard then aOps cf rf al' { st with fr := putT st.fr dst undef } else none) = some (e, st') at h
      cases hwt : want st.fr guard with
      | true =>
        rw [hw (.inl hwt), hwt, if_pos rfl]
        rw [hwt] at h
        simp only [cond_true] at h
        cases hdo : aDo cf rf { run, dst, guard, kind, bf := bf j } st with
        | none => rw [hdo] at h; cases h
        | some r =>
          obtain ⟨e1, st1⟩ := r
          rw [hdo] at h
          cases e1 with
          | normal =>
            simp only [oNext] at h
            have hdf : st1.df = st.df := (do_sound hF hX hop hA hR hD hcf hrf hdo (next := fun _ _ => True) (Q := fun _ _ _ => True) (fun _ _ _ _ _ _ _ _ _ _ => trivial) (fun _ _ _ _ _ _ _ _ => trivial)).2
            refine (do_sound hF hX hop hA hR hD hcf hrf hdo ?_ ?_).1
            · intro m' v v' w' _ hfr hv hs hr' hd'
              refine ih al' (j + 1) m' w' st1 (a.put o.dst v') hdrop' h4 h (by rw [hfr]; exact (hA.mono hs.le).put h2 hv) (by rw [hdf, put_defers]; exact hDf.mono hs.le) hr' hd' (hcf.mono hs.le) (hrf.mono hs.le) ?_
              intro e' a' w'' hdn
              exact hQ _ _ _ (hdn.after hs)
            · intro m' ch w' he; cases he
          | exit i => rcases aDo_exit hdo with he | ⟨ch, he⟩ <;> cases he
          | ret => rcases aDo_exit hdo with he | ⟨ch, he⟩ <;> cases he
          | panic ch =>
            cases h
            have hdf : st'.df = st.df := (do_sound hF hX hop hA hR hD hcf hrf hdo (next := fun _ _ => True) (Q := fun _ _ _ => True) (fun _ _ _ _ _ _ _ _ _ _ => trivial) (fun _ _ _ _ _ _ _ _ => trivial)).2
            refine (do_sound hF hX hop hA hR hD hcf hrf hdo ?_ ?_).1
            · intro m' v v' w' he; cases he
            · intro m' ch' w' he hfr hs hr' hd'
              cases he
              exact hQ _ _ _ ⟨m', rfl, fun h => absurd rfl (h ch), by rw [hdf]; exact hDf.mono hs.le, hs, hr', hd'⟩
      | false =>
        rw [hwt] at h
        simp only [cond_false] at h
        obtain ⟨hkn, h⟩ : known st.fr guard = true ∧ aOps cf rf al' { st with fr := putT st.fr dst undef } = some (e, st') := by
          cases hk : known st.fr guard <;> rw [hk] at h
          · cases h
          · exact ⟨rfl, h⟩
        rw [hw (.inr hkn), hwt, if_neg (by simp)]
        refine ⟨fun f _ => hF.fn f, ?_⟩
        exact ih al' (j + 1) m w { st with fr := putT st.fr dst undef } (a.put o.dst undef) hdrop' h4 h (hA.put h2 (VR.of_clo m 1 _ rfl)) (by rw [put_defers]; exact hDf) hR hD hcf hrf hQ
    · cases hprep

/-- regions that draw their order: shown in another text. -/
def DrawOk (P : Program) (X : XT) : Prop :=
  ∀ (F : Fence), WF F → ∀ (nt id : Nat) (ops : Array Oper) (al : List AOper) (m : M) (w : World) (st st' : St) (e : AEx) (a : Act) (cf : CallF) (rf : RoundF) (Q : Exit → Act → World → Prop),
    (ordOk ops (fun j => (Region.before ops).getD j 0) && edgeOk ops (fun j => (Region.before ops).getD j 0)) = true → prepOps P X nt ops (fun j => (Region.before ops).getD j 0) 0 ops.toList = some al → aDraw cf rf al st = some (e, st') →
    FrI nt m st.fr a → DefR m st.df a.defers → Rel m st.h w → Dom m st.h → CfOk P m cf → RfOk P m rf → (∀ e' a' w', Done nt m st.h w e st' e' a' w' → Q e' a' w') →
    (Code.region id ops true).wpIn F 0 P Q a w

/-! ## Loops -/
def wpLoop (F : Fence) (n : Nat) (P : Program) (c : Code) (Q : Exit → Act → World → Prop) (a : Act) (w : World) : Prop :=
  ∀ (b : Frame) (k : List Item) (cs : List Frame), b.roundOf = F.round → F.fn b.fn → F.room (cs.length + 1 + n) →
    ∃ e a' w', Q e a' w' ∧ ArrivesIn (Machine.fenced P F) P (lone (b.atR a (.code c :: .inLoop c :: k)) cs w) b k cs e a' w'

theorem wpIn_of_wpLoop {F : Fence} {n : Nat} {c : Code} {Q : Exit → Act → World → Prop} {a : Act} (h : wpLoop F n P c Q a w) : (Code.loop c).wpIn F n P Q a w :=
  fun b k cs hro hb hr => let ⟨e, a', w', q, r⟩ := h b k cs hro hb hr; ⟨e, a', w', q, .of_steps (.one (fenced_calm hb hr rfl) stepR_loop) r⟩

theorem wpLoop_of {F : Fence} {n : Nat} {c : Code} {Q : Exit → Act → World → Prop} {a : Act} (h : c.wpIn F n P (Exit.then (wpLoop F n P c Q) Q) a w) : wpLoop F n P c Q a w := by
  intro b k cs hro hb hr
  obtain ⟨e, a₁, w₁, hq, harr⟩ := h b (.inLoop c :: k) cs hro hb hr
  cases e with
  | normal =>
    obtain ⟨e₂, a₂, w₂, hq₂, harr₂⟩ := hq b k cs hro hb hr
    exact ⟨e₂, a₂, w₂, hq₂, .of_steps (StepsIn.trans harr (.one (fenced_calm hb hr rfl) stepR_inLoop)) harr₂⟩
  | exit id => exact ⟨_, a₁, w₁, hq, .pass (x := .inLoop c) rfl (fun _ _ => .inl (by simp)) harr⟩
  | goto l => exact ⟨_, a₁, w₁, hq, .pass (x := .inLoop c) rfl (fun _ _ => .inl (by simp)) harr⟩
  | ret => exact ⟨_, a₁, w₁, hq, .pass (x := .inLoop c) rfl (fun _ _ => .inl (by simp)) harr⟩
  | panic ch => exact ⟨_, a₁, w₁, hq, .pass (x := .inLoop c) rfl (fun _ _ => .inl (by simp)) harr⟩
  | outgrown => exact ⟨_, a₁, w₁, hq, .pass (x := .inLoop c) rfl (fun _ _ => .inl (by simp)) harr⟩

end Go.AX
