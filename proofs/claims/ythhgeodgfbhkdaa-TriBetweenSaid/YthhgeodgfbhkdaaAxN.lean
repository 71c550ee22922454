/- The abstract executor 'AX', soundness (13): regions, code, bodies, rounds. -/
import Derived.Test.YthhgeodgfbhkdaaAxM
import Derived.RangeFuncIn
set_option linter.unusedVariables false
set_option linter.unusedSimpArgs false
set_option linter.unusedSectionVars false
namespace Go.AX
variable {P : Program} {X : XT} {m : M} {H : AH} {w : World}

def ExR : AEx → Exit → Prop
  | .normal, .normal => True
  | .exit i, .exit j => i = j
  | .ret, .ret => True
  | .panic c, .panic d => c = d
  | _, _ => False

/-- what code leaves. -/
def Done (nt : Nat) (m : M) (H : AH) (w : World) (e : AEx) (st' : St) (e' : Exit) (a' : Act) (w' : World) : Prop :=
  ∃ m', ExR e e' ∧ ((∀ ch, e ≠ .panic ch) → FrI nt m' st'.fr a') ∧ DefR m' st'.df a'.defers ∧ Step m m' H st'.h w w' ∧ Rel m' st'.h w' ∧ Dom m' st'.h

theorem Done.after {nt : Nat} {m m1 : M} {H H1 : AH} {w w1 : World} {e : AEx} {st' : St} {e' : Exit} {a' : Act} {w' : World} (s : Step m m1 H H1 w w1) (h : Done nt m1 H1 w1 e st' e' a' w') : Done nt m H w e st' e' a' w' := by
  obtain ⟨m', h1, h2, h3, h4, h5, h6⟩ := h
  exact ⟨m', h1, h2, h3, s.trans h4, h5, h6⟩

theorem put_defers (a : Act) (d : Option Tmp) (v : Value) : (a.put d v).defers = a.defers := by cases d <;> rfl

/-! ## Regions in the text's order -/
theorem aDo_exit {cf : CallF} {rf : RoundF} {o : AOper} {st st' : St} {e : AEx} (h : aDo cf rf o st = some (e, st')) : e = .normal ∨ ∃ ch, e = .panic ch := by
  unfold aDo at h
  split at h
  · cases h; exact .inl rfl
  · cases h; exact .inr ⟨_, rfl⟩
  · split at h
    · cases h; exact .inl rfl
    · cases h; exact .inr ⟨_, rfl⟩
    · cases h
  · split at h
    · cases h; exact .inl rfl
    · cases h; exact .inr ⟨_, rfl⟩
    · cases h
  · cases h

theorem ops_sound {F : Fence} (hF : WF F) (hX : XOk P X) {nt : Nat} {ops : Array Oper} {bf : Nat → Nat} {cf : CallF} {rf : RoundF} {Q : Exit → Act → World → Prop} {e : AEx} {st' : St} :
    ∀ (rest : List Oper) (al : List AOper) (j : Nat) (m : M) (w : World) (st : St) (a : Act), ops.toList.drop j = rest → prepOps P X nt ops bf j rest = some al → aOps cf rf al st = some (e, st') →
      FrI nt m st.fr a → DefR m st.df a.defers → Rel m st.h w → Dom m st.h → CfOk P m cf → RfOk P m rf → (∀ e' a' w', Done nt m st.h w e st' e' a' w' → Q e' a' w') →
      wpOpsIn F 0 P ops Q (List.range' j rest.length) a w := by
  intro rest
  induction rest with
  | nil =>
    intro al j m w st a hdrop hprep h hA hDf hR hD hcf hrf hQ
    simp only [prepOps] at hprep
    cases hprep
    cases h
    exact hQ _ _ _ ⟨m, trivial, fun _ => hA, hDf, .refl, hR, hD⟩
  | cons o rest ih =>
    intro al j m w st a hdrop hprep h hA hDf hR hD hcf hrf hQ
    simp only [prepOps] at hprep
    split at hprep
    · rename_i kind run dst guard al' h1 h2 h3 h4
      cases hprep
      have hoj : ops[j]? = some o := by
        rw [← Array.getElem?_toList, ← List.head?_drop, hdrop]; rfl
      have hdrop' : ops.toList.drop (j + 1) = rest := by
        rw [← List.drop_drop, hdrop]; rfl
      have hop : OpR P X nt ops o { run, dst, guard, kind, bf := bf j } := ⟨h1, h2, h3⟩
      simp only [List.length_cons, List.range'_succ, wpOpsIn, hoj]
      have hw := want_eq hA hop
      change (bif want st.fr guard then oNext (aOps cf rf al') (aDo cf rf { run, dst, guard, kind, bf := bf j } st) else bif known st.fr guard then aOps cf rf al' { st with fr := putT st.fr dst undef } else none) = some (e, st') at h
      cases hwt : want st.fr guard with
      | true =>
        rw [hw (.inl hwt), hwt, if_pos rfl]
        rw [hwt] at h
        simp only [cond_true] at h
        cases hdo : aDo cf rf { run, dst, guard, kind, bf := bf j } st with
        | none => rw [hdo] at h; cases h
        | some r =>
          obtain ⟨e1, st1⟩ := r
          rw [hdo] at h
          cases e1 with
          | normal =>
            simp only [oNext] at h
            have hdf : st1.df = st.df := (do_sound hF hX hop hA hR hD hcf hrf hdo (next := fun _ _ => True) (Q := fun _ _ _ => True) (fun _ _ _ _ _ _ _ _ _ _ => trivial) (fun _ _ _ _ _ _ _ _ => trivial)).2
            refine (do_sound hF hX hop hA hR hD hcf hrf hdo ?_ ?_).1
            · intro m' v v' w' _ hfr hv hs hr' hd'
              refine ih al' (j + 1) m' w' st1 (a.put o.dst v') hdrop' h4 h (by rw [hfr]; exact (hA.mono hs.le).put h2 hv) (by rw [hdf, put_defers]; exact hDf.mono hs.le) hr' hd' (hcf.mono hs.le) (hrf.mono hs.le) ?_
              intro e' a' w'' hdn
              exact hQ _ _ _ (hdn.after hs)
            · intro m' ch w' he; cases he
          | exit i => rcases aDo_exit hdo with he | ⟨ch, he⟩ <;> cases he
          | ret => rcases aDo_exit hdo with he | ⟨ch, he⟩ <;> cases he
          | panic ch =>
            cases h
            have hdf : st'.df = st.df := (do_sound hF hX hop hA hR hD hcf hrf hdo (next := fun _ _ => True) (Q := fun _ _ _ => True) (fun _ _ _ _ _ _ _ _ _ _ => trivial) (fun _ _ _ _ _ _ _ _ => trivial)).2
            refine (do_sound hF hX hop hA hR hD hcf hrf hdo ?_ ?_).1
            · intro m' v v' w' he; cases he
            · intro m' ch' w' he hfr hs hr' hd'
              cases he
              exact hQ _ _ _ ⟨m', rfl, fun h => absurd rfl (h ch), by rw [hdf]; exact hDf.mono hs.le, hs, hr', hd'⟩
      | false =>
        rw [hwt] at h
        simp only [cond_false] at h
        obtain ⟨hkn, h⟩ : known st.fr guard = true ∧ aOps cf rf al' { st with fr := putT st.fr dst undef } = some (e, st') := by
          cases hk : known st.fr guard <;> rw [hk] at h
          · cases h
          · exact ⟨rfl, h⟩
        rw [hw (.inr hkn), hwt, if_neg (by simp)]
        refine ⟨fun f _ => hF.fn f, ?_⟩
        exact ih al' (j + 1) m w { st with fr := putT st.fr dst undef } (a.put o.dst undef) hdrop' h4 h (hA.put h2 (VR.of_clo m 1 _ rfl)) (by rw [put_defers]; exact hDf) hR hD hcf hrf hQ
    · cases hprep

/-- regions that draw their order: shown in another text. -/
def DrawOk (P : Program) (X : XT) : Prop :=
  ∀ (F : Fence), WF F → ∀ (nt id : Nat) (ops : Array Oper) (al : List AOper) (m : M) (w : World) (st st' : St) (e : AEx) (a : Act) (cf : CallF) (rf : RoundF) (Q : Exit → Act → World → Prop),
    (ordOk ops (fun j => (Region.before ops).getD j 0) && edgeOk ops (fun j => (Region.before ops).getD j 0)) = true → prepOps P X nt ops (fun j => (Region.before ops).getD j 0) 0 ops.toList = some al → aDraw cf rf al st = some (e, st') →
    FrI nt m st.fr a → DefR m st.df a.defers → Rel m st.h w → Dom m st.h → CfOk P m cf → RfOk P m rf → (∀ e' a' w', Done nt m st.h w e st' e' a' w' → Q e' a' w') →
    (Code.region id ops true).wpIn F 0 P Q a w

/-! ## Loops -/
def wpLoop (F : Fence) (n : Nat) (P : Program) (c : Code) (Q : Exit → Act → World → Prop) (a : Act) (w : World) : Prop :=
  ∀ (b : Frame) (k : List Item) (cs : List Frame), b.roundOf = F.round → F.fn b.fn → F.room (cs.length + 1 + n) →
    ∃ e a' w', Q e a' w' ∧ ArrivesIn (Machine.fenced P F) P (lone (b.atR a (.code c :: .inLoop c :: k)) cs w) b k cs e a' w'

theorem wpIn_of_wpLoop {F : Fence} {n : Nat} {c : Code} {Q : Exit → Act → World → Prop} {a : Act} (h : wpLoop F n P c Q a w) : (Code.loop c).wpIn F n P Q a w :=
  fun b k cs hro hb hr => let ⟨e, a', w', q, r⟩ := h b k cs hro hb hr; ⟨e, a', w', q, .of_steps (.one (fenced_calm hb hr rfl) stepR_loop) r⟩

theorem wpLoop_of {F : Fence} {n : Nat} {c : Code} {Q : Exit → Act → World → Prop} {a : Act} (h : c.wpIn F n P (Exit.then (wpLoop F n P c Q) Q) a w) : wpLoop F n P c Q a w := by
  intro b k cs hro hb hr
  obtain ⟨e, a₁, w₁, hq, harr⟩ := h b (.inLoop c :: k) cs hro hb hr
  cases e with
  | normal =>
    obtain ⟨e₂, a₂, w₂, hq₂, harr₂⟩ := hq b k cs hro hb hr
    exact ⟨e₂, a₂, w₂, hq₂, .of_steps (StepsIn.trans harr (.one (fenced_calm hb hr rfl) stepR_inLoop)) harr₂⟩
  | exit id => exact ⟨_, a₁, w₁, hq, .pass (x := .inLoop c) rfl (fun _ _ => .inl (by simp)) harr⟩
  | goto l => exact ⟨_, a₁, w₁, hq, .pass (x := .inLoop c) rfl (fun _ _ => .inl (by simp)) harr⟩
  | ret => exact ⟨_, a₁, w₁, hq, .pass (x := .inLoop c) rfl (fun _ _ => .inl (by simp)) harr⟩
  | panic ch => exact ⟨_, a₁, w₁, hq, .pass (x := .inLoop c) rfl (fun _ _ => .inl (by simp)) harr⟩
  | outgrown => exact ⟨_, a₁, w₁, hq, .pass (x := .inLoop c) rfl (fun _ _ => .inl (by simp)) harr⟩

end Go.AX
