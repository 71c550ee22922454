/- The executor's steps as a calculus of postconditions (1): more fuel gives the same. -/
import Derived.Test.YthhgeodgfbhkdaaAxB
set_option linter.unusedVariables false
set_option linter.unusedSimpArgs false
set_option linter.unusedSectionVars false
namespace Go.AX

def LeC (f g : CallF) : Prop := ∀ a b H x, f a b H = some x → g a b H = some x
def LeR (f g : RoundF) : Prop := ∀ a b H x, f a b H = some x → g a b H = some x
def LeX (f g : St → Option (AEx × St)) : Prop := ∀ s x, f s = some x → g s = some x
def LeI (f g : Runs) : Prop := ∀ env r c s x, f env r c s = some x → g env r c s = some x

variable {cf cf' : CallF} {rf rf' : RoundF}

theorem aDo_mono (h : LeC cf cf') (k : LeR rf rf') {o : AOper} {st : St} {x : AEx × St} (e : aDo cf rf o st = some x) : aDo cf' rf' o st = some x := by
  unfold aDo at e ⊢
  split at e
  · exact e
  · exact e
  · rename_i f args h0 heq
    split at e
    · rename_i v h' h2; simp only [h _ _ _ _ h2]; exact e
    · rename_i v h' h2; simp only [h _ _ _ _ h2]; exact e
    · cases e
  · rename_i f args h0 heq
    split at e
    · rename_i v h' h2; simp only [k _ _ _ _ h2]; exact e
    · rename_i v h' h2; simp only [k _ _ _ _ h2]; exact e
    · cases e
  · cases e

theorem oNext_mono {f g : St → Option (AEx × St)} (h : LeX f g) {y z : Option (AEx × St)} (hy : ∀ x, y = some x → z = some x) {x : AEx × St} (e : oNext f y = some x) : oNext g z = some x := by
  cases y with
  | none => cases e
  | some y =>
    rw [hy y rfl]
    obtain ⟨ex, st⟩ := y
    cases ex with
    | normal => exact h _ _ e
    | _ => exact e

theorem aOps_cons (o : AOper) (l : List AOper) (st : St) : aOps cf rf (o :: l) st = bif want st.fr o.guard then oNext (aOps cf rf l) (aDo cf rf o st) else bif known st.fr o.guard then aOps cf rf l { st with fr := putT st.fr o.dst undef } else none := rfl

theorem aOps_mono (h : LeC cf cf') (k : LeR rf rf') : ∀ (l : List AOper), LeX (aOps cf rf l) (aOps cf' rf' l)
  | [], st, x, e => e
  | o :: l, st, x, e => by
    rw [aOps_cons] at e ⊢
    cases hw : want st.fr o.guard <;> rw [hw] at e
    · cases hk : known st.fr o.guard <;> rw [hk] at e
      · cases e
      · exact aOps_mono h k l _ _ e
    · exact oNext_mono (aOps_mono h k l) (fun x => aDo_mono h k) e

theorem dEff_mono {ops : List AOper} {j : Nat} {o : AOper} {s : DS} {y z : Option (AEx × St)} (hy : ∀ x, y = some x → z = some x) {x : DOut} (e : dEff ops j o s y = some x) : dEff ops j o s z = some x := by
  cases y with
  | none => cases e
  | some y => rw [hy y rfl]; exact e

theorem dOne_mono (h : LeC cf cf') (k : LeR rf rf') {ops : List AOper} {j : Nat} {o : AOper} {s : DS} {x : DOut} (e : dOne cf rf ops j o s = some x) : dOne cf' rf' ops j o s = some x := by
  unfold dOne at e ⊢
  cases hw : want s.fr o.guard <;> rw [hw] at e
  · exact e
  · simp only [cond_true] at e ⊢
    cases hk : o.kind <;> rw [hk] at e
    · exact e
    · exact e
    · exact e
    · simp only at e ⊢
      cases hc : (s.chain.all fun c => o.bf.testBit c.1) <;> rw [hc] at e
      · cases e
      · exact dEff_mono (fun x => aDo_mono h k) e

theorem dAll_mono (h : LeC cf cf') (k : LeR rf rf') {ops : List AOper} : ∀ (l : List AOper) (j : Nat) (s : DS) (x : DOut), dAll cf rf ops j l s = some x → dAll cf' rf' ops j l s = some x
  | [], j, s, x, e => e
  | o :: l, j, s, x, e => by
    unfold dAll at e ⊢
    split at e
    · rename_i s' h1
      simp only [dOne_mono h k h1]
      exact dAll_mono h k l _ _ _ e
    · rename_i h1
      cases hd : dOne cf rf ops j o s with
      | none => rw [hd] at e; cases e
      | some y =>
        simp only [dOne_mono h k hd]
        rw [hd] at e
        cases y with
        | go s' => exact absurd hd (by intro h2; exact h1 s' h2)
        | stop a b c => exact e

theorem aDraw_mono (h : LeC cf cf') (k : LeR rf rf') (ops : List AOper) : LeX (aDraw cf rf ops) (aDraw cf' rf' ops) := by
  intro st x e
  unfold aDraw at e ⊢
  generalize hd : dAll cf rf ops 0 ops _ = y at e
  cases y with
  | none => cases e
  | some y => rw [dAll_mono h k _ _ _ _ hd]; exact e

theorem aBody_mono {T : FT} {f g : ACode → St → Option (AEx × St)} (h : ∀ c, LeX (f c) (g c)) : LeC (aBody T f) (aBody T g) := by
  intro a b H x e
  unfold aBody at e ⊢
  split at e
  · cases e
  · rename_i fn hT
    cases hn : Nat.beq b.length fn.nargs <;> rw [hn] at e
    · cases e
    · simp only [cond_true] at e ⊢
      generalize hy : f fn.body _ = y at e
      cases y with
      | none => cases e
      | some y => rw [h _ _ _ hy]; exact e

theorem rEnd_mono {l : Nat} {y z : Option (AEx × St)} (hy : ∀ x, y = some x → z = some x) {x : AEnd × AH} (e : rEnd l y = some x) : rEnd l z = some x := by
  cases y with
  | none => cases e
  | some y => rw [hy y rfl]; exact e

theorem aRound_mono {ih ih' : Runs} (h : LeI ih ih') (env : List Lp) : LeR (aRound ih env) (aRound ih' env) := by
  intro l args H x e
  unfold aRound at e ⊢
  split at e
  · rename_i lp env' st p h1 h2
    split at e
    · cases e
    · rename_i fr hp
      unfold rBody at e ⊢
      generalize hy : ih env' true lp.assign _ = y at e
      cases y with
      | none => cases e
      | some y =>
        rw [h _ _ _ _ _ hy]
        obtain ⟨ex, st⟩ := y
        cases ex with
        | normal =>
          simp only at e ⊢
          split at e
          · exact rEnd_mono (fun x => h _ _ _ _ x) e
          · cases e
        | _ => exact e
  · cases e

theorem cSeq_mono {f g : St → Option (AEx × St)} (h : LeX f g) {y z : Option (AEx × St)} (hy : ∀ x, y = some x → z = some x) {x : AEx × St} (e : cSeq f y = some x) : cSeq g z = some x := by
  cases y with
  | none => cases e
  | some y =>
    rw [hy y rfl]
    obtain ⟨ex, st⟩ := y
    cases ex with
    | normal => exact h _ _ e
    | _ => exact e

theorem cRange_mono {T : FT} {ih ih' : Runs} (h : LeI ih ih') {env : List Lp} {r : Bool} {f : Value} {ps : List Pa} {a b : ACode} {st : St} {x : AEx × St} (e : cRange T ih env r f ps a b st = some x) : cRange T ih' env r f ps a b st = some x := by
  unfold cRange at e ⊢
  split at e
  · rename_i g first cap
    generalize hy : aBody T _ g _ _ = y at e
    cases y with
    | none => cases e
    | some y => rw [aBody_mono (fun c => h _ _ c) _ _ _ _ hy]; exact e
  · cases e

theorem cStep_mono {T : FT} {ih ih' : Runs} (h : LeI ih ih') : LeI (cStep T ih) (cStep T ih') := by
  intro env r c st x e
  have hb : ∀ env, LeC (aBody T (ih env false)) (aBody T (ih' env false)) := fun env => aBody_mono fun c => h _ _ c
  have hr : ∀ env, LeR (aRound ih env) (aRound ih' env) := fun env => aRound_mono h env
  cases c with
  | skip => exact e
  | exit id => exact e
  | ret => exact e
  | seq a b => exact cSeq_mono (h _ _ _) (fun x => h _ _ _ _ x) e
  | cond c a b =>
    change cCond (ih env r) (ev st.fr c) a b st = some x at e
    change cCond (ih' env r) (ev st.fr c) a b st = some x
    unfold cCond at e ⊢
    split at e
    · exact h _ _ _ _ _ e
    · exact h _ _ _ _ _ e
    · cases e
  | block id c =>
    change cBlock id (ih env r c st) = some x at e
    change cBlock id (ih' env r c st) = some x
    generalize hy : ih env r c st = y at e
    cases y with
    | none => cases e
    | some y => rw [h _ _ _ _ _ hy]; exact e
  | scope c => exact h _ _ _ _ _ e
  | loop c => exact cSeq_mono (h _ _ _) (fun x => h _ _ _ _ x) e
  | region ops => exact aOps_mono (hb _) (hr _) ops _ _ e
  | draw ops => exact aDraw_mono (hb _) (hr _) ops _ _ e
  | rangeF f ps a b => exact cRange_mono h e

theorem aCode_mono1 {T : FT} : ∀ n, LeI (aCode T n) (aCode T (n + 1))
  | 0 => fun _ _ _ _ _ e => by cases e
  | n + 1 => cStep_mono (aCode_mono1 n)

theorem aCode_mono {T : FT} {n m : Nat} (h : n ≤ m) : LeI (aCode T n) (aCode T m) := by
  induction h with
  | refl => exact fun _ _ _ _ _ e => e
  | step _ ih => exact fun _ _ _ _ _ e => aCode_mono1 _ _ _ _ _ _ (ih _ _ _ _ _ e)

theorem aCall_mono {T : FT} {n m : Nat} (h : n ≤ m) {env : List Lp} : LeC (aCall T n env) (aCall T m env) := aBody_mono fun c => aCode_mono h _ _ c
theorem round_mono {T : FT} {n m : Nat} (h : n ≤ m) {env : List Lp} : LeR (aRound (aCode T n) env) (aRound (aCode T m) env) := aRound_mono (aCode_mono h) env

end Go.AX
