/- The executor's steps as a calculus of postconditions (4): regions that draw their order. -/
import Derived.Test.YthhgeodgfbhkdaaAxRc
set_option linter.unusedVariables false
set_option linter.unusedSimpArgs false
set_option linter.unusedSectionVars false
namespace Go.AX.Mc
open Go.AX
noncomputable section
variable (T : FT) (env : List Lp) (r : Bool)

def D (ops : List AOper) (j : Nat) (l : List AOper) (fr : Tr Value) (h : AH) (nid : Nat) (news : List New) (seen : Nat) (chain : List (Nat × Nat × AH)) (reads : List Read) (k : List KF) (df : List Nat) (Q : QF) : Prop :=
  ∃ n s, dAll (aBody T (aCode T n env false)) (aRound (aCode T n) env) ops j l ⟨fr, h, nid, news, seen, chain, reads⟩ = some (.go s) ∧ readsOk ops s = true ∧
    Kt T env r k .normal s.fr df (lay s.h (s.news.filter fun a => !s.seen.testBit a.op)) Q
/-- behind the run of an operation that only computes. -/
def DP (x : Option ANext) (d : Option Pa) (ops : List AOper) (j : Nat) (l : List AOper) (fr : Tr Value) (h : AH) (nid : Nat) (news : List New) (seen : Nat) (chain : List (Nat × Nat × AH)) (reads : List Read) (k : List KF) (df : List Nat) (Q : QF) : Prop :=
  match x with
  | some (.val v _) => D T env r ops j l (putT fr d v) h nid news seen chain reads k df Q
  | _ => False
/-- behind a read. -/
def DR (x : Option ANext) (o : AOper) (i : Nat) (d : Option Pa) (ops : List AOper) (j : Nat) (l : List AOper) (fr : Tr Value) (h : AH) (nid : Nat) (news : List New) (seen : Nat) (chain : List (Nat × Nat × AH)) (reads : List Read) (k : List KF) (df : List Nat) (Q : QF) : Prop :=
  match x with
  | some (.val v _) => D T env r ops j l (putT fr d v) h nid news seen chain (⟨i, o, fr, v⟩ :: reads) k df Q
  | _ => False
/-- the block that an operation lays, and its value. -/
def nw (run : Tr Value → AH → Option ANext) (fr : Tr Value) (nid : Nat) : Option (Value × AB) := match run fr ⟨.e, nid, 0⟩ with
  | some (.val v h1) => match h1.get nid with
    | some .dead => none
    | some b => some (v, b)
    | none => none
  | _ => none
/-- behind a new block. -/
def DN (x : Option (Value × AB)) (i : Nat) (d : Option Pa) (ops : List AOper) (j : Nat) (l : List AOper) (fr : Tr Value) (h : AH) (nid : Nat) (news : List New) (seen : Nat) (chain : List (Nat × Nat × AH)) (reads : List Read) (k : List KF) (df : List Nat) (Q : QF) : Prop :=
  match x with
  | some (v, b) => D T env r ops j l (putT fr d v) h (nid + 1) (⟨i, nid, b⟩ :: news) seen chain reads k df Q
  | none => False
def DK (d : Option Pa) (ops : List AOper) (j : Nat) (l : List AOper) (fr : Tr Value) (nid : Nat) (news : List New) (seen : Nat) (chain : List (Nat × Nat × AH)) (reads : List Read) (k : List KF) (df : List Nat) (Q : QF) (y : AEnd) (h : AH) : Prop :=
  match y with
  | .ret v => D T env r ops j l (putT fr d v) h nid news seen chain reads k df Q
  | .panic _ => False
/-- behind an operation that acts. -/
def DE (x : Option ANext) (d : Option Pa) (ops : List AOper) (j : Nat) (l : List AOper) (fr : Tr Value) (nid : Nat) (news : List New) (seen : Nat) (chain : List (Nat × Nat × AH)) (reads : List Read) (k : List KF) (df : List Nat) (Q : QF) : Prop :=
  match x with
  | some (.val v h) => D T env r ops j l (putT fr d v) h nid news seen chain reads k df Q
  | some (.enter f args h) => C T env f args h (DK T env r d ops j l fr nid news seen chain reads k df Q)
  | some (.round f args h) => R T env f args h (DK T env r d ops j l fr nid news seen chain reads k df Q)
  | _ => False
def DO (o : AOper) (ops : List AOper) (j : Nat) (l : List AOper) (fr : Tr Value) (h : AH) (nid : Nat) (news : List New) (seen : Nat) (chain : List (Nat × Nat × AH)) (reads : List Read) (k : List KF) (df : List Nat) (Q : QF) : Prop :=
  match o.kind with
  | .pure => DP T env r (o.run fr ⟨.e, 0, 0⟩) o.dst ops (j + 1) l fr h nid news seen chain reads k df Q
  | .read => DR T env r (o.run fr (lay h (opened o.bf seen news))) o j o.dst ops (j + 1) l fr h nid news seen chain reads k df Q
  | .new => DN T env r (nw o.run fr nid) j o.dst ops (j + 1) l fr h nid news seen chain reads k df Q
  | .eff => (chain.all fun c => o.bf.testBit c.1) = true ∧ DE T env r (o.run fr (lay h (opened o.bf seen news))) o.dst ops (j + 1) l fr nid news (seen ||| o.bf) ((j, seen, h) :: chain) reads k df Q

/-- an operation under a guard. -/
def DG (v : Value) (b : Bool) (o : AOper) (ops : List AOper) (j : Nat) (l : List AOper) (fr : Tr Value) (h : AH) (nid : Nat) (news : List New) (seen : Nat) (chain : List (Nat × Nat × AH)) (reads : List Read) (k : List KF) (df : List Nat) (Q : QF) : Prop :=
  match v with
  | .bool c => if c = b then DO T env r o ops j l fr h nid news seen chain reads k df Q else D T env r ops (j + 1) l (putT fr o.dst undef) h nid news seen chain reads k df Q
  | .tuple _ => D T env r ops (j + 1) l (putT fr o.dst undef) h nid news seen chain reads k df Q
  | _ => False

variable {T env r}

theorem X_draw {ops : List AOper} {k : List KF} {fr : Tr Value} {df : List Nat} {h : AH} {Q : QF} (hd : D T env r ops 0 ops fr ⟨h.bl, h.nx + countNew ops, h.lo⟩ h.nx [] 0 [] [] k df Q) :
    X T env r (.draw ops) k fr df h Q := by
  obtain ⟨n, s, h1, h2, h3⟩ := hd
  refine ⟨n + 1, .normal, ⟨s.fr, df, lay s.h (s.news.filter fun a => !s.seen.testBit a.op)⟩, ?_, h3⟩
  change aDraw (aBody T (aCode T n env false)) (aRound (aCode T n) env) ops ⟨fr, df, h⟩ = _
  unfold aDraw
  simp only [h1, h2, cond_true]

theorem X_draw0 {ops : List AOper} {k : List KF} {fr : Tr Value} {df : List Nat} {h : AH} {Q : QF} (hn : countNew ops = 0) (hd : D T env r ops 0 ops fr h h.nx [] 0 [] [] k df Q) :
    X T env r (.draw ops) k fr df h Q := by
  refine X_draw ?_
  rw [hn]
  exact hd

theorem D_nil (ops : List AOper) (j : Nat) (fr : Tr Value) (h : AH) (nid : Nat) (news : List New) (seen : Nat) (chain : List (Nat × Nat × AH)) (reads : List Read) (k : List KF) (df : List Nat) (Q : QF) :
    D T env r ops j [] fr h nid news seen chain reads k df Q = (readsOk ops ⟨fr, h, nid, news, seen, chain, reads⟩ = true ∧ Kt T env r k .normal fr df (lay h (news.filter fun a => !seen.testBit a.op)) Q) := by
  refine propext ⟨fun ⟨n, s, h1, h2, h3⟩ => ?_, fun ⟨h2, h3⟩ => ⟨0, _, rfl, h2, h3⟩⟩
  cases h1
  exact ⟨h2, h3⟩

theorem D_dOne {o : AOper} {ops : List AOper} {j : Nat} {l : List AOper} {fr : Tr Value} {h : AH} {nid : Nat} {news : List New} {seen : Nat} {chain : List (Nat × Nat × AH)} {reads : List Read} {k : List KF} {df : List Nat} {Q : QF} :
    D T env r ops j (o :: l) fr h nid news seen chain reads k df Q = ∃ n s', dOne (aBody T (aCode T n env false)) (aRound (aCode T n) env) ops j o ⟨fr, h, nid, news, seen, chain, reads⟩ = some (.go s') ∧
      D T env r ops (j + 1) l s'.fr s'.h s'.nid s'.news s'.seen s'.chain s'.reads k df Q := by
  refine propext ⟨fun ⟨n, s, h1, h2, h3⟩ => ?_, fun ⟨n, s', h1, m, s, h2, h3, h4⟩ => ?_⟩
  · unfold dAll at h1
    split at h1
    · rename_i s' hs
      exact ⟨n, s', hs, n, s, h1, h2, h3⟩
    · rename_i hs
      exact absurd h1 (hs s)
  · refine ⟨max n m, s, ?_, h3, h4⟩
    have hl : ∀ {n m}, n ≤ m → LeC (aBody T (aCode T n env false)) (aBody T (aCode T m env false)) := fun h => aCall_mono h
    unfold dAll
    rw [dOne_mono (hl (Nat.le_max_left n m)) (round_mono (Nat.le_max_left n m)) h1]
    exact dAll_mono (hl (Nat.le_max_right n m)) (round_mono (Nat.le_max_right n m)) _ _ _ _ h2

theorem D_run {o : AOper} {ops : List AOper} {j : Nat} {l : List AOper} {fr : Tr Value} {h : AH} {nid : Nat} {news : List New} {seen : Nat} {chain : List (Nat × Nat × AH)} {reads : List Read} {k : List KF} {df : List Nat} {Q : QF}
    (hw : want fr o.guard = true) : D T env r ops j (o :: l) fr h nid news seen chain reads k df Q = DO T env r o ops j l fr h nid news seen chain reads k df Q := by
  rw [D_dOne]
  unfold DO
  have E : ∀ n, dOne (aBody T (aCode T n env false)) (aRound (aCode T n) env) ops j o ⟨fr, h, nid, news, seen, chain, reads⟩ = (match o.kind with
    | .pure => match o.run fr ⟨.e, 0, 0⟩ with
      | some (.val v _) => some (.go ⟨putT fr o.dst v, h, nid, news, seen, chain, reads⟩)
      | _ => none
    | .read => match o.run fr (lay h (opened o.bf seen news)) with
      | some (.val v _) => some (.go ⟨putT fr o.dst v, h, nid, news, seen, chain, ⟨j, o, fr, v⟩ :: reads⟩)
      | _ => none
    | .new => match o.run fr ⟨.e, nid, 0⟩ with
      | some (.val v h1) => match h1.get nid with
        | some .dead => none
        | some b => some (.go ⟨putT fr o.dst v, h, nid + 1, ⟨j, nid, b⟩ :: news, seen, chain, reads⟩)
        | none => none
      | _ => none
    | .eff =>
      bif chain.all fun c => o.bf.testBit c.1 then dEff ops j o ⟨fr, h, nid, news, seen, chain, reads⟩ (aDo (aBody T (aCode T n env false)) (aRound (aCode T n) env) o { fr := fr, df := [], h := lay h (opened o.bf seen news) }) else none) := by
    intro n; unfold dOne; simp only [hw, cond_true]; rfl
  simp only [E]
  cases hk : o.kind with
  | pure =>
    simp only
    unfold DP
    split
    · exact propext ⟨fun ⟨n, s', h1, h2⟩ => by cases h1; exact h2, fun h2 => ⟨0, _, rfl, h2⟩⟩
    · rename_i hx
      exact propext ⟨fun ⟨n, s', h1, h2⟩ => (by cases h1), False.elim⟩
  | read =>
    simp only
    unfold DR
    split
    · exact propext ⟨fun ⟨n, s', h1, h2⟩ => by cases h1; exact h2, fun h2 => ⟨0, _, rfl, h2⟩⟩
    · rename_i hx
      exact propext ⟨fun ⟨n, s', h1, h2⟩ => (by cases h1), False.elim⟩
  | new =>
    simp only
    unfold DN nw
    split
    · split
      · exact propext ⟨fun ⟨n, s', h1, h2⟩ => (by cases h1), False.elim⟩
      · exact propext ⟨fun ⟨n, s', h1, h2⟩ => by cases h1; exact h2, fun h2 => ⟨0, _, rfl, h2⟩⟩
      · exact propext ⟨fun ⟨n, s', h1, h2⟩ => (by cases h1), False.elim⟩
    · exact propext ⟨fun ⟨n, s', h1, h2⟩ => (by cases h1), False.elim⟩
  | eff =>
    simp only
    cases hc : (chain.all fun c => o.bf.testBit c.1)
    · simp
    · simp only [cond_true, true_and]
      unfold DE
      refine propext ⟨fun ⟨n, s', h1, h2⟩ => ?_, fun h1 => ?_⟩
      · unfold dEff at h1
        split at h1
        · rename_i st hst
          cases h1
          unfold aDo at hst
          split at hst
          · rename_i v h' hr; cases hst; rw [hr]; exact h2
          · cases hst
          · rename_i f args h' hr
            rw [hr]
            split at hst
            · rename_i v h'' hcf; cases hst; exact ⟨n, _, _, hcf, h2⟩
            · cases hst
            · cases hst
          · rename_i f args h' hr
            rw [hr]
            split at hst
            · rename_i v h'' hcf; cases hst; exact ⟨n, _, _, hcf, h2⟩
            · cases hst
            · cases hst
          · cases hst
        · cases hx : allAfter j 0 ops <;> rw [hx] at h1 <;> cases h1
        · cases h1
      · split at h1
        · rename_i v h' hr
          refine ⟨0, ⟨putT fr o.dst v, h', nid, news, seen ||| o.bf, (j, seen, h) :: chain, reads⟩, ?_, h1⟩
          unfold dEff aDo
          simp only [hr]
        · rename_i f args h' hr
          obtain ⟨n, y, H', h3, h4⟩ := h1
          cases y with
          | panic ch => exact h4.elim
          | ret v =>
            rw [aCall] at h3
            refine ⟨n, ⟨putT fr o.dst v, H', nid, news, seen ||| o.bf, (j, seen, h) :: chain, reads⟩, ?_, h4⟩
            unfold dEff aDo
            simp only [hr, h3]
        · rename_i f args h' hr
          obtain ⟨n, y, H', h3, h4⟩ := h1
          cases y with
          | panic ch => exact h4.elim
          | ret v =>
            refine ⟨n, ⟨putT fr o.dst v, H', nid, news, seen ||| o.bf, (j, seen, h) :: chain, reads⟩, ?_, h4⟩
            unfold dEff aDo
            simp only [hr, h3]
        · exact h1.elim

theorem D_skip {o : AOper} {ops : List AOper} {j : Nat} {l : List AOper} {fr : Tr Value} {h : AH} {nid : Nat} {news : List New} {seen : Nat} {chain : List (Nat × Nat × AH)} {reads : List Read} {k : List KF} {df : List Nat} {Q : QF}
    (hw : want fr o.guard = false) (hk : known fr o.guard = true) : D T env r ops j (o :: l) fr h nid news seen chain reads k df Q = D T env r ops (j + 1) l (putT fr o.dst undef) h nid news seen chain reads k df Q := by
  rw [D_dOne]
  have E : ∀ n, dOne (aBody T (aCode T n env false)) (aRound (aCode T n) env) ops j o ⟨fr, h, nid, news, seen, chain, reads⟩ = some (.go ⟨putT fr o.dst undef, h, nid, news, seen, chain, reads⟩) := by
    intro n; unfold dOne; simp only [hw, hk, cond_true, cond_false]
  simp only [E]
  exact propext ⟨fun ⟨n, s', h1, h2⟩ => by cases h1; exact h2, fun h2 => ⟨0, _, rfl, h2⟩⟩

theorem D_G (run : Tr Value → AH → Option ANext) (d : Option Pa) (g : Pa) (b : Bool) (kd : OpKind) (bf : Nat) (ops : List AOper) (j : Nat) (l : List AOper) (fr : Tr Value) (h : AH) (nid : Nat) (news : List New) (seen : Nat) (chain : List (Nat × Nat × AH)) (reads : List Read) (k : List KF) (df : List Nat) (Q : QF) :
    D T env r ops j (⟨run, d, some (g, b), kd, bf⟩ :: l) fr h nid news seen chain reads k df Q = DG T env r (tmp fr g) b ⟨run, d, some (g, b), kd, bf⟩ ops j l fr h nid news seen chain reads k df Q := by
  unfold DG tmp
  cases hg : fr.get g with
  | none => exact D_skip (by simp only [want, hg]) (by simp only [known, hg])
  | some v =>
    have F : (∀ c, v ≠ .bool c) → (∀ c, v ≠ .tuple c) → D T env r ops j (⟨run, d, some (g, b), kd, bf⟩ :: l) fr h nid news seen chain reads k df Q = False := by
      intro h1 h2
      rw [D_dOne]
      refine propext ⟨fun ⟨n, s', h3, _⟩ => ?_, False.elim⟩
      have w1 : want fr (some (g, b)) = false := by unfold want; simp only [hg]; cases v <;> first | rfl | exact absurd rfl (h1 _)
      have w2 : known fr (some (g, b)) = false := by unfold known; simp only [hg]; cases v <;> first | rfl | exact absurd rfl (h1 _) | exact absurd rfl (h2 _)
      unfold dOne at h3
      simp only [w1, w2, cond_false] at h3
      cases h3
    cases v with
    | bool c =>
      simp only
      by_cases hc : c = b
      · rw [if_pos hc]; exact D_run (by simp [want, hg, hc])
      · rw [if_neg hc]; exact D_skip (by simp [want, hg, hc]) (by simp only [known, hg])
    | tuple c => exact D_skip (by simp only [want, hg]) (by simp only [known, hg])
    | _ => exact F (fun _ => by simp) (fun _ => by simp)

section
variable (run : Tr Value → AH → Option ANext) (d : Option Pa) (bf : Nat) (ops : List AOper) (j : Nat) (l : List AOper) (fr : Tr Value) (h : AH) (nid : Nat) (news : List New) (seen : Nat) (chain : List (Nat × Nat × AH)) (reads : List Read) (k : List KF) (df : List Nat) (Q : QF)
theorem D_O (kd : OpKind) : D T env r ops j (⟨run, d, none, kd, bf⟩ :: l) fr h nid news seen chain reads k df Q = DO T env r ⟨run, d, none, kd, bf⟩ ops j l fr h nid news seen chain reads k df Q := D_run rfl
variable (g : Option (Pa × Bool))
theorem DO_P : DO T env r ⟨run, d, g, .pure, bf⟩ ops j l fr h nid news seen chain reads k df Q = DP T env r (run fr ⟨.e, 0, 0⟩) d ops (j + 1) l fr h nid news seen chain reads k df Q := rfl
theorem DO_R : DO T env r ⟨run, d, g, .read, bf⟩ ops j l fr h nid news seen chain reads k df Q = DR T env r (run fr (lay h (opened bf seen news))) ⟨run, d, g, .read, bf⟩ j d ops (j + 1) l fr h nid news seen chain reads k df Q := rfl
theorem DO_N : DO T env r ⟨run, d, g, .new, bf⟩ ops j l fr h nid news seen chain reads k df Q = DN T env r (nw run fr nid) j d ops (j + 1) l fr h nid news seen chain reads k df Q := rfl
theorem DO_E : DO T env r ⟨run, d, g, .eff, bf⟩ ops j l fr h nid news seen chain reads k df Q = ((chain.all fun c => bf.testBit c.1) = true ∧ DE T env r (run fr (lay h (opened bf seen news))) d ops (j + 1) l fr nid news (seen ||| bf) ((j, seen, h) :: chain) reads k df Q) := rfl
end
section
variable (v : Value) (h' : AH) (d : Pa) (ops : List AOper) (j : Nat) (l : List AOper) (fr : Tr Value) (h : AH) (nid : Nat) (news : List New) (seen : Nat) (chain : List (Nat × Nat × AH)) (reads : List Read) (k : List KF) (df : List Nat) (Q : QF)
theorem DP_val : DP T env r (some (.val v h')) (some d) ops j l fr h nid news seen chain reads k df Q = D T env r ops j l (fr.put d v) h nid news seen chain reads k df Q := rfl
theorem DP_val0 : DP T env r (some (.val v h')) none ops j l fr h nid news seen chain reads k df Q = D T env r ops j l fr h nid news seen chain reads k df Q := rfl
theorem DR_val (o : AOper) (i : Nat) : DR T env r (some (.val v h')) o i (some d) ops j l fr h nid news seen chain reads k df Q = D T env r ops j l (fr.put d v) h nid news seen chain (⟨i, o, fr, v⟩ :: reads) k df Q := rfl
theorem DN_some (b : AB) (i : Nat) : DN T env r (some (v, b)) i (some d) ops j l fr h nid news seen chain reads k df Q = D T env r ops j l (fr.put d v) h (nid + 1) (⟨i, nid, b⟩ :: news) seen chain reads k df Q := rfl
theorem DE_val : DE T env r (some (.val v h)) (some d) ops j l fr nid news seen chain reads k df Q = D T env r ops j l (fr.put d v) h nid news seen chain reads k df Q := rfl
theorem DE_val0 : DE T env r (some (.val v h)) none ops j l fr nid news seen chain reads k df Q = D T env r ops j l fr h nid news seen chain reads k df Q := rfl
theorem DE_enter (f : FuncId) (args : List Value) (d : Option Pa) : DE T env r (some (.enter f args h)) d ops j l fr nid news seen chain reads k df Q = C T env f args h (DK T env r d ops j l fr nid news seen chain reads k df Q) := rfl
theorem DE_round (f : Nat) (args : List Value) (d : Option Pa) : DE T env r (some (.round f args h)) d ops j l fr nid news seen chain reads k df Q = R T env f args h (DK T env r d ops j l fr nid news seen chain reads k df Q) := rfl
theorem DK_ret : DK T env r (some d) ops j l fr nid news seen chain reads k df Q (.ret v) h = D T env r ops j l (fr.put d v) h nid news seen chain reads k df Q := rfl
theorem DK_ret0 : DK T env r none ops j l fr nid news seen chain reads k df Q (.ret v) h = D T env r ops j l fr h nid news seen chain reads k df Q := rfl
variable (o : AOper)
theorem DG_tt : DG T env r (.bool true) true o ops j l fr h nid news seen chain reads k df Q = DO T env r o ops j l fr h nid news seen chain reads k df Q := rfl
theorem DG_ff : DG T env r (.bool false) false o ops j l fr h nid news seen chain reads k df Q = DO T env r o ops j l fr h nid news seen chain reads k df Q := rfl
theorem DG_tf (run : Tr Value → AH → Option ANext) (g : Option (Pa × Bool)) (kd : OpKind) (bf : Nat) : DG T env r (.bool true) false ⟨run, some d, g, kd, bf⟩ ops j l fr h nid news seen chain reads k df Q = D T env r ops (j + 1) l (fr.put d undef) h nid news seen chain reads k df Q := rfl
theorem DG_ft (run : Tr Value → AH → Option ANext) (g : Option (Pa × Bool)) (kd : OpKind) (bf : Nat) : DG T env r (.bool false) true ⟨run, some d, g, kd, bf⟩ ops j l fr h nid news seen chain reads k df Q = D T env r ops (j + 1) l (fr.put d undef) h nid news seen chain reads k df Q := rfl
theorem DG_u (b : Bool) (run : Tr Value → AH → Option ANext) (g : Option (Pa × Bool)) (kd : OpKind) (bf : Nat) : DG T env r undef b ⟨run, some d, g, kd, bf⟩ ops j l fr h nid news seen chain reads k df Q = D T env r ops (j + 1) l (fr.put d undef) h nid news seen chain reads k df Q := rfl
variable {o ops j l fr h nid news seen chain reads k df Q}
theorem DG_split {c b : Bool} (h1 : c = true → DG T env r (.bool true) b o ops j l fr h nid news seen chain reads k df Q) (h2 : c = false → DG T env r (.bool false) b o ops j l fr h nid news seen chain reads k df Q) : DG T env r (.bool c) b o ops j l fr h nid news seen chain reads k df Q := by
  cases c
  · exact h2 rfl
  · exact h1 rfl
end

/-! ## The heap of a region that draws -/
theorem ext_keep (H : AH) (L : List (Option AB)) : ∀ n, (⟨(ext H L).bl, (ext H L).nx + n, (ext H L).lo⟩ : AH) = ext H (L ++ List.replicate n none)
  | 0 => by rw [List.replicate_zero, List.append_nil]; rfl
  | n + 1 => by
    rw [List.replicate_succ', ← List.append_assoc, ← ext_ext H (L ++ List.replicate n none) [none], ← ext_keep H L n]
    rfl
theorem keep0 (H : AH) : (⟨H.bl, H.nx + 0, H.lo⟩ : AH) = H := rfl
theorem X_drawE {ops : List AOper} {k : List KF} {fr : Tr Value} {df : List Nat} {H : AH} {L : List (Option AB)} {Q : QF} (n : Nat) (hn : countNew ops = n)
    (hd : D T env r ops 0 ops fr (ext H (L ++ List.replicate n none)) (H.nx + L.length) [] 0 [] [] k df Q) : X T env r (.draw ops) k fr df (ext H L) Q := by
  refine X_draw ?_
  rw [hn, ext_keep, ext_nx]
  exact hd
theorem X_drawN {ops : List AOper} {k : List KF} {fr : Tr Value} {df : List Nat} {H : AH} {Q : QF} (n : Nat) (hn : countNew ops = n)
    (hd : D T env r ops 0 ops fr (ext H.now (List.replicate n none)) H.now.nx [] 0 [] [] k df Q) : X T env r (.draw ops) k fr df H.now Q :=
  X_drawE (H := H.now) (L := []) n hn hd
theorem lay_nil (H : AH) : lay H [] = H := rfl
theorem lay_cons (H : AH) (L : List (Option AB)) (op i : Nat) (b : AB) (l : List New) (h : i < L.length) : lay (ext H L) (⟨op, H.nx + i, b⟩ :: l) = lay (ext H (L.set i (some b))) l := by
  show lay ⟨(ext H L).bl.put (pa (H.nx + i)) b, (ext H L).nx, (ext H L).lo⟩ l = _
  rw [← ext_st_new _ _ _ _ h]; rfl
theorem lay_cons0 (H : AH) (L : List (Option AB)) (op : Nat) (b : AB) (l : List New) (h : 0 < L.length) : lay (ext H L) (⟨op, H.nx, b⟩ :: l) = lay (ext H (L.set 0 (some b))) l := lay_cons H L op 0 b l h
theorem opened_nil (bf seen : Nat) : opened bf seen [] = [] := rfl
theorem opened_cons (bf seen op id : Nat) (b : AB) (l : List New) : opened bf seen (⟨op, id, b⟩ :: l) = if (bf.testBit op && !seen.testBit op) = true then ⟨op, id, b⟩ :: opened bf seen l else opened bf seen l := by
  unfold opened
  rw [List.filter_cons]
theorem readsOk_nil (ops : List AOper) (fr : Tr Value) (h : AH) (nid : Nat) (news : List New) (seen : Nat) (reads : List Read) : readsOk ops ⟨fr, h, nid, news, seen, [], reads⟩ = true := rfl
theorem readsOk_cons (ops : List AOper) (fr : Tr Value) (h : AH) (nid : Nat) (news : List New) (seen : Nat) (c : Nat × Nat × AH) (ch : List (Nat × Nat × AH)) (reads : List Read) : readsOk ops ⟨fr, h, nid, news, seen, c :: ch, reads⟩ = readsAll ops news reads (c :: ch) [] seen h := rfl
theorem readsAll_nil (ops : List AOper) (news : List New) (rs : List Read) (left : List Nat) (seen : Nat) (H : AH) : readsAll ops news rs [] left seen H = readsAt ops news rs [] left seen H := rfl
theorem readsAll_cons (ops : List AOper) (news : List New) (rs : List Read) (c s : Nat) (H' : AH) (chain : List (Nat × Nat × AH)) (left : List Nat) (seen : Nat) (H : AH) : readsAll ops news rs ((c, s, H') :: chain) left seen H = (readsAt ops news rs (c :: chain.map (·.1)) left seen H && readsAll ops news rs chain (c :: left) s H') := rfl
theorem readsAt_nil (ops : List AOper) (news : List New) (done left : List Nat) (seen : Nat) (H : AH) : readsAt ops news [] done left seen H = true := rfl
theorem readsAt_cons (ops : List AOper) (news : List New) (x : Read) (rs : List Read) (done left : List Nat) (seen : Nat) (H : AH) : readsAt ops news (x :: rs) done left seen H = (readAt ops news x done left seen H && readsAt ops news rs done left seen H) := rfl
def veqV (x : Option ANext) (w : Value) : Bool := match x with
  | some (.val v _) => veq 6 v w
  | _ => false
theorem readAt_eq (ops : List AOper) (news : List New) (i : Nat) (run : Tr Value → AH → Option ANext) (d : Option Pa) (g : Option (Pa × Bool)) (kd : OpKind) (bf : Nat) (fr : Tr Value) (v : Value) (done left : List Nat) (seen : Nat) (H : AH) :
    readAt ops news ⟨i, ⟨run, d, g, kd, bf⟩, fr, v⟩ done left seen H = if (left.all (fun c => !bf.testBit c) && done.all (fun c => !(bfAt ops c).testBit i)) = true then veqV (run fr (lay H (opened bf seen news))) v else true := by
  unfold readAt
  cases (left.all (fun c => !bf.testBit c) && done.all (fun c => !(bfAt ops c).testBit i))
  · rfl
  · rfl
theorem veqV_val (v w : Value) (H : AH) : veqV (some (.val v H)) w = veq 6 v w := rfl
theorem veq_int (n : Nat) (k : IntKind) (a : Int) : veq n (.int k a) (.int k a) = true := by unfold veq; simp [keq_refl]
theorem veq_bool (n : Nat) (a : Bool) : veq n (.bool a) (.bool a) = true := by unfold veq; simp
theorem veq_ptr (n : Nat) (a : Option Addr) : veq n (.pointer a) (.pointer a) = true := by unfold veq; simp
theorem veq_slice (n : Nat) (a : Option Addr) (l c : Nat) : veq n (.slice a l c) (.slice a l c) = true := by unfold veq; simp
theorem veq_agg (n : Nat) (l l' : List Value) : veq (n + 1) (.agg l.toArray) (.agg l'.toArray) = (l.length == l'.length && (l.zip l').all fun x => veq n x.1 x.2) := rfl
theorem veq_agg6 (l l' : List Value) : veq 6 (.agg l.toArray) (.agg l'.toArray) = (l.length == l'.length && (l.zip l').all fun x => veq 5 x.1 x.2) := rfl
theorem bfAt_zero (o : AOper) (l : List AOper) : bfAt (o :: l) 0 = o.bf := rfl
theorem bfAt_succ (o : AOper) (l : List AOper) (n : Nat) : bfAt (o :: l) (n + 1) = bfAt l n := rfl
theorem countNew_nil : countNew [] = 0 := rfl

theorem nw_alloc (z : List Value) (fr : Tr Value) (nid : Nat) : nw (oAlloc z) fr nid = some (.pointer (some ⟨nid, 0, none⟩), .cells z 0 0) := by
  unfold nw oAlloc
  simp only [show (AH.push ⟨.e, nid, 0⟩ (.cells z 0 0)).get nid = some (.cells z 0 0) from AH.get_push_same ⟨.e, nid, 0⟩ _]
  rfl
theorem nw_box (x : Ar) (fr : Tr Value) (nid : Nat) : nw (oBox x) fr nid = some (.pointer (some ⟨nid, 0, none⟩), .cells (ev fr x).cells.toList 0 0) := by
  unfold nw oBox
  simp only [show (AH.push ⟨.e, nid, 0⟩ (.cells (ev fr x).cells.toList 0 0)).get nid = some (.cells (ev fr x).cells.toList 0 0) from AH.get_push_same ⟨.e, nid, 0⟩ _]
  rfl
def nwS (len nid : Nat) (x : Option (List Value)) : Option (Value × AB) := match x with
  | some cs => some (.slice (some ⟨nid, 0, none⟩) len len, .cells cs 0 0)
  | none => none
theorem nw_buildSlice (len : Nat) (z : List Value) (ps : List (Nat × Nat × Ar)) (fr : Tr Value) (nid : Nat) : nw (oBuildSlice len z ps) fr nid = nwS len nid (fillL z (evP fr ps)) := by
  unfold nw oBuildSlice nwS
  cases fillL z (evP fr ps) with
  | none => rfl
  | some cs =>
    simp only [show (AH.push ⟨.e, nid, 0⟩ (.cells cs 0 0)).get nid = some (.cells cs 0 0) from AH.get_push_same ⟨.e, nid, 0⟩ _]
    rfl
theorem nwS_some (len nid : Nat) (cs : List Value) : nwS len nid (some cs) = some (.slice (some ⟨nid, 0, none⟩) len len, .cells cs 0 0) := rfl

end
end Go.AX.Mc
