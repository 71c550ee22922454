/- The executor's steps as a calculus of postconditions (2): the machine. -/
import Derived.Test.YthhgeodgfbhkdaaAxRa
set_option linter.unusedVariables false
set_option linter.unusedSimpArgs false
set_option linter.unusedSectionVars false
namespace Go.AX.Mc
open Go.AX

abbrev t (n : Nat) : Ar := .t (pa n)
abbrev yP (r : Tr Value → AH → Option ANext) (d bf : Nat) : AOper := ⟨r, some (pa d), none, .pure, bf⟩
abbrev yR (r : Tr Value → AH → Option ANext) (d bf : Nat) : AOper := ⟨r, some (pa d), none, .read, bf⟩
abbrev yN (r : Tr Value → AH → Option ANext) (d bf : Nat) : AOper := ⟨r, some (pa d), none, .new, bf⟩
abbrev yE (r : Tr Value → AH → Option ANext) (d bf : Nat) : AOper := ⟨r, some (pa d), none, .eff, bf⟩
abbrev yPg (r : Tr Value → AH → Option ANext) (d g : Nat) (b : Bool) (bf : Nat) : AOper := ⟨r, some (pa d), some (pa g, b), .pure, bf⟩
abbrev yRg (r : Tr Value → AH → Option ANext) (d g : Nat) (b : Bool) (bf : Nat) : AOper := ⟨r, some (pa d), some (pa g, b), .read, bf⟩
abbrev yNg (r : Tr Value → AH → Option ANext) (d g : Nat) (b : Bool) (bf : Nat) : AOper := ⟨r, some (pa d), some (pa g, b), .new, bf⟩
abbrev yEg (r : Tr Value → AH → Option ANext) (d g : Nat) (b : Bool) (bf : Nat) : AOper := ⟨r, some (pa d), some (pa g, b), .eff, bf⟩
abbrev zE (r : Tr Value → AH → Option ANext) (bf : Nat) : AOper := ⟨r, none, none, .eff, bf⟩
abbrev zP (r : Tr Value → AH → Option ANext) (bf : Nat) : AOper := ⟨r, none, none, .pure, bf⟩
abbrev zEg (r : Tr Value → AH → Option ANext) (g : Nat) (b : Bool) (bf : Nat) : AOper := ⟨r, none, some (pa g, b), .eff, bf⟩

abbrev QF := AEx → Tr Value → List Nat → AH → Prop
inductive KF where
  | seq (b : ACode)
  | blk (id : Nat)

variable (T : FT) (env : List Lp) (r : Bool)

/-- a call. -/
def C (f : FuncId) (args : List Value) (H : AH) (Q : AEnd → AH → Prop) : Prop := ∃ n x H', aCall T n env f args H = some (x, H') ∧ Q x H'
/-- a round. -/
def R (l : Nat) (args : List Value) (H : AH) (Q : AEnd → AH → Prop) : Prop := ∃ n x H', aRound (aCode T n) env l args H = some (x, H') ∧ Q x H'
def W (c : ACode) (fr : Tr Value) (df : List Nat) (h : AH) (Q : QF) : Prop := ∃ n e st', aCode T n env r c ⟨fr, df, h⟩ = some (e, st') ∧ Q e st'.fr st'.df st'.h
/-- what is left to do. -/
def MK : List KF → QF → QF
  | [], Q => Q
  | .seq b :: k, Q => fun e fr df h => match e with
    | .normal => W T env r b fr df h (MK k Q)
    | e => MK k Q e fr df h
  | .blk id :: k, Q => fun e fr df h => match e with
    | .exit j => if j = id then MK k Q .normal fr df h else MK k Q (.exit j) fr df h
    | e => MK k Q e fr df h
def X (c : ACode) (k : List KF) (fr : Tr Value) (df : List Nat) (h : AH) (Q : QF) : Prop := W T env r c fr df h (MK T env r k Q)
def Kt (k : List KF) (e : AEx) (fr : Tr Value) (df : List Nat) (h : AH) (Q : QF) : Prop := MK T env r k Q e fr df h
def O (l : List AOper) (k : List KF) (fr : Tr Value) (df : List Nat) (h : AH) (Q : QF) : Prop :=
  ∃ n e st', aOps (aBody T (aCode T n env false)) (aRound (aCode T n) env) l ⟨fr, df, h⟩ = some (e, st') ∧ Kt T env r k e st'.fr st'.df st'.h Q
/-- behind a call. -/
def CK (d : Option Pa) (l : List AOper) (k : List KF) (fr : Tr Value) (df : List Nat) (Q : QF) (y : AEnd) (h : AH) : Prop :=
  match y with
  | .ret v => O T env r l k (putT fr d v) df h Q
  | .panic ch => Kt T env r k (.panic ch) fr df h Q
/-- behind an operation's run. -/
def V (x : Option ANext) (d : Option Pa) (l : List AOper) (k : List KF) (fr : Tr Value) (df : List Nat) (Q : QF) : Prop :=
  match x with
  | some (.val v h) => O T env r l k (putT fr d v) df h Q
  | some (.panic v h) => Kt T env r k (.panic [{ v, recovered := false }]) fr df h Q
  | some (.enter f args h) => C T env f args h (CK T env r d l k fr df Q)
  | some (.round j args h) => R T env j args h (CK T env r d l k fr df Q)
  | none => False
/-- an operation under a guard. -/
def Gd (v : Value) (b : Bool) (run : Tr Value → AH → Option ANext) (d : Option Pa) (l : List AOper) (k : List KF) (fr : Tr Value) (df : List Nat) (h : AH) (Q : QF) : Prop :=
  match v with
  | .bool c => if c = b then V T env r (run fr h) d l k fr df Q else O T env r l k (putT fr d undef) df h Q
  | .tuple _ => O T env r l k (putT fr d undef) df h Q
  | _ => False
def Cd (v : Value) (a b : ACode) (k : List KF) (fr : Tr Value) (df : List Nat) (h : AH) (Q : QF) : Prop :=
  match v with
  | .bool true => X T env r a k fr df h Q
  | .bool false => X T env r b k fr df h Q
  | _ => False

variable {T env r}

theorem W_mono {c : ACode} {fr : Tr Value} {df : List Nat} {h : AH} {Q Q' : QF} (k : ∀ e fr df h, Q e fr df h → Q' e fr df h) : W T env r c fr df h Q → W T env r c fr df h Q'
  | ⟨n, e, st', h1, h2⟩ => ⟨n, e, st', h1, k _ _ _ _ h2⟩
theorem C_mono {f : FuncId} {args : List Value} {H : AH} {Q Q' : AEnd → AH → Prop} (k : ∀ x H', Q x H' → Q' x H') : C T env f args H Q → C T env f args H Q'
  | ⟨n, x, H', h1, h2⟩ => ⟨n, x, H', h1, k _ _ h2⟩
theorem R_mono {f : Nat} {args : List Value} {H : AH} {Q Q' : AEnd → AH → Prop} (k : ∀ x H', Q x H' → Q' x H') : R T env f args H Q → R T env f args H Q'
  | ⟨n, x, H', h1, h2⟩ => ⟨n, x, H', h1, k _ _ h2⟩

theorem C_det {f : FuncId} {args : List Value} {H : AH} {x : AEnd} {H' : AH} (h : C T env f args H fun y h => y = x ∧ h = H') (Q : AEnd → AH → Prop) : C T env f args H Q = Q x H' := by
  obtain ⟨n, y, h', h1, rfl, rfl⟩ := h
  refine propext ⟨fun ⟨m, z, h'', h2, h3⟩ => ?_, fun h3 => ⟨n, y, h', h1, h3⟩⟩
  have e1 := aCall_mono (Nat.le_max_left n m) _ _ _ _ h1
  have e2 := aCall_mono (Nat.le_max_right n m) _ _ _ _ h2
  rw [e1] at e2
  cases e2
  exact h3

theorem K_nil (e : AEx) (fr : Tr Value) (df : List Nat) (h : AH) (Q : QF) : Kt T env r [] e fr df h Q = Q e fr df h := rfl
theorem K_seq (b : ACode) (k : List KF) (fr : Tr Value) (df : List Nat) (h : AH) (Q : QF) : Kt T env r (.seq b :: k) .normal fr df h Q = X T env r b k fr df h Q := rfl
theorem K_seq_ret (b : ACode) (k : List KF) (fr : Tr Value) (df : List Nat) (h : AH) (Q : QF) : Kt T env r (.seq b :: k) .ret fr df h Q = Kt T env r k .ret fr df h Q := rfl
theorem K_seq_exit (b : ACode) (k : List KF) (j : Nat) (fr : Tr Value) (df : List Nat) (h : AH) (Q : QF) : Kt T env r (.seq b :: k) (.exit j) fr df h Q = Kt T env r k (.exit j) fr df h Q := rfl
theorem K_blk (j : Nat) (k : List KF) (fr : Tr Value) (df : List Nat) (h : AH) (Q : QF) : Kt T env r (.blk j :: k) .normal fr df h Q = Kt T env r k .normal fr df h Q := rfl
theorem K_blk_ret (j : Nat) (k : List KF) (fr : Tr Value) (df : List Nat) (h : AH) (Q : QF) : Kt T env r (.blk j :: k) .ret fr df h Q = Kt T env r k .ret fr df h Q := rfl
theorem K_blk_exit (j i : Nat) (k : List KF) (fr : Tr Value) (df : List Nat) (h : AH) (Q : QF) : Kt T env r (.blk j :: k) (.exit i) fr df h Q = if i = j then Kt T env r k .normal fr df h Q else Kt T env r k (.exit i) fr df h Q := rfl

theorem X_seq (a b : ACode) (k : List KF) (fr : Tr Value) (df : List Nat) (h : AH) (Q : QF) : X T env r (.seq a b) k fr df h Q = X T env r a (.seq b :: k) fr df h Q := by
  refine propext ⟨fun ⟨n, e, st', h1, h2⟩ => ?_, fun ⟨n, e, st1, h1, h2⟩ => ?_⟩
  · cases n with
    | zero => cases h1
    | succ n =>
      change cSeq (aCode T n env r b) (aCode T n env r a ⟨fr, df, h⟩) = _ at h1
      generalize ha : aCode T n env r a ⟨fr, df, h⟩ = x at h1
      cases x with
      | none => cases h1
      | some x =>
        obtain ⟨e1, st1⟩ := x
        refine ⟨n, e1, st1, ha, ?_⟩
        cases e1 with
        | normal => exact ⟨n, e, st', h1, h2⟩
        | _ => cases h1; exact h2
  · cases e with
    | normal =>
      obtain ⟨m, e', st', h3, h4⟩ := h2
      refine ⟨max n m + 1, e', st', ?_, h4⟩
      change cSeq (aCode T (max n m) env r b) (aCode T (max n m) env r a ⟨fr, df, h⟩) = _
      rw [aCode_mono (Nat.le_max_left n m) _ _ _ _ _ h1]
      exact aCode_mono (Nat.le_max_right n m) _ _ _ _ _ h3
    | _ =>
      refine ⟨n + 1, _, st1, ?_, h2⟩
      change cSeq (aCode T n env r b) (aCode T n env r a ⟨fr, df, h⟩) = _
      rw [h1]; rfl

theorem X_loop (c : ACode) (k : List KF) (fr : Tr Value) (df : List Nat) (h : AH) (Q : QF) : X T env r (.loop c) k fr df h Q = X T env r c (.seq (.loop c) :: k) fr df h Q := by
  rw [← X_seq]
  refine propext ⟨fun ⟨n, e, st', h1, h2⟩ => ?_, fun ⟨n, e, st', h1, h2⟩ => ?_⟩
  · cases n with
    | zero => cases h1
    | succ n => exact ⟨n + 1, e, st', h1, h2⟩
  · cases n with
    | zero => cases h1
    | succ n => exact ⟨n + 1, e, st', h1, h2⟩

theorem X_leaf {c : ACode} {e : AEx} (hc : ∀ n st, aCode T (n + 1) env r c st = some (e, st)) (k : List KF) (fr : Tr Value) (df : List Nat) (h : AH) (Q : QF) : X T env r c k fr df h Q = Kt T env r k e fr df h Q := by
  refine propext ⟨fun ⟨n, e', st', h1, h2⟩ => ?_, fun h2 => ⟨1, e, ⟨fr, df, h⟩, hc 0 _, h2⟩⟩
  cases n with
  | zero => cases h1
  | succ n =>
    rw [hc] at h1
    cases h1
    exact h2
theorem X_skip (k : List KF) (fr : Tr Value) (df : List Nat) (h : AH) (Q : QF) : X T env r .skip k fr df h Q = Kt T env r k .normal fr df h Q := X_leaf (fun _ _ => rfl) ..
theorem X_ret (k : List KF) (fr : Tr Value) (df : List Nat) (h : AH) (Q : QF) : X T env r .ret k fr df h Q = Kt T env r k .ret fr df h Q := X_leaf (fun _ _ => rfl) ..
theorem X_exit (j : Nat) (k : List KF) (fr : Tr Value) (df : List Nat) (h : AH) (Q : QF) : X T env r (.exit j) k fr df h Q = Kt T env r k (.exit j) fr df h Q := X_leaf (fun _ _ => rfl) ..
theorem X_scope (c : ACode) (k : List KF) (fr : Tr Value) (df : List Nat) (h : AH) (Q : QF) : X T env r (.scope c) k fr df h Q = X T env r c k fr df h Q := by
  refine propext ⟨fun ⟨n, e, st', h1, h2⟩ => ?_, fun ⟨n, e, st', h1, h2⟩ => ⟨n + 1, e, st', h1, h2⟩⟩
  cases n with
  | zero => cases h1
  | succ n => exact ⟨n, e, st', h1, h2⟩
theorem X_block (j : Nat) (c : ACode) (k : List KF) (fr : Tr Value) (df : List Nat) (h : AH) (Q : QF) : X T env r (.block j c) k fr df h Q = X T env r c (.blk j :: k) fr df h Q := by
  refine propext ⟨fun ⟨n, e, st', h1, h2⟩ => ?_, fun ⟨n, e, st', h1, h2⟩ => ?_⟩
  · cases n with
    | zero => cases h1
    | succ n =>
      change cBlock j (aCode T n env r c ⟨fr, df, h⟩) = _ at h1
      generalize ha : aCode T n env r c ⟨fr, df, h⟩ = x at h1
      cases x with
      | none => cases h1
      | some x =>
        obtain ⟨e1, st1⟩ := x
        refine ⟨n, e1, st1, ha, ?_⟩
        cases e1 with
        | exit i =>
          change (if i = j then MK T env r k Q .normal st1.fr st1.df st1.h else MK T env r k Q (.exit i) st1.fr st1.df st1.h)
          change (bif Nat.beq i j then some (AEx.normal, st1) else some (AEx.exit i, st1)) = _ at h1
          by_cases hi : i = j
          · rw [if_pos hi]; rw [hi, show Nat.beq j j = true from Nat.beq_refl j] at h1; cases h1; exact h2
          · rw [if_neg hi]; rw [nbeq hi] at h1; cases h1; exact h2
        | _ => cases h1; exact h2
  · cases e with
    | exit i =>
      change (if i = j then _ else _) at h2
      by_cases hi : i = j
      · rw [if_pos hi] at h2
        refine ⟨n + 1, .normal, st', ?_, h2⟩
        change cBlock j (aCode T n env r c ⟨fr, df, h⟩) = _
        rw [h1]
        change (bif Nat.beq i j then some (AEx.normal, st') else some (.exit i, st')) = _
        rw [hi, show Nat.beq j j = true from Nat.beq_refl j]; rfl
      · rw [if_neg hi] at h2
        refine ⟨n + 1, .exit i, st', ?_, h2⟩
        change cBlock j (aCode T n env r c ⟨fr, df, h⟩) = _
        rw [h1]
        change (bif Nat.beq i j then some (AEx.normal, st') else some (.exit i, st')) = _
        rw [nbeq hi]; rfl
    | _ =>
      refine ⟨n + 1, _, st', ?_, h2⟩
      change cBlock j (aCode T n env r c ⟨fr, df, h⟩) = _
      rw [h1]; rfl
theorem X_cond (x : Ar) (a b : ACode) (k : List KF) (fr : Tr Value) (df : List Nat) (h : AH) (Q : QF) : X T env r (.cond x a b) k fr df h Q = Cd T env r (ev fr x) a b k fr df h Q := by
  refine propext ⟨fun ⟨n, e, st', h1, h2⟩ => ?_, fun h1 => ?_⟩
  · cases n with
    | zero => cases h1
    | succ n =>
      change cCond (aCode T n env r) (ev fr x) a b ⟨fr, df, h⟩ = _ at h1
      unfold cCond at h1
      unfold Cd
      split at h1
      · rename_i hx; rw [hx]; exact ⟨n, e, st', h1, h2⟩
      · rename_i hx; rw [hx]; exact ⟨n, e, st', h1, h2⟩
      · cases h1
  · unfold Cd at h1
    split at h1
    · rename_i hx
      obtain ⟨n, e, st', h1, h2⟩ := h1
      refine ⟨n + 1, e, st', ?_, h2⟩
      change cCond (aCode T n env r) (ev fr x) a b ⟨fr, df, h⟩ = _
      rw [hx]; exact h1
    · rename_i hx
      obtain ⟨n, e, st', h1, h2⟩ := h1
      refine ⟨n + 1, e, st', ?_, h2⟩
      change cCond (aCode T n env r) (ev fr x) a b ⟨fr, df, h⟩ = _
      rw [hx]; exact h1
    · cases h1
theorem X_region (l : List AOper) (k : List KF) (fr : Tr Value) (df : List Nat) (h : AH) (Q : QF) : X T env r (.region l) k fr df h Q = O T env r l k fr df h Q := by
  refine propext ⟨fun ⟨n, e, st', h1, h2⟩ => ?_, fun ⟨n, e, st', h1, h2⟩ => ⟨n + 1, e, st', h1, h2⟩⟩
  cases n with
  | zero => cases h1
  | succ n => exact ⟨n, e, st', h1, h2⟩

theorem O_nil (k : List KF) (fr : Tr Value) (df : List Nat) (h : AH) (Q : QF) : O T env r [] k fr df h Q = Kt T env r k .normal fr df h Q := by
  refine propext ⟨fun ⟨n, e, st', h1, h2⟩ => ?_, fun h2 => ⟨0, .normal, ⟨fr, df, h⟩, rfl, h2⟩⟩
  cases h1
  exact h2

theorem O_run {o : AOper} {l : List AOper} {k : List KF} {fr : Tr Value} {df : List Nat} {h : AH} {Q : QF} (hw : want fr o.guard = true) : O T env r (o :: l) k fr df h Q = V T env r (o.run fr h) o.dst l k fr df Q := by
  have E : ∀ n, aOps (aBody T (aCode T n env false)) (aRound (aCode T n) env) (o :: l) ⟨fr, df, h⟩ = oNext (aOps (aBody T (aCode T n env false)) (aRound (aCode T n) env) l) (aDo (aBody T (aCode T n env false)) (aRound (aCode T n) env) o ⟨fr, df, h⟩) := by
    intro n; rw [aOps_cons]; simp only [hw, cond_true]
  have hl : ∀ {n m}, n ≤ m → LeX (aOps (aBody T (aCode T n env false)) (aRound (aCode T n) env) l) (aOps (aBody T (aCode T m env false)) (aRound (aCode T m) env) l) :=
    fun h => aOps_mono (aCall_mono h) (round_mono h) l
  refine propext ⟨fun ⟨n, e, st', h1, h2⟩ => ?_, fun h1 => ?_⟩
  · rw [E] at h1
    unfold aDo at h1
    unfold V
    split at h1
    · rename_i v h' hr; rw [hr]; exact ⟨n, e, st', h1, h2⟩
    · rename_i v h' hr; rw [hr]; cases h1; exact h2
    · rename_i f args h' hr
      rw [hr]
      split at h1
      · rename_i v h'' hc; exact ⟨n, _, _, hc, n, e, st', h1, h2⟩
      · rename_i ch h'' hc; cases h1; exact ⟨n, _, _, hc, h2⟩
      · cases h1
    · rename_i f args h' hr
      rw [hr]
      split at h1
      · rename_i v h'' hc; exact ⟨n, _, _, hc, n, e, st', h1, h2⟩
      · rename_i ch h'' hc; cases h1; exact ⟨n, _, _, hc, h2⟩
      · cases h1
    · cases h1
  · unfold V at h1
    split at h1
    · rename_i v h' hr
      obtain ⟨n, e, st', h1, h2⟩ := h1
      refine ⟨n, e, st', ?_, h2⟩
      rw [E]; unfold aDo; simp only [hr]; exact h1
    · rename_i v h' hr
      refine ⟨0, .panic [{ v, recovered := false }], ⟨fr, df, h'⟩, ?_, h1⟩
      rw [E]; unfold aDo; simp only [hr]; rfl
    · rename_i f args h' hr
      obtain ⟨n, y, H', h3, h4⟩ := h1
      cases y with
      | ret v =>
        obtain ⟨m, e, st', h1, h2⟩ := h4
        refine ⟨max n m, e, st', ?_, h2⟩
        have := aCall_mono (T := T) (Nat.le_max_left n m) _ _ _ _ h3
        rw [aCall] at this
        rw [E]; unfold aDo; simp only [hr, this]
        exact hl (Nat.le_max_right n m) _ _ h1
      | panic ch =>
        refine ⟨n, .panic ch, ⟨fr, df, H'⟩, ?_, h4⟩
        rw [aCall] at h3
        rw [E]; unfold aDo; simp only [hr, h3]; rfl
    · rename_i f args h' hr
      obtain ⟨n, y, H', h3, h4⟩ := h1
      cases y with
      | ret v =>
        obtain ⟨m, e, st', h1, h2⟩ := h4
        refine ⟨max n m, e, st', ?_, h2⟩
        have := round_mono (T := T) (Nat.le_max_left n m) _ _ _ _ h3
        rw [E]; unfold aDo; simp only [hr, this]
        exact hl (Nat.le_max_right n m) _ _ h1
      | panic ch =>
        refine ⟨n, .panic ch, ⟨fr, df, H'⟩, ?_, h4⟩
        rw [E]; unfold aDo; simp only [hr, h3]; rfl
    · cases h1

theorem O_skip {o : AOper} {l : List AOper} {k : List KF} {fr : Tr Value} {df : List Nat} {h : AH} {Q : QF} (hw : want fr o.guard = false) (hk : known fr o.guard = true) : O T env r (o :: l) k fr df h Q = O T env r l k (putT fr o.dst undef) df h Q := by
  have E : ∀ n, aOps (aBody T (aCode T n env false)) (aRound (aCode T n) env) (o :: l) ⟨fr, df, h⟩ = aOps (aBody T (aCode T n env false)) (aRound (aCode T n) env) l ⟨putT fr o.dst undef, df, h⟩ := by
    intro n; rw [aOps_cons]; simp only [hw, hk, cond_true, cond_false]
  unfold O
  simp only [E]

theorem O_P (run : Tr Value → AH → Option ANext) (d : Option Pa) (kd : OpKind) (bf : Nat) (l : List AOper) (k : List KF) (fr : Tr Value) (df : List Nat) (h : AH) (Q : QF) :
    O T env r (⟨run, d, none, kd, bf⟩ :: l) k fr df h Q = V T env r (run fr h) d l k fr df Q := O_run rfl
theorem O_G (run : Tr Value → AH → Option ANext) (d : Option Pa) (g : Pa) (b : Bool) (kd : OpKind) (bf : Nat) (l : List AOper) (k : List KF) (fr : Tr Value) (df : List Nat) (h : AH) (Q : QF) :
    O T env r (⟨run, d, some (g, b), kd, bf⟩ :: l) k fr df h Q = Gd T env r (tmp fr g) b run d l k fr df h Q := by
  unfold Gd tmp
  cases hg : fr.get g with
  | none => exact O_skip (by simp only [want, hg]) (by simp only [known, hg])
  | some v =>
    have F : (∀ c, v ≠ .bool c) → (∀ c, v ≠ .tuple c) → O T env r (⟨run, d, some (g, b), kd, bf⟩ :: l) k fr df h Q = False := by
      intro h1 h2
      refine propext ⟨fun ⟨n, e, st', h3, _⟩ => ?_, False.elim⟩
      rw [aOps_cons] at h3
      have w1 : want fr (some (g, b)) = false := by unfold want; simp only [hg]; cases v <;> first | rfl | exact absurd rfl (h1 _)
      have w2 : known fr (some (g, b)) = false := by unfold known; simp only [hg]; cases v <;> first | rfl | exact absurd rfl (h1 _) | exact absurd rfl (h2 _)
      simp only [w1, w2, cond_false] at h3
      cases h3
    cases v with
    | bool c =>
      simp only
      by_cases hc : c = b
      · rw [if_pos hc]; exact O_run (by simp [want, hg, hc])
      · rw [if_neg hc]; exact O_skip (by simp [want, hg, hc]) (by simp only [known, hg])
    | tuple c => exact O_skip (by simp only [want, hg]) (by simp only [known, hg])
    | _ => exact F (fun _ => by simp) (fun _ => by simp)

theorem V_val (v : Value) (d : Pa) (l : List AOper) (k : List KF) (fr : Tr Value) (df : List Nat) (h : AH) (Q : QF) : V T env r (some (.val v h)) (some d) l k fr df Q = O T env r l k (fr.put d v) df h Q := rfl
theorem V_val0 (v : Value) (l : List AOper) (k : List KF) (fr : Tr Value) (df : List Nat) (h : AH) (Q : QF) : V T env r (some (.val v h)) none l k fr df Q = O T env r l k fr df h Q := rfl
theorem V_enter (f : FuncId) (args : List Value) (d : Option Pa) (l : List AOper) (k : List KF) (fr : Tr Value) (df : List Nat) (h : AH) (Q : QF) : V T env r (some (.enter f args h)) d l k fr df Q = C T env f args h (CK T env r d l k fr df Q) := rfl
theorem V_round (f : Nat) (args : List Value) (d : Option Pa) (l : List AOper) (k : List KF) (fr : Tr Value) (df : List Nat) (h : AH) (Q : QF) : V T env r (some (.round f args h)) d l k fr df Q = R T env f args h (CK T env r d l k fr df Q) := rfl
theorem CK_ret (v : Value) (d : Pa) (l : List AOper) (k : List KF) (fr : Tr Value) (df : List Nat) (h : AH) (Q : QF) : CK T env r (some d) l k fr df Q (.ret v) h = O T env r l k (fr.put d v) df h Q := rfl
theorem CK_ret0 (v : Value) (l : List AOper) (k : List KF) (fr : Tr Value) (df : List Nat) (h : AH) (Q : QF) : CK T env r none l k fr df Q (.ret v) h = O T env r l k fr df h Q := rfl
theorem Gd_tt (run : Tr Value → AH → Option ANext) (d : Option Pa) (l : List AOper) (k : List KF) (fr : Tr Value) (df : List Nat) (h : AH) (Q : QF) : Gd T env r (.bool true) true run d l k fr df h Q = V T env r (run fr h) d l k fr df Q := rfl
theorem Gd_ff (run : Tr Value → AH → Option ANext) (d : Option Pa) (l : List AOper) (k : List KF) (fr : Tr Value) (df : List Nat) (h : AH) (Q : QF) : Gd T env r (.bool false) false run d l k fr df h Q = V T env r (run fr h) d l k fr df Q := rfl
theorem Gd_tf (run : Tr Value → AH → Option ANext) (d : Pa) (l : List AOper) (k : List KF) (fr : Tr Value) (df : List Nat) (h : AH) (Q : QF) : Gd T env r (.bool true) false run (some d) l k fr df h Q = O T env r l k (fr.put d undef) df h Q := rfl
theorem Gd_ft (run : Tr Value → AH → Option ANext) (d : Pa) (l : List AOper) (k : List KF) (fr : Tr Value) (df : List Nat) (h : AH) (Q : QF) : Gd T env r (.bool false) true run (some d) l k fr df h Q = O T env r l k (fr.put d undef) df h Q := rfl
theorem Gd_u (b : Bool) (run : Tr Value → AH → Option ANext) (d : Pa) (l : List AOper) (k : List KF) (fr : Tr Value) (df : List Nat) (h : AH) (Q : QF) : Gd T env r undef b run (some d) l k fr df h Q = O T env r l k (fr.put d undef) df h Q := rfl
theorem Gd_split {c b : Bool} {run : Tr Value → AH → Option ANext} {d : Option Pa} {l : List AOper} {k : List KF} {fr : Tr Value} {df : List Nat} {h : AH} {Q : QF}
    (h1 : c = true → Gd T env r (.bool true) b run d l k fr df h Q) (h2 : c = false → Gd T env r (.bool false) b run d l k fr df h Q) : Gd T env r (.bool c) b run d l k fr df h Q := by
  cases c
  · exact h2 rfl
  · exact h1 rfl
theorem Cd_true (a b : ACode) (k : List KF) (fr : Tr Value) (df : List Nat) (h : AH) (Q : QF) : Cd T env r (.bool true) a b k fr df h Q = X T env r a k fr df h Q := rfl
theorem Cd_false (a b : ACode) (k : List KF) (fr : Tr Value) (df : List Nat) (h : AH) (Q : QF) : Cd T env r (.bool false) a b k fr df h Q = X T env r b k fr df h Q := rfl
theorem Cd_split {c : Bool} {a b : ACode} {k : List KF} {fr : Tr Value} {df : List Nat} {h : AH} {Q : QF}
    (h1 : c = true → X T env r a k fr df h Q) (h2 : c = false → X T env r b k fr df h Q) : Cd T env r (.bool c) a b k fr df h Q := by
  cases c
  · exact h2 rfl
  · exact h1 rfl

/-! ## Functions -/
/-- the heap at a call's start. -/
def _root_.Go.AX.AH.now (H : AH) : AH := ⟨H.bl, H.nx, H.nx⟩

/-- a function's end. -/
def Fin (H : AH) (rs : List ARes) (Q : AEnd → AH → Prop) : QF := fun e fr df h =>
  match e with
  | .normal | .ret => ∃ x H', aEnd H ⟨0, rs, .skip⟩ ⟨fr, df, h⟩ = some (x, H') ∧ Q x H'
  | .panic ch => ∃ h', leave df h = some h' ∧ Q (.panic ch) ⟨h'.bl, h'.nx, min H.lo h'.lo⟩
  | _ => False

theorem C_fn {f : FuncId} {fn : AFn} (hT : T f = some fn) {args : List Value} (hn : args.length = fn.nargs) (H : AH) (Q : AEnd → AH → Prop) :
    C T env f args H Q = X T env false fn.body [] (Tr.e.puts 0 args) [] H.now (Fin H fn.results Q) := by
  have E : ∀ n, aCall T n env f args H = (match aCode T n env false fn.body ⟨Tr.e.puts 0 args, [], H.now⟩ with
      | some (.normal, st) | some (.ret, st) => aEnd H fn st
      | some (.panic ch, st) => match leave st.df st.h with
        | some h => some (.panic ch, ⟨h.bl, h.nx, min H.lo h.lo⟩)
        | none => none
      | _ => none) := by
    intro n
    unfold aCall aBody
    simp only [hT, hn, Nat.beq_refl, cond_true]
    rfl
  refine propext ⟨fun ⟨n, x, H', h1, h2⟩ => ?_, fun ⟨n, e, st, h1, h2⟩ => ?_⟩
  · rw [E] at h1
    split at h1
    · rename_i st hc; exact ⟨n, _, st, hc, x, H', h1, h2⟩
    · rename_i st hc; exact ⟨n, _, st, hc, x, H', h1, h2⟩
    · rename_i ch st hc
      split at h1
      · rename_i h hl; cases h1; exact ⟨n, _, st, hc, h, hl, h2⟩
      · cases h1
    · cases h1
  · cases e with
    | normal => obtain ⟨x, H', h3, h4⟩ := h2; exact ⟨n, x, H', by rw [E, h1]; exact h3, h4⟩
    | ret => obtain ⟨x, H', h3, h4⟩ := h2; exact ⟨n, x, H', by rw [E, h1]; exact h3, h4⟩
    | panic ch => obtain ⟨h', h3, h4⟩ := h2; exact ⟨n, _, _, by rw [E, h1]; simp only [h3], h4⟩
    | exit j => exact h2.elim

end Go.AX.Mc
