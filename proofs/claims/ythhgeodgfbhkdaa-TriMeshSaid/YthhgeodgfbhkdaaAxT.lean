/- The abstract executor 'AX', soundness (16): what an operation looks at. -/
import Derived.Test.YthhgeodgfbhkdaaAxQ
set_option linter.unusedVariables false
set_option linter.unusedSimpArgs false
set_option linter.unusedSectionVars false
namespace Go.AX
variable {P : Program} {X : XT}

theorem veq_eq : ∀ (n : Nat) {a b : Value}, veq n a b = true → a = b := by
  have L : ∀ (n : Nat), (∀ {a b : Value}, veq n a b = true → a = b) → ∀ {l l' : List Value}, l.length = l'.length → (l.zip l').all (fun x => veq n x.1 x.2) = true → l = l' := by
    intro n ih l
    induction l with
    | nil => intro l' hl _; cases l' with | nil => rfl | cons _ _ => cases hl
    | cons v l ihl =>
      intro l' hl h
      cases l' with
      | nil => cases hl
      | cons v' l' =>
        simp only [List.zip_cons_cons, List.all_cons, Bool.and_eq_true] at h
        rw [ih h.1, ihl (by simpa using hl) h.2]
  have A : ∀ (n : Nat), (∀ {a b : Value}, veq n a b = true → a = b) → ∀ {l l' : Array Value}, (l.size == l'.size) = true → (l.toList.zip l'.toList).all (fun x => veq n x.1 x.2) = true → l = l' := by
    intro n ih l l' hs h
    have := L n ih (l := l.toList) (l' := l'.toList) (by simpa using hs) h
    cases l; cases l'; simp_all
  intro n
  induction n with
  | zero =>
    intro a b h
    cases a <;> cases b <;> simp only [veq, Bool.and_eq_true, beq_iff_eq] at h <;> first | (cases h; done) | skip
    case int.int => rw [keq_eq h.1, h.2]
    case slice.slice => rw [h.1.1, h.1.2, h.2]
    case string.string a b => obtain ⟨⟨a⟩⟩ := a; obtain ⟨⟨b⟩⟩ := b; simp at h; rw [h]
    all_goals first | rfl | (simp only [h]) | (exact absurd h (by simp))
  | succ n ih =>
    intro a b h
    cases a <;> cases b <;> simp only [veq, Bool.and_eq_true, beq_iff_eq] at h <;> first | (cases h; done) | skip
    case int.int => rw [keq_eq h.1, h.2]
    case slice.slice => rw [h.1.1, h.1.2, h.2]
    case string.string a b => obtain ⟨⟨a⟩⟩ := a; obtain ⟨⟨b⟩⟩ := b; simp at h; rw [h]
    case iface.iface => rw [h.1, ih h.2]
    case agg.agg => rw [A n ih (by simpa using h.1) h.2]
    case tuple.tuple => rw [A n ih (by simpa using h.1) h.2]
    case func.func => rw [h.1.1.1.1, A n ih (by simpa using h.1.1.1.2) h.1.2, A n ih (by simpa using h.1.1.2) h.2]
    all_goals first | rfl | (simp only [h]) | (exact absurd h (by simp))

/-! ## Operands -/
def Agree (fr fr' : Tr Value) (x : Operand) : Prop := ∀ t, x = .tmp t → tmp fr (pa t) = tmp fr' (pa t)
variable {fr fr' : Tr Value}
theorem ev_agree {x : Operand} {r : Ar} (h : arOf x = some r) (ha : Agree fr fr' x) : ev fr r = ev fr' r := by
  cases x with
  | tmp t => simp only [arOf] at h; cases h; exact ha t rfl
  | const v =>
    simp only [arOf] at h
    cases hc : clo 4 v <;> rw [hc] at h
    · cases h
    · cases h; rfl
  | func f => simp only [arOf] at h; cases h; rfl
  | global g => simp [arOf] at h
theorem evs_agree : ∀ {l : List Operand} {r : List Ar}, arsOf l = some r → (∀ x ∈ l, Agree fr fr' x) → evs fr r = evs fr' r
  | [], r, h, _ => by simp only [arsOf] at h; cases h; rfl
  | x :: l, r, h, ha => by
    simp only [arsOf] at h
    split at h
    · rename_i y ys h1 h2
      cases h
      simp only [evs]
      rw [ev_agree h1 (ha x (by simp)), evs_agree h2 fun y hy => ha y (by simp [hy])]
    · cases h
theorem evO_agree {x : Option Operand} {r : Option Ar} (h : arO x = some r) (ha : ∀ y, x = some y → Agree fr fr' y) : evO fr r = evO fr' r := by
  cases x with
  | none => simp only [arO] at h; cases h; rfl
  | some x =>
    simp only [arO] at h
    split at h
    · rename_i y hy; cases h; simp only [evO]; rw [ev_agree hy (ha x rfl)]
    · cases h
theorem evP_agreeS {fs : Array Field} : ∀ {l : List (Nat × Operand)} {r : List (Nat × Nat × Ar)}, partsS P fs l = some r → (∀ x ∈ l, Agree fr fr' x.2) → evP fr r = evP fr' r
  | [], r, h, _ => by simp only [partsS] at h; cases h; rfl
  | (i, x) :: l, r, h, ha => by
    simp only [partsS] at h
    split at h
    · split at h
      · rename_i n y ys h1 h2 h3
        cases h
        simp only [evP]
        rw [ev_agree h2 (ha (i, x) (by simp)), evP_agreeS h3 fun y hy => ha y (by simp [hy])]
      · cases h
    · cases h
theorem evP_agreeA {n : Nat} : ∀ {l : List (Nat × Operand)} {r : List (Nat × Nat × Ar)}, partsA n l = some r → (∀ x ∈ l, Agree fr fr' x.2) → evP fr r = evP fr' r
  | [], r, h, _ => by simp only [partsA] at h; cases h; rfl
  | (i, x) :: l, r, h, ha => by
    simp only [partsA] at h
    split at h
    · rename_i y ys h2 h3
      cases h
      simp only [evP]
      rw [ev_agree h2 (ha (i, x) (by simp)), evP_agreeA h3 fun y hy => ha y (by simp [hy])]
    · cases h

/-- how an operation made ready uses frame and heap: the frame by its operands alone; the heap not at all, or reading, or laying one block. -/
structure Uses (fr fr' : Tr Value) (k : OpKind) (run : Tr Value → AH → Option ANext) : Prop where
  loc : ∀ H, run fr H = run fr' H
  pure : k = .pure → ∀ H v h, run fr H = some (.val v h) → h = H ∧ ∀ H2, run fr H2 = some (.val v H2)
  read : k = .read → ∀ H v h, run fr H = some (.val v h) → h = H
  new : k = .new → ∀ H v h, run fr H = some (.val v h) → ∃ b, h = H.push b

theorem val?_uses {o : Option Value} {H : AH} {v : Value} {h : AH} (e : val? H o = some (.val v h)) : o = some v ∧ h = H := by
  obtain ⟨v', h1, h2⟩ := val?_some e
  cases h2
  exact ⟨h1, rfl⟩

theorem Uses.pureV {run : Tr Value → AH → Option ANext} (f : Tr Value → Option Value) (hr : ∀ fr H, run fr H = val? H (f fr)) (he : f fr = f fr') : Uses fr fr' .pure run where
  loc H := by rw [hr, hr, he]
  pure _ H v h e := by
    rw [hr] at e
    obtain ⟨h1, h2⟩ := val?_uses e
    exact ⟨h2, fun H2 => by rw [hr, h1]; rfl⟩
  read h := by cases h
  new h := by cases h

theorem Uses.readV {run : Tr Value → AH → Option ANext} (f : Tr Value → AH → Option Value) (hr : ∀ fr H, run fr H = val? H (f fr H)) (he : ∀ H, f fr H = f fr' H) : Uses fr fr' .read run where
  loc H := by rw [hr, hr, he]
  pure h := by cases h
  read _ H v h e := by
    rw [hr] at e
    exact (val?_uses e).2
  new h := by cases h

theorem Uses.newV {run : Tr Value → AH → Option ANext} (he : ∀ H, run fr H = run fr' H) (hn : ∀ H v h, run fr H = some (.val v h) → ∃ b, h = H.push b) : Uses fr fr' .new run where
  loc := he
  pure h := by cases h
  read h := by cases h
  new _ := hn

theorem Uses.effV {run : Tr Value → AH → Option ANext} (he : ∀ H, run fr H = run fr' H) : Uses fr fr' .eff run where
  loc := he
  pure h := by cases h
  read h := by cases h
  new h := by cases h

/-! ## Pure operations -/
structure PureAt (g : AH → Option ANext) : Prop where
  go : ∀ H v h, g H = some (.val v h) → h = H ∧ ∀ H2, g H2 = some (.val v H2)
theorem pa_none : PureAt (fun _ => none) := ⟨fun H v h e => by cases e⟩
theorem pa_val (v : Value) : PureAt (fun H => some (.val v H)) := ⟨fun H w h e => by cases e; exact ⟨rfl, fun _ => rfl⟩⟩
theorem pa_val? (o : Option Value) : PureAt (fun H => val? H o) := by
  cases o with
  | none => exact pa_none
  | some v => exact pa_val v
theorem pa_panic (v : Value) : PureAt (fun H => some (.panic v H)) := ⟨fun H w h e => by cases e⟩
theorem pa_bif {f : AH → Option ANext} (c : Bool) (h : PureAt f) : PureAt (fun H => bif c then f H else none) := by
  cases c
  · exact pa_none
  · exact h
theorem pa_bif2 {f g : AH → Option ANext} (c : Bool) (h : PureAt f) (k : PureAt g) : PureAt (fun H => bif c then f H else g H) := by
  cases c
  · exact k
  · exact h
theorem pa_ofPR (r : PR Value) : PureAt (fun H => ofPR H r) := by
  cases r with
  | ok v => exact pa_bif _ (pa_val v)
  | panic v => exact pa_bif _ (pa_panic v)
  | no => exact pa_none

theorem Uses.pureA {run : Tr Value → AH → Option ANext} (he : ∀ H, run fr H = run fr' H) (hp : PureAt (run fr)) : Uses fr fr' .pure run where
  loc := he
  pure _ := hp.go
  read h := by cases h
  new h := by cases h

theorem pa_bin' (op : BinOp) (t : TypeId) (ox oy : Operand) (nk : Option NilK) (a b : Value) : PureAt (aBin' P op t ox oy nk a b) := by
  unfold aBin'
  refine pa_bif2 _ (pa_ofPR _) ?_
  cases nk with
  | none => exact pa_none
  | some k =>
    simp only
    cases aNilEq k a b with
    | none => cases op <;> exact pa_none
    | some r => cases op <;> first | exact pa_none | exact pa_val _
theorem pa_bin (op : BinOp) (t : TypeId) (ox oy : Operand) (nk : Option NilK) (a b : Value) : PureAt (aBin P op t ox oy nk a b) := by
  unfold aBin
  split
  · rename_i k m k' n
    refine pa_bif2 _ ?_ (pa_bin' op t ox oy nk _ _)
    cases binInt op k m n with
    | none => exact pa_bin' op t ox oy nk _ _
    | some v => exact pa_val v
  · exact pa_bin' op t ox oy nk _ _

theorem pa_un (op : UnOp) (x : Ar) : PureAt (oUn P op x fr) := by
  unfold oUn
  split
  · exact pa_val _
  · exact pa_bif _ (pa_ofPR _)
theorem pa_pick (c a b : Ar) : PureAt (oPick c a b fr) := by
  unfold oPick
  split
  · exact pa_val _
  · exact pa_val _
  · exact pa_none
theorem pa_nilCheck (x : Ar) : PureAt (oNilCheck x fr) := by
  unfold oNilCheck
  split
  · exact pa_val _
  · exact pa_val _
  · exact pa_none
theorem pa_build (z : List Value) (ps : List (Nat × Nat × Ar)) : PureAt (oBuild z ps fr) := by
  unfold oBuild
  split
  · exact pa_val _
  · exact pa_none
theorem pa_cvtInt (k : IntKind) (x : Ar) : PureAt (oCvtInt k x fr) := by
  unfold oCvtInt
  split
  · exact pa_val _
  · exact pa_none
theorem pa_fieldAddr (n : Nat) (x : Ar) : PureAt (oFieldAddr n x fr) := by
  unfold oFieldAddr
  split
  · exact pa_val _
  · exact pa_none
theorem pa_fieldA (o n : Nat) (x : Ar) : PureAt (oFieldA o n x fr) := by
  unfold oFieldA
  split
  · exact pa_val _
  · exact pa_none
theorem pa_field1 (o : Nat) (x : Ar) : PureAt (oField1 o x fr) := by
  unfold oField1
  split
  · exact pa_val? _
  · exact pa_none
theorem pa_indexAddrA (l n : Nat) (x i : Ar) : PureAt (oIndexAddrA l n x i fr) := by
  unfold oIndexAddrA
  split
  · exact pa_bif _ (pa_val _)
  · exact pa_none
theorem pa_indexAddrS (n : Nat) (x i : Ar) : PureAt (oIndexAddrS n x i fr) := by
  unfold oIndexAddrS
  split
  · exact pa_bif _ (pa_val _)
  · exact pa_bif _ (pa_val _)
  · exact pa_none
theorem pa_indexA (l n : Nat) (g : Bool) (x i : Ar) : PureAt (oIndexA l n g x i fr) := by
  unfold oIndexA
  split
  · exact pa_bif _ (pa_bif2 _ (pa_val _) (pa_val? _))
  · exact pa_none
theorem pa_indexT (x i : Ar) : PureAt (oIndexT x i fr) := by
  unfold oIndexT
  split
  · refine pa_bif _ ?_
    split
    · exact pa_val _
    · exact pa_none
  · exact pa_none
theorem pa_assertI (w : Array (String × TypeId)) (z : Value) (ok : Bool) (x : Ar) : PureAt (oAssertI P w z ok x fr) := by
  unfold oAssertI
  split
  · split
    · split
      · exact pa_val _
      · exact pa_bif _ (pa_val _)
    · exact pa_none
  · exact pa_bif _ (pa_val _)
  · exact pa_none
theorem pa_assertC (t : TypeId) (z : Value) (ok : Bool) (x : Ar) : PureAt (oAssertC t z ok x fr) := by
  unfold oAssertC
  split
  · exact pa_bif2 _ (pa_val _) (pa_bif _ (pa_val _))
  · exact pa_bif _ (pa_val _)
  · exact pa_none
theorem pa_extract (i : Nat) (x : Ar) : PureAt (oExtract i x fr) := by
  unfold oExtract
  split
  · exact pa_val? _
  · exact pa_none
theorem pa_ext (f : FuncId) (l : List Ar) : PureAt (oExt X f l fr) := by
  unfold oExt
  split
  · exact pa_bif _ (pa_val _)
  · exact pa_none
theorem pa_lenT (x : Ar) : PureAt (oLenT x fr) := by
  unfold oLenT
  split
  · exact pa_val _
  · exact pa_none

theorem builtin_uses {b : Builtin} {ts : Array TypeId} {args : List Operand} {k : OpKind} {run : Tr Value → AH → Option ANext} (h : prepBuiltin P b ts args = some (k, run)) (ha : ∀ x ∈ args, Agree fr fr' x) : Uses fr fr' k run := by
  unfold prepBuiltin at h
  split at h
  · split at h
    · rename_i e ud s2 x2 h1 h2 h3 h4
      split at h
      · cases h
      · split at h
        · cases h
          exact .effV fun H => by unfold oAppend; rw [ev_agree h3 (ha _ (by simp)), ev_agree h4 (ha _ (by simp))]
        · cases h
    · cases h
  · split at h
    · rename_i e s2 x2 h1 h3 h4
      split at h
      · cases h
        exact .effV fun H => by unfold oCopy; rw [ev_agree h3 (ha _ (by simp)), ev_agree h4 (ha _ (by simp))]
      · cases h
    · cases h
  · split at h
    · rename_i kt et s2 x2 h1 h3 h4
      cases h
      exact .effV fun H => by unfold oDelete; rw [ev_agree h3 (ha _ (by simp)), ev_agree h4 (ha _ (by simp))]
    · cases h
  · split at h
    · rename_i x2 h1 h2
      cases h
      exact .pureA (fun H => by unfold oLenT; rw [ev_agree h2 (ha _ (by simp))]) (pa_lenT _)
    · rename_i e x2 h1 h2
      cases h
      exact .pureA (fun H => by unfold oLenS; rw [ev_agree h2 (ha _ (by simp))]) (pa_val? _)
    · rename_i e1 e2 x2 h1 h2
      cases h
      exact .readV (fun fr H => aLenM (ev fr x2) H) (fun _ _ => rfl) fun H => by rw [ev_agree h2 (ha _ (by simp))]
    · cases h
      exact .pureA (fun H => rfl) (pa_val _)
    · split at h
      · cases h
        exact .pureA (fun H => rfl) (pa_val _)
      · cases h
    · cases h
  · obtain ⟨q, h1, h2⟩ := map_pair h
    cases h2
    exact .pureA (fun H => by unfold oMinmax; rw [evs_agree h1 ha]) (pa_bif _ (pa_ofPR _))
  · obtain ⟨q, h1, h2⟩ := map_pair h
    cases h2
    exact .pureA (fun H => by unfold oMinmax; rw [evs_agree h1 ha]) (pa_bif _ (pa_ofPR _))
  · cases h

theorem op_uses {op : Op} {k : OpKind} {run : Tr Value → AH → Option ANext} (h : prepOp P X op = some (k, run)) (ha : ∀ x ∈ op.operands.toList, Agree fr fr' x) : Uses fr fr' k run := by
  cases op
  case move x =>
    simp only [prepOp] at h
    obtain ⟨q, h1, h2⟩ := map_pair h
    cases h2
    exact .pureA (fun H => by unfold oMov; rw [ev_agree h1 (ha _ (by simp [Op.operands]))]) (pa_val _)
  case assign x =>
    simp only [prepOp] at h
    obtain ⟨q, h1, h2⟩ := map_pair h
    cases h2
    exact .pureA (fun H => by unfold oMov; rw [ev_agree h1 (ha _ (by simp [Op.operands]))]) (pa_val _)
  case pick c x y =>
    simp only [prepOp] at h
    split at h
    · rename_i c' x' y' h1 h2 h3
      cases h
      exact .pureA (fun H => by unfold oPick; rw [ev_agree h1 (ha _ (by simp [Op.operands])), ev_agree h2 (ha _ (by simp [Op.operands])), ev_agree h3 (ha _ (by simp [Op.operands]))]) (pa_pick ..)
    · cases h
  case alloc t =>
    simp only [prepOp] at h
    obtain ⟨q, h1, h2⟩ := map_pair h
    cases h2
    exact .newV (fun H => rfl) fun H v h e => by cases e; exact ⟨_, rfl⟩
  case box t x =>
    simp only [prepOp] at h
    obtain ⟨q, h1, h2⟩ := map_pair h
    cases h2
    exact .newV (fun H => by unfold oBox; rw [ev_agree h1 (ha _ (by simp [Op.operands]))]) fun H v h e => by cases e; exact ⟨_, rfl⟩
  case build t ps =>
    have hps : ∀ x ∈ ps.toList, Agree fr fr' x.2 := fun x hx => ha _ (by simp only [Op.operands, List.mem_map]; exact ⟨x, hx, rfl⟩)
    simp only [prepOp] at h
    split at h
    · rename_i z fs h1 h2
      cases hc : fs.toList.all (fun f => (sizeT P f.type).isSome) <;> rw [hc] at h
      · cases h
      · simp only [cond_true] at h
        obtain ⟨q, h3, h4⟩ := map_pair h
        cases h4
        exact .pureA (fun H => by unfold oBuild; rw [evP_agreeS h3 hps]) (pa_build ..)
    · split at h
      · obtain ⟨q, h3, h4⟩ := map_pair h
        cases h4
        exact .pureA (fun H => by unfold oBuild; rw [evP_agreeA h3 hps]) (pa_build ..)
      · cases h
    · cases h
  case buildSlice t len ps =>
    have hps : ∀ x ∈ ps.toList, Agree fr fr' x.2 := fun x hx => ha _ (by simp only [Op.operands, List.mem_map]; exact ⟨x, hx, rfl⟩)
    simp only [prepOp] at h
    split at h
    · split at h
      · rename_i n z h2 h3
        cases hc : Nat.ble (len * n) 16777216 <;> rw [hc] at h
        · cases h
        · simp only [cond_true] at h
          obtain ⟨q, h4, h5⟩ := map_pair h
          cases h5
          refine .newV (fun H => by unfold oBuildSlice; rw [evP_agreeA h4 hps]) fun H v h e => ?_
          unfold oBuildSlice at e
          split at e
          · cases e; exact ⟨_, rfl⟩
          · cases e
      · cases h
    · cases h
  case load t x =>
    simp only [prepOp] at h
    split at h
    · rename_i n x' h1 h2 h3
      cases h
      exact .readV (fun fr H => aLoadA n (ev fr x') H) (fun _ _ => rfl) fun H => by rw [ev_agree h3 (ha _ (by simp [Op.operands]))]
    · rename_i n x' h1 h2 h3
      cases h
      exact .readV (fun fr H => aLoad1 (ev fr x') H) (fun _ _ => rfl) fun H => by rw [ev_agree h3 (ha _ (by simp [Op.operands]))]
    · cases h
  case store t x y =>
    simp only [prepOp] at h
    split at h
    · rename_i n x' y' h1 h2 h3
      cases h
      exact .effV fun H => by unfold oStore; rw [ev_agree h2 (ha _ (by simp [Op.operands])), ev_agree h3 (ha _ (by simp [Op.operands]))]
    · cases h
  case nilCheck x =>
    simp only [prepOp] at h
    obtain ⟨q, h1, h2⟩ := map_pair h
    cases h2
    exact .pureA (fun H => by unfold oNilCheck; rw [ev_agree h1 (ha _ (by simp [Op.operands]))]) (pa_nilCheck _)
  case binOp op t x y p =>
    simp only [prepOp] at h
    split at h
    · rename_i x' y' h1 h2
      cases h
      exact .pureA (fun H => by unfold oBin; rw [ev_agree h1 (ha _ (by simp [Op.operands])), ev_agree h2 (ha _ (by simp [Op.operands]))]) (pa_bin ..)
    · cases h
  case unOp op t x =>
    simp only [prepOp] at h
    obtain ⟨q, h1, h2⟩ := map_pair h
    cases h2
    exact .pureA (fun H => by unfold oUn; rw [ev_agree h1 (ha _ (by simp [Op.operands]))]) (pa_un ..)
  case convert s d x =>
    simp only [prepOp] at h
    split at h
    · rename_i sd dd x' h1 h2 h3
      have hx := ev_agree h3 (ha _ (by simp [Op.operands]))
      split at h
      · cases h
        exact .pureA (fun H => by unfold oCvtInt; rw [hx]) (pa_cvtInt ..)
      · rename_i e
        cases hc : isBytes P e <;> rw [hc] at h
        · cases h
        · cases h
          refine .newV (fun H => by unfold oCvtBytes; rw [hx]) fun H v h e => ?_
          unfold oCvtBytes at e
          split at e
          · obtain ⟨_, e⟩ := guard_run e
            cases e
            exact ⟨_, rfl⟩
          · cases e
      · rename_i e
        cases hc : isBytes P e <;> rw [hc] at h
        · cases h
        · cases h
          exact .readV (fun fr H => aCvtString (ev fr x') H) (fun _ _ => rfl) fun H => by rw [hx]
      · cases h
      · cases h
      · cases h
        exact .pureA (fun H => by unfold oCvt; rw [hx]) (pa_bif _ (pa_ofPR _))
    · cases h
  case makeInterface t x =>
    simp only [prepOp] at h
    split at h
    · cases h
    · rename_i d x' hni h1 h2
      cases h
      exact .pureA (fun H => by unfold oMkIface; rw [ev_agree h2 (ha _ (by simp [Op.operands]))]) (pa_val _)
    · cases h
  case makeFunc f xs ys =>
    cases f <;> simp only [prepOp] at h
    case func g =>
      split at h
      · rename_i l1 l2 h1 h2
        cases h
        refine .pureA (fun H => ?_) (pa_val _)
        unfold oMkFunc
        rw [evs_agree h1 fun x hx => ha x (by simp [Op.operands]; left; simpa using hx), evs_agree h2 fun x hx => ha x (by simp [Op.operands]; right; simpa using hx)]
      · cases h
    all_goals cases h
  case makeMap t r =>
    cases r <;> simp only [prepOp] at h
    · cases h
      exact .newV (fun H => rfl) fun H v h e => by cases e; exact ⟨_, rfl⟩
    · cases h
  case makeSlice t l c =>
    simp only [prepOp] at h
    split at h
    · rename_i e l' c' h1 h2 h3
      split at h
      · cases h
        refine .newV (fun H => by unfold oMakeSlice; rw [ev_agree h2 (ha _ (by simp [Op.operands])), ev_agree h3 (ha _ (by simp [Op.operands]))]) fun H v h e => ?_
        unfold oMakeSlice aMakeSlice at e
        split at e
        · obtain ⟨_, e⟩ := guard_run e
          cases e
          exact ⟨_, rfl⟩
        · cases e
      · cases h
    · cases h
  case slice t x lo hi mx =>
    have hlo : ∀ y, lo = some y → Agree fr fr' y := fun y hy => ha y (by subst hy; simp [Op.operands])
    have hhi : ∀ y, hi = some y → Agree fr fr' y := fun y hy => ha y (by subst hy; simp [Op.operands])
    have hmx : ∀ y, mx = some y → Agree fr fr' y := fun y hy => ha y (by subst hy; simp [Op.operands])
    simp only [prepOp] at h
    split at h
    · rename_i n e x' lo' hi' mx' h1 h2 h3 h4 h5
      obtain ⟨q, h6, h7⟩ := map_pair h
      cases h7
      exact .pureA (fun H => by unfold oSliceA; rw [ev_agree h2 (ha _ (by simp [Op.operands])), evO_agree h3 hlo, evO_agree h4 hhi, evO_agree h5 hmx]) (pa_val? _)
    · rename_i e x' lo' hi' mx' h1 h2 h3 h4 h5
      obtain ⟨q, h6, h7⟩ := map_pair h
      cases h7
      exact .pureA (fun H => by unfold oSliceS; rw [ev_agree h2 (ha _ (by simp [Op.operands])), evO_agree h3 hlo, evO_agree h4 hhi, evO_agree h5 hmx]) (pa_val? _)
    · rename_i x' lo' hi' h1 h2 h3 h4 h5
      cases h
      exact .pureA (fun H => by unfold oSliceT; rw [ev_agree h2 (ha _ (by simp [Op.operands])), evO_agree h3 hlo, evO_agree h4 hhi]) (pa_val? _)
    · cases h
  case fieldAddr t x f =>
    simp only [prepOp] at h
    split at h
    · rename_i fs x' h1 h2
      split at h
      · split at h
        · cases h
          exact .pureA (fun H => by unfold oFieldAddr; rw [ev_agree h2 (ha _ (by simp [Op.operands]))]) (pa_fieldAddr ..)
        · cases h
      · cases h
    · cases h
  case field t x f =>
    simp only [prepOp] at h
    split at h
    · rename_i fs x' h1 h2
      split at h
      · split at h
        · cases h
          exact .pureA (fun H => by unfold oFieldA; rw [ev_agree h2 (ha _ (by simp [Op.operands]))]) (pa_fieldA ..)
        · cases h
          exact .pureA (fun H => by unfold oField1; rw [ev_agree h2 (ha _ (by simp [Op.operands]))]) (pa_field1 ..)
        · cases h
      · cases h
    · cases h
  case indexAddr t x i =>
    simp only [prepOp] at h
    split at h
    · rename_i len e x' i' h1 h2 h3
      obtain ⟨q, h6, h7⟩ := map_pair h
      cases h7
      exact .pureA (fun H => by unfold oIndexAddrA; rw [ev_agree h2 (ha _ (by simp [Op.operands])), ev_agree h3 (ha _ (by simp [Op.operands]))]) (pa_indexAddrA ..)
    · rename_i e x' i' h1 h2 h3
      obtain ⟨q, h6, h7⟩ := map_pair h
      cases h7
      exact .pureA (fun H => by unfold oIndexAddrS; rw [ev_agree h2 (ha _ (by simp [Op.operands])), ev_agree h3 (ha _ (by simp [Op.operands]))]) (pa_indexAddrS ..)
    · cases h
  case index t x i =>
    simp only [prepOp] at h
    split at h
    · rename_i len e x' i' h1 h2 h3
      split at h
      · cases h
        exact .pureA (fun H => by unfold oIndexA; rw [ev_agree h2 (ha _ (by simp [Op.operands])), ev_agree h3 (ha _ (by simp [Op.operands]))]) (pa_indexA ..)
      · cases h
    · rename_i x' i' h1 h2 h3
      cases h
      exact .pureA (fun H => by unfold oIndexT; rw [ev_agree h2 (ha _ (by simp [Op.operands])), ev_agree h3 (ha _ (by simp [Op.operands]))]) (pa_indexT ..)
    · cases h
  case lookup t mv k ok =>
    simp only [prepOp] at h
    split at h
    · rename_i kt et m' k' h1 h2 h3
      obtain ⟨q, h6, h7⟩ := map_pair h
      cases h7
      exact .readV (fun fr H => aLookup P kt q ok (ev fr m') (ev fr k') H) (fun _ _ => rfl) fun H => by rw [ev_agree h2 (ha _ (by simp [Op.operands])), ev_agree h3 (ha _ (by simp [Op.operands]))]
    · cases h
  case mapUpdate t mv k v =>
    simp only [prepOp] at h
    split at h
    · rename_i kt et m' k' v' h1 h2 h3 h4
      cases h
      exact .effV fun H => by unfold oMapUpdate; rw [ev_agree h2 (ha _ (by simp [Op.operands])), ev_agree h3 (ha _ (by simp [Op.operands])), ev_agree h4 (ha _ (by simp [Op.operands]))]
    · cases h
  case insert t mv k v =>
    simp only [prepOp] at h
    split at h
    · rename_i kt et m' k' v' h1 h2 h3 h4
      cases h
      exact .effV fun H => by unfold oMapUpdate; rw [ev_agree h2 (ha _ (by simp [Op.operands])), ev_agree h3 (ha _ (by simp [Op.operands])), ev_agree h4 (ha _ (by simp [Op.operands]))]
    · cases h
  case mapEntry t mv k =>
    simp only [prepOp] at h
    split at h
    · rename_i kt et m' k' h1 h2 h3
      obtain ⟨q, h6, h7⟩ := map_pair h
      cases h7
      exact .effV fun H => by unfold oMapEntry; rw [ev_agree h2 (ha _ (by simp [Op.operands])), ev_agree h3 (ha _ (by simp [Op.operands]))]
    · cases h
  case entryStore t mv s v =>
    simp only [prepOp] at h
    split at h
    · rename_i m' k' v' h2 h3 h4
      cases h
      exact .effV fun H => by unfold oEntryStore; rw [ev_agree h2 (ha _ (by simp [Op.operands])), ev_agree h3 (ha _ (by simp [Op.operands])), ev_agree h4 (ha _ (by simp [Op.operands]))]
    · cases h
  case range t x =>
    simp only [prepOp] at h
    split at h
    · rename_i x' h1 h2
      cases h
      refine .newV (fun H => by unfold oRangeT; rw [ev_agree h2 (ha _ (by simp [Op.operands]))]) fun H v h e => ?_
      unfold oRangeT at e
      split at e
      · cases e; exact ⟨_, rfl⟩
      · cases e
    · cases h
  case next it b =>
    cases b <;> simp only [prepOp] at h
    · cases h
    · obtain ⟨q, h1, h2⟩ := map_pair h
      cases h2
      exact .effV fun H => by unfold oNextT; rw [ev_agree h1 (ha _ (by simp [Op.operands]))]
  case typeAssert x xt as ok =>
    simp only [prepOp] at h
    split at h
    · rename_i wnt z x' h1 h2 h3
      cases h
      exact .pureA (fun H => by unfold oAssertI; rw [ev_agree h3 (ha _ (by simp [Op.operands]))]) (pa_assertI ..)
    · rename_i d z x' hni h1 h2 h3
      cases h
      exact .pureA (fun H => by unfold oAssertC; rw [ev_agree h3 (ha _ (by simp [Op.operands]))]) (pa_assertC ..)
    · cases h
  case extract t i =>
    simp only [prepOp] at h
    obtain ⟨q, h1, h2⟩ := map_pair h
    cases h2
    exact .pureA (fun H => by unfold oExtract; rw [ev_agree h1 (ha _ (by simp [Op.operands]))]) (pa_extract ..)
  case call c =>
    simp only [prepOp] at h
    unfold prepCall at h
    have hargs : ∀ x ∈ c.args.toList, Agree fr fr' x := fun x hx => ha x (by simp only [Op.operands, Call.operands]; simp at hx; simp [hx])
    split at h
    · exact builtin_uses h hargs
    · split at h
      · rename_i fn l h1 h2
        split at h
        · cases h
          exact .effV fun H => by unfold oEnter; rw [evs_agree h2 hargs]
        · cases h
          exact .pureA (fun H => by unfold oExt; rw [evs_agree h2 hargs]) (pa_ext ..)
      · cases h
    · rename_i x hng hc
      split at h
      · rename_i y l h1 h2
        cases h
        exact .effV fun H => by
          unfold oCallV
          rw [evs_agree h2 hargs, ev_agree h1 (ha x (by simp only [Op.operands, Call.operands, hc]; simp))]
      · cases h
    · cases h
  case panic x =>
    simp only [prepOp] at h
    obtain ⟨q, h1, h2⟩ := map_pair h
    cases h2
    exact .effV fun H => by unfold oPanic; rw [ev_agree h1 (ha _ (by simp [Op.operands]))]
  all_goals (simp only [prepOp] at h; cases h)

end Go.AX
