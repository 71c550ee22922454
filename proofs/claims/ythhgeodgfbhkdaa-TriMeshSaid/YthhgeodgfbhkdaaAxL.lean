/- The abstract executor 'AX', soundness (11): an operation made ready. -/
import Derived.Test.YthhgeodgfbhkdaaAxK
set_option linter.unusedVariables false
set_option linter.unusedSimpArgs false
set_option linter.unusedSectionVars false
namespace Go.AX
variable {P : Program} {m : M} {H : AH} {w : World}

theorem val?_some {o : Option Value} {nx : ANext} (h : val? H o = some nx) : ∃ v, o = some v ∧ nx = .val v H := by
  cases o with
  | none => cases h
  | some v => cases h; exact ⟨v, rfl, rfl⟩
theorem heap?_some {o : Option AH} {nx : ANext} (h : heap? o = some nx) : ∃ H', o = some H' ∧ nx = .val undef H' := by
  cases o with
  | none => cases h
  | some v => cases h; exact ⟨v, rfl, rfl⟩
theorem map_pair {α : Type} {x : Option α} {f : α → OpKind × (Tr Value → AH → Option ANext)} {k : OpKind} {run : Tr Value → AH → Option ANext} (h : x.map f = some (k, run)) : ∃ q, x = some q ∧ f q = (k, run) := by
  cases x with
  | none => cases h
  | some q => exact ⟨q, rfl, Option.some.inj h⟩
theorem pair_run {k k' : OpKind} {r r' : Tr Value → AH → Option ANext} (h : (k, r) = (k', r')) : r' = r := (Prod.mk.inj h).2.symm
theorem some_run {k k' : OpKind} {r r' : Tr Value → AH → Option ANext} (h : some (k, r) = some (k', r')) : r' = r := pair_run (Option.some.inj h)

/-- the functions without a body answer so. -/
def XOk (P : Program) (X : XT) : Prop := ∀ f args v, X f args = some v → ∀ w, (callFunc f args.toArray).run P w = .ok (.value v) w

theorem run_resolve_value {c : Call} {x : Operand} {a : Act} {ty : TypeId} (hc : c.callee = .value x) (w : World) : (resolve a.eval c ty).run P w = (Deferred.ofValue (a.eval x) (c.args.map a.eval)).run P w := by
  simp only [resolve, hc]
theorem run_resolve_builtin {c : Call} {b : Builtin} {a : Act} {ty : TypeId} (hc : c.callee = .builtin b) (w : World) :
    ∃ cs, (resolve a.eval c ty).run P w = .ok { target := .builtin b c.argTypes ty cs, args := c.args.map a.eval } w := by
  simp only [resolve, hc, Sem.run_pure]; exact ⟨_, rfl⟩

variable {X : XT} {fr : Tr Value} {a : Act} {nx : ANext} {kind : OpKind} {run : Tr Value → AH → Option ANext}

theorem args2 {l : Array Operand} {s x : Operand} (h : l.toList = [s, x]) : l.map a.eval = #[a.eval s, a.eval x] := by
  apply Array.ext'; rw [Array.toList_map, h]; rfl
theorem args1 {l : Array Operand} {x : Operand} (h : l.toList = [x]) : l.map a.eval = #[a.eval x] := by
  apply Array.ext'; rw [Array.toList_map, h]; rfl
theorem ts0 {ts : Array TypeId} {t : TypeId} {l : List TypeId} (h : ts.toList = t :: l) : ts[0]? = some t := by
  rw [← Array.getElem?_toList, h]; rfl
theorem ts1 {ts : Array TypeId} {t u : TypeId} {l : List TypeId} (h : ts.toList = t :: u :: l) : ts[1]? = some u := by
  rw [← Array.getElem?_toList, h]; rfl

theorem builtin_sound {b : Builtin} {ts : Array TypeId} {ty : TypeId} {cs : Array Bool} {args : Array Operand} (h : prepBuiltin P b ts args.toList = some (kind, run)) (hf : FrR m fr a) (hR : Rel m H w)
    (hn : run fr H = some nx) (hF : Fresh m H nx.heap) : Good P m H w ((builtin b ts ty cs (args.map a.eval)).run P w) nx := by
  unfold prepBuiltin at h
  split at h
  · -- append
    rename_i t u s x ht hargs
    split at h
    · rename_i e ud s2 x2 h1 h2 h3 h4
      rw [args2 hargs]
      split at h
      · cases h
      · rename_i hni
        split at h
        · rename_i i z hi hz
          have := some_run h; subst this
          exact g_append hR (ts0 ht) (ts1 ht) h1 h2 (fun k e => hni k e) hi hz (arOf_sound hf h3) (arOf_sound hf h4) hn hF
        · cases h
    · cases h
  · rename_i t u s x ht hargs
    split at h
    · rename_i e s2 x2 h1 h3 h4
      rw [args2 hargs]
      split at h
      · rename_i n hsz
        have := some_run h; subst this
        exact g_copy hR (ts0 ht) h1 hsz (arOf_sound hf h3) (arOf_sound hf h4) hn
      · cases h
    · cases h
  · rename_i t u s x ht hargs
    split at h
    · rename_i kt et s2 x2 h1 h3 h4
      rw [args2 hargs]
      have := some_run h; subst this
      unfold oDelete at hn
      split at hn
      · rename_i H' hd
        cases hn
        exact g_delete hR (ts0 ht) h1 (arOf_sound hf h3) (arOf_sound hf h4) hd
      · cases hn
    · cases h
  · rename_i t x ht hargs
    split at h
    · rename_i x2 h1 h2
      rw [args1 hargs]
      have := some_run h; subst this
      unfold oLenT at hn
      have hx := arOf_sound hf h2
      split at hn
      · rename_i s hs
        cases hn
        rw [hs] at hx
        exact g_lenT hR (ts0 ht) h1 hx
      · cases hn
    · rename_i e x2 h1 h2
      rw [args1 hargs]
      have := some_run h; subst this
      obtain ⟨v, h3, rfl⟩ := val?_some hn
      exact g_lenS hR (ts0 ht) h1 (arOf_sound hf h2) h3
    · rename_i e1 e2 x2 h1 h2
      rw [args1 hargs]
      have := some_run h; subst this
      obtain ⟨v, h3, rfl⟩ := val?_some hn
      exact g_lenM hR (ts0 ht) h1 (arOf_sound hf h2) h3
    · rename_i n e x2 h1 h2
      rw [args1 hargs]
      have := some_run h; subst this
      cases hn
      exact g_lenA hR (ts0 ht) h1
    · rename_i p x2 h1 h2
      rw [args1 hargs]
      split at h
      · rename_i n e h3
        have := some_run h; subst this
        cases hn
        exact g_lenP hR (ts0 ht) h1 h3
      · cases h
    · cases h
  · obtain ⟨q, h1, h2⟩ := map_pair h
    have := pair_run h2; subst this
    have hx := arsOf_sound hf h1
    rw [← Array.toList_map] at hx
    exact g_minmax (ts := ts) (ty := ty) (isMax := false) hR hx hn
  · obtain ⟨q, h1, h2⟩ := map_pair h
    have := pair_run h2; subst this
    have hx := arsOf_sound hf h1
    rw [← Array.toList_map] at hx
    exact g_minmax (ts := ts) (ty := ty) (isMax := true) hR hx hn
  · cases h

theorem Good.congr {r r' : Result Next} (h : Good P m H w r nx) (e : r = r') : Good P m H w r' nx := e ▸ h

theorem call_sound (hX : XOk P X) {c : Call} {ty : TypeId} (h : prepCall P X c = some (kind, run)) (hf : FrR m fr a) (hR : Rel m H w)
    (hn : run fr H = some nx) (hF : Fresh m H nx.heap) : Good P m H w ((resolve a.eval c ty >>= fun d => invoke d.target d.args).run P w) nx := by
  unfold prepCall at h
  split at h
  · rename_i b hc
    obtain ⟨cs, hrun⟩ := run_resolve_builtin (P := P) (a := a) (ty := ty) hc w
    rw [Sem.run_bind, hrun]
    exact builtin_sound h hf hR hn hF
  · rename_i g hc
    split at h
    · rename_i fn l hfn hl
      have hargs := arsOf_sound hf hl
      rw [← Array.toList_map] at hargs
      have hrun : (resolve a.eval c ty >>= fun d => invoke d.target d.args).run P w = (callFunc g (c.args.map a.eval)).run P w := by
        rw [Sem.run_bind, run_resolve_value hc]
        simp [Deferred.ofValue, Act.eval, invoke]
      rw [hrun]
      split at h
      · have := some_run h; subst this
        cases hn
        exact .enter _ _ _ rfl hargs
      · have := some_run h; subst this
        unfold oExt at hn
        split at hn
        · rename_i v hv
          cases hc' : (clo 5 v && (evs fr l).all (clo 4)) <;> rw [hc'] at hn
          · cases hn
          · cases hn
            simp only [Bool.and_eq_true] at hc'
            have he := VRL.eq_of_clo 4 hc'.2 hargs
            have he2 : c.args.map a.eval = (evs fr l).toArray := by rw [← he]
            rw [he2]
            exact .here hR (hX _ _ _ hv w) (VR.of_clo m 5 _ hc'.1)
        · cases hn
    · cases h
  · rename_i x hng hc
    split at h
    · rename_i y l hy hl
      have hargs := arsOf_sound hf hl
      rw [← Array.toList_map] at hargs
      have hx := arOf_sound hf hy
      have := some_run h; subst this
      unfold oCallV at hn
      rw [Sem.run_bind, run_resolve_value hc]
      generalize a.eval x = xv at hx ⊢
      split at hn
      · rename_i g first cap he
        rw [he] at hx
        cases hn
        cases hx with
        | func _ _ _ first' cap' hfy h1 h2 =>
          simp only [Deferred.ofValue, Sem.run_pure, Result.andThen_ok, invoke]
          refine .enter _ _ _ rfl ?_
          rw [Array.toList_append, Array.toList_append, List.append_assoc]
          exact h1.append (hargs.append h2)
      · rename_i lp first cap he
        rw [he] at hx
        cases hb : (first.isEmpty && cap.isEmpty) <;> rw [hb] at hn
        · cases hn
        · cases hn
          cases hx with
          | func _ _ _ first' cap' hfy h1 h2 => exact absurd rfl (hfy _)
          | yield _ hd =>
            simp only [Deferred.ofValue, Sem.run_pure, Result.andThen_ok, invoke]
            exact .round _ _ _ (by simp) hd hargs
      · cases hn
    · cases h
  · cases h

theorem guard_run {c : Bool} {x : ANext} (h : (bif c then some x else none) = some nx) : c = true ∧ x = nx := by
  cases c
  · cases h
  · exact ⟨rfl, Option.some.inj h⟩

theorem op_sound (hX : XOk P X) {o : Oper} (h : prepOp P X o.op = some (kind, run)) (hf : FrR m fr a) (hR : Rel m H w)
    (hn : run fr H = some nx) (hF : Fresh m H nx.heap) : Good P m H w ((execOp a.eval o).run P w) nx := by
  unfold execOp
  cases hop : o.op <;> rw [hop] at h
  case move x =>
    simp only [prepOp] at h
    obtain ⟨q, h1, h2⟩ := map_pair h
    have := pair_run h2; subst this; cases hn
    exact .here hR rfl (arOf_sound hf h1)
  case assign x =>
    simp only [prepOp] at h
    obtain ⟨q, h1, h2⟩ := map_pair h
    have := pair_run h2; subst this; cases hn
    exact .here hR rfl (arOf_sound hf h1)
  case pick c x y =>
    simp only [prepOp] at h
    split at h
    · rename_i c' x' y' h1 h2 h3
      have := some_run h; subst this
      exact g_pick hR (arOf_sound hf h1) (arOf_sound hf h2) (arOf_sound hf h3) hn
    · cases h
  case alloc t =>
    simp only [prepOp] at h
    obtain ⟨q, h1, h2⟩ := map_pair h
    have := pair_run h2; subst this; cases hn
    exact g_alloc hR h1 hF
  case box t x =>
    simp only [prepOp] at h
    obtain ⟨q, h1, h2⟩ := map_pair h
    have := pair_run h2; subst this; cases hn
    exact g_box hR (arOf_sound hf h1) hF
  case build t ps =>
    simp only [prepOp] at h
    split at h
    · rename_i z fs h1 h2
      cases hc : fs.toList.all (fun f => (sizeT P f.type).isSome) <;> rw [hc] at h
      · cases h
      · simp only [cond_true] at h
        obtain ⟨q, h3, h4⟩ := map_pair h
        have := pair_run h4; subst this
        unfold oBuild at hn
        split at hn
        · rename_i cs hcs
          cases hn
          refine g_buildS hR hf h2 h1 (fun f hfm => ?_) h3 hcs
          have := List.all_eq_true.1 hc f (by simpa using hfm)
          exact Option.isSome_iff_exists.1 this
        · cases hn
    · rename_i z len e h1 h2
      split at h
      · rename_i n h3
        obtain ⟨q, h4, h5⟩ := map_pair h
        have := pair_run h5; subst this
        unfold oBuild at hn
        split at hn
        · rename_i cs hcs
          cases hn
          exact g_buildA hR hf h2 h1 h3 h4 hcs
        · cases hn
      · cases h
    · cases h
  case buildSlice t len ps =>
    simp only [prepOp] at h
    split at h
    · rename_i e h1
      split at h
      · rename_i n z h2 h3
        cases hc : Nat.ble (len * n) 16777216 <;> rw [hc] at h
        · cases h
        · simp only [cond_true] at h
          obtain ⟨q, h4, h5⟩ := map_pair h
          have := pair_run h5; subst this
          unfold oBuildSlice at hn
          split at hn
          · rename_i cs hcs
            cases hn
            exact g_buildSlice hR hf h1 h3 h2 (Nat.le_of_ble_eq_true hc) h4 hcs hF
          · cases hn
      · cases h
    · cases h
  case load t x =>
    simp only [prepOp] at h
    split at h
    · rename_i n x' h1 h2 h3
      have := some_run h; subst this
      obtain ⟨v, hv, rfl⟩ := val?_some hn
      obtain ⟨r, k1, k2⟩ := aLoadA_sound hR h1 h2 (arOf_sound hf h3) hv
      exact .here hR (v' := r) (by rw [Sem.run_bind, k1]; rfl) k2
    · rename_i n x' h1 h2 h3
      have := some_run h; subst this
      obtain ⟨v, hv, rfl⟩ := val?_some hn
      obtain ⟨r, k1, k2⟩ := aLoad1_sound hR h1 (arOf_sound hf h3) hv
      exact .here hR (v' := r) (by rw [Sem.run_bind, k1]; rfl) k2
    · cases h
  case store t x y =>
    simp only [prepOp] at h
    split at h
    · rename_i n x' y' h1 h2 h3
      have := some_run h; subst this
      exact aStore_sound hR h1 (arOf_sound hf h2) (arOf_sound hf h3) hn
    · cases h
  case nilCheck x =>
    simp only [prepOp] at h
    obtain ⟨q, h1, h2⟩ := map_pair h
    have := pair_run h2; subst this
    refine g_nilCheck hR (arOf_sound hf h1) ?_ ?_ hn
    · intro ad e; simp only [e]
    · intro f xs ys e; simp only [e]
  case binOp op t x y p =>
    simp only [prepOp] at h
    split at h
    · rename_i x' y' h1 h2
      have := some_run h; subst this
      exact g_bin hR (arOf_sound hf h1) (arOf_sound hf h2) hn
    · cases h
  case unOp op t x =>
    simp only [prepOp] at h
    obtain ⟨q, h1, h2⟩ := map_pair h
    have := pair_run h2; subst this
    exact g_un hR (arOf_sound hf h1) hn
  case convert s d x =>
    simp only [prepOp] at h
    split at h
    · rename_i sd dd x' h1 h2 h3
      have hx := arOf_sound hf h3
      split at h
      · rename_i ks k
        have := some_run h; subst this
        unfold oCvtInt at hn
        split at hn
        · rename_i k0 n e
          cases hn
          rw [e] at hx
          exact g_cvtInt hR h1 h2 hx
        · cases hn
      · rename_i e
        cases hc : isBytes P e <;> rw [hc] at h
        · cases h
        · have := some_run h; subst this
          unfold oCvtBytes at hn
          split at hn
          · rename_i str es
            rw [es] at hx
            exact g_cvtBytes hR h1 h2 hc hx hn hF
          · cases hn
      · rename_i e
        cases hc : isBytes P e <;> rw [hc] at h
        · cases h
        · have := some_run h; subst this
          obtain ⟨v, hv, rfl⟩ := val?_some hn
          exact g_cvtString hR h1 h2 hc hx hv
      · cases h
      · cases h
      · have := some_run h; subst this
        exact g_cvt hR hx hn
    · cases h
  case makeInterface t x =>
    simp only [prepOp] at h
    split at h
    · cases h
    · rename_i d x' hni h1 h2
      have := some_run h; subst this; cases hn
      exact g_mkIface hR h1 (fun k e => hni k e) (arOf_sound hf h2)
    · cases h
  case makeFunc f xs ys =>
    cases f <;> simp only [prepOp] at h
    case func g =>
      split at h
      · rename_i l1 l2 h1 h2
        have := some_run h; subst this; cases hn
        refine g_mkFunc hR ?_ ?_
        · rw [Array.toList_map]; exact arsOf_sound hf h1
        · rw [Array.toList_map]; exact arsOf_sound hf h2
      · cases h
    all_goals cases h
  case makeMap t r =>
    cases r <;> simp only [prepOp] at h
    · have := some_run h; subst this; cases hn
      exact g_mkMap hR hF
    · cases h
  case makeSlice t l c =>
    simp only [prepOp] at h
    split at h
    · rename_i e l' c' h1 h2 h3
      split at h
      · rename_i i z h4 h5
        have := some_run h; subst this
        exact g_makeSlice hR h1 h4 h5 (arOf_sound hf h2) (arOf_sound hf h3) hn hF
      · cases h
    · cases h
  case slice t x lo hi mx =>
    simp only [prepOp] at h
    split at h
    · rename_i n e x' lo' hi' mx' h1 h2 h3 h4 h5
      obtain ⟨q, h6, h7⟩ := map_pair h
      have := pair_run h7; subst this
      obtain ⟨v, hv, rfl⟩ := val?_some hn
      exact g_sliceA hR h1 h6 (arOf_sound hf h2) (arO_sound hf h3) (arO_sound hf h4) (arO_sound hf h5) hv
    · rename_i e x' lo' hi' mx' h1 h2 h3 h4 h5
      obtain ⟨q, h6, h7⟩ := map_pair h
      have := pair_run h7; subst this
      obtain ⟨v, hv, rfl⟩ := val?_some hn
      exact g_sliceS hR h1 h6 (arOf_sound hf h2) (arO_sound hf h3) (arO_sound hf h4) (arO_sound hf h5) hv
    · rename_i x' lo' hi' h1 h2 h3 h4 h5
      have := some_run h; subst this
      obtain ⟨v, hv, rfl⟩ := val?_some hn
      have hmx : mx = none := by
        cases mx with
        | none => rfl
        | some y => simp only [arO] at h5; split at h5 <;> cases h5
      subst hmx
      exact g_sliceT hR h1 (arOf_sound hf h2) (arO_sound hf h3) (arO_sound hf h4) hv
    · cases h
  case fieldAddr t x f =>
    simp only [prepOp] at h
    split at h
    · rename_i fs x' h1 h2
      split at h
      · rename_i fd h3
        split at h
        · rename_i n h4
          have := some_run h; subst this
          have hx := arOf_sound hf h2
          unfold oFieldAddr at hn
          split at hn
          · rename_i b o e
            cases hn
            rw [e] at hx
            exact g_fieldAddr hR h1 h3 h4 hx
          · cases hn
        · cases h
      · cases h
    · cases h
  case field t x f =>
    simp only [prepOp] at h
    split at h
    · rename_i fs x' h1 h2
      have hx := arOf_sound hf h2
      split at h
      · rename_i fd h3
        split at h
        · rename_i n h4 h5
          have := some_run h; subst this
          unfold oFieldA at hn
          split at hn
          · rename_i cs e
            cases hn
            exact g_field hR h1 h3 h4 h5 hx e rfl
          · cases hn
        · rename_i n h4 h5
          have := some_run h; subst this
          unfold oField1 at hn
          split at hn
          · rename_i cs e
            obtain ⟨v, hv, rfl⟩ := val?_some hn
            exact g_field hR h1 h3 h4 h5 hx e hv
          · cases hn
        · cases h
      · cases h
    · cases h
  case indexAddr t x i =>
    simp only [prepOp] at h
    split at h
    · rename_i len e x' i' h1 h2 h3
      obtain ⟨q, h6, h7⟩ := map_pair h
      have := pair_run h7; subst this
      have hx := arOf_sound hf h2
      have hi := arOf_sound hf h3
      unfold oIndexAddrA at hn
      split at hn
      · rename_i b o k j e1 e2
        obtain ⟨hb, rfl⟩ := guard_run hn
        rw [e1] at hx
        rw [e2] at hi
        exact g_indexAddrA hR h1 h6 hx hi hb
      · cases hn
    · rename_i e x' i' h1 h2 h3
      obtain ⟨q, h6, h7⟩ := map_pair h
      have := pair_run h7; subst this
      have hx := arOf_sound hf h2
      have hi := arOf_sound hf h3
      unfold oIndexAddrS at hn
      split at hn
      · rename_i b o l c k j e1 e2
        obtain ⟨hb, rfl⟩ := guard_run hn
        rw [e2] at hi
        exact g_indexAddrS hR h1 h6 hx hi (.inl e1) hb
      · rename_i b o l c k j e1 e2
        obtain ⟨hb, rfl⟩ := guard_run hn
        rw [e2] at hi
        exact g_indexAddrS hR h1 h6 hx hi (.inr e1) hb
      · cases hn
    · cases h
  case index t x i =>
    simp only [prepOp] at h
    split at h
    · rename_i len e x' i' h1 h2 h3
      split at h
      · rename_i n g h4 h5
        have := some_run h; subst this
        have hx := arOf_sound hf h2
        have hi := arOf_sound hf h3
        unfold oIndexA at hn
        split at hn
        · rename_i cs k j e1 e2
          rw [e1] at hx
          rw [e2] at hi
          cases hb : inB j len <;> rw [hb] at hn
          · cases hn
          · simp only [cond_true] at hn
            cases g
            · simp only [cond_false] at hn
              obtain ⟨v, hv, rfl⟩ := val?_some hn
              exact g_indexA hR h1 h4 h5 hx hi hb hv
            · cases hn
              exact g_indexA hR h1 h4 h5 hx hi hb rfl
        · cases hn
      · cases h
    · rename_i x' i' h1 h2 h3
      have := some_run h; subst this
      have hx := arOf_sound hf h2
      have hi := arOf_sound hf h3
      unfold oIndexT at hn
      split at hn
      · rename_i s k j e1 e2
        rw [e1] at hx
        rw [e2] at hi
        cases hb : inB j s.size <;> rw [hb] at hn
        · cases hn
        · simp only [cond_true] at hn
          split at hn
          · rename_i by' hby
            cases hn
            exact g_indexT hR h1 hx hi hb hby
          · cases hn
      · cases hn
    · cases h
  case lookup t mv k ok =>
    simp only [prepOp] at h
    split at h
    · rename_i kt et m' k' h1 h2 h3
      obtain ⟨q, h6, h7⟩ := map_pair h
      have := pair_run h7; subst this
      obtain ⟨v, hv, rfl⟩ := val?_some hn
      exact g_lookup hR h1 h6 (arOf_sound hf h2) (arOf_sound hf h3) hv
    · cases h
  case mapUpdate t mv k v =>
    simp only [prepOp] at h
    split at h
    · rename_i kt et m' k' v' h1 h2 h3 h4
      have := some_run h; subst this
      obtain ⟨H', hv, rfl⟩ := heap?_some hn
      exact g_mapUpdate hR h1 (arOf_sound hf h2) (arOf_sound hf h3) (arOf_sound hf h4) hv
    · cases h
  case insert t mv k v =>
    simp only [prepOp] at h
    split at h
    · rename_i kt et m' k' v' h1 h2 h3 h4
      have := some_run h; subst this
      obtain ⟨H', hv, rfl⟩ := heap?_some hn
      exact g_mapUpdate hR h1 (arOf_sound hf h2) (arOf_sound hf h3) (arOf_sound hf h4) hv
    · cases h
  case mapEntry t mv k =>
    simp only [prepOp] at h
    split at h
    · rename_i kt et m' k' h1 h2 h3
      obtain ⟨q, h6, h7⟩ := map_pair h
      have := pair_run h7; subst this
      exact g_mapEntry hR h1 h6 (arOf_sound hf h2) (arOf_sound hf h3) hn
    · cases h
  case entryStore t mv s v =>
    simp only [prepOp] at h
    split at h
    · rename_i m' k' v' h2 h3 h4
      have := some_run h; subst this
      obtain ⟨H', hv, rfl⟩ := heap?_some hn
      exact g_entryStore hR (arOf_sound hf h2) (arOf_sound hf h3) (arOf_sound hf h4) hv
    · cases h
  case range t x =>
    simp only [prepOp] at h
    split at h
    · rename_i x' h1 h2
      have := some_run h; subst this
      have hx := arOf_sound hf h2
      unfold oRangeT at hn
      split at hn
      · rename_i s e
        cases hn
        rw [e] at hx
        exact g_rangeT hR h1 hx hF
      · cases hn
    · cases h
  case next it b =>
    cases b <;> simp only [prepOp] at h
    · cases h
    · obtain ⟨q, h1, h2⟩ := map_pair h
      have := pair_run h2; subst this
      have hx := arOf_sound hf h1
      unfold oNextT at hn
      split at hn
      · rename_i r e
        rw [e] at hx
        split at hn
        · rename_i s pos hi
          exact g_nextT hR hx hi hn
        · cases hn
      · cases hn
  case typeAssert x xt as ok =>
    simp only [prepOp] at h
    split at h
    · rename_i wnt z x' h1 h2 h3
      have := some_run h; subst this
      exact g_assertI hR h1 h2 (arOf_sound hf h3) hn
    · rename_i d z x' hni h1 h2 h3
      have := some_run h; subst this
      exact g_assertC hR h1 (fun k e => hni k e) h2 (arOf_sound hf h3) hn
    · cases h
  case extract t i =>
    simp only [prepOp] at h
    obtain ⟨q, h1, h2⟩ := map_pair h
    have := pair_run h2; subst this
    have hx := arOf_sound hf h1
    unfold oExtract at hn
    split at hn
    · rename_i vs e
      obtain ⟨v, hv, rfl⟩ := val?_some hn
      rw [e] at hx
      exact g_extract hR hx hv
    · cases hn
  case call c =>
    simp only [prepOp] at h
    exact call_sound hX h hf hR hn hF
  case panic x =>
    simp only [prepOp] at h
    obtain ⟨q, h1, h2⟩ := map_pair h
    have := pair_run h2; subst this
    have hx := arOf_sound hf h1
    unfold oPanic at hn
    split at hn
    · rename_i t v e
      obtain ⟨hc, rfl⟩ := guard_run hn
      rw [e] at hx
      exact g_panic hx hc
    · cases hn
  all_goals (simp only [prepOp] at h; cases h)

end Go.AX
