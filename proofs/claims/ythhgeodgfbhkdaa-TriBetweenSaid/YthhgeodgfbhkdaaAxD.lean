/- The abstract executor 'AX', soundness (3): what each operation does. -/
import Derived.Test.YthhgeodgfbhkdaaAxC
set_option linter.unusedVariables false
set_option linter.unusedSimpArgs false
set_option linter.unusedSectionVars false
namespace Go.AX
variable {P : Program} {m : M} {H : AH} {w : World}

/-! ## Types -/
theorem sizeT_run {t : TypeId} {n : Nat} (h : sizeT P t = some n) (w : World) : (sizeOf t).run P w = .ok n w := by
  unfold sizeT at h
  split at h
  · rename_i i hi
    cases h
    simp [sizeOf, typeInfo, hi]
  · cases h

theorem isAggT_run {t : TypeId} {b : Bool} (h : isAggT P t = some b) (w : World) : (isAgg t).run P w = .ok b w := by
  unfold isAggT at h
  cases hu : P.underlying t with
  | none => rw [hu] at h; cases h
  | some d => rw [hu] at h; cases d <;> cases h <;> simp [isAgg, run_underlying hu]

theorem zeroT_run {t : TypeId} {z : Value} (h : zeroT P t = some z) (w : World) : (zeroValue t).run P w = .ok z w := by
  unfold zeroT at h
  split at h
  · rename_i i hi
    split at h
    · rename_i z' hz
      cases hc : (clo 4 z' && Nat.beq z'.cells.toList.length i.size && z'.cells.toList.all flat) <;> rw [hc] at h
      · cases h
      · cases h
        simp [zeroValue, typeInfo, hi, hz]
    · cases h
  · cases h

theorem zeroT_spec {t : TypeId} {z : Value} (h : zeroT P t = some z) :
    clo 4 z = true ∧ sizeT P t = some z.cells.toList.length ∧ ∀ v ∈ z.cells.toList, flat v = true := by
  unfold zeroT at h
  split at h
  · rename_i i hi
    split at h
    · rename_i z' hz
      cases hc : (clo 4 z' && Nat.beq z'.cells.toList.length i.size && z'.cells.toList.all flat) <;> rw [hc] at h
      · cases h
      · cases h
        simp only [Bool.and_eq_true] at hc
        exact ⟨hc.1.1, by simp only [sizeT, hi]; rw [Nat.eq_of_beq_eq_true hc.1.2], List.all_eq_true.1 hc.2⟩
    · cases h
  · cases h

/-! ## Pure runs -/
theorem pure?_ok {α : Type} {s : Sem α} : ∀ {x : α}, pure? P s = .ok x → ∀ w, s.run P w = .ok x w := by
  induction s with
  | pure a => intro x h w; simp only [pure?] at h; cases h; rfl
  | program k ih => intro x h w; simp only [pure?] at h; exact ih P h w
  | mark mk k ih => intro x h w; simp only [pure?] at h; exact ih h w
  | halt hl => intro x h; cases hl <;> simp [pure?] at h
  | _ => intro x h; simp [pure?] at h

theorem pure?_panic {α : Type} {s : Sem α} : ∀ {v : Value}, pure? P s = .panic v → ∀ w, s.run P w = .halt (.panic v) w := by
  induction s with
  | pure a => intro x h w; simp only [pure?] at h; cases h
  | program k ih => intro x h w; simp only [pure?] at h; exact ih P h w
  | mark mk k ih => intro x h w; simp only [pure?] at h; exact ih h w
  | halt hl => intro x h w; cases hl <;> simp only [pure?] at h <;> cases h; rfl
  | _ => intro x h; simp [pure?] at h

/-! ## Operands -/
def FrR (m : M) (fr : Tr Value) (a : Act) : Prop := ∀ t, VR m (tmp fr (pa t)) (a.tmps.getD t undef)

theorem FrR.mono {m m' : M} (hm : m.Le m') {fr : Tr Value} {a : Act} (h : FrR m fr a) : FrR m' fr a := fun t => (h t).mono hm

theorem arOf_sound {fr : Tr Value} {a : Act} (hf : FrR m fr a) {x : Operand} {r : Ar} (h : arOf x = some r) : VR m (ev fr r) (a.eval x) := by
  cases x with
  | tmp t => simp only [arOf] at h; cases h; exact hf t
  | const v =>
    simp only [arOf] at h
    cases hc : clo 4 v <;> rw [hc] at h
    · cases h
    · cases h; exact VR.of_clo m 4 v hc
  | func f => simp only [arOf] at h; cases h; exact .func _ _ _ _ _ (by simp) .nil .nil
  | global g => simp [arOf] at h

theorem arsOf_sound {fr : Tr Value} {a : Act} (hf : FrR m fr a) : ∀ {l : List Operand} {r : List Ar}, arsOf l = some r → VRL m (evs fr r) (l.map a.eval)
  | [], r, h => by simp only [arsOf] at h; cases h; exact .nil
  | x :: l, r, h => by
    simp only [arsOf] at h
    split at h
    · rename_i y ys h1 h2
      cases h
      exact .cons _ _ _ _ (arOf_sound hf h1) (arsOf_sound hf h2)
    · cases h

theorem evs_length (fr : Tr Value) : ∀ l : List Ar, (evs fr l).length = l.length
  | [] => rfl
  | x :: l => by simp [evs, evs_length fr l]

/-- an optional operand. -/
inductive VRO (m : M) : Option Value → Option Value → Prop
  | none : VRO m none none
  | some (v v' : Value) (h : VR m v v') : VRO m (some v) (some v')

theorem arO_sound {fr : Tr Value} {a : Act} (hf : FrR m fr a) {x : Option Operand} {r : Option Ar} (h : arO x = some r) : VRO m (evO fr r) (x.map a.eval) := by
  cases x with
  | none => simp only [arO] at h; cases h; exact .none
  | some x =>
    simp only [arO] at h
    split at h
    · rename_i y hy; cases h; exact .some _ _ (arOf_sound hf hy)
    · cases h

/-! ## What is said of an operation -/
def ANext.heap : ANext → AH
  | .val _ h | .enter _ _ h | .round _ _ h | .panic _ h => h

/-- the operation's run comes to what the executor says. -/
inductive Good (P : Program) (m : M) (H : AH) (w : World) (r : Result Next) : ANext → Prop
  | val (v : Value) (H' : AH) (m' : M) (w' : World) (v' : Value) (h : r = .ok (.value v') w' ∨ (r = .ok .skip w' ∧ v' = undef)) (hv : VR m' v v') (hr : Rel m' H' w') (hs : Step m m' H H' w w') : Good P m H w r (.val v H')
  | enter (f : FuncId) (args : List Value) (args' : Array Value) (h : r = (callFunc f args').run P w) (hv : VRL m args args'.toList) : Good P m H w r (.enter f args H)
  | round (l : Nat) (args : List Value) (args' : Array Value) (h : r = (Instr.yield (m.bk l) args').run P w) (hd : m.dm l) (hv : VRL m args args'.toList) : Good P m H w r (.round l args H)
  | panic (v : Value) (h : r = .halt (.panic v) w) (hc : clo 5 v = true) : Good P m H w r (.panic v H)

theorem Good.here {P : Program} {m : M} {H : AH} {w : World} {r : Result Next} {v v' : Value} (hR : Rel m H w) (h : r = .ok (.value v') w) (hv : VR m v v') : Good P m H w r (.val v H) :=
  .val v H m w v' (.inl h) hv hR .refl

theorem good_ofPR {r : Result Next} {s : Sem Value} {nx : ANext} (hR : Rel m H w) (hr : r = (s >>= fun v => pure (Next.value v)).run P w) (h : ofPR H (pure? P s) = some nx) : Good P m H w r nx := by
  unfold ofPR at h
  split at h
  · rename_i v hv
    cases hc : clo 5 v <;> rw [hc] at h
    · cases h
    · cases h
      exact .here hR (by rw [hr, Sem.run_bind, pure?_ok hv w]; rfl) (VR.of_clo m 5 v hc)
  · rename_i v hv
    cases hc : clo 5 v <;> rw [hc] at h
    · cases h
    · cases h
      exact .panic v (by rw [hr, Sem.run_bind, pure?_panic hv w]; rfl) hc
  · cases h

/-! ## Inversion: values known in part -/
theorem VR.inv_ptr {b o : Nat} {v : Value} (h : VR m (.pointer (some ⟨b, o, none⟩)) v) : v = .pointer (some ⟨m.bk b, o, none⟩) ∧ m.dm b := by cases h with | ptr _ _ h => exact ⟨rfl, h⟩
theorem VR.inv_int {k : IntKind} {n : Int} {v : Value} (h : VR m (.int k n) v) : v = .int k n := by cases h; rfl
theorem VR.inv_bool {b : Bool} {v : Value} (h : VR m (.bool b) v) : v = .bool b := by cases h; rfl
theorem VR.inv_str {s : ByteArray} {v : Value} (h : VR m (.string s) v) : v = .string s := by cases h; rfl
theorem VR.inv_agg {c : Array Value} {v : Value} (h : VR m (.agg c) v) : ∃ c', v = .agg c' ∧ VRL m c.toList c'.toList := by cases h with | agg _ c' h => exact ⟨c', rfl, h⟩
theorem VR.inv_tuple {c : Array Value} {v : Value} (h : VR m (.tuple c) v) : ∃ c', v = .tuple c' ∧ VRL m c.toList c'.toList := by cases h with | tuple _ c' h => exact ⟨c', rfl, h⟩
theorem VR.inv_sl {b o l c : Nat} {v : Value} (h : VR m (.slice (some ⟨b, o, none⟩) l c) v) : v = .slice (some ⟨m.bk b, o, none⟩) l c ∧ m.dm b := by cases h with | sl _ _ _ _ h => exact ⟨rfl, h⟩
theorem VR.inv_slr {b o l c : Nat} {v : Value} (h : VR m (.slice (some ⟨b, o, some 0⟩) l c) v) : v = .slice (some ⟨m.bk b, o, none⟩) l (c + m.sp b) ∧ m.dm b := by cases h with | slr _ _ _ _ h => exact ⟨rfl, h⟩
theorem VR.inv_sl0 {l c : Nat} {v : Value} (h : VR m (.slice none l c) v) : v = .slice none l c := by cases h; rfl
theorem VR.inv_map {r : Nat} {v : Value} (h : VR m (.map (some r)) v) : v = .map (some (m.bk r)) ∧ m.dm r := by cases h with | map _ h => exact ⟨rfl, h⟩
theorem VR.inv_map0 {v : Value} (h : VR m (.map none) v) : v = .map none := by cases h; rfl
theorem VR.inv_iface {t : TypeId} {x v : Value} (h : VR m (.iface t x) v) : ∃ x', v = .iface t x' ∧ VR m x x' := by cases h with | iface _ _ x' h => exact ⟨x', rfl, h⟩

/-! ## Loads and stores -/
theorem aLoadA_sound {t : TypeId} {n : Nat} {v v' r : Value} (hR : Rel m H w) (ht : isAggT P t = some true) (hn : sizeT P t = some n) (hv : VR m v v') (h : aLoadA n v H = some r) :
    ∃ r', (Instr.loadAt t v').run P w = .ok r' w ∧ VR m r r' := by
  unfold aLoadA at h
  split at h
  · rename_i b o
    split at h
    · rename_i l hl
      cases h
      obtain ⟨rfl, hd⟩ := hv.inv_ptr
      obtain ⟨l', h1, h2⟩ := hR.loadCells (P := P) hl
      exact ⟨.agg l'.toArray, by simp [Instr.loadAt, Instr.sureAddr, loadVar, isAggT_run ht, sizeT_run hn, h2], .agg _ _ (by simpa using h1)⟩
    · cases h
  · cases h

theorem aLoad1_sound {t : TypeId} {v v' r : Value} (hR : Rel m H w) (ht : isAggT P t = some false) (hv : VR m v v') (h : aLoad1 v H = some r) :
    ∃ r', (Instr.loadAt t v').run P w = .ok r' w ∧ VR m r r' := by
  unfold aLoad1 at h
  split at h
  · rename_i b o
    split at h
    · rename_i x hl
      cases h
      obtain ⟨rfl, hd⟩ := hv.inv_ptr
      obtain ⟨l', h1, h2⟩ := hR.rd hl
      cases h1 with
      | cons _ x' _ l'' hx hnil =>
        have := h2 0 x' (by simp)
        simp only [Nat.add_zero] at this
        exact ⟨x', by simp [Instr.loadAt, Instr.sureAddr, loadVar, isAggT_run ht, this], hx⟩
    · cases h
  · cases h

theorem aStore_sound {t : TypeId} {n : Nat} {a a' v v' : Value} {nx : ANext} (hR : Rel m H w) (hn : sizeT P t = some n) (ha : VR m a a') (hv : VR m v v') (h : aStore n a v H = some nx) :
    Good P m H w ((Instr.storeAt t a' v' >>= fun _ => pure Next.skip).run P w) nx := by
  unfold aStore at h
  split at h
  · rename_i b o
    cases hc : Nat.beq v.cells.toList.length n <;> rw [hc] at h
    · cases h
    · simp only [cond_true] at h
      split at h
      · rename_i H' hw
        cases h
        obtain ⟨rfl, hd⟩ := ha.inv_ptr
        obtain ⟨w', h1, h2, h3⟩ := hR.wr (P := P) hv.cells hw
        have hsz : v'.cells.size = n := by
          rw [← Array.length_toList, hv.cells.length]; exact Nat.eq_of_beq_eq_true hc
        refine .val _ _ m w' undef (.inr ⟨?_, rfl⟩) (VR.of_clo m 1 _ rfl) h2 h3
        simp [Instr.storeAt, Instr.sureAddr, storeVar, sizeT_run hn, hsz, h1]
      · cases h
  · cases h

end Go.AX
