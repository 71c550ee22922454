/- The abstract executor 'AX', soundness (7): make, maps, iterators, conversions, lengths. -/
import Derived.Test.YthhgeodgfbhkdaaAxG
set_option linter.unusedVariables false
set_option linter.unusedSimpArgs false
set_option linter.unusedSectionVars false
namespace Go.AX
variable {P : Program} {m : M} {H : AH} {w : World}

theorem g_makeSlice {t e : TypeId} {i : TypeInfo} {z l l' c c' : Value} {nx : ANext} (hR : Rel m H w) (hu : P.underlying t = some (.slice e)) (hi : P.info? e = some i) (hz : zeroT P e = some z) (hl : VR m l l') (hc : VR m c c')
    (h : aMakeSlice i.bytes i.size z.cells.toList l c H = some nx) (hF : Fresh m H nx.heap) : Good P m H w ((Instr.makeSlice t l' c' >>= fun v => pure (Next.value v)).run P w) nx := by
  unfold aMakeSlice at h
  split at h
  · rename_i k1 a k2 b
    cases hb : (Nat.ble a b && Nat.ble (b * i.bytes) 140737488355328 && Nat.ble b 4611686018427387904 && Nat.beq z.cells.toList.length i.size) <;> rw [hb] at h
    · cases h
    · cases h
      simp only [Bool.and_eq_true] at hb
      have h1 := Nat.le_of_ble_eq_true hb.1.1.1
      have h2 := Nat.le_of_ble_eq_true hb.1.1.2
      have h3 := Nat.le_of_ble_eq_true hb.1.2
      have h4 := Nat.eq_of_beq_eq_true hb.2
      rw [hl.inv_int, hc.inv_int]
      have hn : sizeT P e = some i.size := by simp [sizeT, hi]
      have h5 := zeros_array hz b i.size h4
      have w1 : IntKind.i64.wrap (Int.ofNat a) = (a : Int) := by rw [← wrapF_eq]; unfold wrapF wS; rw [show (decide (-9223372036854775808 ≤ Int.ofNat a) && decide (Int.ofNat a < 9223372036854775808)) = true by simp; omega]; rfl
      have w2 : IntKind.i64.wrap (Int.ofNat b) = (b : Int) := by rw [← wrapF_eq]; unfold wrapF wS; rw [show (decide (-9223372036854775808 ≤ Int.ofNat b) && decide (Int.ofNat b < 9223372036854775808)) = true by simp; omega]; rfl
      have hmul : (i.bytes : Int) * (b : Int) ≤ 140737488355328 := by rw [← Int.natCast_mul, Nat.mul_comm]; omega
      refine good_push_sl hR hF (cs' := (Array.range (b * i.size)).map fun j => (zrow z (b * i.size))[j % (zrow z (b * i.size)).size]!) (by rw [h5]; exact repl_rel (zeroT_cells hz) b) (t := e) ?_
      simp only [Instr.makeSlice, Sem.run_bind, run_underlying hu, Result.andThen_ok, asInt, asIntOf, Sem.run_pure, typeInfo, run_program, hi, w1, w2, Int.toNat_natCast, run_askRoom, sizeT_run hn]
      have hT : ((decide ((b : Int) < 0) || decide ((i.bytes : Int) * (b : Int) > 2 ^ 48)) || decide ((a : Int) < 0) || decide ((a : Int) > (b : Int))) = false := by
        simp only [Bool.or_eq_false_iff, decide_eq_false_iff_not]
        refine ⟨⟨⟨by omega, ?_⟩, by omega⟩, by omega⟩
        have : (2 : Int) ^ 48 = 281474976710656 := by decide
        omega
      rw [if_neg (by rw [hT]; simp)]
      unfold zrow
      by_cases h0 : b * i.size = 0
      · simp only [h0, if_true, Sem.run_bind, Sem.run_pure, Result.andThen_ok, newRow, run_newObj, run_askRoom, sizeT_run hn]; rfl
      · simp only [h0, if_false, Sem.run_bind, zeroT_run hz, Sem.run_pure, Result.andThen_ok, newRow, run_newObj, run_askRoom, sizeT_run hn]; rfl
  · cases h

/-! ## Maps -/
theorem g_mkMap {t : TypeId} (hR : Rel m H w) (hF : Fresh m H (H.push (.map [] 0))) :
    Good P m H w ((Instr.makeMap t none >>= fun v => pure (Next.value v)).run P w) (.val (.map (some H.nx)) (H.push (.map [] 0))) := by
  obtain ⟨h1, h2⟩ := hR.push (fresh_nx hF) (.map [] 0) (.map #[] 0) 0 default (.map [] 0 #[] .nil)
  refine .val _ _ _ _ (.map (some w.heap.size)) (.inl (by simp only [Instr.makeMap, Sem.run_bind, run_newObj, Sem.run_pure, Result.andThen_ok]; rfl)) ?_ h1 h2
  have := VR.map (m := m.add H.nx w.heap.size 0 default) H.nx (M.add_dm _ _ _ _ _)
  rwa [M.add_bk] at this

theorem g_rangeT {t : TypeId} {s : ByteArray} {x' : Value} (hR : Rel m H w) (hu : P.underlying t = some .string) (hx : VR m (.string s) x') (hF : Fresh m H (H.push (.iter s 0))) :
    Good P m H w ((Instr.range t x' >>= fun v => pure (Next.value v)).run P w) (.val (ptr H.nx 0) (H.push (.iter s 0))) := by
  obtain ⟨h1, h2⟩ := hR.push (fresh_nx hF) (.iter s 0) (.stringIter s 0) 0 default (.iter s 0)
  rw [hx.inv_str]
  refine .val _ _ _ _ (.pointer (some ⟨w.heap.size, 0, none⟩)) (.inl (by simp only [Instr.range, Sem.run_bind, run_underlying hu, run_newObj, Sem.run_pure, Result.andThen_ok]; rfl)) ?_ h1 h2
  have := VR.ptr (m := m.add H.nx w.heap.size 0 default) H.nx 0 (M.add_dm _ _ _ _ _)
  rwa [M.add_bk] at this

theorem heap_putObj_ne {w : World} {r k : Nat} {o : Obj} (h : k ≠ r) : (w.heap.setIfInBounds r o)[k]? = w.heap[k]? := by
  rw [Array.getElem?_setIfInBounds]; rw [if_neg (by omega)]
theorem heap_putObj_same {w : World} {r : Nat} {o x : Obj} (h : w.heap[r]? = some x) : (w.heap.setIfInBounds r o)[r]? = some o := by
  rw [Array.getElem?_setIfInBounds, if_pos rfl, if_pos (Array.getElem?_eq_some_iff.1 h).1]

/-- a block that is no row of cells is laid anew. -/
theorem Rel.setObj {m : M} {H : AH} {w : World} (h : Rel m H w) {i : Nat} {b : AB} (hi : H.get i = some b) (hb : b ≠ .dead) {o : Obj} (hw : w.heap[m.bk i]? = some o) (ho : ∀ c t f, o ≠ .cells c t f) (x : AB) (o' : Obj) (hx : BR m i x (some o')) :
    ∃ w', (Go.setObj (m.bk i) o').run P w = .ok () w' ∧ Rel m (H.set i x) w' ∧ Step m m H (H.set i x) w w' := by
  refine ⟨{ w with heap := w.heap.setIfInBounds (m.bk i) o' }, ?_, h.set hi hb x (by simp only; rw [heap_putObj_same hw]; exact hx) (fun k hk => heap_putObj_ne hk) (by simp) rfl rfl rfl⟩
  simp only [Go.setObj, Sem.run, hw]

theorem run_getObj {r : Nat} {o : Obj} (hw : w.heap[r]? = some o) (ho : ∀ c t f, o ≠ .cells c t f) : (Go.getObj r).run P w = .ok o w := by
  simp only [Go.getObj, Sem.run, hw]

theorem Rel.iter {m : M} {H : AH} {w : World} (h : Rel m H w) {i : Nat} {s : ByteArray} {p : Nat} (hi : H.get i = some (.iter s p)) : w.heap[m.bk i]? = some (.stringIter s p) := by
  have := h.blk i _ hi
  generalize w.heap[m.bk i]? = o at this
  cases this; rfl

theorem Rel.map {m : M} {H : AH} {w : World} (h : Rel m H w) {i : Nat} {es : List MapEntry} {c : Nat} (hi : H.get i = some (.map es c)) : ∃ es' : Array MapEntry, w.heap[m.bk i]? = some (.map es' c) ∧ ERL m es es'.toList := by
  have := h.blk i _ hi
  generalize w.heap[m.bk i]? = o at this
  cases this with | map _ _ es' h => exact ⟨es', rfl, h⟩

theorem g_nextT {r : Nat} {x' : Value} {ty : TypeId} {nx : ANext} (hR : Rel m H w) (hx : VR m (.pointer (some ⟨r, 0, none⟩)) x') {s : ByteArray} {pos : Nat} (hi : H.get r = some (.iter s pos))
    (h : (bif Nat.blt pos s.size then
          (match Utf8.decode s pos with
          | (c, width) => some (ANext.val (.tuple #[.bool true, .int .i64 pos, .int .i32 c]) (H.set r (.iter s (pos + width)))))
        else some (.val (.tuple #[.bool false]) H)) = some nx) :
    Good P m H w ((Instr.next x' true ty >>= fun v => pure (Next.value v)).run P w) nx := by
  obtain ⟨rfl, hd⟩ := hx.inv_ptr
  have hw := hR.iter hi
  have hg := run_getObj (P := P) hw (fun _ _ _ => by simp)
  cases hb : Nat.blt pos s.size <;> rw [hb] at h
  · cases h
    have hlt : ¬ pos < s.size := by intro e; rw [← Nat.blt_eq, hb] at e; cases e
    refine .here hR (v' := .tuple #[.bool false]) ?_ (VR.of_clo m 2 _ rfl)
    simp only [Instr.next, Sem.run_bind, hg, Result.andThen_ok]
    rw [if_neg hlt]; rfl
  · simp only [cond_true, Option.some.injEq] at h
    subst h
    have hlt : pos < s.size := by rw [Nat.blt_eq] at hb; exact hb
    obtain ⟨w', h1, h2, h3⟩ := hR.setObj (P := P) hi (by simp) hw (fun _ _ _ => by simp) (.iter s (pos + (Utf8.decode s pos).2)) (.stringIter s (pos + (Utf8.decode s pos).2)) (.iter _ _)
    refine .val _ _ m w' (.tuple #[.bool true, goInt pos, .int .i32 (Utf8.decode s pos).1]) (.inl ?_) (VR.of_clo m 2 _ rfl) h2 h3
    simp only [Instr.next, Sem.run_bind, hg, Result.andThen_ok]
    rw [if_pos hlt]
    simp only [Sem.run_bind, h1, Result.andThen_ok, Sem.run_pure]

/-- what is found in a map. -/
inductive FoundR (m : M) : Option (Nat × Value) → Option (Nat × Value) → Prop
  | none : FoundR m none none
  | some (i : Nat) (v v' : Value) (h : VR m v v') : FoundR m (some (i, v)) (some (i, v'))

theorem findNow_rel (kind : TypeDesc) (k : Value) {es es' : List MapEntry} (h : ERL m es es') : ∀ (i : Nat), (Instr.findNow kind k es i = none → Instr.findNow kind k es' i = none) ∧
    (∀ r, Instr.findNow kind k es i = some r → ∃ r', Instr.findNow kind k es' i = some r' ∧ FoundR m r r') := by
  induction h with
  | nil => intro i; exact ⟨fun h => h, fun r h => by simp only [Instr.findNow] at h; cases h; exact ⟨none, rfl, .none⟩⟩
  | cons e e' l l' he hl ih =>
    intro i
    unfold Instr.findNow
    rw [he.key]
    cases hs : Instr.sameNow kind k e.key with
    | none => exact ⟨fun _ => rfl, fun r h => by cases h⟩
    | some b => cases b with
      | true =>
        refine ⟨fun h => ?_, fun r h => ?_⟩
        · cases h
        · cases h; exact ⟨_, rfl, .some _ _ _ he.val⟩
      | false => exact ih (i + 1)

theorem pure?_bind {α β : Type} (x : Sem α) (f : α → Sem β) : pure? P (x >>= f) = (match pure? P x with | .ok a => pure? P (f a) | .panic v => .panic v | .no => .no) := by
  show pure? P (x.bind f) = _
  induction x with
  | pure a => rfl
  | program k ih => simp only [Sem.bind, pure?]; exact ih P
  | mark mk k ih => simp only [Sem.bind, pure?]; exact ih
  | halt h => cases h <;> rfl
  | _ => rfl

theorem findAsking_rel (kt : TypeId) (k : Value) {es es' : List MapEntry} (h : ERL m es es') : ∀ (i : Nat) (r : Option (Nat × Value)), pure? P (Instr.findAsking kt k es i) = .ok r →
    ∃ r', (∀ w, (Instr.findAsking kt k es' i).run P w = .ok r' w) ∧ FoundR m r r' := by
  induction h with
  | nil => intro i r h; simp only [Instr.findAsking] at h; cases h; exact ⟨none, fun w => rfl, .none⟩
  | cons e e' l l' he hl ih =>
    intro i r h
    simp only [Instr.findAsking] at h
    rw [pure?_bind] at h
    split at h
    · rename_i b hb
      cases b with
      | true =>
        simp only [if_true] at h
        cases h
        refine ⟨some (i, e'.val), fun w => ?_, .some _ _ _ he.val⟩
        simp only [Instr.findAsking, he.key, Sem.run_bind, pure?_ok hb w, Result.andThen_ok, if_true, Sem.run_pure]
      | false =>
        simp only [Bool.false_eq_true, if_false] at h
        obtain ⟨r', h1, h2⟩ := ih (i + 1) r h
        refine ⟨r', fun w => ?_, h2⟩
        simp only [Instr.findAsking, he.key, Sem.run_bind, pure?_ok hb w, Result.andThen_ok, Bool.false_eq_true, if_false, h1]
    · cases h
    · cases h

theorem findKey_rel (kt : TypeId) (k : Value) {es es' : List MapEntry} (h : ERL m es es') {r : Option (Nat × Value)} (hr : pure? P (Instr.findKey kt k es) = .ok r) :
    ∃ r', (∀ w, (Instr.findKey kt k es').run P w = .ok r' w) ∧ FoundR m r r' := by
  unfold Instr.findKey at hr
  rw [pure?_bind] at hr
  split at hr
  · rename_i d hd
    have hn := findNow_rel d k h 0
    cases hf : Instr.findNow d k es 0 with
    | some q =>
      rw [hf] at hr
      cases hr
      obtain ⟨q', h1, h2⟩ := hn.2 _ hf
      exact ⟨q', fun w => by simp only [Instr.findKey, Sem.run_bind, pure?_ok hd w, Result.andThen_ok, h1, Sem.run_pure], h2⟩
    | none =>
      rw [hf] at hr
      obtain ⟨r', h1, h2⟩ := findAsking_rel kt k h 0 r hr
      exact ⟨r', fun w => by simp only [Instr.findKey, Sem.run_bind, pure?_ok hd w, Result.andThen_ok, hn.1 hf, h1], h2⟩
  · cases hr
  · cases hr

theorem ERL.length {es es' : List MapEntry} (h : ERL m es es') : es'.length = es.length := by
  induction h with
  | nil => rfl
  | cons e e' l l' he hl ih => simp [ih]

theorem isEmpty_eq {es : List MapEntry} {es' : Array MapEntry} (h : ERL m es es'.toList) : es'.isEmpty = es.isEmpty := by
  have := h.length
  rw [Array.length_toList] at this
  unfold Array.isEmpty
  rw [this]
  cases es <;> simp

theorem aFind_spec {emp : Bool} {kt : TypeId} {k k' : Value} {es : List MapEntry} {es' : Array MapEntry} {r : Option (Nat × Value)} (h : ERL m es es'.toList) (hk : VR m k k') (hr : aFind P emp kt k es = some r) :
    k' = k ∧ clo 3 k = true ∧ (∀ w, (Instr.checkKey emp 10000 kt k).run P w = .ok () w) ∧ ∃ r', (∀ w, (Instr.findKey kt k es'.toList).run P w = .ok r' w) ∧ FoundR m r r' := by
  unfold aFind at hr
  cases hc : clo 3 k <;> rw [hc] at hr
  · cases hr
  · simp only [cond_true] at hr
    rw [pure?_bind] at hr
    split at hr
    · rename_i q hq
      cases hr
      split at hq
      · rename_i u hu
        exact ⟨VR.eq_of_clo 3 hc hk, rfl, fun w => pure?_ok hu w, findKey_rel kt k h hq⟩
      · cases hq
      · cases hq
    · cases hr

theorem lookup_core {kt et : TypeId} {z k k' v : Value} {ok : Bool} {es : List MapEntry} {es' : Array MapEntry} (hz : zeroT P et = some z) (hes : ERL m es es'.toList) (hk : VR m k k')
    (h : (match aFind P es.isEmpty kt k es with
        | none => none
        | some (some (_, v)) => some (bif ok then .tuple #[v, .bool true] else v)
        | some none => some (bif ok then .tuple #[z, .bool false] else z)) = some v) :
    ∃ v', VR m v v' ∧ (do
      Instr.checkKey es'.isEmpty 10000 kt k'
      let (v, ok') ← match ← Instr.findKey kt k' es'.toList with
        | some (_, v) => pure (v, true)
        | none => pure (← zeroValue et, false)
      pure (if ok then .tuple #[v, .bool ok'] else v) : Sem Value).run P w = .ok v' w := by
  split at h
  · cases h
  · rename_i i x hf
    cases h
    obtain ⟨rfl, hc, h1, r', h2, h3⟩ := aFind_spec hes hk hf
    rw [← isEmpty_eq hes] at h1
    cases h3 with
    | some _ _ x' hx =>
      refine ⟨bif ok then .tuple #[x', .bool true] else x', ?_, ?_⟩
      · cases ok
        · exact hx
        · exact .tuple _ _ (.cons _ _ _ _ hx (.cons _ _ _ _ (.bool _) .nil))
      · simp only [Sem.run_bind, h1, h2, Result.andThen_ok, Sem.run_pure]
        cases ok <;> rfl
  · rename_i hf
    cases h
    obtain ⟨rfl, hc, h1, r', h2, h3⟩ := aFind_spec hes hk hf
    rw [← isEmpty_eq hes] at h1
    cases h3 with
    | none =>
      have hzz : VR m z z := VR.of_clo m 4 z (zeroT_spec hz).1
      refine ⟨bif ok then .tuple #[z, .bool false] else z, ?_, ?_⟩
      · cases ok
        · exact hzz
        · exact .tuple _ _ (.cons _ _ _ _ hzz (.cons _ _ _ _ (.bool _) .nil))
      · simp only [Sem.run_bind, h1, h2, zeroT_run hz, Result.andThen_ok, Sem.run_pure]
        cases ok <;> rfl

theorem g_lookup {t kt et : TypeId} {z mv mv' k k' v : Value} {ok : Bool} (hR : Rel m H w) (hu : P.underlying t = some (.map kt et)) (hz : zeroT P et = some z) (hm : VR m mv mv') (hk : VR m k k') (h : aLookup P kt z ok mv k H = some v) :
    Good P m H w ((Instr.lookup t mv' k' ok >>= fun v => pure (Next.value v)).run P w) (.val v H) := by
  unfold aLookup at h
  split at h
  · cases h
  · rename_i es hes0
    split at hes0
    · cases hes0
      rw [hm.inv_map0]
      obtain ⟨v', h1, h2⟩ := lookup_core (w := w) (es' := #[]) (ok := ok) hz .nil hk h
      refine .here hR (v' := v') ?_ h1
      simp only [Instr.lookup, Sem.run_bind, run_underlying hu, Result.andThen_ok, Sem.run_pure]
      simp only [Sem.run_bind] at h2
      exact (congrArg (fun r => Result.andThen r _) h2).trans rfl
    · rename_i r
      split at hes0
      · rename_i es0 cl hg
        cases hes0
        obtain ⟨rfl, hd⟩ := hm.inv_map
        obtain ⟨es', g1, g2⟩ := hR.map hg
        obtain ⟨v', h1, h2⟩ := lookup_core (w := w) (ok := ok) hz g2 hk h
        refine .here hR (v' := v') ?_ h1
        simp only [Instr.lookup, Sem.run_bind, run_underlying hu, Result.andThen_ok, Sem.run_pure, run_getObj g1 (fun _ _ _ => by simp)]
        simp only [Sem.run_bind] at h2
        exact (congrArg (fun r => Result.andThen r _) h2).trans rfl
      · cases hes0
    · cases hes0

end Go.AX
/- The abstract executor 'AX', soundness (8): maps that are written; append, copy; conversions; calls. -/
namespace Go.AX
variable {P : Program} {m : M} {H : AH} {w : World}

theorem ERL.modify {f f' : MapEntry → MapEntry} (hf : ∀ e e', ER m e e' → ER m (f e) (f' e')) {es es' : List MapEntry} (h : ERL m es es') : ∀ i, ERL m (es.modify i f) (es'.modify i f') := by
  induction h with
  | nil => intro i; cases i <;> exact .nil
  | cons e e' l l' he hl ih =>
    intro i
    cases i with
    | zero => simp only [List.modify_zero_cons]; exact .cons _ _ _ _ (hf _ _ he) hl
    | succ i => simp only [List.modify_succ_cons]; exact .cons _ _ _ _ he (ih i)

theorem ERL.snoc {es es' : List MapEntry} (h : ERL m es es') {e e' : MapEntry} (he : ER m e e') : ERL m (es ++ [e]) (es' ++ [e']) := by
  induction h with
  | nil => exact .cons _ _ _ _ he .nil
  | cons a a' l l' ha hl ih => exact .cons _ _ _ _ ha ih

theorem ERL.erase {es es' : List MapEntry} (h : ERL m es es') : ∀ i, ERL m (es.eraseIdx i) (es'.eraseIdx i) := by
  induction h with
  | nil => intro i; exact .nil
  | cons a a' l l' ha hl ih =>
    intro i
    cases i with
    | zero => exact hl
    | succ i => exact .cons _ _ _ _ ha (ih i)

theorem ERL.get {es es' : List MapEntry} (h : ERL m es es') : ∀ (i : Nat), (es[i]? = none ∧ es'[i]? = none) ∨ ∃ e e', es[i]? = some e ∧ es'[i]? = some e' ∧ ER m e e' := by
  induction h with
  | nil => intro i; exact .inl ⟨rfl, rfl⟩
  | cons a a' l l' ha hl ih =>
    intro i
    cases i with
    | zero => exact .inr ⟨a, a', rfl, rfl, ha⟩
    | succ i => simpa using ih i

theorem keyAt_eq {es : List MapEntry} {es' : Array MapEntry} (h : ERL m es es'.toList) (i : Nat) (d : Value) : ((es'[i]?).map (·.key)).getD d = keyAt es i d := by
  unfold keyAt
  rcases h.get i with ⟨h1, h2⟩ | ⟨e, e', h1, h2, h3⟩
  · rw [h1]; simp only [Array.getElem?_toList] at h2; rw [h2]; rfl
  · rw [h1]; simp only [Array.getElem?_toList] at h2; rw [h2]; simp [h3.key]

theorem stays {old new : Value} (h : Instr.sameBits 10000 old new = true) (w : World) : (Instr.keyThatStays old new).run P w = .ok new w := by
  simp only [Instr.keyThatStays, h, if_true, Sem.run_pure]

theorem er_key {e e' : MapEntry} {k : Value} (he : ER m e e') (hc : clo 3 k = true) : ER m { e with key := k } { e' with key := k } := ⟨rfl, hc, he.born, he.val⟩
theorem er_val {e e' : MapEntry} {v v' : Value} (he : ER m e e') (hv : VR m v v') : ER m { e with val := v } { e' with val := v' } := ⟨he.key, he.clo, he.born, hv⟩
theorem er_both {e e' : MapEntry} {k v v' : Value} (he : ER m e e') (hc : clo 3 k = true) (hv : VR m v v') : ER m { e with key := k, val := v } { e' with key := k, val := v' } := ⟨rfl, hc, he.born, hv⟩

theorem g_mapUpdate {t kt et : TypeId} {mv mv' k k' v v' : Value} {H' : AH} (hR : Rel m H w) (hu : P.underlying t = some (.map kt et)) (hm : VR m mv mv') (hk : VR m k k') (hv : VR m v v') (h : aMapUpdate P kt mv k v H = some H') :
    Good P m H w ((Instr.mapUpdate t mv' k' v' >>= fun _ => pure Next.skip).run P w) (.val undef H') := by
  unfold aMapUpdate at h
  split at h
  · rename_i r
    split at h
    · rename_i es clock hg
      obtain ⟨rfl, hd⟩ := hm.inv_map
      obtain ⟨es', g1, g2⟩ := hR.map hg
      have hgo := run_getObj (P := P) g1 (fun _ _ _ => by simp)
      split at h
      · rename_i i x hf
        obtain ⟨rfl, hc, h1, r', h2, h3⟩ := aFind_spec g2 hk hf
        cases hb : Instr.sameBits 10000 (keyAt es i k') k' <;> rw [hb] at h
        · cases h
        · cases h
          cases h3 with
          | some _ _ x' hx =>
            obtain ⟨w', k1, k2, k3⟩ := hR.setObj (P := P) hg (by simp) g1 (fun _ _ _ => by simp) (.map (es.modify i fun e => { e with key := k', val := v }) clock) (.map (es'.modify i fun e => { e with key := k', val := v' }) clock)
              (.map _ _ _ (by rw [Array.toList_modify]; exact g2.modify (fun e e' he => er_both he hc hv) i))
            refine .val _ _ m w' undef (.inr ⟨?_, rfl⟩) (VR.of_clo m 1 _ rfl) k2 k3
            simp only [Instr.mapUpdate, Sem.run_bind, run_underlying hu, Result.andThen_ok, hgo, h1, h2, keyAt_eq g2, stays hb, k1, Sem.run_pure]
      · rename_i hf
        cases h
        obtain ⟨rfl, hc, h1, r', h2, h3⟩ := aFind_spec g2 hk hf
        cases h3 with
        | none =>
          obtain ⟨w', k1, k2, k3⟩ := hR.setObj (P := P) hg (by simp) g1 (fun _ _ _ => by simp) (.map (es ++ [{ key := k', val := v, born := clock }]) (clock + 1)) (.map (es'.push { key := k', val := v', born := clock }) (clock + 1))
            (.map _ _ _ (by rw [Array.toList_push]; exact g2.snoc ⟨rfl, hc, rfl, hv⟩))
          refine .val _ _ m w' undef (.inr ⟨?_, rfl⟩) (VR.of_clo m 1 _ rfl) k2 k3
          simp only [Instr.mapUpdate, Sem.run_bind, run_underlying hu, Result.andThen_ok, hgo, h1, h2, k1, Sem.run_pure]
      · cases h
    · cases h
  · cases h

theorem g_mapEntry {t kt et : TypeId} {z mv mv' k k' : Value} {nx : ANext} (hR : Rel m H w) (hu : P.underlying t = some (.map kt et)) (hz : zeroT P et = some z) (hm : VR m mv mv') (hk : VR m k k') (h : aMapEntry P kt z mv k H = some nx) :
    Good P m H w ((Instr.mapEntry t mv' k' >>= fun v => pure (Next.value v)).run P w) nx := by
  unfold aMapEntry at h
  split at h
  · rename_i r
    split at h
    · rename_i es clock hg
      obtain ⟨rfl, hd⟩ := hm.inv_map
      obtain ⟨es', g1, g2⟩ := hR.map hg
      have hgo := run_getObj (P := P) g1 (fun _ _ _ => by simp)
      split at h
      · rename_i i x hf
        obtain ⟨rfl, hc, h1, r', h2, h3⟩ := aFind_spec g2 hk hf
        cases hb : Instr.sameBits 10000 (keyAt es i k') k' <;> rw [hb] at h
        · cases h
        · simp only [cond_true] at h
          split at h
          · rename_i e he
            cases h
            cases h3 with
            | some _ _ x' hx =>
              rcases g2.get i with ⟨q1, q2⟩ | ⟨e0, e', q1, q2, q3⟩
              · rw [he] at q1; cases q1
              · rw [he] at q1; cases q1
                simp only [Array.getElem?_toList] at q2
                obtain ⟨w', k1, k2, k3⟩ := hR.setObj (P := P) hg (by simp) g1 (fun _ _ _ => by simp) (.map (es.modify i fun e => { e with key := k' }) clock) (.map (es'.modify i fun e => { e with key := k' }) clock)
                  (.map _ _ _ (by rw [Array.toList_modify]; exact g2.modify (fun e e' he => er_key he hc) i))
                refine .val _ _ m w' (.tuple #[x', goInt e.born]) (.inl ?_) (.tuple _ _ (.cons _ _ _ _ hx (.cons _ _ _ _ (.int _ _) .nil))) k2 k3
                simp only [Instr.mapEntry, Sem.run_bind, run_underlying hu, Result.andThen_ok, hgo, h1, h2, keyAt_eq g2, stays hb, k1, Sem.run_pure, q2, Option.map_some, Option.getD_some, q3.born]
          · cases h
      · rename_i hf
        cases h
        obtain ⟨rfl, hc, h1, r', h2, h3⟩ := aFind_spec g2 hk hf
        have hzz : VR m z z := VR.of_clo m 4 z (zeroT_spec hz).1
        cases h3 with
        | none =>
          obtain ⟨w', k1, k2, k3⟩ := hR.setObj (P := P) hg (by simp) g1 (fun _ _ _ => by simp) (.map (es ++ [{ key := k', val := z, born := clock }]) (clock + 1)) (.map (es'.push { key := k', val := z, born := clock }) (clock + 1))
            (.map _ _ _ (by rw [Array.toList_push]; exact g2.snoc ⟨rfl, hc, rfl, hzz⟩))
          refine .val _ _ m w' (.tuple #[z, goInt clock]) (.inl ?_) (.tuple _ _ (.cons _ _ _ _ hzz (.cons _ _ _ _ (.int _ _) .nil))) k2 k3
          simp only [Instr.mapEntry, Sem.run_bind, run_underlying hu, Result.andThen_ok, hgo, h1, h2, zeroT_run hz, k1, Sem.run_pure]
      · cases h
    · cases h
  · cases h

theorem bornAt_sound {n : Int} {es es' : List MapEntry} (h : ERL m es es') : ∀ (i j : Nat), bornAt n es i = some j → ∃ k, j = i + k ∧ es'.findIdx? (fun e => (e.born : Int) == n) = some k := by
  induction h with
  | nil => intro i j h; cases h
  | cons e e' l l' he hl ih =>
    intro i j h
    simp only [bornAt] at h
    rw [List.findIdx?_cons, he.born]
    cases hb : ((e.born : Int) == n) <;> rw [hb] at h
    · obtain ⟨k, h1, h2⟩ := ih _ _ h
      exact ⟨k + 1, by omega, by rw [h2]; rfl⟩
    · cases h; exact ⟨0, rfl, rfl⟩

theorem g_entryStore {t : TypeId} {mv mv' s s' v v' : Value} {H' : AH} (hR : Rel m H w) (hm : VR m mv mv') (hs : VR m s s') (hv : VR m v v') (h : aEntryStore mv s v H = some H') :
    Good P m H w ((Instr.entryStore t mv' s' v' >>= fun _ => pure Next.skip).run P w) (.val undef H') := by
  unfold aEntryStore at h
  split at h
  · rename_i r k n
    split at h
    · rename_i es clock hg
      split at h
      · rename_i i hb
        cases h
        obtain ⟨rfl, hd⟩ := hm.inv_map
        rw [hs.inv_int]
        obtain ⟨es', g1, g2⟩ := hR.map hg
        have hgo := run_getObj (P := P) g1 (fun _ _ _ => by simp)
        obtain ⟨k, e1, e2⟩ := bornAt_sound g2 0 i hb
        have e3 : k = i := by omega
        subst e3
        rw [← List.findIdx?_toArray, Array.toArray_toList] at e2
        obtain ⟨w', k1, k2, k3⟩ := hR.setObj (P := P) hg (by simp) g1 (fun _ _ _ => by simp) (.map (es.modify k fun e => { e with val := v }) clock) (.map (es'.modify k fun e => { e with val := v' }) clock)
          (.map _ _ _ (by rw [Array.toList_modify]; exact g2.modify (fun e e' he => er_val he hv) k))
        refine .val _ _ m w' undef (.inr ⟨?_, rfl⟩) (VR.of_clo m 1 _ rfl) k2 k3
        simp only [Instr.entryStore, Sem.run_bind, Result.andThen_ok, hgo, asInt, asIntOf, Sem.run_pure, e2, k1]
      · cases h
    · cases h
  · cases h

theorem g_delete {t kt et ty : TypeId} {mv mv' k k' : Value} {H' : AH} {ts : Array TypeId} (hR : Rel m H w) (ht : ts[0]? = some t) (hu : P.underlying t = some (.map kt et)) (hm : VR m mv mv') (hk : VR m k k') (h : aDelete P kt mv k H = some H') :
    Good P m H w ((Builtin.delete_ ts ty #[mv', k'] >>= fun v => pure (Next.value v)).run P w) (.val (.tuple #[]) H') := by
  unfold aDelete at h
  split at h
  · rename_i r
    split at h
    · rename_i es clock hg
      obtain ⟨rfl, hd⟩ := hm.inv_map
      obtain ⟨es', g1, g2⟩ := hR.map hg
      have hgo := run_getObj (P := P) g1 (fun _ _ _ => by simp)
      split at h
      · rename_i i x hf
        cases h
        obtain ⟨rfl, hc, h1, r', h2, h3⟩ := aFind_spec g2 hk hf
        rw [← isEmpty_eq g2] at h1
        cases h3 with
        | some _ _ x' hx =>
          obtain ⟨w', k1, k2, k3⟩ := hR.setObj (P := P) hg (by simp) g1 (fun _ _ _ => by simp) (.map (es.eraseIdx i) clock) (.map (es'.eraseIdxIfInBounds i) clock)
            (.map _ _ _ (by rw [Array.toList_eraseIdxIfInBounds]; exact g2.erase i))
          refine .val _ _ m w' (.tuple #[]) (.inl ?_) (VR.of_clo m 1 _ rfl) k2 k3
          simp [Builtin.delete_, ht, run_underlying hu, hgo, h1, h2, k1]
      · rename_i hf
        cases h
        obtain ⟨rfl, hc, h1, r', h2, h3⟩ := aFind_spec g2 hk hf
        rw [← isEmpty_eq g2] at h1
        cases h3 with
        | none =>
          obtain ⟨w', k1, k2, k3⟩ := hR.setObj (P := P) hg (by simp) g1 (fun _ _ _ => by simp) (.map es clock) (.map es' clock) (.map _ _ _ g2)
          refine .val _ _ m w' (.tuple #[]) (.inl ?_) (VR.of_clo m 1 _ rfl) k2 k3
          simp [Builtin.delete_, ht, run_underlying hu, hgo, h1, h2, k1]
      · cases h
    · cases h
  · cases h

end Go.AX
