/- The abstract executor 'AX', soundness (8): maps that are written; append, copy; conversions; calls. -/
import Derived.Test.YthhgeodgfbhkdaaAxH
set_option linter.unusedVariables false
set_option linter.unusedSimpArgs false
set_option linter.unusedSectionVars false
namespace Go.AX
variable {P : Program} {m : M} {H : AH} {w : World}

theorem ERL.modify {f f' : MapEntry → MapEntry} (hf : ∀ e e', ER m e e' → ER m (f e) (f' e')) {es es' : List MapEntry} (h : ERL m es es') : ∀ i, ERL m (es.modify i f) (es'.modify i f') := by
  induction h with
  | nil => intro i; cases i <;> exact .nil
  | cons e e' l l' he hl ih =>
    intro i
    cases i with
    | zero => simp only [List.modify_zero_cons]; exact .cons _ _ _ _ (hf _ _ he) hl
    | succ i => simp only [List.modify_succ_cons]; exact .cons _ _ _ _ he (ih i)

theorem ERL.snoc {es es' : List MapEntry} (h : ERL m es es') {e e' : MapEntry} (he : ER m e e') : ERL m (es ++ [e]) (es' ++ [e']) := by
  induction h with
  | nil => exact .cons _ _ _ _ he .nil
  | cons a a' l l' ha hl ih => exact .cons _ _ _ _ ha ih

theorem ERL.erase {es es' : List MapEntry} (h : ERL m es es') : ∀ i, ERL m (es.eraseIdx i) (es'.eraseIdx i) := by
  induction h with
  | nil => intro i; exact .nil
  | cons a a' l l' ha hl ih =>
    intro i
    cases i with
    | zero => exact hl
    | succ i => exact .cons _ _ _ _ ha (ih i)

theorem ERL.get {es es' : List MapEntry} (h : ERL m es es') : ∀ (i : Nat), (es[i]? = none ∧ es'[i]? = none) ∨ ∃ e e', es[i]? = some e ∧ es'[i]? = some e' ∧ ER m e e' := by
  induction h with
  | nil => intro i; exact .inl ⟨rfl, rfl⟩
  | cons a a' l l' ha hl ih =>
    intro i
    cases i with
    | zero => exact .inr ⟨a, a', rfl, rfl, ha⟩
    | succ i => simpa using ih i

theorem keyAt_eq {es : List MapEntry} {es' : Array MapEntry} (h : ERL m es es'.toList) (i : Nat) (d : Value) : ((es'[i]?).map (·.key)).getD d = keyAt es i d := by
  unfold keyAt
  rcases h.get i with ⟨h1, h2⟩ | ⟨e, e', h1, h2, h3⟩
  · rw [h1]; simp only [Array.getElem?_toList] at h2; rw [h2]; rfl
  · rw [h1]; simp only [Array.getElem?_toList] at h2; rw [h2]; simp [h3.key]

theorem stays {old new : Value} (h : Instr.sameBits 10000 old new = true) (w : World) : (Instr.keyThatStays old new).run P w = .ok new w := by
  simp only [Instr.keyThatStays, h, if_true, Sem.run_pure]

theorem er_key {e e' : MapEntry} {k : Value} (he : ER m e e') (hc : clo 3 k = true) : ER m { e with key := k } { e' with key := k } := ⟨rfl, hc, he.born, he.val⟩
theorem er_val {e e' : MapEntry} {v v' : Value} (he : ER m e e') (hv : VR m v v') : ER m { e with val := v } { e' with val := v' } := ⟨he.key, he.clo, he.born, hv⟩
theorem er_both {e e' : MapEntry} {k v v' : Value} (he : ER m e e') (hc : clo 3 k = true) (hv : VR m v v') : ER m { e with key := k, val := v } { e' with key := k, val := v' } := ⟨rfl, hc, he.born, hv⟩

theorem g_mapUpdate {t kt et : TypeId} {mv mv' k k' v v' : Value} {H' : AH} (hR : Rel m H w) (hu : P.underlying t = some (.map kt et)) (hm : VR m mv mv') (hk : VR m k k') (hv : VR m v v') (h : aMapUpdate P kt mv k v H = some H') :
    Good P m H w ((Instr.mapUpdate t mv' k' v' >>= fun _ => pure Next.skip).run P w) (.val undef H') := by
  unfold aMapUpdate at h
  split at h
  · rename_i r
    split at h
    · rename_i es clock hg
      obtain ⟨rfl, hd⟩ := hm.inv_map
      obtain ⟨es', g1, g2⟩ := hR.map hg
      have hgo := run_getObj (P := P) g1 (fun _ _ _ => by simp)
      split at h
      · rename_i i x hf
        obtain ⟨rfl, hc, h1, r', h2, h3⟩ := aFind_spec g2 hk hf
        cases hb : Instr.sameBits 10000 (keyAt es i k') k' <;> rw [hb] at h
        · cases h
        · cases h
          cases h3 with
          | some _ _ x' hx =>
            obtain ⟨w', k1, k2, k3⟩ := hR.setObj (P := P) hg (by simp) g1 (fun _ _ _ => by simp) (.map (es.modify i fun e => { e with key := k', val := v }) clock) (.map (es'.modify i fun e => { e with key := k', val := v' }) clock)
              (.map _ _ _ (by rw [Array.toList_modify]; exact g2.modify (fun e e' he => er_both he hc hv) i))
            refine .val _ _ m w' undef (.inr ⟨?_, rfl⟩) (VR.of_clo m 1 _ rfl) k2 k3
            simp only [Instr.mapUpdate, Sem.run_bind, run_underlying hu, Result.andThen_ok, hgo, h1, h2, keyAt_eq g2, stays hb, k1, Sem.run_pure]
      · rename_i hf
        cases h
        obtain ⟨rfl, hc, h1, r', h2, h3⟩ := aFind_spec g2 hk hf
        cases h3 with
        | none =>
          obtain ⟨w', k1, k2, k3⟩ := hR.setObj (P := P) hg (by simp) g1 (fun _ _ _ => by simp) (.map (es ++ [{ key := k', val := v, born := clock }]) (clock + 1)) (.map (es'.push { key := k', val := v', born := clock }) (clock + 1))
            (.map _ _ _ (by rw [Array.toList_push]; exact g2.snoc ⟨rfl, hc, rfl, hv⟩))
          refine .val _ _ m w' undef (.inr ⟨?_, rfl⟩) (VR.of_clo m 1 _ rfl) k2 k3
          simp only [Instr.mapUpdate, Sem.run_bind, run_underlying hu, Result.andThen_ok, hgo, h1, h2, k1, Sem.run_pure]
      · cases h
    · cases h
  · cases h

theorem g_mapEntry {t kt et : TypeId} {z mv mv' k k' : Value} {nx : ANext} (hR : Rel m H w) (hu : P.underlying t = some (.map kt et)) (hz : zeroT P et = some z) (hm : VR m mv mv') (hk : VR m k k') (h : aMapEntry P kt z mv k H = some nx) :
    Good P m H w ((Instr.mapEntry t mv' k' >>= fun v => pure (Next.value v)).run P w) nx := by
  unfold aMapEntry at h
  split at h
  · rename_i r
    split at h
    · rename_i es clock hg
      obtain ⟨rfl, hd⟩ := hm.inv_map
      obtain ⟨es', g1, g2⟩ := hR.map hg
      have hgo := run_getObj (P := P) g1 (fun _ _ _ => by simp)
      split at h
      · rename_i i x hf
        obtain ⟨rfl, hc, h1, r', h2, h3⟩ := aFind_spec g2 hk hf
        cases hb : Instr.sameBits 10000 (keyAt es i k') k' <;> rw [hb] at h
        · cases h
        · simp only [cond_true] at h
          split at h
          · rename_i e he
            cases h
            cases h3 with
            | some _ _ x' hx =>
              rcases g2.get i with ⟨q1, q2⟩ | ⟨e0, e', q1, q2, q3⟩
              · rw [he] at q1; cases q1
              · rw [he] at q1; cases q1
                simp only [Array.getElem?_toList] at q2
                obtain ⟨w', k1, k2, k3⟩ := hR.setObj (P := P) hg (by simp) g1 (fun _ _ _ => by simp) (.map (es.modify i fun e => { e with key := k' }) clock) (.map (es'.modify i fun e => { e with key := k' }) clock)
                  (.map _ _ _ (by rw [Array.toList_modify]; exact g2.modify (fun e e' he => er_key he hc) i))
                refine .val _ _ m w' (.tuple #[x', goInt e.born]) (.inl ?_) (.tuple _ _ (.cons _ _ _ _ hx (.cons _ _ _ _ (.int _ _) .nil))) k2 k3
                simp only [Instr.mapEntry, Sem.run_bind, run_underlying hu, Result.andThen_ok, hgo, h1, h2, keyAt_eq g2, stays hb, k1, Sem.run_pure, q2, Option.map_some, Option.getD_some, q3.born]
          · cases h
      · rename_i hf
        cases h
        obtain ⟨rfl, hc, h1, r', h2, h3⟩ := aFind_spec g2 hk hf
        have hzz : VR m z z := VR.of_clo m 4 z (zeroT_spec hz).1
        cases h3 with
        | none =>
          obtain ⟨w', k1, k2, k3⟩ := hR.setObj (P := P) hg (by simp) g1 (fun _ _ _ => by simp) (.map (es ++ [{ key := k', val := z, born := clock }]) (clock + 1)) (.map (es'.push { key := k', val := z, born := clock }) (clock + 1))
            (.map _ _ _ (by rw [Array.toList_push]; exact g2.snoc ⟨rfl, hc, rfl, hzz⟩))
          refine .val _ _ m w' (.tuple #[z, goInt clock]) (.inl ?_) (.tuple _ _ (.cons _ _ _ _ hzz (.cons _ _ _ _ (.int _ _) .nil))) k2 k3
          simp only [Instr.mapEntry, Sem.run_bind, run_underlying hu, Result.andThen_ok, hgo, h1, h2, zeroT_run hz, k1, Sem.run_pure]
      · cases h
    · cases h
  · cases h

theorem bornAt_sound {n : Int} {es es' : List MapEntry} (h : ERL m es es') : ∀ (i j : Nat), bornAt n es i = some j → ∃ k, j = i + k ∧ es'.findIdx? (fun e => (e.born : Int) == n) = some k := by
  induction h with
  | nil => intro i j h; cases h
  | cons e e' l l' he hl ih =>
    intro i j h
    simp only [bornAt] at h
    rw [List.findIdx?_cons, he.born]
    cases hb : ((e.born : Int) == n) <;> rw [hb] at h
    · obtain ⟨k, h1, h2⟩ := ih _ _ h
      exact ⟨k + 1, by omega, by rw [h2]; rfl⟩
    · cases h; exact ⟨0, rfl, rfl⟩

theorem g_entryStore {t : TypeId} {mv mv' s s' v v' : Value} {H' : AH} (hR : Rel m H w) (hm : VR m mv mv') (hs : VR m s s') (hv : VR m v v') (h : aEntryStore mv s v H = some H') :
    Good P m H w ((Instr.entryStore t mv' s' v' >>= fun _ => pure Next.skip).run P w) (.val undef H') := by
  unfold aEntryStore at h
  split at h
  · rename_i r k n
    split at h
    · rename_i es clock hg
      split at h
      · rename_i i hb
        cases h
        obtain ⟨rfl, hd⟩ := hm.inv_map
        rw [hs.inv_int]
        obtain ⟨es', g1, g2⟩ := hR.map hg
        have hgo := run_getObj (P := P) g1 (fun _ _ _ => by simp)
        obtain ⟨k, e1, e2⟩ := bornAt_sound g2 0 i hb
        have e3 : k = i := by omega
        subst e3
        rw [← List.findIdx?_toArray, Array.toArray_toList] at e2
        obtain ⟨w', k1, k2, k3⟩ := hR.setObj (P := P) hg (by simp) g1 (fun _ _ _ => by simp) (.map (es.modify k fun e => { e with val := v }) clock) (.map (es'.modify k fun e => { e with val := v' }) clock)
          (.map _ _ _ (by rw [Array.toList_modify]; exact g2.modify (fun e e' he => er_val he hv) k))
        refine .val _ _ m w' undef (.inr ⟨?_, rfl⟩) (VR.of_clo m 1 _ rfl) k2 k3
        simp only [Instr.entryStore, Sem.run_bind, Result.andThen_ok, hgo, asInt, asIntOf, Sem.run_pure, e2, k1]
      · cases h
    · cases h
  · cases h

theorem g_delete {t kt et ty : TypeId} {mv mv' k k' : Value} {H' : AH} {ts : Array TypeId} (hR : Rel m H w) (ht : ts[0]? = some t) (hu : P.underlying t = some (.map kt et)) (hm : VR m mv mv') (hk : VR m k k') (h : aDelete P kt mv k H = some H') :
    Good P m H w ((Builtin.delete_ ts ty #[mv', k'] >>= fun v => pure (Next.value v)).run P w) (.val (.tuple #[]) H') := by
  unfold aDelete at h
  split at h
  · rename_i r
    split at h
    · rename_i es clock hg
      obtain ⟨rfl, hd⟩ := hm.inv_map
      obtain ⟨es', g1, g2⟩ := hR.map hg
      have hgo := run_getObj (P := P) g1 (fun _ _ _ => by simp)
      split at h
      · rename_i i x hf
        cases h
        obtain ⟨rfl, hc, h1, r', h2, h3⟩ := aFind_spec g2 hk hf
        rw [← isEmpty_eq g2] at h1
        cases h3 with
        | some _ _ x' hx =>
          obtain ⟨w', k1, k2, k3⟩ := hR.setObj (P := P) hg (by simp) g1 (fun _ _ _ => by simp) (.map (es.eraseIdx i) clock) (.map (es'.eraseIdxIfInBounds i) clock)
            (.map _ _ _ (by rw [Array.toList_eraseIdxIfInBounds]; exact g2.erase i))
          refine .val _ _ m w' (.tuple #[]) (.inl ?_) (VR.of_clo m 1 _ rfl) k2 k3
          simp [Builtin.delete_, ht, run_underlying hu, hgo, h1, h2, k1]
      · rename_i hf
        cases h
        obtain ⟨rfl, hc, h1, r', h2, h3⟩ := aFind_spec g2 hk hf
        rw [← isEmpty_eq g2] at h1
        cases h3 with
        | none =>
          obtain ⟨w', k1, k2, k3⟩ := hR.setObj (P := P) hg (by simp) g1 (fun _ _ _ => by simp) (.map es clock) (.map es' clock) (.map _ _ _ g2)
          refine .val _ _ m w' (.tuple #[]) (.inl ?_) (VR.of_clo m 1 _ rfl) k2 k3
          simp [Builtin.delete_, ht, run_underlying hu, hgo, h1, h2, k1]
      · cases h
    · cases h
  · cases h

end Go.AX
