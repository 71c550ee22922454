/- The abstract executor 'AX', soundness (9): lengths, conversions, interfaces, functions, the plain operations. -/
import Derived.Test.YthhgeodgfbhkdaaAxH
set_option linter.unusedVariables false
set_option linter.unusedSimpArgs false
set_option linter.unusedSectionVars false
namespace Go.AX
variable {P : Program} {m : M} {H : AH} {w : World}

theorem lenS_sound {x x' v : Value} (hx : VR m x x') (h : aLenS x = some v) : ∃ n c, (∃ b, x' = .slice b n c) ∧ v = goInt n := by
  unfold aLenS at h
  split at h
  · cases h; obtain ⟨rfl, _⟩ := hx.inv_sl; exact ⟨_, _, ⟨_, rfl⟩, rfl⟩
  · cases h; obtain ⟨rfl, _⟩ := hx.inv_slr; exact ⟨_, _, ⟨_, rfl⟩, rfl⟩
  · cases h; cases hx; exact ⟨_, _, ⟨_, rfl⟩, rfl⟩
  · cases h; rw [hx.inv_sl0]; exact ⟨_, _, ⟨_, rfl⟩, rfl⟩
  · cases h

theorem g_lenS {ts : Array TypeId} {t e ty : TypeId} {x x' v : Value} (hR : Rel m H w) (ht : ts[0]? = some t) (hu : P.underlying t = some (.slice e)) (hx : VR m x x') (h : aLenS x = some v) :
    Good P m H w ((Builtin.len_ ts ty #[x'] >>= fun v => pure (Next.value v)).run P w) (.val v H) := by
  obtain ⟨n, c, ⟨b, rfl⟩, rfl⟩ := lenS_sound hx h
  exact .here hR (v' := goInt n) (by simp [Builtin.len_, ht, run_underlying hu]) (.int _ _)

theorem g_lenT {ts : Array TypeId} {t ty : TypeId} {s : ByteArray} {x' : Value} (hR : Rel m H w) (ht : ts[0]? = some t) (hu : P.underlying t = some .string) (hx : VR m (.string s) x') :
    Good P m H w ((Builtin.len_ ts ty #[x'] >>= fun v => pure (Next.value v)).run P w) (.val (goInt s.size) H) := by
  rw [hx.inv_str]
  exact .here hR (v' := goInt s.size) (by simp [Builtin.len_, ht, run_underlying hu]) (.int _ _)

theorem g_lenA {ts : Array TypeId} {t e ty : TypeId} {n : Nat} {x' : Value} (hR : Rel m H w) (ht : ts[0]? = some t) (hu : P.underlying t = some (.array n e)) :
    Good P m H w ((Builtin.len_ ts ty #[x'] >>= fun v => pure (Next.value v)).run P w) (.val (goInt n) H) :=
  .here hR (v' := goInt n) (by simp [Builtin.len_, ht, run_underlying hu]) (.int _ _)

theorem g_lenP {ts : Array TypeId} {t a e ty : TypeId} {n : Nat} {x' : Value} (hR : Rel m H w) (ht : ts[0]? = some t) (hu : P.underlying t = some (.pointer a)) (hv : P.underlying a = some (.array n e)) :
    Good P m H w ((Builtin.len_ ts ty #[x'] >>= fun v => pure (Next.value v)).run P w) (.val (goInt n) H) :=
  .here hR (v' := goInt n) (by simp [Builtin.len_, ht, run_underlying hu, run_underlying hv]) (.int _ _)

theorem g_lenM {ts : Array TypeId} {t kt et ty : TypeId} {x x' v : Value} (hR : Rel m H w) (ht : ts[0]? = some t) (hu : P.underlying t = some (.map kt et)) (hx : VR m x x') (h : aLenM x H = some v) :
    Good P m H w ((Builtin.len_ ts ty #[x'] >>= fun v => pure (Next.value v)).run P w) (.val v H) := by
  unfold aLenM at h
  split at h
  · cases h
    rw [hx.inv_map0]
    exact .here hR (v' := goInt 0) (by simp [Builtin.len_, ht, run_underlying hu]) (.int _ _)
  · rename_i r
    split at h
    · rename_i es c hg
      cases h
      obtain ⟨rfl, hd⟩ := hx.inv_map
      obtain ⟨es', g1, g2⟩ := hR.map hg
      have hgo := run_getObj (P := P) g1 (fun _ _ _ => by simp)
      refine .here hR (v' := goInt es'.size) (by simp [Builtin.len_, ht, run_underlying hu, hgo]) ?_
      rw [← Array.length_toList, g2.length]; exact .int _ _
    · cases h
  · cases h

theorem g_cvtInt {s d : TypeId} {k k0 ks : IntKind} {n : Int} {x' : Value} (hR : Rel m H w) (hs : P.underlying s = some (.int ks)) (hd : P.underlying d = some (.int k)) (hx : VR m (.int k0 n) x') :
    Good P m H w ((convert s d x' >>= fun v => pure (Next.value v)).run P w) (.val (.int k (wrapF k n)) H) := by
  rw [hx.inv_int]
  refine .here hR (v' := .int k (k.wrap n)) ?_ (by rw [wrapF_eq]; exact .int _ _)
  simp [convert, run_underlying hs, run_underlying hd, Conv.intToInt]

theorem g_mkIface {t : TypeId} {d : TypeDesc} {x x' : Value} (hR : Rel m H w) (hu : P.underlying t = some d) (hd : ∀ a, d ≠ .interface a) (hx : VR m x x') :
    Good P m H w ((Instr.makeInterface t x' >>= fun v => pure (Next.value v)).run P w) (.val (.iface t x) H) := by
  refine .here hR (v' := .iface t x') ?_ (.iface _ _ _ hx)
  simp only [Instr.makeInterface, Sem.run_bind, run_underlying hu, Result.andThen_ok]
  cases d <;> first | rfl | exact absurd rfl (hd _)

theorem g_mkFunc {f : FuncId} {xs ys : List Value} {xs' ys' : Array Value} (hR : Rel m H w) (hx : VRL m xs xs'.toList) (hy : VRL m ys ys'.toList) :
    Good P m H w ((Instr.makeFunc (.func f) xs' ys' >>= fun v => pure (Next.value v)).run P w) (.val (.func (.func f) xs.toArray ys.toArray) H) :=
  .here hR (v' := .func (.func f) xs' ys') (by simp [Instr.makeFunc]) (.func _ _ _ _ _ (by simp) (by simpa using hx) (by simpa using hy))

theorem g_pick {fr : Tr Value} {c a b : Ar} {c' a' b' : Value} {nx : ANext} (hR : Rel m H w) (hc : VR m (ev fr c) c') (ha : VR m (ev fr a) a') (hb : VR m (ev fr b) b')
    (h : oPick c a b fr H = some nx) :
    Good P m H w ((asBool c' >>= fun r => pure (Next.value (if r then a' else b'))).run P w) nx := by
  unfold oPick at h
  split at h
  · rename_i e
    rw [e] at hc
    cases h; rw [hc.inv_bool]; exact .here hR (v' := a') (by simp [asBool]) ha
  · rename_i e
    rw [e] at hc
    cases h; rw [hc.inv_bool]; exact .here hR (v' := b') (by simp [asBool]) hb
  · cases h

theorem g_extract {i : Nat} {vs : Array Value} {x' v : Value} (hR : Rel m H w) (hx : VR m (.tuple vs) x') (h : vs[i]? = some v) :
    Good P m H w ((Instr.extract x' i >>= fun v => pure (Next.value v)).run P w) (.val v H) := by
  obtain ⟨c', rfl, hc⟩ := hx.inv_tuple
  obtain ⟨v', h1, h2⟩ := hc.get i (by simpa using h)
  simp only [Array.getElem?_toList] at h1
  exact .here hR (v' := v') (by simp [Instr.extract, h1]) h2

theorem g_un {fr : Tr Value} {op : UnOp} {x : Ar} {x' : Value} {nx : ANext} (hR : Rel m H w) (hx : VR m (ev fr x) x') (h : oUn P op x fr H = some nx) :
    Good P m H w ((Op.unary op x' >>= fun v => pure (Next.value v)).run P w) nx := by
  unfold oUn at h
  split at h
  · rename_i b e
    rw [e] at hx
    cases h; rw [hx.inv_bool]
    exact .here hR (v' := .bool _) (by simp [Op.unary]) (.bool _)
  · cases hc : clo 1 (ev fr x) <;> rw [hc] at h
    · cases h
    · rw [VR.eq_of_clo 1 hc hx]
      exact good_ofPR hR rfl h

theorem g_cvt {s d : TypeId} {x x' : Value} {nx : ANext} (hR : Rel m H w) (hx : VR m x x') (h : (bif clo 4 x then ofPR H (pure? P (convert s d x)) else none) = some nx) :
    Good P m H w ((convert s d x' >>= fun v => pure (Next.value v)).run P w) nx := by
  cases hc : clo 4 x <;> rw [hc] at h
  · cases h
  · rw [VR.eq_of_clo 4 hc hx]
    exact good_ofPR hR rfl h

theorem g_assertI {t xt : TypeId} {want : Array (String × TypeId)} {fr : Tr Value} {x : Ar} {z x' : Value} {ok : Bool} {nx : ANext} (hR : Rel m H w) (hu : P.underlying t = some (.interface want)) (hz : zeroT P t = some z) (hx : VR m (ev fr x) x')
    (h : oAssertI P want z ok x fr H = some nx) :
    Good P m H w ((Instr.typeAssert x' xt t ok >>= fun v => pure (Next.value v)).run P w) nx := by
  have hzz : VR m z z := VR.of_clo m 4 z (zeroT_spec hz).1
  unfold oAssertI at h
  split at h
  · rename_i u v ex
    rw [ex] at hx
    obtain ⟨v', rfl, hv⟩ := hx.inv_iface
    split at h
    · rename_i i hi
      split at h
      · rename_i hm
        cases h
        cases ok
        · exact .here hR (v' := .iface u v') (by simp [Instr.typeAssert, run_underlying hu, typeInfo, hi, hm]) (.iface _ _ _ hv)
        · exact .here hR (v' := .tuple #[.iface u v', .bool true]) (by simp [Instr.typeAssert, run_underlying hu, typeInfo, hi, hm]) (.tuple _ _ (.cons _ _ _ _ (.iface _ _ _ hv) (.cons _ _ _ _ (.bool _) .nil)))
      · rename_i s hm
        cases ok
        · cases h
        · cases h
          exact .here hR (v' := .tuple #[z, .bool false]) (by simp [Instr.typeAssert, run_underlying hu, typeInfo, hi, hm, zeroT_run hz]) (.tuple _ _ (.cons _ _ _ _ hzz (.cons _ _ _ _ (.bool _) .nil)))
    · cases h
  · rename_i ex
    rw [ex] at hx
    cases ok
    · cases h
    · cases h
      cases hx
      exact .here hR (v' := .tuple #[z, .bool false]) (by simp [Instr.typeAssert, run_underlying hu, zeroT_run hz]) (.tuple _ _ (.cons _ _ _ _ hzz (.cons _ _ _ _ (.bool _) .nil)))
  · cases h

theorem assertC_iface {t xt u : TypeId} {d : TypeDesc} (hu : P.underlying t = some d) (hd : ∀ a, d ≠ .interface a) (v : Value) (ok : Bool) (w : World) :
    (Instr.typeAssert (.iface u v) xt t ok).run P w = (if u = t then (pure (if ok then .tuple #[v, .bool true] else v) : Sem Value) else (if ok then (do pure (.tuple #[← zeroValue t, .bool false])) else runtimePanic (.typeAssertion (some xt) (some u) t ""))).run P w := by
  simp only [Instr.typeAssert, Sem.run_bind, run_underlying hu, Result.andThen_ok]
theorem assertC_nil {t xt : TypeId} {d : TypeDesc} (hu : P.underlying t = some d) (hd : ∀ a, d ≠ .interface a) (w : World) :
    (Instr.typeAssert .nilIface xt t true).run P w = (do pure (Value.tuple #[← zeroValue t, .bool false]) : Sem Value).run P w := by
  simp only [Instr.typeAssert, Sem.run_bind, run_underlying hu, Result.andThen_ok]
  cases d <;> first | exact absurd rfl (hd _) | simp

theorem g_assertC {t xt : TypeId} {d : TypeDesc} {fr : Tr Value} {x : Ar} {z x' : Value} {ok : Bool} {nx : ANext} (hR : Rel m H w) (hu : P.underlying t = some d) (hd : ∀ a, d ≠ .interface a) (hz : zeroT P t = some z) (hx : VR m (ev fr x) x')
    (h : oAssertC t z ok x fr H = some nx) :
    Good P m H w ((Instr.typeAssert x' xt t ok >>= fun v => pure (Next.value v)).run P w) nx := by
  have hzz : VR m z z := VR.of_clo m 4 z (zeroT_spec hz).1
  unfold oAssertC at h
  split at h
  · rename_i u v ex
    rw [ex] at hx
    obtain ⟨v', rfl, hv⟩ := hx.inv_iface
    cases hb : Nat.beq u t <;> rw [hb] at h
    · have hne : u ≠ t := fun e => by subst e; simp at hb
      cases ok
      · cases h
      · cases h
        refine .here hR (v' := .tuple #[z, .bool false]) ?_ (.tuple _ _ (.cons _ _ _ _ hzz (.cons _ _ _ _ (.bool _) .nil)))
        rw [Sem.run_bind, assertC_iface hu hd, if_neg hne]
        simp [zeroT_run hz]
    · cases h
      have he := Nat.eq_of_beq_eq_true hb
      subst he
      cases ok
      · refine .here hR (v' := v') ?_ hv
        rw [Sem.run_bind, assertC_iface hu hd, if_pos rfl]; simp
      · refine .here hR (v' := .tuple #[v', .bool true]) ?_ (.tuple _ _ (.cons _ _ _ _ hv (.cons _ _ _ _ (.bool _) .nil)))
        rw [Sem.run_bind, assertC_iface hu hd, if_pos rfl]; simp
  · rename_i ex
    rw [ex] at hx
    cases ok
    · cases h
    · cases h
      cases hx
      refine .here hR (v' := .tuple #[z, .bool false]) ?_ (.tuple _ _ (.cons _ _ _ _ hzz (.cons _ _ _ _ (.bool _) .nil)))
      rw [Sem.run_bind, assertC_nil hu hd]; simp [zeroT_run hz]
  · cases h

theorem g_minmax {isMax : Bool} {ts : Array TypeId} {ty : TypeId} {xs : List Value} {xs' : Array Value} {nx : ANext} (hR : Rel m H w) (hx : VRL m xs xs'.toList)
    (h : (bif xs.all (clo 1) then ofPR H (pure? P (bif isMax then Builtin.max_ #[] 0 xs.toArray else Builtin.min_ #[] 0 xs.toArray)) else none) = some nx) :
    Good P m H w (((bif isMax then Builtin.max_ ts ty xs' else Builtin.min_ ts ty xs') >>= fun v => pure (Next.value v)).run P w) nx := by
  cases hc : xs.all (clo 1) <;> rw [hc] at h
  · cases h
  · have e := VRL.eq_of_clo 1 hc hx
    have e2 : xs' = xs.toArray := by rw [← e]
    subst e2
    refine good_ofPR hR ?_ h
    cases isMax <;> rfl

theorem g_panic {t : TypeId} {v x' : Value} (hx : VR m (.iface t v) x') (hc : clo 4 v = true) : Good P m H w ((Instr.panic x' >>= fun v => pure (Next.value v)).run P w) (.panic (.iface t v) H) := by
  have h5 : clo 5 (.iface t v) = true := by simpa [clo] using hc
  rw [VR.eq_of_clo 5 h5 hx]
  exact .panic _ (by simp [Instr.panic, goPanic]) h5

theorem g_nilCheck {fr : Tr Value} {x : Ar} {x' : Value} {nx : ANext} (hR : Rel m H w) (hx : VR m (ev fr x) x') {r : Sem Next}
    (hr1 : ∀ a, x' = .pointer (some a) → r = pure (Next.value x')) (hr2 : ∀ f xs ys, x' = .func (.func f) xs ys → r = pure (Next.value x'))
    (h : oNilCheck x fr H = some nx) : Good P m H w (r.run P w) nx := by
  unfold oNilCheck at h
  split at h
  · rename_i b o ex
    rw [ex] at hx
    cases h
    obtain ⟨e, hd⟩ := hx.inv_ptr
    rw [hr1 _ e]
    exact .here hR rfl hx
  · rename_i f xs ys ex
    rw [ex] at hx
    cases h
    cases hx with
    | func _ _ _ xs' ys' hf h1 h2 =>
      rw [hr2 _ _ _ rfl]
      exact .here hR rfl (.func _ _ _ _ _ hf h1 h2)
  · cases h

end Go.AX
