/- The abstract executor 'AX', soundness (5): numbers, slices' bounds, parts of values. -/
import Derived.Test.YthhgeodgfbhkdaaAxD
set_option linter.unusedVariables false
set_option linter.unusedSimpArgs false
set_option linter.unusedSectionVars false
namespace Go.AX
variable {P : Program} {m : M} {H : AH} {w : World}

theorem wrapF_eq (k : IntKind) (n : Int) : wrapF k n = k.wrap n := by
  have hS : ∀ a b : Int, b = 2 * a → 0 < a → wS n a b = (if n % b ≥ a then n % b - b else n % b) := by
    intro a b hb ha
    unfold wS
    by_cases h1 : -a ≤ n ∧ n < a
    · have : (decide (-a ≤ n) && decide (n < a)) = true := by simp [h1]
      rw [this, cond_true]
      by_cases h2 : 0 ≤ n
      · rw [Int.emod_eq_of_lt h2 (by omega), if_neg (by omega)]
      · have e : n % b = n + b := by rw [← Int.add_emod_right, Int.emod_eq_of_lt (by omega) (by omega)]
        rw [e, if_pos (by omega)]; omega
    · have : (decide (-a ≤ n) && decide (n < a)) = false := by
        rw [Bool.eq_false_iff]; intro e; simp only [Bool.and_eq_true, decide_eq_true_eq] at e; exact h1 e
      rw [this, cond_false]
      by_cases h3 : n % b < a
      · rw [decide_eq_true h3, cond_true, if_neg (by omega)]
      · rw [decide_eq_false h3, cond_false, if_pos (by omega)]
  have hW : ∀ (k : IntKind) (a b : Int), k.signed = true → (2 : Int) ^ k.bits = b → (2 : Int) ^ (k.bits - 1) = a → k.wrap n = (if n % b ≥ a then n % b - b else n % b) := by
    intro k a b h1 h2 h3
    simp only [IntKind.wrap, h1, h2, h3, Bool.true_and, decide_eq_true_eq]
  have hV : ∀ (k : IntKind) (b : Int), k.signed = false → (2 : Int) ^ k.bits = b → k.wrap n = n % b := by
    intro k b h1 h2
    simp only [IntKind.wrap, h1, h2, Bool.false_and, Bool.false_eq_true, if_false]
  cases k
  · rw [hW .i8 128 256 rfl (by decide) (by decide)]; exact hS _ _ (by decide) (by decide)
  · rw [hW .i16 32768 65536 rfl (by decide) (by decide)]; exact hS _ _ (by decide) (by decide)
  · rw [hW .i32 2147483648 4294967296 rfl (by decide) (by decide)]; exact hS _ _ (by decide) (by decide)
  · rw [hW .i64 9223372036854775808 18446744073709551616 rfl (by decide) (by decide)]; exact hS _ _ (by decide) (by decide)
  · rw [hV .u8 256 rfl (by decide)]; rfl
  · rw [hV .u16 65536 rfl (by decide)]; rfl
  · rw [hV .u32 4294967296 rfl (by decide)]; rfl
  · rw [hV .u64 18446744073709551616 rfl (by decide)]; rfl

theorem keq_eq {a b : IntKind} (h : keq a b = true) : a = b := by
  cases a <;> cases b <;> first | rfl | (exact absurd h (by decide))

theorem eqGuard_int (op : BinOp) (t : TypeId) (x y : Operand) (k k' : IntKind) (a b : Int) (w : World) : (eqGuard op t x y (.int k a) (.int k' b)).run P w = .ok () w := by
  unfold eqGuard
  cases op <;> rfl

theorem binInt_sound {op : BinOp} {k : IntKind} {a b : Int} {v : Value} (h : binInt op k a b = some v) (t : TypeId) (w : World) : (binOp op t (.int k a) (.int k b)).run P w = .ok v w := by
  cases op <;> simp only [binInt] at h <;> cases h <;> simp [binOp, Op.intArith, Op.intCmp, wrapF_eq]

theorem binInt_clo {op : BinOp} {k : IntKind} {a b : Int} {v : Value} (h : binInt op k a b = some v) : clo 1 v = true := by
  cases op <;> simp only [binInt] at h <;> cases h <;> rfl

theorem nilK_spec {t : TypeId} {k : NilK} (h : nilK P t = some k) : match k with
    | .ptr => ∃ e, P.underlying t = some (.pointer e)
    | .slice => ∃ e, P.underlying t = some (.slice e)
    | .map => ∃ a b, P.underlying t = some (.map a b)
    | .func => ∃ a b c, P.underlying t = some (.func a b c)
    | .iface => ∃ a, P.underlying t = some (.interface a) := by
  unfold nilK at h
  split at h <;> cases h <;> exact ⟨_, by first | assumption | exact ⟨_, by first | assumption | exact ⟨_, by assumption⟩⟩⟩

theorem eq_ptr1 {t e : TypeId} (h : P.underlying t = some (.pointer e)) (a : Addr) (d : Nat) (w : World) : (Op.equalIn (d + 1) t (.pointer (some a)) (.pointer none)).run P w = .ok false w := by
  simp only [Op.equalIn, Sem.run_bind, run_underlying h, Result.andThen_ok]; rfl
theorem eq_ptr2 {t e : TypeId} (h : P.underlying t = some (.pointer e)) (a : Addr) (d : Nat) (w : World) : (Op.equalIn (d + 1) t (.pointer none) (.pointer (some a))).run P w = .ok false w := by
  simp only [Op.equalIn, Sem.run_bind, run_underlying h, Result.andThen_ok]; rfl
theorem eq_sl1 {t e : TypeId} (h : P.underlying t = some (.slice e)) (a : Addr) (l c l' c' d : Nat) (w : World) : (Op.equalIn (d + 1) t (.slice (some a) l c) (.slice none l' c')).run P w = .ok false w := by
  simp only [Op.equalIn, Sem.run_bind, run_underlying h, Result.andThen_ok]; rfl
theorem eq_sl2 {t e : TypeId} (h : P.underlying t = some (.slice e)) (a : Addr) (l c l' c' d : Nat) (w : World) : (Op.equalIn (d + 1) t (.slice none l c) (.slice (some a) l' c')).run P w = .ok false w := by
  simp only [Op.equalIn, Sem.run_bind, run_underlying h, Result.andThen_ok]; rfl
theorem eq_map1 {t a b : TypeId} (h : P.underlying t = some (.map a b)) (r d : Nat) (w : World) : (Op.equalIn (d + 1) t (.map (some r)) (.map none)).run P w = .ok false w := by
  simp only [Op.equalIn, Sem.run_bind, run_underlying h, Result.andThen_ok]; rfl
theorem eq_map2 {t a b : TypeId} (h : P.underlying t = some (.map a b)) (r d : Nat) (w : World) : (Op.equalIn (d + 1) t (.map none) (.map (some r))).run P w = .ok false w := by
  simp only [Op.equalIn, Sem.run_bind, run_underlying h, Result.andThen_ok]; rfl
theorem eq_fn1 {t : TypeId} {a b : Array TypeId} {c : Bool} (h : P.underlying t = some (.func a b c)) (f : Fn) (x y : Array Value) (d : Nat) (w : World) : (Op.equalIn (d + 1) t (.func f x y) .nilFunc).run P w = .ok false w := by
  simp only [Op.equalIn, Sem.run_bind, run_underlying h, Result.andThen_ok]; rfl
theorem eq_fn2 {t : TypeId} {a b : Array TypeId} {c : Bool} (h : P.underlying t = some (.func a b c)) (f : Fn) (x y : Array Value) (d : Nat) (w : World) : (Op.equalIn (d + 1) t .nilFunc (.func f x y)).run P w = .ok false w := by
  simp only [Op.equalIn, Sem.run_bind, run_underlying h, Result.andThen_ok]; rfl
theorem eq_if1 {t : TypeId} {a : Array (String × TypeId)} (h : P.underlying t = some (.interface a)) (u : TypeId) (x : Value) (d : Nat) (w : World) : (Op.equalIn (d + 1) t (.iface u x) .nilIface).run P w = .ok false w := by
  simp only [Op.equalIn, Sem.run_bind, run_underlying h, Result.andThen_ok]; rfl
theorem eq_if2 {t : TypeId} {a : Array (String × TypeId)} (h : P.underlying t = some (.interface a)) (u : TypeId) (x : Value) (d : Nat) (w : World) : (Op.equalIn (d + 1) t .nilIface (.iface u x)).run P w = .ok false w := by
  simp only [Op.equalIn, Sem.run_bind, run_underlying h, Result.andThen_ok]; rfl

theorem nilEq_sound {t : TypeId} {k : NilK} {x y x' y' : Value} {r : Bool} (hk : nilK P t = some k) (hx : VR m x x') (hy : VR m y y') (h : aNilEq k x y = some r) (w : World) :
    (Op.equal t x' y').run P w = .ok r w ∧ ∀ op ox oy, (eqGuard op t ox oy x' y').run P w = .ok () w := by
  have hs := nilK_spec hk
  unfold Op.equal
  show (Op.equalIn (9999 + 1) t x' y').run P w = .ok r w ∧ _
  generalize 9999 = d
  unfold aNilEq at h
  split at h <;> cases h
  · obtain ⟨_, hs⟩ := hs; obtain ⟨rfl, _⟩ := hx.inv_ptr; cases hy; exact ⟨eq_ptr1 hs _ _ _, fun op _ _ => by cases op <;> rfl⟩
  · obtain ⟨_, hs⟩ := hs; obtain ⟨rfl, _⟩ := hy.inv_ptr; cases hx; exact ⟨eq_ptr2 hs _ _ _, fun op _ _ => by cases op <;> rfl⟩
  · obtain ⟨_, hs⟩ := hs; cases hy; cases hx <;> exact ⟨eq_sl1 hs _ _ _ _ _ _ _, fun op _ _ => by cases op <;> rfl⟩
  · obtain ⟨_, hs⟩ := hs; cases hx; cases hy <;> exact ⟨eq_sl2 hs _ _ _ _ _ _ _, fun op _ _ => by cases op <;> rfl⟩
  · obtain ⟨_, _, hs⟩ := hs; cases hy; cases hx; exact ⟨eq_map1 hs _ _ _, fun op _ _ => by cases op <;> rfl⟩
  · obtain ⟨_, _, hs⟩ := hs; cases hx; cases hy; exact ⟨eq_map2 hs _ _ _, fun op _ _ => by cases op <;> rfl⟩
  · obtain ⟨_, _, _, hs⟩ := hs; cases hy; cases hx <;> exact ⟨eq_fn1 hs _ _ _ _ _, fun op _ _ => by cases op <;> rfl⟩
  · obtain ⟨_, _, _, hs⟩ := hs; cases hx; cases hy <;> exact ⟨eq_fn2 hs _ _ _ _ _, fun op _ _ => by cases op <;> rfl⟩
  · obtain ⟨_, hs⟩ := hs; cases hy; cases hx; exact ⟨eq_if1 hs _ _ _ _, fun op _ _ => by cases op <;> rfl⟩
  · obtain ⟨_, hs⟩ := hs; cases hx; cases hy; exact ⟨eq_if2 hs _ _ _ _, fun op _ _ => by cases op <;> rfl⟩

theorem binEq_of {t : TypeId} {k : NilK} {x y x' y' : Value} {r : Bool} (hx : VR m x x') (hy : VR m y y') (h : aNilEq k x y = some r) :
    binOp .eql t x' y' = (Op.equal t x' y' >>= fun b => pure (.bool b)) ∧ binOp .neq t x' y' = (Op.equal t x' y' >>= fun b => pure (.bool (!b))) := by
  unfold aNilEq at h
  split at h <;> cases h <;> cases hx <;> cases hy <;> exact ⟨rfl, rfl⟩

theorem g_bin' {op : BinOp} {t : TypeId} {ox oy : Operand} {a b a' b' : Value} {nx : ANext} (hR : Rel m H w) (ha : VR m a a') (hb : VR m b b') (h : aBin' P op t ox oy (nilK P t) a b H = some nx) :
    Good P m H w (((do eqGuard op t ox oy a' b'; binOp op t a' b' : Sem Value) >>= fun v => pure (Next.value v)).run P w) nx := by
  unfold aBin' at h
  cases hc : (clo 4 a && clo 4 b) <;> rw [hc] at h
  · simp only [cond_false] at h
    split at h
    · cases h
    · rename_i k hk
      split at h
      · rename_i r hr
        cases h
        obtain ⟨h1, h2⟩ := nilEq_sound hk ha hb hr w
        exact .here hR (v' := .bool r) (by simp only [Sem.run_bind, h2, Result.andThen_ok, (binEq_of ha hb hr).1, h1, Sem.run_pure]) (.bool r)
      · rename_i r hr
        cases h
        obtain ⟨h1, h2⟩ := nilEq_sound hk ha hb hr w
        exact .here hR (v' := .bool (!r)) (by simp only [Sem.run_bind, h2, Result.andThen_ok, (binEq_of ha hb hr).2, h1, Sem.run_pure]) (.bool _)
      · cases h
  · simp only [Bool.and_eq_true] at hc
    rw [VR.eq_of_clo 4 hc.1 ha, VR.eq_of_clo 4 hc.2 hb]
    exact good_ofPR hR rfl h

theorem g_bin {op : BinOp} {t : TypeId} {ox oy : Operand} {a b a' b' : Value} {nx : ANext} (hR : Rel m H w) (ha : VR m a a') (hb : VR m b b') (h : aBin P op t ox oy (nilK P t) a b H = some nx) :
    Good P m H w (((do eqGuard op t ox oy a' b'; binOp op t a' b' : Sem Value) >>= fun v => pure (Next.value v)).run P w) nx := by
  unfold aBin at h
  split at h
  · rename_i k x k' y
    cases hk : keq k k' <;> rw [hk] at h
    · exact g_bin' hR ha hb h
    · simp only [cond_true] at h
      split at h
      · rename_i v hv
        cases h
        have := keq_eq hk
        subst this
        rw [ha.inv_int, hb.inv_int]
        exact .here hR (by simp only [Sem.run_bind, eqGuard_int, Result.andThen_ok, binInt_sound hv, Sem.run_pure]) (VR.of_clo m 1 _ (binInt_clo hv))
      · exact g_bin' hR ha hb h
  · exact g_bin' hR ha hb h

/-! ## Bounds of slices -/
theorem inB_spec {i : Int} {n : Nat} (h : inB i n = true) : 0 ≤ i ∧ i < n := by
  cases i with
  | ofNat k =>
    simp only [inB] at h
    rw [Nat.blt_eq] at h
    simp; omega
  | negSucc k => simp [inB] at h

theorem bound_run {v v' : Value} {d y r y' : Nat} (hv : VR m v v') (h : bndL (some v) d y = some r) (hy : y ≤ y') (code : BoundsCode) (w : World) :
    (Instr.sliceBound v' y' code).run P w = .ok r w ∧ r ≤ y := by
  unfold bndL at h
  split at h
  · rename_i e; cases e
  · rename_i k i e
    cases e
    cases hb : Nat.ble i y <;> rw [hb] at h
    · cases h
    · cases h
      have := Nat.le_of_ble_eq_true hb
      rw [hv.inv_int]
      refine ⟨?_, this⟩
      simp only [Instr.sliceBound, asIntOf, Sem.run_bind, Sem.run_pure, Result.andThen_ok]
      rw [if_pos (by constructor <;> simp; omega)]
      simp
  · cases h

/-- the bounds, where the room behind is 's' more than the executor knows. -/
theorem bnds_sound {lo hi mx lo' hi' mx' : Option Value} {len cap l h mm : Nat} (isS : Bool) (s : Nat) (h1 : VRO m lo lo') (h2 : VRO m hi hi') (h3 : VRO m mx mx') (hb : bnds len cap lo hi mx = some (l, h, mm)) (w : World) :
    (Instr.sliceBounds isS len (cap + s) lo' hi' mx').run P w = .ok (l, h, if mx.isSome then mm else cap + s) w ∧ (mx = none → mm = cap) ∧ (len ≤ cap → l ≤ h ∧ h ≤ mm ∧ mm ≤ cap) := by
  unfold bnds at hb
  cases h3 with
  | none =>
    simp only [bndL] at hb
    cases h2 with
    | none =>
      simp only [bndL] at hb
      cases h1 with
      | none =>
        simp only [bndL, Option.some.injEq, Prod.mk.injEq] at hb
        obtain ⟨rfl, rfl, rfl⟩ := hb
        exact ⟨by simp [Instr.sliceBounds], fun _ => rfl, fun hl => ⟨by omega, hl, Nat.le_refl _⟩⟩
      | some v v' hv =>
        split at hb
        · cases hb
        · rename_i l0 hl0
          simp only [Option.some.injEq, Prod.mk.injEq] at hb
          obtain ⟨rfl, rfl, rfl⟩ := hb
          obtain ⟨g1, g2⟩ := bound_run (P := P) hv hl0 (Nat.le_refl _) .sliceB w
          exact ⟨by simp [Instr.sliceBounds, g1], fun _ => rfl, fun hl => ⟨g2, hl, Nat.le_refl _⟩⟩
    | some u u' hu =>
      split at hb
      · cases hb
      · rename_i h0 hh0
        obtain ⟨k1, k2⟩ := bound_run (P := P) (y' := cap + s) hu hh0 (Nat.le_add_right _ _) (if isS then .sliceAcap else .sliceAlen) w
        cases h1 with
        | none =>
          simp only [bndL, Option.some.injEq, Prod.mk.injEq] at hb
          obtain ⟨rfl, rfl, rfl⟩ := hb
          exact ⟨by simp [Instr.sliceBounds, k1], fun _ => rfl, fun hl => ⟨by omega, k2, Nat.le_refl _⟩⟩
        | some v v' hv =>
          split at hb
          · cases hb
          · rename_i l0 hl0
            simp only [Option.some.injEq, Prod.mk.injEq] at hb
            obtain ⟨rfl, rfl, rfl⟩ := hb
            obtain ⟨g1, g2⟩ := bound_run (P := P) hv hl0 (Nat.le_refl _) .sliceB w
            exact ⟨by simp [Instr.sliceBounds, g1, k1], fun _ => rfl, fun hl => ⟨g2, k2, Nat.le_refl _⟩⟩
  | some x x' hx =>
    cases h2 with
    | none => cases hb
    | some u u' hu =>
      simp only at hb
      split at hb
      · cases hb
      · rename_i m0 hm0
        obtain ⟨j1, j2⟩ := bound_run (P := P) (y' := cap + s) hx hm0 (Nat.le_add_right _ _) (if isS then .slice3Acap else .slice3Alen) w
        split at hb
        · cases hb
        · rename_i h0 hh0
          obtain ⟨k1, k2⟩ := bound_run (P := P) hu hh0 (Nat.le_refl _) .slice3B w
          cases h1 with
          | none =>
            simp only [bndL, Option.some.injEq, Prod.mk.injEq] at hb
            obtain ⟨rfl, rfl, rfl⟩ := hb
            exact ⟨by simp [Instr.sliceBounds, k1, j1], by simp, fun hl => ⟨by omega, k2, j2⟩⟩
          | some v v' hv =>
            split at hb
            · cases hb
            · rename_i l0 hl0
              simp only [Option.some.injEq, Prod.mk.injEq] at hb
              obtain ⟨rfl, rfl, rfl⟩ := hb
              obtain ⟨g1, g2⟩ := bound_run (P := P) hv hl0 (Nat.le_refl _) .slice3C w
              exact ⟨by simp [Instr.sliceBounds, g1, k1, j1], by simp, fun hl => ⟨g2, k2, j2⟩⟩

end Go.AX
