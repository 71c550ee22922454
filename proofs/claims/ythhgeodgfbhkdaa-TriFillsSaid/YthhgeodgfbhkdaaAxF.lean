/- The abstract executor 'AX', soundness (5): numbers, slices' bounds, parts of values. -/
import Derived.Test.YthhgeodgfbhkdaaAxD
set_option linter.unusedVariables false
set_option linter.unusedSimpArgs false
set_option linter.unusedSectionVars false
namespace Go.AX
variable {P : Program} {m : M} {H : AH} {w : World}

theorem wrapF_eq (k : IntKind) (n : Int) : wrapF k n = k.wrap n := by
  have hS : ∀ a b : Int, b = 2 * a → 0 < a → wS n a b = (if n % b ≥ a then n % b - b else n % b) := by
    intro a b hb ha
    unfold wS
    by_cases h1 : -a ≤ n ∧ n < a
    · have : (decide (-a ≤ n) && decide (n < a)) = true := by simp [h1]
      rw [this, cond_true]
      by_cases h2 : 0 ≤ n
      · rw [Int.emod_eq_of_lt h2 (by omega), if_neg (by omega)]
      · have e : n % b = n + b := by rw [← Int.add_emod_right, Int.emod_eq_of_lt (by omega) (by omega)]
        rw [e, if_pos (by omega)]; omega
    · have : (decide (-a ≤ n) && decide (n < a)) = false := by
        rw [Bool.eq_false_iff]; intro e; simp only [Bool.and_eq_true, decide_eq_true_eq] at e; exact h1 e
      rw [this, cond_false]
      by_cases h3 : n % b < a
      · rw [decide_eq_true h3, cond_true, if_neg (by omega)]
      · rw [decide_eq_false h3, cond_false, if_pos (by omega)]
  have hW : ∀ (k : IntKind) (a b : Int), k.signed = true → (2 : Int) ^ k.bits = b → (2 : Int) ^ (k.bits - 1) = a → k.wrap n = (if n % b ≥ a then n % b - b else n % b) := by
    intro k a b h1 h2 h3
    simp only [IntKind.wrap, h1, h2, h3, Bool.true_and, decide_eq_true_eq]
  have hV : ∀ (k : IntKind) (b : Int), k.signed = false → (2 : Int) ^ k.bits = b → k.wrap n = n % b := by
    intro k b h1 h2
    simp only [IntKind.wrap, h1, h2, Bool.false_and, Bool.false_eq_true, if_false]
  cases k
  · rw [hW .i8 128 256 rfl (by decide) (by decide)]; exact hS _ _ (by decide) (by decide)
  · rw [hW .i16 32768 65536 rfl (by decide) (by decide)]; exact hS _ _ (by decide) (by decide)
  · rw [hW .i32 2147483648 4294967296 rfl (by decide) (by decide)]; exact hS _ _ (by decide) (by decide)
  · rw [hW .i64 9223372036854775808 18446744073709551616 rfl (by decide) (by decide)]; exact hS _ _ (by decide) (by decide)
  · rw [hV .u8 256 rfl (by decide)]; rfl
  · rw [hV .u16 65536 rfl (by decide)]; rfl
  · rw [hV .u32 4294967296 rfl (by decide)]; rfl
  · rw [hV .u64 18446744073709551616 rfl (by decide)]; rfl

theorem keq_eq {a b : IntKind} (h : keq a b = true) : a = b := by
  cases a <;> cases b <;> first | rfl | (exact absurd h (by decide))

theorem eqGuard_int (op : BinOp) (t : TypeId) (x y : Operand) (k k' : IntKind) (a b : Int) (w : World) : (eqGuard op t x y (.int k a) (.int k' b)).run P w = .ok () w := by
  unfold eqGuard
  cases op <;> rfl

theorem binInt_sound {op : BinOp} {k : IntKind} {a b : Int} {v : Value} (h : binInt op k a b = some v) (t : TypeId) (w : World) : (binOp op t (.int k a) (.int k b)).run P w = .ok v w := by
  cases op <;> simp only [binInt] at h <;> cases h <;> simp [binOp, Op.intArith, Op.intCmp, wrapF_eq]

theorem binInt_clo {op : BinOp} {k : IntKind} {a b : Int} {v : Value} (h : binInt op k a b = some v) : clo 1 v = true := by
  cases op <;> simp only [binInt] at h <;> cases h <;> rfl

theorem nilK_spec {t : TypeId} {k : NilK} (h : nilK P t = some k) : match k with
    | .ptr => ∃ e, P.underlying t = some (.pointer e)
    | .slice => ∃ e, P.underlying t = some (.slice e)
    | .map => ∃ a b, P.underlying t = some (.map a b)
    | .func => ∃ a b c, P.underlying t = some (.func a b c)
    | .iface => ∃ a, P.underlying t = some (.interface a) := by
  unfold nilK at h
  split at h <;> cases h <;> exact ⟨_, by first | assumption | exact ⟨_, by first | assumption | exact ⟨_, by assumption⟩⟩⟩

theorem eq_ptr1 {t e : TypeId} (h : P.underlying t = some (.pointer e)) (a : Addr) (d : Nat) (w : World) : (Op.equalIn (d + 1) t (.pointer (some a)) (.pointer none)).run P w = .ok false w := by
  simp only [Op.equalIn, Sem.run_bind, run_underlying h, Result.andThen_ok]; rfl
theorem eq_ptr2 {t e : TypeId} (h : P.underlying t = some (.pointer e)) (a : Addr) (d : Nat) (w : World) : (Op.equalIn (d + 1) t (.pointer none) (.pointer (some a))).run P w = .ok false w := by
  simp only [Op.equalIn, Sem.run_bind, run_underlying h, Result.andThen_ok]; rfl
theorem eq_sl1 {t e : TypeId} (h : P.underlying t = some (.slice e)) (a : Addr) (l c l' c' d : Nat) (w : World) : (Op.equalIn (d + 1) t (.slice (some a) l c) (.slice none l' c')).run P w = .ok false w := by
  simp only [Op.equalIn, Sem.run_bind, run_underlying h, Result.andThen_ok]; rfl
theorem eq_sl2 {t e : TypeId} (h : P.underlying t = some (.slice e)) (a : Addr) (l c l' c' d : Nat) (w : World) : (Op.equalIn (d + 1) t (.slice none l c) (.slice (some a) l' c')).run P w = .ok false w := by
  simp only [Op.equalIn, Sem.run_bind, run_underlying h, Result.andThen_ok]; rfl
theorem eq_map1 {t a b : TypeId} (h : P.underlying t = some (.map a b)) (r d : Nat) (w : World) : (Op.equalIn (d + 1) t (.map (some r)) (.map none)).run P w = .ok false w := by
  simp only [Op.equalIn, Sem.run_bind, run_underlying h, Result.andThen_ok]; rfl
theorem eq_map2 {t a b : TypeId} (h : P.underlying t = some (.map a b)) (r d : Nat) (w : World) : (Op.equalIn (d + 1) t (.map none) (.map (some r))).run P w = .ok false w := by
  simp only [Op.equalIn, Sem.run_bind, run_underlying h, Result.andThen_ok]; rfl
theorem eq_fn1 {t : TypeId} {a b : Array TypeId} {c : Bool} (h : P.underlying t = some (.func a b c)) (f : Fn) (x y : Array Value) (d : Nat) (w : World) : (Op.equalIn (d + 1) t (.func f x y) .nilFunc).run P w = .ok false w := by
  simp only [Op.equalIn, Sem.run_bind, run_underlying h, Result.andThen_ok]; rfl
theorem eq_fn2 {t : TypeId} {a b : Array TypeId} {c : Bool} (h : P.underlying t = some (.func a b c)) (f : Fn) (x y : Array Value) (d : Nat) (w : World) : (Op.equalIn (d + 1) t .nilFunc (.func f x y)).run P w = .ok false w := by
  simp only [Op.equalIn, Sem.run_bind, run_underlying h, Result.andThen_ok]; rfl
theorem eq_if1 {t : TypeId} {a : Array (String × TypeId)} (h : P.underlying t = some (.interface a)) (u : TypeId) (x : Value) (d : Nat) (w : World) : (Op.equalIn (d + 1) t (.iface u x) .nilIface).run P w = .ok false w := by
  simp only [Op.equalIn, Sem.run_bind, run_underlying h, Result.andThen_ok]; rfl
theorem eq_if2 {t : TypeId} {a : Array (String × TypeId)} (h : P.underlying t = some (.interface a)) (u : TypeId) (x : Value) (d : Nat) (w : World) : (Op.equalIn (d + 1) t .nilIface (.iface u x)).run P w = .ok false w := by
  simp only [Op.equalIn, Sem.run_bind, run_underlying h, Result.andThen_ok]; rfl

theorem nilEq_sound {t : TypeId} {k : NilK} {x y x' y' : Value} {r : Bool} (hk : nilK P t = some k) (hx : VR m x x') (hy : VR m y y') (h : aNilEq k x y = some r) (w : World) :
    (Op.equal t x' y').run P w = .ok r w ∧ ∀ op ox oy, (eqGuard op t ox oy x' y').run P w = .ok () w := by
  have hs := nilK_spec hk
  unfold Op.equal
  show (Op.equalIn (9999 + 1) t x' y').run P w = .ok r w ∧ _
  generalize 9999 = d
  unfold aNilEq at h
  split at h <;> cases h
  · obtain ⟨_, hs⟩ := hs; obtain ⟨rfl, _⟩ := hx.inv_ptr; cases hy; exact ⟨eq_ptr1 hs _ _ _, fun op _ _ => by cases op <;> rfl⟩
  · obtain ⟨_, hs⟩ := hs; obtain ⟨rfl, _⟩ := hy.inv_ptr; cases hx; exact ⟨eq_ptr2 hs _ _ _, fun op _ _ => by cases op <;> rfl⟩
  · obtain ⟨_, hs⟩ := hs; cases hy; cases hx <;> exact ⟨eq_sl1 hs _ _ _ _ _ _ _, fun op _ _ => by cases op <;> rfl⟩
  · obtain ⟨_, hs⟩ := hs; cases hx; cases hy <;> exact ⟨eq_sl2 hs _ _ _ _ _ _ _, fun op _ _ => by cases op <;> rfl⟩
  · obtain ⟨_, _, hs⟩ := hs; cases hy; cases hx; exact ⟨eq_map1 hs _ _ _, fun op _ _ => by cases op <;> rfl⟩
  · obtain ⟨_, _, hs⟩ := hs; cases hx; cases hy; exact ⟨eq_map2 hs _ _ _, fun op _ _ => by cases op <;> rfl⟩
  · obtain ⟨_, _, _, hs⟩ := hs; cases hy; cases hx <;> exact ⟨eq_fn1 hs _ _ _ _ _, fun op _ _ => by cases op <;> rfl⟩
  · obtain ⟨_, _, _, hs⟩ := hs; cases hx; cases hy <;> exact ⟨eq_fn2 hs _ _ _ _ _, fun op _ _ => by cases op <;> rfl⟩
  · obtain ⟨_, hs⟩ := hs; cases hy; cases hx; exact ⟨eq_if1 hs _ _ _ _, fun op _ _ => by cases op <;> rfl⟩
  · obtain ⟨_, hs⟩ := hs; cases hx; cases hy; exact ⟨eq_if2 hs _ _ _ _, fun op _ _ => by cases op <;> rfl⟩

theorem binEq_of {t : TypeId} {k : NilK} {x y x' y' : Value} {r : Bool} (hx : VR m x x') (hy : VR m y y') (h : aNilEq k x y = some r) :
    binOp .eql t x' y' = (Op.equal t x' y' >>= fun b => pure (.bool b)) ∧ binOp .neq t x' y' = (Op.equal t x' y' >>= fun b => pure (.bool (!b))) := by
  unfold aNilEq at h
  split at h <;> cases h <;> cases hx <;> cases hy <;> exact ⟨rfl, rfl⟩

theorem g_bin' {op : BinOp} {t : TypeId} {ox oy : Operand} {a b a' b' : Value} {nx : ANext} (hR : Rel m H w) (ha : VR m a a') (hb : VR m b b') (h : aBin' P op t ox oy (nilK P t) a b H = some nx) :
    Good P m H w (((do eqGuard op t ox oy a' b'; binOp op t a' b' : Sem Value) >>= fun v => pure (Next.value v)).run P w) nx := by
  unfold aBin' at h
  cases hc : (clo 4 a && clo 4 b) <;> rw [hc] at h
  · simp only [cond_false] at h
    split at h
    · cases h
    · rename_i k hk
      split at h
      · rename_i r hr
        cases h
        obtain ⟨h1, h2⟩ := nilEq_sound hk ha hb hr w
        exact .here hR (v' := .bool r) (by simp only [Sem.run_bind, h2, Result.andThen_ok, (binEq_of ha hb hr).1, h1, Sem.run_pure]) (.bool r)
      · rename_i r hr
        cases h
        obtain ⟨h1, h2⟩ := nilEq_sound hk ha hb hr w
        exact .here hR (v' := .bool (!r)) (by simp only [Sem.run_bind, h2, Result.andThen_ok, (binEq_of ha hb hr).2, h1, Sem.run_pure]) (.bool _)
      · cases h
  · simp only [Bool.and_eq_true] at hc
    rw [VR.eq_of_clo 4 hc.1 ha, VR.eq_of_clo 4 hc.2 hb]
    exact good_ofPR hR rfl h

theorem g_bin {op : BinOp} {t : TypeId} {ox oy : Operand} {a b a' b' : Value} {nx : ANext} (hR : Rel m H w) (ha : VR m a a') (hb : VR m b b') (h : aBin P op t ox oy (nilK P t) a b H = some nx) :
    Good P m H w (((do eqGuard op t ox oy a' b'; binOp op t a' b' : Sem Value) >>= fun v => pure (Next.value v)).run P w) nx := by
  unfold aBin at h
  split at h
  · rename_i k x k' y
    cases hk : keq k k' <;> rw [hk] at h
    · exact g_bin' hR ha hb h
    · simp only [cond_true] at h
      split at h
      · rename_i v hv
        cases h
        have := keq_eq hk
        subst this
        rw [ha.inv_int, hb.inv_int]
        exact .here hR (by simp only [Sem.run_bind, eqGuard_int, Result.andThen_ok, binInt_sound hv, Sem.run_pure]) (VR.of_clo m 1 _ (binInt_clo hv))
      · exact g_bin' hR ha hb h
  · exact g_bin' hR ha hb h

/-! ## Bounds of slices -/
theorem inB_spec {i : Int} {n : Nat} (h : inB i n = true) : 0 ≤ i ∧ i < n := by
  cases i with
  | ofNat k =>
    simp only [inB] at h
    rw [Nat.blt_eq] at h
    simp; omega
  | negSucc k => simp [inB] at h

theorem bound_run {v v' : Value} {d y r y' : Nat} (hv : VR m v v') (h : bndL (some v) d y = some r) (hy : y ≤ y') (code : BoundsCode) (w : World) :
    (Instr.sliceBound v' y' code).run P w = .ok r w ∧ r ≤ y := by
  unfold bndL at h
  split at h
  · rename_i e; cases e
  · rename_i k i e
    cases e
    cases hb : Nat.ble i y <;> rw [hb] at h
    · cases h
    · cases h
      have := Nat.le_of_ble_eq_true hb
      rw [hv.inv_int]
      refine ⟨?_, this⟩
      simp only [Instr.sliceBound, asIntOf, Sem.run_bind, Sem.run_pure, Result.andThen_ok]
      rw [if_pos (by constructor <;> simp; omega)]
      simp
  · cases h

/-- the bounds, where the room behind is 's' more than the executor knows. -/
theorem bnds_sound {lo hi mx lo' hi' mx' : Option Value} {len cap l h mm : Nat} (isS : Bool) (s : Nat) (h1 : VRO m lo lo') (h2 : VRO m hi hi') (h3 : VRO m mx mx') (hb : bnds len cap lo hi mx = some (l, h, mm)) (w : World) :
    (Instr.sliceBounds isS len (cap + s) lo' hi' mx').run P w = .ok (l, h, if mx.isSome then mm else cap + s) w ∧ (mx = none → mm = cap) ∧ (len ≤ cap → l ≤ h ∧ h ≤ mm ∧ mm ≤ cap) := by
  unfold bnds at hb
  cases h3 with
  | none =>
    simp only [bndL] at hb
    cases h2 with
    | none =>
      simp only [bndL] at hb
      cases h1 with
      | none =>
        simp only [bndL, Option.some.injEq, Prod.mk.injEq] at hb
        obtain ⟨rfl, rfl, rfl⟩ := hb
        exact ⟨by simp [Instr.sliceBounds], fun _ => rfl, fun hl => ⟨by omega, hl, Nat.le_refl _⟩⟩
      | some v v' hv =>
        split at hb
        · cases hb
        · rename_i l0 hl0
          simp only [Option.some.injEq, Prod.mk.injEq] at hb
          obtain ⟨rfl, rfl, rfl⟩ := hb
          obtain ⟨g1, g2⟩ := bound_run (P := P) hv hl0 (Nat.le_refl _) .sliceB w
          exact ⟨by simp [Instr.sliceBounds, g1], fun _ => rfl, fun hl => ⟨g2, hl, Nat.le_refl _⟩⟩
    | some u u' hu =>
      split at hb
      · cases hb
      · rename_i h0 hh0
        obtain ⟨k1, k2⟩ := bound_run (P := P) (y' := cap + s) hu hh0 (Nat.le_add_right _ _) (if isS then .sliceAcap else .sliceAlen) w
        cases h1 with
        | none =>
          simp only [bndL, Option.some.injEq, Prod.mk.injEq] at hb
          obtain ⟨rfl, rfl, rfl⟩ := hb
          exact ⟨by simp [Instr.sliceBounds, k1], fun _ => rfl, fun hl => ⟨by omega, k2, Nat.le_refl _⟩⟩
        | some v v' hv =>
          split at hb
          · cases hb
          · rename_i l0 hl0
            simp only [Option.some.injEq, Prod.mk.injEq] at hb
            obtain ⟨rfl, rfl, rfl⟩ := hb
            obtain ⟨g1, g2⟩ := bound_run (P := P) hv hl0 (Nat.le_refl _) .sliceB w
            exact ⟨by simp [Instr.sliceBounds, g1, k1], fun _ => rfl, fun hl => ⟨g2, k2, Nat.le_refl _⟩⟩
  | some x x' hx =>
    cases h2 with
    | none => cases hb
    | some u u' hu =>
      simp only at hb
      split at hb
      · cases hb
      · rename_i m0 hm0
        obtain ⟨j1, j2⟩ := bound_run (P := P) (y' := cap + s) hx hm0 (Nat.le_add_right _ _) (if isS then .slice3Acap else .slice3Alen) w
        split at hb
        · cases hb
        · rename_i h0 hh0
          obtain ⟨k1, k2⟩ := bound_run (P := P) hu hh0 (Nat.le_refl _) .slice3B w
          cases h1 with
          | none =>
            simp only [bndL, Option.some.injEq, Prod.mk.injEq] at hb
            obtain ⟨rfl, rfl, rfl⟩ := hb
            exact ⟨by simp [Instr.sliceBounds, k1, j1], by simp, fun hl => ⟨by omega, k2, j2⟩⟩
          | some v v' hv =>
            split at hb
            · cases hb
            · rename_i l0 hl0
              simp only [Option.some.injEq, Prod.mk.injEq] at hb
              obtain ⟨rfl, rfl, rfl⟩ := hb
              obtain ⟨g1, g2⟩ := bound_run (P := P) hv hl0 (Nat.le_refl _) .slice3C w
              exact ⟨by simp [Instr.sliceBounds, g1, k1, j1], by simp, fun hl => ⟨g2, k2, j2⟩⟩

end Go.AX
/- The abstract executor 'AX', soundness (6): slices, places, parts. -/
namespace Go.AX
variable {P : Program} {m : M} {H : AH} {w : World}

theorem add_sl (b o k z : Nat) : (⟨b, o, none⟩ : Addr).add (k * z) = ⟨b, o + k * z, none⟩ := add_none b o (k * z)

theorem ite_addr {mm l b o z : Nat} : (if mm = l then (⟨b, o, none⟩ : Addr) else (⟨b, o, none⟩ : Addr).add (l * z)) = ⟨b, bif Nat.beq mm l then o else o + l * z, none⟩ := by
  rw [add_sl]
  by_cases h : mm = l
  · rw [if_pos h, h]; simp
  · rw [if_neg h, nbeq h]; rfl

theorem g_sliceA {t e : TypeId} {n z : Nat} {x x' v : Value} {lo hi mx lo' hi' mx' : Option Value} (hR : Rel m H w) (hu : P.underlying t = some (.array n e)) (hz : sizeT P e = some z) (hx : VR m x x')
    (h1 : VRO m lo lo') (h2 : VRO m hi hi') (h3 : VRO m mx mx') (h : aSliceA n z x lo hi mx = some v) :
    Good P m H w ((Instr.sliceAt t x' lo' hi' mx' >>= fun v => pure (Next.value v)).run P w) (.val v H) := by
  unfold aSliceA at h
  split at h
  · rename_i b o
    split at h
    · rename_i l hh mm hb
      cases h
      obtain ⟨rfl, hd⟩ := hx.inv_ptr
      obtain ⟨g1, g2, g3⟩ := bnds_sound (P := P) false 0 h1 h2 h3 hb w
      simp only [Nat.add_zero] at g1
      have e : (if mx.isSome = true then mm else n) = mm := by
        cases mx with
        | none => rw [g2 rfl]; rfl
        | some _ => rfl
      rw [e] at g1
      refine .here hR (v' := .slice (some ⟨m.bk b, bif Nat.beq mm l then o else o + l * z, none⟩) (hh - l) (mm - l)) ?_ (.sl _ _ _ _ hd)
      simp only [Instr.sliceAt, Sem.run_bind, run_underlying hu, Result.andThen_ok, Instr.sureAddr, Sem.run_pure, g1, sizeT_run hz, ite_addr]
    · cases h
  · cases h

theorem g_sliceS {t e : TypeId} {z : Nat} {x x' v : Value} {lo hi mx lo' hi' mx' : Option Value} (hR : Rel m H w) (hu : P.underlying t = some (.slice e)) (hz : sizeT P e = some z) (hx : VR m x x')
    (h1 : VRO m lo lo') (h2 : VRO m hi hi') (h3 : VRO m mx mx') (h : aSliceS z x lo hi mx = some v) :
    Good P m H w ((Instr.sliceAt t x' lo' hi' mx' >>= fun v => pure (Next.value v)).run P w) (.val v H) := by
  unfold aSliceS at h
  split at h
  · rename_i b o len cap
    split at h
    · rename_i l hh mm hb
      cases h
      obtain ⟨rfl, hd⟩ := hx.inv_sl
      obtain ⟨g1, g2, g3⟩ := bnds_sound (P := P) true 0 h1 h2 h3 hb w
      simp only [Nat.add_zero] at g1
      have e : (if mx.isSome = true then mm else cap) = mm := by
        cases mx with
        | none => rw [g2 rfl]; rfl
        | some _ => rfl
      rw [e] at g1
      refine .here hR (v' := .slice (some ⟨m.bk b, bif Nat.beq mm l then o else o + l * z, none⟩) (hh - l) (mm - l)) ?_ (.sl _ _ _ _ hd)
      simp only [Instr.sliceAt, Instr.slice, Sem.run_bind, run_underlying hu, Result.andThen_ok, Sem.run_pure, g1, sizeT_run hz, Option.map_some]
      rw [← ite_addr]; split <;> rfl
    · cases h
  · rename_i b o len cap
    obtain ⟨rfl, hd⟩ := hx.inv_slr
    split at h
    · rename_i l hh mm hb _
      cases h
      obtain ⟨g1, g2, g3⟩ := bnds_sound (P := P) true (m.sp b) h1 h2 h3 (by assumption) w
      simp only [Option.isSome_some, if_true] at g1
      refine .here hR (v' := .slice (some ⟨m.bk b, bif Nat.beq mm l then o else o + l * z, none⟩) (hh - l) (mm - l)) ?_ (.sl _ _ _ _ hd)
      simp only [Instr.sliceAt, Instr.slice, Sem.run_bind, run_underlying hu, Result.andThen_ok, Sem.run_pure, g1, sizeT_run hz, Option.map_some]
      rw [← ite_addr]; split <;> rfl
    · rename_i l hh mm hb
      obtain ⟨g1, g2, g3⟩ := bnds_sound (P := P) true (m.sp b) h1 h2 h3 (by assumption) w
      simp only [Option.isSome_none, Bool.false_eq_true, if_false] at g1
      have emm := g2 rfl
      cases hb2 : Nat.blt l mm <;> rw [hb2] at h
      · cases hb3 : (Nat.beq l mm && Nat.beq hh l) <;> rw [hb3] at h
        · cases h
        · cases h
          simp only [Bool.and_eq_true] at hb3
          have e1 := Nat.eq_of_beq_eq_true hb3.1
          have e2 := Nat.eq_of_beq_eq_true hb3.2
          have e3 : hh - l = 0 := by omega
          refine .here hR (v' := .slice (some (if cap + m.sp b = l then ⟨m.bk b, o, none⟩ else (⟨m.bk b, o, none⟩ : Addr).add (l * z))) (hh - l) (cap + m.sp b - l)) ?_ ?_
          · simp only [Instr.sliceAt, Instr.slice, Sem.run_bind, run_underlying hu, Result.andThen_ok, Sem.run_pure, g1, sizeT_run hz, Option.map_some]
            split <;> rfl
          · rw [e3]; exact .sle _ _ _ _
      · cases h
        rw [Nat.blt_eq] at hb2
        refine .here hR (v' := .slice (some ⟨m.bk b, o + l * z, none⟩) (hh - l) (mm - l + m.sp b)) ?_ (.slr _ _ _ _ hd)
        simp only [Instr.sliceAt, Instr.slice, Sem.run_bind, run_underlying hu, Result.andThen_ok, Sem.run_pure, g1, sizeT_run hz, Option.map_some]
        rw [if_neg (by omega), add_sl, show cap + m.sp b - l = mm - l + m.sp b by omega]
    · cases h
  · split at h
    · rename_i l hh
      cases h
      rw [hx.inv_sl0]
      obtain ⟨⟨l, hh, mm⟩, hb⟩ : ∃ y, bnds 0 0 lo hi mx = some y := ⟨_, by assumption⟩
      obtain ⟨g1, g2, g3⟩ := bnds_sound (P := P) true 0 h1 h2 h3 hb w
      simp only [Nat.add_zero] at g1
      obtain ⟨k1, k2, k3⟩ := g3 (Nat.le_refl _)
      have e : (if mx.isSome = true then mm else 0) = 0 := by split <;> omega
      rw [e] at g1
      have el : l = 0 := by omega
      have eh : hh = 0 := by omega
      subst el; subst eh
      refine .here hR (v' := .slice none 0 0) ?_ (.sl0 _ _)
      simp only [Instr.sliceAt, Instr.slice, Sem.run_bind, run_underlying hu, Result.andThen_ok, Sem.run_pure, g1, sizeT_run hz]
      rfl
    · cases h
  · cases h

theorem g_sliceT {t : TypeId} {x x' v : Value} {lo hi lo' hi' : Option Value} (hR : Rel m H w) (hu : P.underlying t = some .string) (hx : VR m x x')
    (h1 : VRO m lo lo') (h2 : VRO m hi hi') (h : aSliceT x lo hi = some v) :
    Good P m H w ((Instr.sliceAt t x' lo' hi' none >>= fun v => pure (Next.value v)).run P w) (.val v H) := by
  unfold aSliceT at h
  split at h
  · rename_i s
    split at h
    · rename_i l hh mm hb
      cases h
      rw [hx.inv_str]
      obtain ⟨g1, g2, g3⟩ := bnds_sound (P := P) false 0 h1 h2 .none hb w
      simp only [Nat.add_zero] at g1
      refine .here hR (v' := .string (s.extract l hh)) ?_ (.str _)
      simp [Instr.sliceAt, Instr.slice, run_underlying hu, g1]
    · cases h
  · cases h

/-! ## Places -/
theorem g_fieldAddr {s : TypeId} {fs : Array Field} {f n b o : Nat} {fd : Field} {x' : Value} (hR : Rel m H w) (hu : P.underlying s = some (.struct fs)) (hfd : fs[f]? = some fd) (hn : sizeT P fd.type = some (n + 1))
    (hx : VR m (.pointer (some ⟨b, o, none⟩)) x') : Good P m H w ((Instr.fieldAt s x' f >>= fun v => pure (Next.value v)).run P w) (.val (ptr b (o + fd.offset)) H) := by
  obtain ⟨rfl, hd⟩ := hx.inv_ptr
  refine .here hR (v' := .pointer (some ⟨m.bk b, o + fd.offset, none⟩)) ?_ (.ptr _ _ hd)
  simp only [Instr.fieldAt, Sem.run_bind, run_underlying hu, Result.andThen_ok, hfd, Instr.sureAddr, Sem.run_pure, fieldPlace, sizeT_run hn]
  rw [if_neg (by omega)]
  simp [add_none]

theorem part_run {t : TypeId} {c : Array Value} {off n : Nat} {b : Bool} {v : Value} (ht : isAggT P t = some b) (hn : sizeT P t = some n)
    (h : (bif b then some (.agg (c.extract off (off + n))) else c[off]?) = some v) (w : World) : (part t c off).run P w = .ok v w := by
  cases b
  · simp only [cond_false] at h
    simp [part, isAggT_run ht, h]
  · simp only [cond_true, Option.some.injEq] at h
    subst h
    simp [part, isAggT_run ht, sizeT_run hn]

theorem VRL.extract {c c' : Array Value} (h : VRL m c.toList c'.toList) (i j : Nat) : VRL m (c.extract i j).toList (c'.extract i j).toList := by
  simp only [Array.toList_extract, List.extract_eq_take_drop]
  exact (h.drop _).take _

theorem part_rel {c c' : Array Value} {off n : Nat} {b : Bool} {v : Value} (hc : VRL m c.toList c'.toList) (h : (bif b then some (.agg (c.extract off (off + n))) else c[off]?) = some v) :
    ∃ v', (bif b then some (.agg (c'.extract off (off + n))) else c'[off]?) = some v' ∧ VR m v v' := by
  cases b
  · simp only [cond_false] at h ⊢
    obtain ⟨v', h1, h2⟩ := hc.get off (by simpa using h)
    exact ⟨v', by simpa using h1, h2⟩
  · simp only [cond_true, Option.some.injEq] at h ⊢
    subst h
    exact ⟨_, rfl, .agg _ _ (hc.extract _ _)⟩

theorem g_field {t : TypeId} {fs : Array Field} {f n : Nat} {fd : Field} {b : Bool} {x x' v : Value} (hR : Rel m H w) (hu : P.underlying t = some (.struct fs)) (hfd : fs[f]? = some fd) (hb : isAggT P fd.type = some b) (hn : sizeT P fd.type = some n)
    (hx : VR m x x') {c : Array Value} (hc : x = .agg c) (h : (bif b then some (.agg (c.extract fd.offset (fd.offset + n))) else c[fd.offset]?) = some v) :
    Good P m H w ((Instr.field t x' f >>= fun v => pure (Next.value v)).run P w) (.val v H) := by
  subst hc
  obtain ⟨c', rfl, hcr⟩ := hx.inv_agg
  obtain ⟨v', h1, h2⟩ := part_rel hcr h
  refine .here hR (v' := v') ?_ h2
  simp [Instr.field, run_underlying hu, hfd, asAgg, part_run hb hn h1]

theorem g_indexAddrA {t e : TypeId} {len n b o : Nat} {k : IntKind} {i : Int} {x' i' : Value} (hR : Rel m H w) (hu : P.underlying t = some (.array len e)) (hn : sizeT P e = some n) (hx : VR m (.pointer (some ⟨b, o, none⟩)) x') (hi : VR m (.int k i) i')
    (h : inB i len = true) : Good P m H w ((Instr.indexAt t x' i' >>= fun v => pure (Next.value v)).run P w) (.val (ptr b (o + i.toNat * n)) H) := by
  obtain ⟨rfl, hd⟩ := hx.inv_ptr
  rw [hi.inv_int]
  obtain ⟨h1, h2⟩ := inB_spec h
  refine .here hR (v' := .pointer (some ⟨m.bk b, o + i.toNat * n, none⟩)) ?_ (.ptr _ _ hd)
  simp only [Instr.indexAt, asIntOf, Sem.run_bind, Sem.run_pure, Result.andThen_ok, run_underlying hu, Instr.sureAddr]
  rw [if_pos ⟨h1, h2⟩]
  simp only [Sem.run_bind, sizeT_run hn, Result.andThen_ok, Sem.run_pure, add_none]

theorem g_indexAddrS {t e : TypeId} {n b len : Nat} {k : IntKind} {i : Int} {x x' i' : Value} (hR : Rel m H w) (hu : P.underlying t = some (.slice e)) (hn : sizeT P e = some n) (hx : VR m x x') (hi : VR m (.int k i) i') {o c : Nat}
    (hs : x = .slice (some ⟨b, o, none⟩) len c ∨ x = .slice (some ⟨b, o, some 0⟩) len c)
    (h : inB i len = true) : Good P m H w ((Instr.indexAt t x' i' >>= fun v => pure (Next.value v)).run P w) (.val (ptr b (o + i.toNat * n)) H) := by
  obtain ⟨c', hx', hd⟩ : ∃ c', x' = .slice (some ⟨m.bk b, o, none⟩) len c' ∧ m.dm b := by
    rcases hs with rfl | rfl
    · exact ⟨_, hx.inv_sl⟩
    · exact ⟨_, hx.inv_slr⟩
  subst hx'
  rw [hi.inv_int]
  obtain ⟨h1, h2⟩ := inB_spec h
  refine .here hR (v' := .pointer (some ⟨m.bk b, o + i.toNat * n, none⟩)) ?_ (.ptr _ _ hd)
  simp only [Instr.indexAt, asIntOf, Sem.run_bind, Sem.run_pure, Result.andThen_ok, run_underlying hu]
  rw [if_pos ⟨h1, h2⟩]
  simp only [Sem.run_bind, sizeT_run hn, Result.andThen_ok, Sem.run_pure, add_none]

theorem g_indexA {t e : TypeId} {len n : Nat} {k : IntKind} {i : Int} {b : Bool} {c : Array Value} {x' i' v : Value} (hR : Rel m H w) (hu : P.underlying t = some (.array len e)) (hn : sizeT P e = some n) (hb : isAggT P e = some b) (hx : VR m (.agg c) x') (hi : VR m (.int k i) i')
    (h : inB i len = true) (hv : (bif b then some (.agg (c.extract (i.toNat * n) (i.toNat * n + n))) else c[i.toNat * n]?) = some v) : Good P m H w ((Instr.index t x' i' >>= fun v => pure (Next.value v)).run P w) (.val v H) := by
  obtain ⟨c', rfl, hcr⟩ := hx.inv_agg
  rw [hi.inv_int]
  obtain ⟨h1, h2⟩ := inB_spec h
  obtain ⟨v', g1, g2⟩ := part_rel hcr hv
  refine .here hR (v' := v') ?_ g2
  simp only [Instr.index, asIntOf, Sem.run_bind, Sem.run_pure, Result.andThen_ok, run_underlying hu]
  rw [if_pos ⟨h1, h2⟩]
  simp only [Sem.run_bind, sizeT_run hn, Result.andThen_ok, part_run hb hn g1, Sem.run_pure]

theorem g_indexT {t : TypeId} {k : IntKind} {i : Int} {s : ByteArray} {b : UInt8} {x' i' : Value} (hR : Rel m H w) (hu : P.underlying t = some .string) (hx : VR m (.string s) x') (hi : VR m (.int k i) i')
    (h : inB i s.size = true) (hv : s.data.toList[i.toNat]? = some b) : Good P m H w ((Instr.index t x' i' >>= fun v => pure (Next.value v)).run P w) (.val (.int .u8 b.toNat) H) := by
  rw [hx.inv_str, hi.inv_int]
  obtain ⟨h1, h2⟩ := inB_spec h
  refine .here hR (v' := .int .u8 b.toNat) ?_ (.int _ _)
  have hg : s[i.toNat]? = some b := by
    have hlt : i.toNat < s.size := by omega
    rw [getElem?_pos s i.toNat hlt]
    have hlt2 : i.toNat < s.data.toList.length := by simpa using hlt
    rw [List.getElem?_eq_getElem hlt2] at hv
    cases hv; rfl
  simp only [Instr.index, asIntOf, Sem.run_bind, Sem.run_pure, Result.andThen_ok, run_underlying hu]
  rw [if_pos h1, hg]
  simp

end Go.AX
