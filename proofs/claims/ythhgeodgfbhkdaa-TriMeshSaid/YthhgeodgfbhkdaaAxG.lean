/- The abstract executor 'AX', soundness (6): slices, places, parts. -/
import Derived.Test.YthhgeodgfbhkdaaAxF
set_option linter.unusedVariables false
set_option linter.unusedSimpArgs false
set_option linter.unusedSectionVars false
namespace Go.AX
variable {P : Program} {m : M} {H : AH} {w : World}

theorem add_sl (b o k z : Nat) : (⟨b, o, none⟩ : Addr).add (k * z) = ⟨b, o + k * z, none⟩ := add_none b o (k * z)

theorem ite_addr {mm l b o z : Nat} : (if mm = l then (⟨b, o, none⟩ : Addr) else (⟨b, o, none⟩ : Addr).add (l * z)) = ⟨b, bif Nat.beq mm l then o else o + l * z, none⟩ := by
  rw [add_sl]
  by_cases h : mm = l
  · rw [if_pos h, h]; simp
  · rw [if_neg h, nbeq h]; rfl

theorem g_sliceA {t e : TypeId} {n z : Nat} {x x' v : Value} {lo hi mx lo' hi' mx' : Option Value} (hR : Rel m H w) (hu : P.underlying t = some (.array n e)) (hz : sizeT P e = some z) (hx : VR m x x')
    (h1 : VRO m lo lo') (h2 : VRO m hi hi') (h3 : VRO m mx mx') (h : aSliceA n z x lo hi mx = some v) :
    Good P m H w ((Instr.sliceAt t x' lo' hi' mx' >>= fun v => pure (Next.value v)).run P w) (.val v H) := by
  unfold aSliceA at h
  split at h
  · rename_i b o
    split at h
    · rename_i l hh mm hb
      cases h
      obtain ⟨rfl, hd⟩ := hx.inv_ptr
      obtain ⟨g1, g2, g3⟩ := bnds_sound (P := P) false 0 h1 h2 h3 hb w
      simp only [Nat.add_zero] at g1
      have e : (if mx.isSome = true then mm else n) = mm := by
        cases mx with
        | none => rw [g2 rfl]; rfl
        | some _ => rfl
      rw [e] at g1
      refine .here hR (v' := .slice (some ⟨m.bk b, bif Nat.beq mm l then o else o + l * z, none⟩) (hh - l) (mm - l)) ?_ (.sl _ _ _ _ hd)
      simp only [Instr.sliceAt, Sem.run_bind, run_underlying hu, Result.andThen_ok, Instr.sureAddr, Sem.run_pure, g1, sizeT_run hz, ite_addr]
    · cases h
  · cases h

theorem g_sliceS {t e : TypeId} {z : Nat} {x x' v : Value} {lo hi mx lo' hi' mx' : Option Value} (hR : Rel m H w) (hu : P.underlying t = some (.slice e)) (hz : sizeT P e = some z) (hx : VR m x x')
    (h1 : VRO m lo lo') (h2 : VRO m hi hi') (h3 : VRO m mx mx') (h : aSliceS z x lo hi mx = some v) :
    Good P m H w ((Instr.sliceAt t x' lo' hi' mx' >>= fun v => pure (Next.value v)).run P w) (.val v H) := by
  unfold aSliceS at h
  split at h
  · rename_i b o len cap
    split at h
    · rename_i l hh mm hb
      cases h
      obtain ⟨rfl, hd⟩ := hx.inv_sl
      obtain ⟨g1, g2, g3⟩ := bnds_sound (P := P) true 0 h1 h2 h3 hb w
      simp only [Nat.add_zero] at g1
      have e : (if mx.isSome = true then mm else cap) = mm := by
        cases mx with
        | none => rw [g2 rfl]; rfl
        | some _ => rfl
      rw [e] at g1
      refine .here hR (v' := .slice (some ⟨m.bk b, bif Nat.beq mm l then o else o + l * z, none⟩) (hh - l) (mm - l)) ?_ (.sl _ _ _ _ hd)
      simp only [Instr.sliceAt, Instr.slice, Sem.run_bind, run_underlying hu, Result.andThen_ok, Sem.run_pure, g1, sizeT_run hz, Option.map_some]
      rw [← ite_addr]; split <;> rfl
    · cases h
  · rename_i b o len cap
    obtain ⟨rfl, hd⟩ := hx.inv_slr
    split at h
    · rename_i l hh mm hb _
      cases h
      obtain ⟨g1, g2, g3⟩ := bnds_sound (P := P) true (m.sp b) h1 h2 h3 (by assumption) w
      simp only [Option.isSome_some, if_true] at g1
      refine .here hR (v' := .slice (some ⟨m.bk b, bif Nat.beq mm l then o else o + l * z, none⟩) (hh - l) (mm - l)) ?_ (.sl _ _ _ _ hd)
      simp only [Instr.sliceAt, Instr.slice, Sem.run_bind, run_underlying hu, Result.andThen_ok, Sem.run_pure, g1, sizeT_run hz, Option.map_some]
      rw [← ite_addr]; split <;> rfl
    · rename_i l hh mm hb
      obtain ⟨g1, g2, g3⟩ := bnds_sound (P := P) true (m.sp b) h1 h2 h3 (by assumption) w
      simp only [Option.isSome_none, Bool.false_eq_true, if_false] at g1
      have emm := g2 rfl
      cases hb2 : Nat.blt l mm <;> rw [hb2] at h
      · cases hb3 : (Nat.beq l mm && Nat.beq hh l) <;> rw [hb3] at h
        · cases h
        · cases h
          simp only [Bool.and_eq_true] at hb3
          have e1 := Nat.eq_of_beq_eq_true hb3.1
          have e2 := Nat.eq_of_beq_eq_true hb3.2
          have e3 : hh - l = 0 := by omega
          refine .here hR (v' := .slice (some (if cap + m.sp b = l then ⟨m.bk b, o, none⟩ else (⟨m.bk b, o, none⟩ : Addr).add (l * z))) (hh - l) (cap + m.sp b - l)) ?_ ?_
          · simp only [Instr.sliceAt, Instr.slice, Sem.run_bind, run_underlying hu, Result.andThen_ok, Sem.run_pure, g1, sizeT_run hz, Option.map_some]
            split <;> rfl
          · rw [e3]; exact .sle _ _ _ _
      · cases h
        rw [Nat.blt_eq] at hb2
        refine .here hR (v' := .slice (some ⟨m.bk b, o + l * z, none⟩) (hh - l) (mm - l + m.sp b)) ?_ (.slr _ _ _ _ hd)
        simp only [Instr.sliceAt, Instr.slice, Sem.run_bind, run_underlying hu, Result.andThen_ok, Sem.run_pure, g1, sizeT_run hz, Option.map_some]
        rw [if_neg (by omega), add_sl, show cap + m.sp b - l = mm - l + m.sp b by omega]
    · cases h
  · split at h
    · rename_i l hh
      cases h
      rw [hx.inv_sl0]
      obtain ⟨⟨l, hh, mm⟩, hb⟩ : ∃ y, bnds 0 0 lo hi mx = some y := ⟨_, by assumption⟩
      obtain ⟨g1, g2, g3⟩ := bnds_sound (P := P) true 0 h1 h2 h3 hb w
      simp only [Nat.add_zero] at g1
      obtain ⟨k1, k2, k3⟩ := g3 (Nat.le_refl _)
      have e : (if mx.isSome = true then mm else 0) = 0 := by split <;> omega
      rw [e] at g1
      have el : l = 0 := by omega
      have eh : hh = 0 := by omega
      subst el; subst eh
      refine .here hR (v' := .slice none 0 0) ?_ (.sl0 _ _)
      simp only [Instr.sliceAt, Instr.slice, Sem.run_bind, run_underlying hu, Result.andThen_ok, Sem.run_pure, g1, sizeT_run hz]
      rfl
    · cases h
  · cases h

theorem g_sliceT {t : TypeId} {x x' v : Value} {lo hi lo' hi' : Option Value} (hR : Rel m H w) (hu : P.underlying t = some .string) (hx : VR m x x')
    (h1 : VRO m lo lo') (h2 : VRO m hi hi') (h : aSliceT x lo hi = some v) :
    Good P m H w ((Instr.sliceAt t x' lo' hi' none >>= fun v => pure (Next.value v)).run P w) (.val v H) := by
  unfold aSliceT at h
  split at h
  · rename_i s
    split at h
    · rename_i l hh mm hb
      cases h
      rw [hx.inv_str]
      obtain ⟨g1, g2, g3⟩ := bnds_sound (P := P) false 0 h1 h2 .none hb w
      simp only [Nat.add_zero] at g1
      refine .here hR (v' := .string (s.extract l hh)) ?_ (.str _)
      simp [Instr.sliceAt, Instr.slice, run_underlying hu, g1]
    · cases h
  · cases h

/-! ## Places -/
theorem g_fieldAddr {s : TypeId} {fs : Array Field} {f n b o : Nat} {fd : Field} {x' : Value} (hR : Rel m H w) (hu : P.underlying s = some (.struct fs)) (hfd : fs[f]? = some fd) (hn : sizeT P fd.type = some (n + 1))
    (hx : VR m (.pointer (some ⟨b, o, none⟩)) x') : Good P m H w ((Instr.fieldAt s x' f >>= fun v => pure (Next.value v)).run P w) (.val (ptr b (o + fd.offset)) H) := by
  obtain ⟨rfl, hd⟩ := hx.inv_ptr
  refine .here hR (v' := .pointer (some ⟨m.bk b, o + fd.offset, none⟩)) ?_ (.ptr _ _ hd)
  simp only [Instr.fieldAt, Sem.run_bind, run_underlying hu, Result.andThen_ok, hfd, Instr.sureAddr, Sem.run_pure, fieldPlace, sizeT_run hn]
  rw [if_neg (by omega)]
  simp [add_none]

theorem part_run {t : TypeId} {c : Array Value} {off n : Nat} {b : Bool} {v : Value} (ht : isAggT P t = some b) (hn : sizeT P t = some n)
    (h : (bif b then some (.agg (c.extract off (off + n))) else c[off]?) = some v) (w : World) : (part t c off).run P w = .ok v w := by
  cases b
  · simp only [cond_false] at h
    simp [part, isAggT_run ht, h]
  · simp only [cond_true, Option.some.injEq] at h
    subst h
    simp [part, isAggT_run ht, sizeT_run hn]

theorem VRL.extract {c c' : Array Value} (h : VRL m c.toList c'.toList) (i j : Nat) : VRL m (c.extract i j).toList (c'.extract i j).toList := by
  simp only [Array.toList_extract, List.extract_eq_take_drop]
  exact (h.drop _).take _

theorem part_rel {c c' : Array Value} {off n : Nat} {b : Bool} {v : Value} (hc : VRL m c.toList c'.toList) (h : (bif b then some (.agg (c.extract off (off + n))) else c[off]?) = some v) :
    ∃ v', (bif b then some (.agg (c'.extract off (off + n))) else c'[off]?) = some v' ∧ VR m v v' := by
  cases b
  · simp only [cond_false] at h ⊢
    obtain ⟨v', h1, h2⟩ := hc.get off (by simpa using h)
    exact ⟨v', by simpa using h1, h2⟩
  · simp only [cond_true, Option.some.injEq] at h ⊢
    subst h
    exact ⟨_, rfl, .agg _ _ (hc.extract _ _)⟩

theorem g_field {t : TypeId} {fs : Array Field} {f n : Nat} {fd : Field} {b : Bool} {x x' v : Value} (hR : Rel m H w) (hu : P.underlying t = some (.struct fs)) (hfd : fs[f]? = some fd) (hb : isAggT P fd.type = some b) (hn : sizeT P fd.type = some n)
    (hx : VR m x x') {c : Array Value} (hc : x = .agg c) (h : (bif b then some (.agg (c.extract fd.offset (fd.offset + n))) else c[fd.offset]?) = some v) :
    Good P m H w ((Instr.field t x' f >>= fun v => pure (Next.value v)).run P w) (.val v H) := by
  subst hc
  obtain ⟨c', rfl, hcr⟩ := hx.inv_agg
  obtain ⟨v', h1, h2⟩ := part_rel hcr h
  refine .here hR (v' := v') ?_ h2
  simp [Instr.field, run_underlying hu, hfd, asAgg, part_run hb hn h1]

theorem g_indexAddrA {t e : TypeId} {len n b o : Nat} {k : IntKind} {i : Int} {x' i' : Value} (hR : Rel m H w) (hu : P.underlying t = some (.array len e)) (hn : sizeT P e = some n) (hx : VR m (.pointer (some ⟨b, o, none⟩)) x') (hi : VR m (.int k i) i')
    (h : inB i len = true) : Good P m H w ((Instr.indexAt t x' i' >>= fun v => pure (Next.value v)).run P w) (.val (ptr b (o + i.toNat * n)) H) := by
  obtain ⟨rfl, hd⟩ := hx.inv_ptr
  rw [hi.inv_int]
  obtain ⟨h1, h2⟩ := inB_spec h
  refine .here hR (v' := .pointer (some ⟨m.bk b, o + i.toNat * n, none⟩)) ?_ (.ptr _ _ hd)
  simp only [Instr.indexAt, asIntOf, Sem.run_bind, Sem.run_pure, Result.andThen_ok, run_underlying hu, Instr.sureAddr]
  rw [if_pos ⟨h1, h2⟩]
  simp only [Sem.run_bind, sizeT_run hn, Result.andThen_ok, Sem.run_pure, add_none]

theorem g_indexAddrS {t e : TypeId} {n b len : Nat} {k : IntKind} {i : Int} {x x' i' : Value} (hR : Rel m H w) (hu : P.underlying t = some (.slice e)) (hn : sizeT P e = some n) (hx : VR m x x') (hi : VR m (.int k i) i') {o c : Nat}
    (hs : x = .slice (some ⟨b, o, none⟩) len c ∨ x = .slice (some ⟨b, o, some 0⟩) len c)
    (h : inB i len = true) : Good P m H w ((Instr.indexAt t x' i' >>= fun v => pure (Next.value v)).run P w) (.val (ptr b (o + i.toNat * n)) H) := by
  obtain ⟨c', hx', hd⟩ : ∃ c', x' = .slice (some ⟨m.bk b, o, none⟩) len c' ∧ m.dm b := by
    rcases hs with rfl | rfl
    · exact ⟨_, hx.inv_sl⟩
    · exact ⟨_, hx.inv_slr⟩
  subst hx'
  rw [hi.inv_int]
  obtain ⟨h1, h2⟩ := inB_spec h
  refine .here hR (v' := .pointer (some ⟨m.bk b, o + i.toNat * n, none⟩)) ?_ (.ptr _ _ hd)
  simp only [Instr.indexAt, asIntOf, Sem.run_bind, Sem.run_pure, Result.andThen_ok, run_underlying hu]
  rw [if_pos ⟨h1, h2⟩]
  simp only [Sem.run_bind, sizeT_run hn, Result.andThen_ok, Sem.run_pure, add_none]

theorem g_indexA {t e : TypeId} {len n : Nat} {k : IntKind} {i : Int} {b : Bool} {c : Array Value} {x' i' v : Value} (hR : Rel m H w) (hu : P.underlying t = some (.array len e)) (hn : sizeT P e = some n) (hb : isAggT P e = some b) (hx : VR m (.agg c) x') (hi : VR m (.int k i) i')
    (h : inB i len = true) (hv : (bif b then some (.agg (c.extract (i.toNat * n) (i.toNat * n + n))) else c[i.toNat * n]?) = some v) : Good P m H w ((Instr.index t x' i' >>= fun v => pure (Next.value v)).run P w) (.val v H) := by
  obtain ⟨c', rfl, hcr⟩ := hx.inv_agg
  rw [hi.inv_int]
  obtain ⟨h1, h2⟩ := inB_spec h
  obtain ⟨v', g1, g2⟩ := part_rel hcr hv
  refine .here hR (v' := v') ?_ g2
  simp only [Instr.index, asIntOf, Sem.run_bind, Sem.run_pure, Result.andThen_ok, run_underlying hu]
  rw [if_pos ⟨h1, h2⟩]
  simp only [Sem.run_bind, sizeT_run hn, Result.andThen_ok, part_run hb hn g1, Sem.run_pure]

theorem g_indexT {t : TypeId} {k : IntKind} {i : Int} {s : ByteArray} {b : UInt8} {x' i' : Value} (hR : Rel m H w) (hu : P.underlying t = some .string) (hx : VR m (.string s) x') (hi : VR m (.int k i) i')
    (h : inB i s.size = true) (hv : s.data.toList[i.toNat]? = some b) : Good P m H w ((Instr.index t x' i' >>= fun v => pure (Next.value v)).run P w) (.val (.int .u8 b.toNat) H) := by
  rw [hx.inv_str, hi.inv_int]
  obtain ⟨h1, h2⟩ := inB_spec h
  refine .here hR (v' := .int .u8 b.toNat) ?_ (.int _ _)
  have hg : s[i.toNat]? = some b := by
    have hlt : i.toNat < s.size := by omega
    rw [getElem?_pos s i.toNat hlt]
    have hlt2 : i.toNat < s.data.toList.length := by simpa using hlt
    rw [List.getElem?_eq_getElem hlt2] at hv
    cases hv; rfl
  simp only [Instr.index, asIntOf, Sem.run_bind, Sem.run_pure, Result.andThen_ok, run_underlying hu]
  rw [if_pos h1, hg]
  simp

end Go.AX
