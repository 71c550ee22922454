/- The abstract executor 'AX', soundness (10): append, copy, conversions between strings and rows of bytes. -/
import Derived.Test.YthhgeodgfbhkdaaAxJ
set_option linter.unusedVariables false
set_option linter.unusedSimpArgs false
set_option linter.unusedSectionVars false
namespace Go.AX
variable {P : Program} {m : M} {H : AH} {w : World}

/-! ## Worlds with the same heap -/
theorem Rel.same {w' : World} (h : Rel m H w) (e : w'.heap = w.heap) : Rel m H w' := ⟨fun i b hi => by rw [e]; exact h.blk i b hi, h.dm, h.inj, h.lt⟩
theorem Step.same {w' : World} (e : w'.heap = w.heap) (h1 : w'.os = w.os) (h2 : w'.tape = w.tape) (h3 : w'.output = w.output) : Step m m H H w w' :=
  ⟨.refl m, fun _ h => .inl h, Nat.le_refl _, Nat.le_refl _, h1, h2, h3, by rw [e]; exact Nat.le_refl _, fun b _ _ => by rw [e], fun i y hi hy => .inr ⟨i, y, hi, hy, rfl, .inl rfl⟩⟩

/-- a block that is forgotten. -/
theorem Rel.kill (h : Rel m H w) {i : Nat} {b : AB} (hi : H.get i = some b) (hb : b ≠ .dead) : Rel m (H.set i .dead) w ∧ Step m m H (H.set i .dead) w w :=
  h.set hi hb .dead (.dead _) (fun _ _ => rfl) rfl rfl rfl rfl

/-- a block of the world, borne by no number any more, under a number of its own. -/
theorem Rel.adopt (h : Rel m H w) (hd : ¬ m.dm H.nx) (k : Nat) (hk : k < w.heap.size) (hno : ∀ i b, H.get i = some b → b ≠ .dead → m.bk i ≠ k) (b : AB) (s : Nat) (l : Loop)
    (hb : BR (m.add H.nx k s l) H.nx b w.heap[k]?) : Rel (m.add H.nx k s l) (H.push b) w := by
  have hle := m.le_add (b := k) (s := s) (l := l) hd
  refine ⟨?_, ?_, ?_, ?_⟩
  · intro i c hi
    by_cases e : i = H.nx
    · subst e
      rw [AH.get_push_same] at hi
      cases hi
      rw [M.add_bk]
      exact hb
    · rw [AH.get_push_ne _ _ e] at hi
      by_cases hc : c = .dead
      · subst hc; exact .dead _
      · have h1 := h.dm i c hi hc
        rw [hle.bk i h1]
        exact (h.blk i c hi).mono hle fun _ => h1
  · intro i c hi hc
    by_cases e : i = H.nx
    · exact .inr e
    · rw [AH.get_push_ne _ _ e] at hi
      exact .inl (h.dm i c hi hc)
  · intro i j c d hi hj hc hd' e
    by_cases ei : i = H.nx <;> by_cases ej : j = H.nx
    · omega
    · rw [AH.get_push_ne _ _ ej] at hj
      rw [ei, M.add_bk, hle.bk j (h.dm j d hj hd')] at e
      exact absurd e.symm (hno j d hj hd')
    · rw [AH.get_push_ne _ _ ei] at hi
      rw [ej, M.add_bk, hle.bk i (h.dm i c hi hc)] at e
      exact absurd e (hno i c hi hc)
    · rw [AH.get_push_ne _ _ ei] at hi
      rw [AH.get_push_ne _ _ ej] at hj
      rw [hle.bk j (h.dm j d hj hd'), hle.bk i (h.dm i c hi hc)] at e
      exact h.inj i j c d hi hj hc hd' e
  · intro i c hi
    rw [AH.nx_push]
    by_cases e : i = H.nx
    · omega
    · rw [AH.get_push_ne _ _ e] at hi
      have := h.lt i c hi
      omega

/-! ## Sources -/
theorem u8_rel : ∀ {l l' : List Value}, VRL m l l' → ∀ {acc s : ByteArray}, toBytes l acc = some s → ∃ ns : List Int, l' = ns.map (Value.int .u8) ∧ ns.foldl (fun r n => r.push (UInt8.ofNat n.toNat)) acc = s
  | [], _, .nil, acc, s, hb => by simp only [toBytes] at hb; cases hb; exact ⟨[], rfl, rfl⟩
  | v :: l, _, .cons _ v' _ l' hv hl, acc, s, hb => by
    cases v with
    | int k n =>
      cases k <;> simp only [toBytes] at hb <;> try (cases hb)
      obtain ⟨ns, h1, h2⟩ := u8_rel hl hb
      rw [hv.inv_int]
      exact ⟨n :: ns, by rw [h1]; rfl, h2⟩
    | _ => simp [toBytes] at hb

theorem bytesOf_clo (s : ByteArray) : (bytesOf s).all (clo 1) = true := by
  rw [List.all_eq_true]; intro x hx; unfold bytesOf at hx; obtain ⟨b, _, rfl⟩ := List.mem_map.1 hx; rfl

theorem all_take {p : Value → Bool} {l : List Value} (h : l.all p = true) (n : Nat) : (l.take n).all p = true := by
  rw [List.all_eq_true] at h ⊢
  exact fun x hx => h x (List.mem_of_mem_take hx)

theorem first_str (z n : Nat) (s : ByteArray) : (Builtin.firstCells z n (.string s)).run P w = .ok ((bytesOf s).take n).toArray w := by
  simp only [Builtin.firstCells, Sem.run_pure, Result.ok.injEq, and_true]
  apply Array.ext'
  have : (s.extract 0 n).data = s.data.extract 0 n := by simp [ByteArray.data_extract]
  rw [this]
  simp [bytesOf]

/-- what a source gives. -/
def SrcOk (P : Program) (m : M) (w : World) (z : Nat) (x' : Value) (lim : Option Nat) (n : Nat) (l : List Value) : Prop :=
  ∃ N, (∀ w', (Builtin.lenOf x').run P w' = .ok N w') ∧ n = cutN lim N ∧ l.length = n * z ∧
      ∃ l' : List Value, VRL m l l' ∧ ∀ w', w'.heap = w.heap → (Builtin.firstCells z n x').run P w' = .ok l'.toArray w'

theorem cutN_zero (lim : Option Nat) : cutN lim 0 = 0 := by cases lim <;> simp [cutN]
theorem cutN_le (lim : Option Nat) (n : Nat) : cutN lim n ≤ n := by
  cases lim with
  | none => exact Nat.le_refl _
  | some k => exact Nat.min_le_left _ _

theorem loads_same {b o n : Nat} {l : List Value} (hR : Rel m H w) (h : rd H b o n = some l) : ∃ l' : List Value, VRL m l l' ∧ ∀ w', w'.heap = w.heap → (Go.loadCells ⟨m.bk b, o, none⟩ n).run P w' = .ok l'.toArray w' := by
  obtain ⟨l2, g1, g2⟩ := hR.rd h
  have hn : l2.length = n := by rw [g1.length, rd_length h]
  refine ⟨l2, g1, fun w' hw => ?_⟩
  have := run_loadCells_list (P := P) w' ⟨m.bk b, o, none⟩ l2 (fun j v hj => by rw [add_none]; have := g2 j v hj; simpa [World.cell?, hw] using this)
  rwa [hn] at this

theorem srcAt_spec {z b o N c n : Nat} {lim : Option Nat} {l : List Value} (hR : Rel m H w) (h : srcAt H b o z (cutN lim N) = some (n, l)) : SrcOk P m w z (.slice (some ⟨m.bk b, o, none⟩) N c) lim n l := by
  unfold srcAt at h
  split at h
  · rename_i l0 hl
    cases h
    obtain ⟨l', h1, h2⟩ := loads_same (P := P) hR hl
    exact ⟨N, fun w' => by simp [Builtin.lenOf], rfl, rd_length hl, l', h1, h2⟩
  · cases h

theorem aSource_spec {z : Nat} {x x' : Value} {lim : Option Nat} {n : Nat} {l : List Value} (hx : VR m x x') (hR : Rel m H w) (h : aSource H z x lim = some (n, l)) : SrcOk P m w z x' lim n l := by
  have Z : ∀ (a : Option Addr) (c : Nat) (w' : World), (Builtin.firstCells z 0 (.slice a 0 c)).run P w' = .ok (#[] : Array Value) w' := by
    intro a c w'
    cases a with
    | none => simp [Builtin.firstCells]
    | some a => simp [Builtin.firstCells, loadCells, loadCellsFrom]
  unfold aSource at h
  split at h
  · cases h
    rw [hx.inv_sl0]
    exact ⟨0, fun w' => by simp [Builtin.lenOf], (cutN_zero _).symm, by simp, [], .nil, fun w' _ => Z _ _ w'⟩
  · obtain ⟨rfl, _⟩ := hx.inv_sl
    exact srcAt_spec hR h
  · obtain ⟨rfl, _⟩ := hx.inv_slr
    exact srcAt_spec hR h
  · cases h
    cases hx
    exact ⟨0, fun w' => by simp [Builtin.lenOf], (cutN_zero _).symm, by simp, [], .nil, fun w' _ => Z _ _ w'⟩
  · rename_i s
    cases hb : Nat.beq z 1 <;> rw [hb] at h
    · cases h
    · cases h
      have := Nat.eq_of_beq_eq_true hb
      subst this
      rw [hx.inv_str]
      refine ⟨s.size, fun w' => by simp [Builtin.lenOf], rfl, ?_, _, VRL.of_clo m 1 _ (all_take (bytesOf_clo s) _), fun w' _ => first_str _ _ s⟩
      have hsz : s.data.size = s.size := rfl
      rw [List.length_take, bytesOf, List.length_map, Array.length_toList, hsz, Nat.mul_one]
      exact Nat.min_eq_left (cutN_le _ _)
  · cases h

/-! ## append -/
section
variable {ts : Array TypeId} {t u ty e : TypeId} {d : TypeDesc} {i : TypeInfo} {z s' x' : Value} {n : Nat}

theorem run_append_fit0 (h0 : ts[0]? = some t) (h1 : ts[1]? = some u) (hu : P.underlying t = some (.slice e)) (hd : P.underlying u = some d) (hni : ∀ k, d ≠ .int k) (hi : P.info? e = some i)
    (hlen : ∀ w', (Builtin.lenOf x').run P w' = .ok 0 w') (hf : (Builtin.firstCells i.size 0 x').run P w = .ok #[] w) (b : Option Addr) (l c : Nat) (hlc : l ≤ c) :
    (Builtin.append_ ts ty #[.slice b l c, x']).run P w = .ok (.slice b l c) w := by
  cases b with
  | none => simp [Builtin.append_, h0, h1, run_underlying hu, run_underlying hd, sizeOf, typeInfo, hi, hlen, hlc, hf]
  | some a => simp [Builtin.append_, h0, h1, run_underlying hu, run_underlying hd, sizeOf, typeInfo, hi, hlen, hlc, hf, storeCells]

theorem run_append_fit (h0 : ts[0]? = some t) (h1 : ts[1]? = some u) (hu : P.underlying t = some (.slice e)) (hd : P.underlying u = some d) (hni : ∀ k, d ≠ .int k) (hi : P.info? e = some i)
    (hlen : ∀ w', (Builtin.lenOf x').run P w' = .ok n w') {new : List Value} (hf : (Builtin.firstCells i.size n x').run P w = .ok new.toArray w) (a : Addr) (l c : Nat) (hlc : l + n ≤ c) {w' : World}
    (hs : (storeCells (a.add (l * i.size)) new).run P w = .ok () w') :
    (Builtin.append_ ts ty #[.slice (some a) l c, x']).run P w = .ok (.slice (some a) (l + n) c) w' := by
  simp [Builtin.append_, h0, h1, run_underlying hu, run_underlying hd, sizeOf, typeInfo, hi, hlen, hlc, hf, hs]

theorem run_append_new (h0 : ts[0]? = some t) (h1 : ts[1]? = some u) (hu : P.underlying t = some (.slice e)) (hd : P.underlying u = some d) (hni : ∀ k, d ≠ .int k) (hi : P.info? e = some i) (hz0 : i.zero = some z)
    (hlen : ∀ w', (Builtin.lenOf x').run P w' = .ok n w') {old new : List Value} (hf : ∀ w', w'.heap = w.heap → (Builtin.firstCells i.size n x').run P w' = .ok new.toArray w') (b : Option Addr) (l c : Nat)
    (ho : ∀ w', w'.heap = w.heap → (Builtin.firstCells i.size l (.slice b l c)).run P w' = .ok old.toArray w') (hlc : c < l + n) (hroom : room (l + n) i.bytes = true) :
    ∃ g, l + n ≤ g ∧ (Builtin.append_ ts ty #[.slice b l c, x']).run P w = .ok (.slice (some ⟨w.heap.size, 0, none⟩) (l + n) g) (w.drew.alloc (.cells ((old ++ new).toArray ++ Builtin.zeroCells z.cells (g - (l + n))) e)) := by
  unfold room at hroom
  simp only [Bool.and_eq_true] at hroom
  have r1 := Nat.le_of_ble_eq_true hroom.1
  have r2 := Nat.le_of_ble_eq_true hroom.2
  have hn : ¬ (l + n ≤ c) := by omega
  have h63 : ¬ (9223372036854775807 < ((l : Int) + (n : Int))) := by omega
  have h48 : ¬ (281474976710656 < Builtin.nextslicecap (l + n) c * i.bytes) := by have := growslice_fits (bytes := i.bytes) hlc (by omega); omega
  refine ⟨grownCap w (l + n) c e, by simp [grownCap, Question.cut], ?_⟩
  simp [Builtin.append_, h0, h1, run_underlying hu, run_underlying hd, sizeOf, typeInfo, zeroValue, hi, hz0, hlen, hn, h63, h48, Question.forced, hf w.drew rfl, ho w.drew rfl, newRow, grownCap]
  congr 2
  apply Array.ext'
  simp [List.append_assoc]
end

theorem zeroCells_len (z : Value) (k : Nat) : (Builtin.zeroCells z.cells k).toList.length = k * z.cells.toList.length := by simp [Builtin.zeroCells]

/-- a row that grew. -/
theorem Rel.grown (hR : Rel m H w) (hd : ¬ m.dm H.nx) (cs : List Value) (cs' : List Value) (rest : Array Value) (t : TypeId) (hv : VRL m cs cs') (z sp : Nat) (hr : rest.toList.length = sp * z) {r : Result Next} {l : Nat}
    (hrun : r = .ok (.value (.slice (some ⟨w.heap.size, 0, none⟩) l (l + sp))) (w.drew.alloc (.cells (cs'.toArray ++ rest) t))) :
    Good P m H w r (.val (slr H.nx 0 l l) (H.push (.cells cs 1 z))) := by
  have hle := m.le_add (b := w.heap.size) (s := sp) (l := default) hd
  have hl := hv.length
  have hR1 := hR.same (w' := w.drew) rfl
  have hS1 : Step m m H H w w.drew := .same rfl rfl rfl rfl
  obtain ⟨h1, h2⟩ := hR1.push hd (.cells cs 1 z) (.cells (cs'.toArray ++ rest) t) sp default
    (.cells cs 1 z _ t 0 0 (fun e => absurd rfl e) (fun _ => by
      rw [show w.drew.heap.size = w.heap.size from rfl, M.add_sp]
      have : (cs'.toArray ++ rest).size = cs'.length + rest.toList.length := by simp
      rw [this, hl, hr]) (by
      have : (cs'.toArray ++ rest).toList.take cs.length = cs' := by simp [← hl]
      rw [this]; exact hv.mono hle) (.inr (.inl (Nat.le_refl _))))
  refine .val _ _ _ _ _ (.inl hrun) ?_ h1 (hS1.trans h2)
  have := VR.slr (m := m.add H.nx w.heap.size sp default) H.nx 0 l l (M.add_dm _ _ _ _ _)
  rw [M.add_bk, M.add_sp] at this
  exact this

theorem zeroT_info {t : TypeId} {z : Value} {i : TypeInfo} (hz : zeroT P t = some z) (hi : P.info? t = some i) : i.zero = some z ∧ z.cells.toList.length = i.size := by
  unfold zeroT at hz
  rw [hi] at hz
  simp only at hz
  split at hz
  · rename_i z' hz'
    cases hc : (clo 4 z' && Nat.beq z'.cells.toList.length i.size && z'.cells.toList.all flat) <;> rw [hc] at hz
    · cases hz
    · cases hz
      simp only [Bool.and_eq_true] at hc
      exact ⟨hz', Nat.eq_of_beq_eq_true hc.1.2⟩
  · cases hz

theorem VR.inv_sle {b o : Nat} {v : Value} {l c : Nat} (h : VR m (.slice (some ⟨b, o, some 1⟩) l c) v) : ∃ a c', v = .slice (some a) 0 c' := by cases h with | sle _ _ a c => exact ⟨a, c, rfl⟩

theorem Good.after {H1 H' : AH} {v : Value} {r : Result Next} (hS : Step m m H H1 w w) (h : Good P m H1 w r (.val v H')) : Good P m H w r (.val v H') := by
  cases h with
  | val _ _ m' w' v' h hv hr hs => exact .val v H' m' w' v' h hv hr (hS.trans hs)

/-- a row that had grown and grows within its room. -/
theorem Rel.within (hR : Rel m H w) (hd : ¬ m.dm H.nx) {b c l n z : Nat} {cs new new' : List Value} (hg : H.get b = some (.cells cs 1 z)) (hl : l ≤ c) (hcs : cs.length = c * z) (hnew : new.length = n * z) (hfl : new.all flat = true)
    (hv : VRL m new new') (hfit : l + n ≤ c + m.sp b) :
    ∃ w', (Go.storeCells ⟨m.bk b, l * z, none⟩ new').run P w = .ok () w' ∧ ∀ r : Result Next, r = .ok (.value (.slice (some ⟨m.bk b, 0, none⟩) (l + n) (c + m.sp b))) w' →
      Good P m H w r (.val (slr H.nx 0 (l + n) (l + n)) ((H.set b .dead).push (.cells (cs.take (l * z) ++ new) 1 z))) := by
  have hblk := hR.blk b _ hg
  have hbl := hR.bk_lt hg (by simp)
  have hdb := hR.dm b _ hg (by simp)
  generalize hw : w.heap[m.bk b]? = ob at hblk
  cases hblk with
  | cells _ _ _ c0 t f1 f2 h0 h1 hvc hfz =>
    have hvl := hv.length
    have hsz : c0.size = (c + m.sp b) * z := by rw [h1 rfl, hcs, Nat.add_mul]
    have hm1 : l * z + n * z = (l + n) * z := (Nat.add_mul _ _ _).symm
    have hm2 : (l + n) * z ≤ (c + m.sp b) * z := Nat.mul_le_mul_right _ hfit
    have hm3 : l * z ≤ c * z := Nat.mul_le_mul_right _ hl
    obtain ⟨c', g1, g2, g3, g4, g5, g6, g7⟩ := setCells_facts (m.bk b) new' (l * z) w c0 t (f1, f2) hw (by omega)
    have hfl' : ∀ v ∈ new', flat v = true := by
      intro v hvm
      obtain ⟨j, hj⟩ := List.mem_iff_getElem?.1 hvm
      have hj' : j < new.length := by have := (List.getElem?_eq_some_iff.1 hj).1; omega
      obtain ⟨v', e1, e2⟩ := hv.get j (List.getElem?_eq_getElem hj')
      rw [hj] at e1; cases e1
      rw [e2.flat]; exact List.all_eq_true.1 hfl _ (List.getElem_mem hj')
    have hrun := run_storeCells_cells (P := P) (m.bk b) (l * z) new' 0 w (fun j hj => by simp [World.cell?, hw]; omega)
      (fun j hj => by
        simp only [World.frozen?, hw]
        rcases hfz with e | e | e
        · exact absurd e (by simp)
        · simp; omega
        · simp; omega)
      (fun v hv => oneCell_of_flat (hfl' v hv))
    rw [Nat.add_zero] at hrun
    refine ⟨_, hrun, fun r hr => ?_⟩
    have hc' : c'.size = c0.size := by rw [← Array.length_toList, g2, splice_length (by simp; omega)]; simp
    obtain ⟨hR1, hS1⟩ := hR.set hg (by simp) .dead (.dead _) g3 g4 g5 g6 g7
    have hR2 := hR1.adopt (H := H.set b .dead) (by rw [AH.nx_set]; exact hd) (m.bk b) (by rw [g4]; exact hbl) (by
      intro i x hi hx e
      by_cases e' : i = b
      · subst e'; rw [AH.get_set_same] at hi; cases hi; exact hx rfl
      · rw [AH.get_set_ne _ _ _ e'] at hi
        exact e' (hR.inj i b x _ hi hg hx (by simp) e)) (.cells (cs.take (l * z) ++ new) 1 z) (c + m.sp b - (l + n)) default (by
      rw [g1]
      refine .cells _ _ _ c' t f1 f2 (fun e => absurd rfl e) (fun _ => ?_) ?_ (by rw [hc']; exact hfz)
      · rw [M.add_sp, hc', hsz, List.length_append, List.length_take, hcs, Nat.min_eq_left hm3, hnew, hm1, ← Nat.add_mul]
        congr 1; omega
      · have e1 : (cs.take (l * z) ++ new).length = (l + n) * z := by rw [List.length_append, List.length_take, hcs, Nat.min_eq_left hm3, hnew, hm1]
        have e2 : c'.toList.take ((l + n) * z) = (c0.toList.take cs.length).take (l * z) ++ new' := by
          rw [g2, hcs, List.take_take, Nat.min_eq_left hm3]
          unfold splice
          have a1 : (List.take (l * z) c0.toList).length = l * z := by simp; omega
          rw [← List.append_assoc, List.take_append_of_le_length (by simp; omega), List.take_of_length_le (by simp; omega)]
        rw [e1, e2]
        exact ((hvc.take (l * z)).append hv).mono (m.le_add hd))
    refine .val _ _ _ _ _ (.inl hr) ?_ hR2 ⟨m.le_add hd, ?_, ?_, ?_, g5, g6, g7, by rw [g4]; exact Nat.le_refl _, ?_, ?_⟩
    · have := VR.slr (m := m.add (H.set b .dead).nx (m.bk b) (c + m.sp b - (l + n)) default) H.nx 0 (l + n) (l + n) (M.add_dm m H.nx _ _ _)
      rw [AH.nx_set, M.add_bk, M.add_sp] at this
      rw [show l + n + (c + m.sp b - (l + n)) = c + m.sp b by omega] at this
      exact this
    · intro i hi
      rcases hi with hi | hi
      · exact .inl hi
      · rw [AH.nx_set] at hi; exact .inr ⟨by omega, by rw [AH.nx_push, AH.nx_set]; omega⟩
    · exact Nat.min_le_left _ _
    · rw [AH.nx_push, AH.nx_set]; omega
    · exact hS1.blk
    · intro i y hi hy
      by_cases e : i = H.nx
      · subst e
        exact .inr ⟨b, _, hg, by simp, by rw [AH.nx_set, M.add_bk], .inr (Nat.min_le_right _ _)⟩
      · rw [AH.get_push_ne _ _ (by rw [AH.nx_set]; exact e)] at hi
        by_cases e' : i = b
        · subst e'; rw [AH.get_set_same] at hi; cases hi; exact absurd rfl hy
        · rw [AH.get_set_ne _ _ _ e'] at hi
          exact .inr ⟨i, y, hi, hy, (m.le_add hd).bk i (hR.dm i y hi hy), .inl rfl⟩

section
variable {ts : Array TypeId} {t u ty e : TypeId} {d : TypeDesc} {i : TypeInfo} {z s s' x x' : Value} {nx : ANext}

theorem g_append (hR : Rel m H w) (h0 : ts[0]? = some t) (h1 : ts[1]? = some u) (hu : P.underlying t = some (.slice e)) (hd : P.underlying u = some d) (hni : ∀ k, d ≠ .int k) (hi : P.info? e = some i) (hz : zeroT P e = some z)
    (hs : VR m s s') (hx : VR m x x') (h : aAppend i.size i.bytes s x H = some nx) (hF : Fresh m H nx.heap) :
    Good P m H w ((Builtin.append_ ts ty #[s', x'] >>= fun v => pure (Next.value v)).run P w) nx := by
  obtain ⟨hz0, hzl⟩ := zeroT_info hz hi
  unfold aAppend at h
  split at h
  · cases h
  · rename_i l0 hsrc
    obtain ⟨N, hlen, hn, hll, l', hvl, hf⟩ := aSource_spec (P := P) hx hR hsrc
    have hN : N = 0 := hn.symm
    subst hN
    have hl' : l' = [] := by
      have := hvl.length; rw [hll] at this; exact List.length_eq_zero_iff.1 (by simpa using this)
    subst hl'
    have K : ∀ b l c, s' = .slice b l c → l ≤ c → Good P m H w ((Builtin.append_ ts ty #[s', x'] >>= fun v => pure (Next.value v)).run P w) (.val s H) := by
      intro b l c e' hlc
      subst e'
      exact .here hR (v' := .slice b l c) (by rw [Sem.run_bind, run_append_fit0 h0 h1 hu hd hni hi hlen (hf w rfl) b l c hlc]; rfl) hs
    split at h
    · cases h; exact K _ _ _ hs.inv_sl0 (Nat.le_refl _)
    · cases h
      obtain ⟨a, c', e'⟩ := hs.inv_sle
      exact K _ _ _ e' (Nat.zero_le _)
    · rename_i b o l c
      cases hb : Nat.ble l c <;> rw [hb] at h
      · cases h
      · cases h; exact K _ _ _ hs.inv_sl.1 (Nat.le_of_ble_eq_true hb)
    · rename_i b o l c
      cases hb : Nat.ble l c <;> rw [hb] at h
      · cases h
      · cases h; exact K _ _ _ hs.inv_slr.1 (Nat.le_trans (Nat.le_of_ble_eq_true hb) (Nat.le_add_right _ _))
    · cases h
  · rename_i n new hn0 hsrc
    obtain ⟨N, hlen, hn, hll, l', hvl, hf⟩ := aSource_spec (P := P) hx hR hsrc
    have hN : n = N := hn
    subst hN
    have hpos : 0 < n := Nat.pos_of_ne_zero hn0
    split at h
    · cases hb : (room n i.bytes && new.all flat) <;> rw [hb] at h
      · cases h
      · cases h
        simp only [Bool.and_eq_true] at hb
        rw [hs.inv_sl0]
        obtain ⟨g, hg, hrun⟩ := run_append_new (ty := ty) h0 h1 hu hd hni hi hz0 hlen (old := []) hf none 0 0 (fun w' _ => by simp [Builtin.firstCells]) (by omega) (by rw [Nat.zero_add]; exact hb.1)
        refine Rel.grown hR (fresh_nx hF) new l' (Builtin.zeroCells z.cells (g - n)) e hvl i.size (g - n) (by rw [zeroCells_len, hzl]) ?_
        rw [Sem.run_bind, hrun]
        simp only [Nat.zero_add, List.nil_append, Result.andThen_ok, Sem.run_pure]
        rw [show n + (g - n) = g by omega]
    · rename_i b o l c
      cases hb : Nat.ble (l + n) c <;> rw [hb] at h
      · simp only [cond_false] at h
        split at h
        · rename_i old hold
          cases hc : (room (l + n) i.bytes && new.all flat) <;> rw [hc] at h
          · cases h
          · cases h
            simp only [Bool.and_eq_true] at hc
            have hcl : c < l + n := Nat.lt_of_not_le fun hle => by rw [Nat.ble_eq_true_of_le hle] at hb; cases hb
            obtain ⟨rfl, hdm⟩ := hs.inv_sl
            obtain ⟨old', q1, q2⟩ := loads_same (P := P) hR hold
            obtain ⟨g, hg, hrun⟩ := run_append_new (ty := ty) h0 h1 hu hd hni hi hz0 hlen (old := old') hf (some ⟨m.bk b, o, none⟩) l c (fun w' hw => by simpa [Builtin.firstCells] using q2 w' hw) hcl hc.1
            refine Rel.grown hR (fresh_nx hF) (old ++ new) (old' ++ l') (Builtin.zeroCells z.cells (g - (l + n))) e (q1.append hvl) i.size (g - (l + n)) (by rw [zeroCells_len, hzl]) ?_
            rw [Sem.run_bind, hrun]
            simp only [Result.andThen_ok, Sem.run_pure]
            rw [show l + n + (g - (l + n)) = g by omega]
        · cases h
      · simp only [cond_true] at h
        split at h
        · rename_i H' hw
          cases h
          obtain ⟨rfl, hdm⟩ := hs.inv_sl
          obtain ⟨w', k1, k2, k3⟩ := hR.wr (P := P) hvl hw
          refine .val _ _ m w' (.slice (some ⟨m.bk b, o, none⟩) (l + n) c) (.inl ?_) (.sl _ _ _ _ hdm) k2 k3
          rw [Sem.run_bind, run_append_fit h0 h1 hu hd hni hi hlen (hf w rfl) _ l c (Nat.le_of_ble_eq_true hb) (w' := w') (by rw [add_none]; exact k1)]
          rfl
        · cases h
    · rename_i b l c
      split at h
      · rename_i cs zz hg
        cases hb : (Nat.beq zz i.size && Nat.ble l c && Nat.beq cs.length (c * i.size) && room (l + n) i.bytes && new.all flat) <;> rw [hb] at h
        · cases h
        · cases h
          simp only [Bool.and_eq_true] at hb
          have b1 := Nat.eq_of_beq_eq_true hb.1.1.1.1
          have b2 := Nat.le_of_ble_eq_true hb.1.1.1.2
          have b3 := Nat.eq_of_beq_eq_true hb.1.1.2
          subst b1
          obtain ⟨rfl, hdm⟩ := hs.inv_slr
          have hfr : ¬ m.dm H.nx := hF H.nx (Nat.le_refl _) (Nat.lt_succ_self _)
          by_cases hfit : l + n ≤ c + m.sp b
          · obtain ⟨w', k1, k2⟩ := hR.within (P := P) hfr hg b2 b3 hll hb.2 hvl hfit
            refine k2 _ ?_
            rw [Sem.run_bind, run_append_fit h0 h1 hu hd hni hi hlen (hf w rfl) _ l _ hfit (w' := w') (by rw [add_none, Nat.zero_add]; exact k1)]
            rfl
          · have hm3 : l * i.size ≤ c * i.size := Nat.mul_le_mul_right _ b2
            have hrd : rd H b 0 (l * i.size) = some (cs.take (l * i.size)) := by
              simp only [rd, hg, Nat.zero_add, Nat.ble_eq_true_of_le (show l * i.size ≤ cs.length by omega), cond_true, List.drop_zero]
            obtain ⟨old', q1, q2⟩ := loads_same (P := P) hR hrd
            obtain ⟨g, hg', hrun⟩ := run_append_new (ty := ty) h0 h1 hu hd hni hi hz0 hlen (old := old') hf (some ⟨m.bk b, 0, none⟩) l (c + m.sp b) (fun w' hw => by simpa [Builtin.firstCells] using q2 w' hw) (by omega) hb.1.2
            obtain ⟨hR1, hS1⟩ := hR.kill hg (by simp)
            refine Good.after hS1 (Rel.grown hR1 hfr (cs.take (l * i.size) ++ new) (old' ++ l') (Builtin.zeroCells z.cells (g - (l + n))) e (q1.append hvl) i.size (g - (l + n)) (by rw [zeroCells_len, hzl]) ?_)
            rw [Sem.run_bind, hrun]
            simp only [Result.andThen_ok, Sem.run_pure]
            rw [show l + n + (g - (l + n)) = g by omega]
      · cases h
    · cases h

/-! ## copy, conversions -/
theorem world_freeze_new (w : World) (c : Array Value) (e : TypeId) (g : Nat) : (w.alloc (.cells c e)).freeze ⟨w.heap.size, g, none⟩ 1 = w.alloc (.cells c e (g, g + 1)) := by
  simp only [World.freeze, World.alloc]
  rw [if_neg (by decide)]
  congr 1
  apply Array.ext'
  rw [Array.toList_modify]
  simp only [Array.toList_push]
  rw [show w.heap.size = w.heap.toList.length from (Array.length_toList ..).symm]
  have G : ∀ (l : List Obj) (f : Obj → Obj) (x : Obj), (l ++ [x]).modify l.length f = l ++ [f x] := by
    intro l f x
    induction l with
    | nil => rfl
    | cons a l ih => simp only [List.cons_append, List.length_cons, List.modify_succ_cons, ih]
  rw [G]; simp

theorem g_copy {n : Nat} (hR : Rel m H w) (h0 : ts[0]? = some t) (hu : P.underlying t = some (.slice e)) (hn : sizeT P e = some n) (hs : VR m s s') (hx : VR m x x') (h : aCopy n s x H = some nx) :
    Good P m H w ((Builtin.copy_ ts ty #[s', x'] >>= fun v => pure (Next.value v)).run P w) nx := by
  have K : ∀ b o l c, s' = .slice (some ⟨m.bk b, o, none⟩) l c → (match aSource H n x (some l) with
    | some (n, new) => match wr H b o new with
      | some H' => some (ANext.val (.int .i64 n) H')
      | none => none
    | none => none) = some nx → Good P m H w ((Builtin.copy_ ts ty #[s', x'] >>= fun v => pure (Next.value v)).run P w) nx := by
    intro b o l c e' h
    subst e'
    split at h
    · rename_i k new hsrc
      split at h
      · rename_i H' hw
        cases h
        obtain ⟨N, hlen, hk, hll, l', hvl, hf⟩ := aSource_spec (P := P) hx hR hsrc
        obtain ⟨w', k1, k2, k3⟩ := hR.wr (P := P) hvl hw
        refine .val _ _ m w' (goInt k) (.inl ?_) (.int _ _) k2 k3
        have hk' : Nat.min N l = k := hk.symm
        simp only [Builtin.copy_, h0, Sem.run_bind, run_underlying hu, Result.andThen_ok, List.getElem?_toArray, List.getElem?_cons_zero, List.getElem?_cons_succ, hlen, hk', sizeT_run hn, hf w rfl, k1, Sem.run_pure]
      · cases h
    · cases h
  unfold aCopy at h
  split at h
  · split at h
    · rename_i r hsrc
      cases h
      obtain ⟨k, new⟩ := r
      obtain ⟨N, hlen, hk, hll, l', hvl, hf⟩ := aSource_spec (P := P) hx hR hsrc
      have hk0 : k = 0 := by rw [hk]; exact Nat.min_zero _
      subst hk0
      have hk' : Nat.min N 0 = 0 := Nat.min_zero _
      rw [hs.inv_sl0]
      refine .here hR (v' := goInt 0) ?_ (.int _ _)
      simp only [Builtin.copy_, h0, Sem.run_bind, run_underlying hu, Result.andThen_ok, List.getElem?_toArray, List.getElem?_cons_zero, List.getElem?_cons_succ, hlen, hk', sizeT_run hn, hf w rfl, Sem.run_pure]
      rfl
    · cases h
  · exact K _ _ _ _ hs.inv_sl.1 h
  · exact K _ _ _ _ hs.inv_slr.1 h
  · cases h

theorem isBytes_spec {e : TypeId} (h : isBytes P e = true) : P.underlying e = some (.int .u8) := by
  unfold isBytes at h
  split at h
  · assumption
  · cases h

theorem g_cvtString (hR : Rel m H w) (hs : P.underlying t = some (.slice e)) (hd : P.underlying u = some .string) (hb : isBytes P e = true) (hx : VR m x x') {v : Value} (h : aCvtString x H = some v) :
    Good P m H w ((convert t u x' >>= fun v => pure (Next.value v)).run P w) (.val v H) := by
  have hby := isBytes_spec hb
  have C : ∀ a l c, (convert t u (.slice a l c)).run P w = (Conv.bytesToString (.slice a l c)).run P w := fun a l c => run_convert_bytes_string w t u e a l c hs hby hd
  have K : ∀ b o n c, x' = .slice (some ⟨m.bk b, o, none⟩) n c → (match rd H b o n with
    | some l => match toBytes l .empty with | some s => some (Value.string s) | none => none
    | none => none) = some v → Good P m H w ((convert t u x' >>= fun v => pure (Next.value v)).run P w) (.val v H) := by
    intro b o n c e' h
    subst e'
    split at h
    · rename_i l hl
      split at h
      · rename_i s hs'
        cases h
        obtain ⟨l', h1, h2⟩ := hR.loadCells (P := P) hl
        obtain ⟨ns, h3, h4⟩ := u8_rel h1 hs'
        refine .here hR (v' := .string s) ?_ (.str _)
        rw [Sem.run_bind, C, run_bytesToString w _ n c ns (by rw [h2, h3]), h4]; rfl
      · cases h
    · cases h
  unfold aCvtString at h
  split at h
  · exact K _ _ _ _ hx.inv_sl.1 h
  · exact K _ _ _ _ hx.inv_slr.1 h
  · cases h
    obtain ⟨a, c, rfl⟩ := hx.inv_sle
    refine .here hR (v' := .string .empty) ?_ (.str _)
    rw [Sem.run_bind, C, run_bytesToString w a 0 c [] (by simp [loadCells, loadCellsFrom])]; rfl
  · cases h
    rw [hx.inv_sl0]
    refine .here hR (v' := .string .empty) ?_ (.str _)
    rw [Sem.run_bind, C]; simp [Conv.bytesToString]
  · cases h

theorem g_cvtBytes {str : ByteArray} (hR : Rel m H w) (hs : P.underlying t = some .string) (hd : P.underlying u = some (.slice e)) (hb : isBytes P e = true) (hx : VR m (.string str) x')
    (h : (bif Nat.ble str.size 1073741824 then some (ANext.val (slr H.nx 0 str.size str.size) (H.push (.cells (bytesOf str) 1 1))) else none) = some nx) (hF : Fresh m H nx.heap) :
    Good P m H w ((convert t u x' >>= fun v => pure (Next.value v)).run P w) nx := by
  have hby := isBytes_spec hb
  rw [hx.inv_str]
  cases hbb : Nat.ble str.size 1073741824 <;> rw [hbb] at h
  · cases h
  · cases h
    have hd' : ¬ m.dm H.nx := fresh_nx hF
    let q : Question := .appendCap str.size 0 e
    let g := q.cut (w.tape w.drawn q)
    have hg : str.size ≤ g := by simp [g, q, Question.cut]
    have hsd : str.data.size = str.size := rfl
    let row : Array Value := (str.data.map fun b => Value.int .u8 b.toNat) ++ Array.replicate (g - str.size) (.int .u8 0)
    have hrow : row.size = g := by simp [row, hsd]; omega
    have hle := m.le_add (b := w.heap.size) (s := g - str.size) (l := default) hd'
    have hbl : (bytesOf str).length = str.size := by simp [bytesOf, hsd]
    have hvb : VRL m (bytesOf str) (bytesOf str) := VRL.of_clo m 1 _ (bytesOf_clo str)
    obtain ⟨h1, h2⟩ := (hR.same (w' := w.drew) rfl).push hd' (.cells (bytesOf str) 1 1) (.cells row e (g, g + 1)) (g - str.size) default
      (.cells _ 1 1 row e g (g + 1) (fun e => absurd rfl e) (fun _ => by rw [show w.drew.heap.size = w.heap.size from rfl, M.add_sp, hrow, hbl]; omega) (by
        have : row.toList.take (bytesOf str).length = bytesOf str := by
          rw [hbl]; simp only [row, Array.toList_append, Array.toList_map]
          rw [List.take_append_of_le_length (by simp [hsd]), List.take_of_length_le (by simp [hsd])]; rfl
        rw [this]; exact hvb.mono hle) (.inr (.inr (by rw [hrow]; exact Nat.le_refl _))))
    refine .val _ _ _ _ (.slice (some ⟨w.heap.size, 0, none⟩) str.size g) (.inl ?_) ?_ h1 ((Step.same (w := w) (w' := w.drew) rfl rfl rfl rfl).trans h2)
    · rw [Sem.run_bind, show (convert t u (.string str)).run P w = (Conv.stringToBytes e str).run P w by simp [convert, run_underlying hs, run_underlying hd, run_underlying hby]]
      have h3 : (Conv.stringToBytes e str).run P w = .ok (.slice (some ⟨w.heap.size, 0, none⟩) str.size g) ((w.drew.alloc (.cells row e)).freeze ⟨w.heap.size, row.size, none⟩ 1) := by
        have hq : q.forced = false := rfl
        simp only [Conv.stringToBytes, Sem.run_bind, run_choose_drew, newRow, markStringish, run_newObj_alloc, Result.andThen_ok, Sem.run_pure, run_shape, hq]
        simp only [show Question.forced (.appendCap str.size 0 e) = false from rfl, if_false, Bool.false_eq_true, Result.andThen_ok, Sem.run_pure]
        have hsh : (w.drew.alloc (.cells row e)).shape? w.heap.size = some (e, row.size) := by
          simp only [World.shape?]; rw [show w.heap.size = w.drew.heap.size from rfl, heap_alloc_new]
        have hsh' : (w.drew.alloc (.cells ((str.data.map fun b => Value.int .u8 b.toNat) ++ Array.replicate (Question.cut (.appendCap str.size 0 e) (w.tape w.drawn (.appendCap str.size 0 e)) - str.size) (.int .u8 0)) e)).shape? w.drew.heap.size = some (e, row.size) := hsh
        rw [hsh']
        simp only [run_freeze, Result.andThen_ok, Sem.run_pure]
        rfl
      have h4 := world_freeze_new w.drew row e row.size
      rw [show w.drew.heap.size = w.heap.size from rfl] at h4
      rw [h3, h4, hrow]; rfl
    · have := VR.slr (m := m.add H.nx w.heap.size (g - str.size) default) H.nx 0 str.size str.size (M.add_dm _ _ _ _ _)
      rw [M.add_bk, M.add_sp, show str.size + (g - str.size) = g by omega] at this
      exact this
end

end Go.AX
