/- The abstract executor 'AX', soundness (17): a part of the heap is worked upon, the rest stays; blocks laid ahead. -/
import Derived.Test.YthhgeodgfbhkdaaAxT
set_option linter.unusedVariables false
set_option linter.unusedSimpArgs false
set_option linter.unusedSectionVars false
namespace Go.AX
variable {P : Program} {X : XT}

theorem frame_rule {m m' : M} {V Hi H2 V2 : AH} {w w' : World} (hV : Rel m V w) (hsub : ∀ i b, Hi.get i = some b → b ≠ .dead → V.get i = some b) (hlo : Hi.lo = V.lo) (hnx : Hi.nx = V.nx)
    (s : Step m m' Hi H2 w w') (r2 : Rel m' H2 w') (d2 : Dom m' H2) (h2 : ∀ i b, V2.get i = some b → b ≠ .dead → H2.get i = some b ∨ (V.get i = some b ∧ ∀ c, Hi.get i = some c → c = .dead))
    (hnx2 : V2.nx = H2.nx) (hlo2 : V2.lo = H2.lo) (hlt : ∀ i b, V2.get i = some b → i < V2.nx) : Rel m' V2 w' ∧ Dom m' V2 ∧ Step m m' V V2 w w' := by
  have K : ∀ i b, V.get i = some b → b ≠ .dead → (∀ c, Hi.get i = some c → c = .dead) → m'.bk i = m.bk i ∧ w'.heap[m.bk i]? = w.heap[m.bk i]? := by
    intro i b hi hb hd
    refine ⟨s.le.bk i (hV.dm i b hi hb), s.blk _ (hV.bk_lt hi hb) fun j y hj hy _ e => ?_⟩
    have hj' := hsub j y hj hy
    have := hV.inj j i y b hj' hi hy hb e
    subst this
    exact hy (hd y hj)
  refine ⟨⟨?_, ?_, ?_, hlt⟩, fun i hi => by rw [hnx2]; exact d2 i hi, ⟨s.le, fun i hi => by rw [← hnx, hnx2]; exact s.dm i hi, by rw [hlo2, ← hlo]; exact s.lo, by rw [hnx2, ← hnx]; exact s.nx, s.os, s.tape, s.output, s.size, ?_, ?_⟩⟩
  · intro i b hi
    by_cases hb : b = .dead
    · subst hb; exact .dead _
    · rcases h2 i b hi hb with h | ⟨h, hd⟩
      · exact r2.blk i b h
      · obtain ⟨k1, k2⟩ := K i b h hb hd
        rw [k1, k2]
        exact (hV.blk i b h).mono s.le fun _ => hV.dm i b h hb
  · intro i b hi hb
    rcases h2 i b hi hb with h | ⟨h, hd⟩
    · exact r2.dm i b h hb
    · exact s.le.dm i (hV.dm i b h hb)
  · have MIX : ∀ i j b c, H2.get i = some b → b ≠ .dead → V.get j = some c → c ≠ .dead → (∀ x, Hi.get j = some x → x = .dead) → m'.bk i = m'.bk j → False := by
      intro i j b c hi hb hj hc hd e
      obtain ⟨k1, k2⟩ := K j c hj hc hd
      rw [k1] at e
      rcases s.org i b hi hb with h | ⟨k, z, q1, q2, q3, q4⟩
      · have := hV.bk_lt hj hc; omega
      · have := hV.inj k j z c (hsub k z q1 q2) hj q2 hc (by rw [← q3, e])
        subst this
        exact q2 (hd z q1)
    intro i j b c hi hj hb hc e
    rcases h2 i b hi hb with h | ⟨h, hd⟩ <;> rcases h2 j c hj hc with h' | ⟨h', hd'⟩
    · exact r2.inj i j b c h h' hb hc e
    · exact (MIX i j b c h hb h' hc hd' e).elim
    · exact (MIX j i c b h' hc h hb hd e.symm).elim
    · rw [(K i b h hb hd).1, (K j c h' hc hd').1] at e
      exact hV.inj i j b c h h' hb hc e
  · intro b hb hj
    exact s.blk b hb fun j y hjy hy hlo' => hj j y (hsub j y hjy hy) hy (by rw [hlo2]; exact hlo')
  · intro i y hi hy
    rcases h2 i y hi hy with h | ⟨h, hd⟩
    · rcases s.org i y h hy with q | ⟨j, z, q1, q2, q3, q4⟩
      · exact .inl q
      · exact .inr ⟨j, z, hsub j z q1 q2, q2, q3, by rw [hlo2]; exact q4⟩
    · exact .inr ⟨i, y, h, hy, (K i y h hy hd).1, .inl rfl⟩

theorem Step.sub {m : M} {V Hi : AH} {w : World} (hsub : ∀ i b, Hi.get i = some b → b ≠ .dead → V.get i = some b) (hlo : Hi.lo = V.lo) (hnx : Hi.nx = V.nx) : Step m m V Hi w w :=
  ⟨.refl m, fun _ h => .inl h, by rw [hlo]; exact Nat.le_refl _, by rw [hnx]; exact Nat.le_refl _, rfl, rfl, rfl, Nat.le_refl _, fun _ _ _ => rfl, fun i y hi hy => .inr ⟨i, y, hsub i y hi hy, hy, rfl, .inl rfl⟩⟩
theorem Rel.sub {m : M} {V Hi : AH} {w : World} (h : Rel m V w) (hsub : ∀ i b, Hi.get i = some b → b ≠ .dead → V.get i = some b) (hlt : ∀ i b, Hi.get i = some b → i < Hi.nx) : Rel m Hi w :=
  ⟨fun i b hi => by
    by_cases hb : b = .dead
    · subst hb; exact .dead _
    · exact h.blk i b (hsub i b hi hb), fun i b hi hb => h.dm i b (hsub i b hi hb) hb, fun i j b c hi hj hb hc e => h.inj i j b c (hsub i b hi hb) (hsub j c hj hc) hb hc e, hlt⟩

theorem get_e (id n l : Nat) : (⟨.e, n, l⟩ : AH).get id = none := Tr.get_empty _

theorem Rel.empty (m : M) (w : World) (n l : Nat) : Rel m ⟨.e, n, l⟩ w :=
  ⟨fun i b hi => (by rw [AX.get_e] at hi; cases hi), fun i b hi => (by rw [AX.get_e] at hi; cases hi), fun i j b c hi => (by rw [AX.get_e] at hi; cases hi), fun i b hi => (by rw [AX.get_e] at hi; cases hi)⟩

/-- a block laid with its number kept ahead. -/
theorem alloc_rule {m0 m m' : M} {H0 V V2 : AH} {w0 w w' : World} {id l : Nat} {b : AB} (hV : Rel m V w) (hD : Dom m V) (hid : id < V.nx) (hid0 : H0.nx ≤ id) (hno : ¬ m.dm id) (hs : Step m0 m H0 V w0 w)
    (r : Rel m' (AH.push ⟨.e, id, l⟩ b) w') (s : Step m m' ⟨.e, id, l⟩ (AH.push ⟨.e, id, l⟩ b) w w') (h2 : ∀ i, i ≠ id → V2.get i = V.get i) (h3 : V2.get id = some b) (hnx : V2.nx = V.nx) (hlo : V2.lo = V.lo) :
    Rel m' V2 w' ∧ Dom m' V2 ∧ Step m0 m' H0 V2 w0 w' := by
  have hblk : ∀ k, k < w.heap.size → w'.heap[k]? = w.heap[k]? := fun k hk => s.blk k hk fun j y hj => by rw [get_e] at hj; cases hj
  have hpush : (AH.push ⟨.e, id, l⟩ b).get id = some b := AH.get_push_same ⟨.e, id, l⟩ b
  have hnew : b ≠ .dead → w.heap.size ≤ m'.bk id := by
    intro hb
    rcases s.org id b hpush hb with h | ⟨j, z, q1, _⟩
    · exact h
    · rw [get_e] at q1; cases q1
  have hold : ∀ i b, V.get i = some b → b ≠ .dead → m'.bk i = m.bk i := fun i b hi hb => s.le.bk i (hV.dm i b hi hb)
  have hdm : ∀ i, m'.dm i → m.dm i ∨ i = id := fun i hi => by
    rcases s.dm i hi with h | ⟨h, h'⟩
    · exact .inl h
    · rw [AH.nx_push] at h'; exact .inr (by simp only at h h'; omega)
  refine ⟨⟨?_, ?_, ?_, ?_⟩, ?_, ⟨hs.le.trans s.le, ?_, by rw [hlo]; exact hs.lo, by rw [hnx]; exact hs.nx, s.os.trans hs.os, s.tape.trans hs.tape, s.output.trans hs.output, Nat.le_trans hs.size s.size, ?_, ?_⟩⟩
  · intro i c hi
    by_cases e : i = id
    · subst e; rw [h3] at hi; cases hi; exact r.blk i b hpush
    · rw [h2 i e] at hi
      by_cases hc : c = .dead
      · subst hc; exact .dead _
      · rw [hold i c hi hc, hblk _ (hV.bk_lt hi hc)]
        exact (hV.blk i c hi).mono s.le fun _ => hV.dm i c hi hc
  · intro i c hi hc
    by_cases e : i = id
    · subst e; rw [h3] at hi; cases hi; exact r.dm i b hpush hc
    · rw [h2 i e] at hi; exact s.le.dm i (hV.dm i c hi hc)
  · intro i j c d hi hj hc hd e
    by_cases ei : i = id <;> by_cases ej : j = id
    · omega
    · subst ei
      rw [h3] at hi; cases hi
      rw [h2 j ej] at hj
      rw [hold j d hj hd] at e
      have := hV.bk_lt hj hd
      have := hnew hc
      omega
    · subst ej
      rw [h3] at hj; cases hj
      rw [h2 i ei] at hi
      rw [hold i c hi hc] at e
      have := hV.bk_lt hi hc
      have := hnew hd
      omega
    · rw [h2 i ei] at hi
      rw [h2 j ej] at hj
      rw [hold i c hi hc, hold j d hj hd] at e
      exact hV.inj i j c d hi hj hc hd e
  · intro i c hi
    rw [hnx]
    by_cases e : i = id
    · omega
    · rw [h2 i e] at hi; exact hV.lt i c hi
  · intro i hi
    rw [hnx]
    rcases hdm i hi with h | h
    · exact hD i h
    · omega
  · intro i hi
    rcases hdm i hi with h | h
    · rcases hs.dm i h with h | h
      · exact .inl h
      · exact .inr ⟨h.1, by rw [hnx]; exact h.2⟩
    · exact .inr ⟨by omega, by rw [hnx]; omega⟩
  · intro k hk hj
    rw [hblk k (by have := hs.size; omega)]
    exact hs.blk k hk fun j y hjy hy hlo' => hj j y hjy hy (by rw [hlo]; exact hlo')
  · intro i y hi hy
    by_cases e : i = id
    · subst e; rw [h3] at hi; cases hi
      exact .inl (Nat.le_trans hs.size (hnew hy))
    · rw [h2 i e] at hi
      rw [hold i y hi hy, hlo]
      exact hs.org i y hi hy

/-! ## Blocks laid open -/
theorem lay_nx : ∀ (l : List New) (H : AH), (lay H l).nx = H.nx
  | [], _ => rfl
  | _ :: l, H => (lay_nx l _).trans rfl
theorem lay_lo : ∀ (l : List New) (H : AH), (lay H l).lo = H.lo
  | [], _ => rfl
  | _ :: l, H => (lay_lo l _).trans rfl

theorem put_get (bl : Tr AB) (n l i k : Nat) (b : AB) : (⟨bl.put (pa k) b, n, l⟩ : AH).get i = if k = i then some b else (⟨bl, n, l⟩ : AH).get i := by
  unfold AH.get
  rw [Tr.get_put]
  by_cases e : k = i
  · subst e; rw [if_pos rfl, if_pos rfl]
  · rw [if_neg fun h => e (pa_inj h), if_neg e]

theorem lay_cases : ∀ (l : List New) (H : AH) (i : Nat), (∃ n ∈ l, n.id = i ∧ (lay H l).get i = some n.blk) ∨ ((∀ n ∈ l, n.id ≠ i) ∧ (lay H l).get i = H.get i)
  | [], H, i => .inr ⟨by simp, rfl⟩
  | a :: l, H, i => by
    simp only [lay]
    rcases lay_cases l ⟨H.bl.put (pa a.id) a.blk, H.nx, H.lo⟩ i with ⟨n, h1, h2, h3⟩ | ⟨h1, h2⟩
    · exact .inl ⟨n, List.mem_cons_of_mem _ h1, h2, h3⟩
    · rw [put_get] at h2
      by_cases e : a.id = i
      · rw [if_pos e] at h2; exact .inl ⟨a, List.mem_cons_self .., e, h2⟩
      · rw [if_neg e] at h2
        refine .inr ⟨fun n hn => ?_, h2⟩
        rcases List.mem_cons.1 hn with rfl | hn
        · exact e
        · exact h1 n hn

theorem lay_mem {l : List New} (hd : ∀ a ∈ l, ∀ b ∈ l, a.id = b.id → a = b) {n : New} (hn : n ∈ l) (H : AH) : (lay H l).get n.id = some n.blk := by
  rcases lay_cases l H n.id with ⟨k, h1, h2, h3⟩ | ⟨h1, h2⟩
  · rw [h3, hd k h1 n hn h2]
  · exact absurd rfl (h1 n hn)

end Go.AX
