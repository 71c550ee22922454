/- The abstract executor 'AX', soundness (18): regions that draw: the walk in the text's order. -/
import Derived.Test.YthhgeodgfbhkdaaAxU
set_option linter.unusedVariables false
set_option linter.unusedSimpArgs false
set_option linter.unusedSectionVars false
namespace Go.AX
variable {P : Program} {X : XT}

/-! ## Operations made ready, by their places -/
theorem prepOps_get {nt : Nat} {ops : Array Oper} {bf : Nat → Nat} : ∀ {rest : List Oper} {al : List AOper} {j : Nat}, prepOps P X nt ops bf j rest = some al →
    al.length = rest.length ∧ ∀ k o, rest[k]? = some o → ∃ ao, al[k]? = some ao ∧ OpR P X nt ops o ao ∧ ao.bf = bf (j + k)
  | [], al, j, h => by simp only [prepOps] at h; cases h; exact ⟨rfl, by simp⟩
  | o :: rest, al, j, h => by
    simp only [prepOps] at h
    split at h
    · rename_i kind run dst guard al' h1 h2 h3 h4
      cases h
      obtain ⟨k1, k2⟩ := prepOps_get h4
      refine ⟨by simp [k1], fun k o' hk => ?_⟩
      cases k with
      | zero => simp at hk; subst hk; exact ⟨_, rfl, ⟨h1, h2, h3⟩, rfl⟩
      | succ k =>
        obtain ⟨ao, q1, q2, q3⟩ := k2 k o' (by simpa using hk)
        exact ⟨ao, by simpa using q1, q2, by rw [q3]; congr 1; omega⟩
    · cases h

theorem testBit_lt {n j k : Nat} (h : n < 2 ^ j) (hk : n.testBit k = true) : k < j := by
  rcases Nat.lt_or_ge k j with h1 | h1
  · exact h1
  · have : n < 2 ^ k := Nat.lt_of_lt_of_le h (Nat.pow_le_pow_right (by decide) h1)
    rw [Nat.testBit_lt_two_pow this] at hk; cases hk

theorem ordOk_spec {ops : Array Oper} {bf : Nat → Nat} (h : ordOk ops bf = true) {i j : Nat} {a b : Oper} (hij : i < j) (ha : ops[i]? = some a) (hb : ops[j]? = some b) (hc : clash ops a b = true) : (bf j).testBit i = true := by
  unfold ordOk at h
  have hj : j < ops.size := (Array.getElem?_eq_some_iff.1 hb).1
  have h1 := List.all_eq_true.1 (List.all_eq_true.1 h j (List.mem_range.2 hj)) i (List.mem_range.2 hij)
  rw [ha, hb] at h1
  simp only [hc, Bool.not_true, Bool.false_or] at h1
  exact h1

theorem edgeOk_spec {ops : Array Oper} {bf : Nat → Nat} (h : edgeOk ops bf = true) {j : Nat} {o : Oper} (ho : ops[j]? = some o) :
    (∀ k, (bf j).testBit k = true → k < j ∧ ∃ e ∈ o.after.toList, Region.binds .any e = true ∧ (e.on = k ∨ (bf e.on).testBit k = true)) ∧ ∀ e ∈ o.after.toList, Region.binds .any e = true → e.on < j := by
  unfold edgeOk at h
  have hj : j < ops.size := (Array.getElem?_eq_some_iff.1 ho).1
  have h1 := List.all_eq_true.1 h j (List.mem_range.2 hj)
  rw [ho] at h1
  simp only [Bool.and_eq_true] at h1
  obtain ⟨h1, h2, h3⟩ := h1
  rw [Nat.blt_eq] at h1
  refine ⟨fun k hk => ?_, fun e he hb => ?_⟩
  · have hkj := testBit_lt h1 hk
    refine ⟨hkj, ?_⟩
    have h4 := List.all_eq_true.1 h3 k (List.mem_range.2 hkj)
    rw [hk] at h4
    simp only [Bool.not_true, Bool.false_or] at h4
    obtain ⟨e, he, hh⟩ := List.any_eq_true.1 h4
    simp only [Bool.and_eq_true, Bool.or_eq_true] at hh
    exact ⟨e, he, hh.1, hh.2.imp (fun h => Nat.eq_of_beq_eq_true h) id⟩
  · have h4 := List.all_eq_true.1 h2 e he
    rw [hb] at h4
    simp only [Bool.not_true, Bool.false_or] at h4
    rwa [Nat.blt_eq] at h4

/-! ## The walk -/
structure Cx where
  nt : Nat
  ops : Array Oper
  bf : Nat → Nat
  al : List AOper
  cf : CallF
  rf : RoundF
  σ : Nat → DS
  N : Nat

structure Cx.Ok (P : Program) (X : XT) (c : Cx) : Prop where
  get : ∀ (j : Nat) o, c.ops[j]? = some o → ∃ ao, c.al[j]? = some ao ∧ OpR P X c.nt c.ops o ao ∧ ao.bf = c.bf j
  len : c.al.length = c.ops.size
  ord : ∀ (i j : Nat) a b, i < j → c.ops[i]? = some a → c.ops[j]? = some b → clash c.ops a b = true → (c.bf j).testBit i = true
  edge : ∀ (j : Nat) o, c.ops[j]? = some o → (∀ k, (c.bf j).testBit k = true → k < j ∧ ∃ e ∈ o.after.toList, Region.binds .any e = true ∧ (e.on = k ∨ (c.bf e.on).testBit k = true)) ∧ ∀ e ∈ o.after.toList, Region.binds .any e = true → e.on < j
  le : c.N ≤ c.al.length
  tr : ∀ i, i < c.N → ∃ o, c.al[i]? = some o ∧ dOne c.cf c.rf c.al i o (c.σ i) = some (.go (c.σ (i + 1)))
  s0 : (c.σ 0).news = [] ∧ (c.σ 0).seen = 0 ∧ (c.σ 0).chain = [] ∧ (c.σ 0).reads = []

/-- the walk, state by state. -/
noncomputable def walkS (cf : CallF) (rf : RoundF) (al : List AOper) (d : DS) : Nat → DS
  | 0 => d
  | i + 1 => match al[i]? with
    | some o => match dOne cf rf al i o (walkS cf rf al d i) with
      | some (.go s) => s
      | _ => walkS cf rf al d i
    | none => walkS cf rf al d i

theorem dOne_stop {cf : CallF} {rf : RoundF} {al : List AOper} {j : Nat} {o : AOper} {s s' : DS} {ch : List PanicEntry} {h : AH} (e : dOne cf rf al j o s = some (.stop ch s' h)) : s' = s := by
  unfold dOne at e
  cases hw : want s.fr o.guard <;> rw [hw] at e
  · cases hk : known s.fr o.guard <;> rw [hk] at e <;> cases e
  · simp only [cond_true] at e
    split at e
    · split at e <;> cases e
    · split at e <;> cases e
    · split at e
      · split at e <;> cases e
      · cases e
    · cases hc : s.chain.all (fun c => o.bf.testBit c.1) <;> rw [hc] at e
      · cases e
      · simp only [cond_true, dEff] at e
        split at e
        · cases e
        · cases hb : allAfter j 0 al <;> rw [hb] at e
          · cases e
          · cases e; rfl
        · cases e

theorem dAll_trace {cf : CallF} {rf : RoundF} {al : List AOper} {d : DS} {out : DOut} : ∀ (rest : List AOper) (j : Nat), al.drop j = rest → dAll cf rf al j rest (walkS cf rf al d j) = some out →
    (∀ i, i < j → ∃ o, al[i]? = some o ∧ dOne cf rf al i o (walkS cf rf al d i) = some (.go (walkS cf rf al d (i + 1)))) → j ≤ al.length →
    (out = .go (walkS cf rf al d al.length) ∧ ∀ i, i < al.length → ∃ o, al[i]? = some o ∧ dOne cf rf al i o (walkS cf rf al d i) = some (.go (walkS cf rf al d (i + 1)))) ∨
    ∃ N ch h o, N < al.length ∧ out = .stop ch (walkS cf rf al d N) h ∧ (∀ i, i < N → ∃ o, al[i]? = some o ∧ dOne cf rf al i o (walkS cf rf al d i) = some (.go (walkS cf rf al d (i + 1)))) ∧
      al[N]? = some o ∧ dOne cf rf al N o (walkS cf rf al d N) = some (.stop ch (walkS cf rf al d N) h) := by
  intro rest
  induction rest with
  | nil =>
    intro j hdrop h hi hj
    have : al.length = j := by
      have := List.drop_eq_nil_iff.1 hdrop; omega
    simp only [dAll] at h
    cases h
    exact .inl ⟨by rw [this], fun i hi' => hi i (by omega)⟩
  | cons o rest ih =>
    intro j hdrop h hi hj
    have hoj : al[j]? = some o := by rw [← List.head?_drop, hdrop]; rfl
    have hdrop' : al.drop (j + 1) = rest := by rw [← List.drop_drop, hdrop]; rfl
    have hjl : j < al.length := (List.getElem?_eq_some_iff.1 hoj).1
    simp only [dAll] at h
    cases hd : dOne cf rf al j o (walkS cf rf al d j) with
    | none => rw [hd] at h; cases h
    | some x =>
      rw [hd] at h
      cases x with
      | go s =>
        simp only at h
        have hs : walkS cf rf al d (j + 1) = s := by simp only [walkS, hoj, hd]
        rw [← hs] at h
        refine ih (j + 1) hdrop' h ?_ hjl
        intro i hi'
        by_cases e : i = j
        · subst e; exact ⟨o, hoj, by rw [hd, hs]⟩
        · exact hi i (by omega)
      | stop ch s hh =>
        simp only at h
        cases h
        have := dOne_stop hd
        subst this
        exact .inr ⟨j, ch, hh, o, hjl, rfl, hi, hoj, hd⟩

/-- what a step of the walk comes to. -/
inductive Went (cf : CallF) (rf : RoundF) (al : List AOper) (i : Nat) (o : AOper) (s s' : DS) : Prop
  | not (hw : want s.fr o.guard = false) (hkn : known s.fr o.guard = true) (h : s' = { s with fr := putT s.fr o.dst undef })
  | pure (hw : want s.fr o.guard = true) (hk : o.kind = .pure) (v : Value) (hh : AH) (hr : o.run s.fr ⟨.e, 0, 0⟩ = some (.val v hh)) (h : s' = { s with fr := putT s.fr o.dst v })
  | read (hw : want s.fr o.guard = true) (hk : o.kind = .read) (v : Value) (hh : AH) (hr : o.run s.fr (lay s.h (opened o.bf s.seen s.news)) = some (.val v hh)) (h : s' = { s with fr := putT s.fr o.dst v, reads := ⟨i, o, s.fr, v⟩ :: s.reads })
  | new (hw : want s.fr o.guard = true) (hk : o.kind = .new) (v : Value) (h1 : AH) (b : AB) (hr : o.run s.fr ⟨.e, s.nid, 0⟩ = some (.val v h1)) (hb : h1.get s.nid = some b) (hbd : b ≠ .dead) (h : s' = { s with fr := putT s.fr o.dst v, nid := s.nid + 1, news := ⟨i, s.nid, b⟩ :: s.news })
  | eff (hw : want s.fr o.guard = true) (hk : o.kind = .eff) (hc : ∀ c ∈ s.chain, o.bf.testBit c.1 = true) (st : St) (hr : aDo cf rf o { fr := s.fr, df := [], h := lay s.h (opened o.bf s.seen s.news) } = some (.normal, st))
      (h : s' = { s with fr := st.fr, h := st.h, seen := s.seen ||| o.bf, chain := (i, s.seen, s.h) :: s.chain })

theorem went_of {cf : CallF} {rf : RoundF} {al : List AOper} {i : Nat} {o : AOper} {s s' : DS} (e : dOne cf rf al i o s = some (.go s')) : Went cf rf al i o s s' := by
  unfold dOne at e
  cases hw : want s.fr o.guard <;> rw [hw] at e
  · cases hk : known s.fr o.guard <;> rw [hk] at e
    · cases e
    · cases e; exact .not hw hk rfl
  · simp only [cond_true] at e
    split at e
    · rename_i hk
      split at e
      · rename_i v hh hr; cases e; exact .pure hw hk v hh hr rfl
      · cases e
    · rename_i hk
      split at e
      · rename_i v hh hr; cases e; exact .read hw hk v hh hr rfl
      · cases e
    · rename_i hk
      split at e
      · rename_i v h1 hr
        split at e
        · cases e
        · rename_i b hnd hb; cases e; exact .new hw hk v h1 b hr hb (fun e => hnd e) rfl
        · cases e
      · cases e
    · rename_i hk
      cases hc : s.chain.all (fun c => o.bf.testBit c.1) <;> rw [hc] at e
      · cases e
      · simp only [cond_true, dEff] at e
        split at e
        · rename_i st hr
          cases e
          exact .eff hw hk (fun c hcm => List.all_eq_true.1 hc c hcm) st hr rfl
        · cases hb : allAfter i 0 al <;> rw [hb] at e <;> cases e
        · cases e

theorem aDo_normal {cf : CallF} {rf : RoundF} {o : AOper} {st st' : St} (h : aDo cf rf o st = some (.normal, st')) : ∃ v, st'.fr = putT st.fr o.dst v := by
  unfold aDo at h
  split at h
  · cases h; exact ⟨_, rfl⟩
  · cases h
  · split at h
    · cases h; exact ⟨_, rfl⟩
    · cases h
    · cases h
  · split at h
    · cases h; exact ⟨_, rfl⟩
    · cases h
    · cases h
  · cases h

namespace Cx
variable {c : Cx}

def isEff (c : Cx) (i : Nat) : Prop := ∃ ao, c.al[i]? = some ao ∧ want (c.σ i).fr ao.guard = true ∧ ao.kind = .eff

theorem Ok.went (hc : c.Ok P X) {i : Nat} (hi : i < c.N) : ∃ o ao, c.ops[i]? = some o ∧ c.al[i]? = some ao ∧ OpR P X c.nt c.ops o ao ∧ ao.bf = c.bf i ∧ Went c.cf c.rf c.al i ao (c.σ i) (c.σ (i + 1)) := by
  obtain ⟨ao, h1, h2⟩ := hc.tr i hi
  have hl : i < c.ops.size := by rw [← hc.len]; have := hc.le; omega
  obtain ⟨ao', k1, k2, k3⟩ := hc.get i c.ops[i] (Array.getElem?_eq_getElem hl)
  rw [h1] at k1; cases k1
  exact ⟨_, ao, Array.getElem?_eq_getElem hl, h1, k2, k3, went_of h2⟩

theorem Ok.val (hc : c.Ok P X) {i : Nat} (hi : i < c.N) : ∃ o ao v, c.ops[i]? = some o ∧ c.al[i]? = some ao ∧ dstOf c.nt o.dst = some ao.dst ∧ (c.σ (i + 1)).fr = putT (c.σ i).fr ao.dst v := by
  obtain ⟨o, ao, h1, h2, h3, h4, h5⟩ := hc.went hi
  cases h5 with
  | not hw hkn h => exact ⟨o, ao, _, h1, h2, h3.dst, by rw [h]⟩
  | pure hw hk v hh hr h => exact ⟨o, ao, v, h1, h2, h3.dst, by rw [h]⟩
  | read hw hk v hh hr h => exact ⟨o, ao, v, h1, h2, h3.dst, by rw [h]⟩
  | new hw hk v h1' b hr hb hbd h => exact ⟨o, ao, v, h1, h2, h3.dst, by rw [h]⟩
  | eff hw hk hcn st hr h =>
    obtain ⟨v, hv⟩ := aDo_normal hr
    exact ⟨o, ao, v, h1, h2, h3.dst, by rw [h, hv]⟩

/-- what a step that is no effect leaves as it is. -/
theorem Ok.quiet (hc : c.Ok P X) {i : Nat} (hi : i < c.N) (hn : ¬ c.isEff i) : (c.σ (i + 1)).h = (c.σ i).h ∧ (c.σ (i + 1)).seen = (c.σ i).seen ∧ (c.σ (i + 1)).chain = (c.σ i).chain := by
  obtain ⟨o, ao, h1, h2, h3, h4, h5⟩ := hc.went hi
  cases h5 with
  | not hw hkn h => rw [h]; exact ⟨rfl, rfl, rfl⟩
  | pure hw hk v hh hr h => rw [h]; exact ⟨rfl, rfl, rfl⟩
  | read hw hk v hh hr h => rw [h]; exact ⟨rfl, rfl, rfl⟩
  | new hw hk v h1' b hr hb hbd h => rw [h]; exact ⟨rfl, rfl, rfl⟩
  | eff hw hk hcn st hr h => exact absurd ⟨ao, h2, hw, hk⟩ hn

theorem Ok.quiet_to (hc : c.Ok P X) {i : Nat} : ∀ (d : Nat), i + d ≤ c.N → (∀ k, i ≤ k → k < i + d → ¬ c.isEff k) → (c.σ (i + d)).h = (c.σ i).h ∧ (c.σ (i + d)).seen = (c.σ i).seen ∧ (c.σ (i + d)).chain = (c.σ i).chain
  | 0, _, _ => ⟨rfl, rfl, rfl⟩
  | d + 1, hd, hn => by
    obtain ⟨h1, h2, h3⟩ := hc.quiet_to d (by omega) fun k hk hk' => hn k hk (by omega)
    obtain ⟨k1, k2, k3⟩ := hc.quiet (i := i + d) (by omega) (hn (i + d) (by omega) (by omega))
    exact ⟨k1.trans h1, k2.trans h2, k3.trans h3⟩

/-- the next effect, or the end. -/
theorem next_eff (c : Cx) : ∀ (d i : Nat), i + d = c.N → ∃ p, i ≤ p ∧ p ≤ c.N ∧ (∀ k, i ≤ k → k < p → ¬ c.isEff k) ∧ (p = c.N ∨ c.isEff p)
  | 0, i, h => ⟨i, Nat.le_refl _, by omega, fun k h1 h2 => by omega, .inl (by omega)⟩
  | d + 1, i, h => by
    by_cases he : c.isEff i
    · exact ⟨i, Nat.le_refl _, by omega, fun k h1 h2 => by omega, .inr he⟩
    · obtain ⟨p, h1, h2, h3, h4⟩ := next_eff c d (i + 1) (by omega)
      refine ⟨p, by omega, h2, fun k hk hk' => ?_, h4⟩
      by_cases e : k = i
      · subst e; exact he
      · exact h3 k (by omega) hk'

theorem Ok.chain_mem (hc : c.Ok P X) : ∀ (j : Nat), j ≤ c.N → (∀ x ∈ (c.σ j).chain, x.1 < j ∧ c.isEff x.1 ∧ x.2 = ((c.σ x.1).seen, (c.σ x.1).h)) ∧ (∀ i, i < j → c.isEff i → (i, (c.σ i).seen, (c.σ i).h) ∈ (c.σ j).chain) ∧ (c.σ j).chain.Pairwise fun x y => y.1 < x.1
  | 0, _ => by rw [hc.s0.2.2.1]; simp
  | j + 1, hj => by
    obtain ⟨h1, h2, h3⟩ := hc.chain_mem j (by omega)
    by_cases he : c.isEff j
    · obtain ⟨o, ao, q1, q2, q3, q4, q5⟩ := hc.went (i := j) (by omega)
      have : (c.σ (j + 1)).chain = (j, (c.σ j).seen, (c.σ j).h) :: (c.σ j).chain := by
        cases q5 with
        | eff hw hk hcn st hr h => rw [h]
        | not hw hkn h => obtain ⟨ao', r1, r2, r3⟩ := he; rw [q2] at r1; cases r1; rw [hw] at r2; cases r2
        | pure hw hk => obtain ⟨ao', r1, r2, r3⟩ := he; rw [q2] at r1; cases r1; rw [hk] at r3; cases r3
        | read hw hk => obtain ⟨ao', r1, r2, r3⟩ := he; rw [q2] at r1; cases r1; rw [hk] at r3; cases r3
        | new hw hk => obtain ⟨ao', r1, r2, r3⟩ := he; rw [q2] at r1; cases r1; rw [hk] at r3; cases r3
      rw [this]
      refine ⟨fun x hx => ?_, fun i hi hie => ?_, ?_⟩
      · rcases List.mem_cons.1 hx with rfl | hx
        · exact ⟨Nat.lt_succ_self _, he, rfl⟩
        · obtain ⟨k1, k2, k3⟩ := h1 x hx
          exact ⟨by omega, k2, k3⟩
      · by_cases e : i = j
        · subst e; exact List.mem_cons_self ..
        · exact List.mem_cons_of_mem _ (h2 i (by omega) hie)
      · exact List.pairwise_cons.2 ⟨fun x hx => (h1 x hx).1, h3⟩
    · rw [(hc.quiet (i := j) (by omega) he).2.2]
      refine ⟨fun x hx => ?_, fun i hi hie => ?_, h3⟩
      · obtain ⟨k1, k2, k3⟩ := h1 x hx
        exact ⟨by omega, k2, k3⟩
      · by_cases e : i = j
        · subst e; exact absurd hie he
        · exact h2 i (by omega) hie

theorem Ok.eff_ord (hc : c.Ok P X) {i j : Nat} (hij : i < j) (hj : j < c.N) (hi : c.isEff i) (he : c.isEff j) : (c.bf j).testBit i = true := by
  obtain ⟨o, ao, q1, q2, q3, q4, q5⟩ := hc.went hj
  obtain ⟨ao', r1, r2, r3⟩ := he
  rw [q2] at r1; cases r1
  cases q5 with
  | eff hw hk hcn st hr h => rw [← q4]; exact hcn _ ((hc.chain_mem j (by omega)).2.1 i hij hi)
  | not hw hkn h => rw [hw] at r2; cases r2
  | pure hw hk => rw [hk] at r3; cases r3
  | read hw hk => rw [hk] at r3; cases r3
  | new hw hk => rw [hk] at r3; cases r3

/-! ### Blocks laid by the region -/
structure NewAt (c : Cx) (n : New) : Prop where
  id : n.id = (c.σ n.op).nid
  run : ∃ ao v h1, c.al[n.op]? = some ao ∧ want (c.σ n.op).fr ao.guard = true ∧ ao.kind = .new ∧ ao.run (c.σ n.op).fr ⟨.e, n.id, 0⟩ = some (.val v h1) ∧ h1.get n.id = some n.blk ∧ n.blk ≠ .dead

theorem Ok.news (hc : c.Ok P X) : ∀ (j : Nat), j ≤ c.N → (∀ n ∈ (c.σ j).news, n.op < j ∧ NewAt c n ∧ (c.σ n.op).nid < (c.σ j).nid) ∧ (∀ n, NewAt c n → n.op < j → n ∈ (c.σ j).news) ∧ (∀ i, i ≤ j → (c.σ i).nid ≤ (c.σ j).nid) ∧
    (c.σ j).nid ≤ (c.σ 0).nid + countNew (c.al.take j)
  | 0, _ => by rw [hc.s0.1]; exact ⟨by simp, fun n _ h => by omega, fun i hi => by rw [Nat.le_zero.1 hi]; exact Nat.le_refl _, by simp⟩
  | j + 1, hj => by
    obtain ⟨h1, h2, h3, h4⟩ := hc.news j (by omega)
    obtain ⟨o, ao, q1, q2, q3, q4, q5⟩ := hc.went (i := j) (by omega)
    have htake : c.al.take (j + 1) = c.al.take j ++ [ao] := by
      rw [List.take_add_one, q2]; rfl
    have hcn : countNew (c.al.take (j + 1)) = countNew (c.al.take j) + (match ao.kind with | .new => 1 | _ => 0) := by
      rw [htake]
      generalize c.al.take j = l
      induction l with
      | nil => cases hk : ao.kind <;> simp [countNew, hk]
      | cons a l ih => simp only [List.cons_append, countNew]; cases a.kind <;> simp only [ih] <;> omega
    have SAME : (c.σ (j + 1)).news = (c.σ j).news → (c.σ (j + 1)).nid = (c.σ j).nid → (want (c.σ j).fr ao.guard = true → ao.kind ≠ .new) →
        (∀ n ∈ (c.σ (j + 1)).news, n.op < j + 1 ∧ NewAt c n ∧ (c.σ n.op).nid < (c.σ (j + 1)).nid) ∧ (∀ n, NewAt c n → n.op < j + 1 → n ∈ (c.σ (j + 1)).news) ∧ (∀ i, i ≤ j + 1 → (c.σ i).nid ≤ (c.σ (j + 1)).nid) ∧
        (c.σ (j + 1)).nid ≤ (c.σ 0).nid + countNew (c.al.take (j + 1)) := by
      intro e1 e2 hnk
      rw [e1]
      refine ⟨fun n hn => ?_, fun n hn hlt => ?_, fun i hi => ?_, ?_⟩
      · obtain ⟨k1, k2, k3⟩ := h1 n hn
        exact ⟨by omega, k2, by rw [e2]; exact k3⟩
      · by_cases e : n.op = j
        · obtain ⟨_, ao', v, hh, r1, r2, r3, r4⟩ := hn
          rw [e] at r1 r2
          rw [q2] at r1; cases r1
          exact absurd r3 (hnk r2)
        · exact h2 n hn (by omega)
      · by_cases e : i = j + 1
        · rw [e]; exact Nat.le_refl _
        · rw [e2]; exact h3 i (by omega)
      · rw [e2, hcn]; omega
    cases q5 with
    | not hw hkn h => exact SAME (by rw [h]) (by rw [h]) (fun h' => by rw [hw] at h'; cases h')
    | pure hw hk v hh hr h => exact SAME (by rw [h]) (by rw [h]) (fun _ e => by rw [hk] at e; cases e)
    | read hw hk v hh hr h => exact SAME (by rw [h]) (by rw [h]) (fun _ e => by rw [hk] at e; cases e)
    | eff hw hk hcn st hr h => exact SAME (by rw [h]) (by rw [h]) (fun _ e => by rw [hk] at e; cases e)
    | new hw hk v h1' b hr hb hbd h =>
      have e1 : (c.σ (j + 1)).news = ⟨j, (c.σ j).nid, b⟩ :: (c.σ j).news := by rw [h]
      have e2 : (c.σ (j + 1)).nid = (c.σ j).nid + 1 := by rw [h]
      rw [e1, e2]
      refine ⟨fun n hn => ?_, fun n hn hlt => ?_, fun i hi => ?_, ?_⟩
      · rcases List.mem_cons.1 hn with rfl | hn
        · exact ⟨Nat.lt_succ_self _, ⟨rfl, ao, v, h1', q2, hw, hk, hr, hb, hbd⟩, Nat.lt_succ_self _⟩
        · obtain ⟨k1, k2, k3⟩ := h1 n hn
          exact ⟨by omega, k2, by omega⟩
      · by_cases e : n.op = j
        · obtain ⟨r0, ao', v', hh, r1, r2, r3, r4, r5, _⟩ := hn
          rw [e] at r0 r1 r2 r4
          rw [q2] at r1; cases r1
          rw [r0, hr] at r4; cases r4
          rw [r0, hb] at r5; cases r5
          obtain ⟨op, id, blk⟩ := n
          simp only at e r0
          subst e; subst r0
          exact List.mem_cons_self ..
        · exact List.mem_cons_of_mem _ (h2 n hn (by omega))
      · by_cases e : i = j + 1
        · rw [e, e2]; exact Nat.le_refl _
        · have := h3 i (by omega); omega
      · rw [hcn, hk]; simp only; omega

end Cx

end Go.AX
