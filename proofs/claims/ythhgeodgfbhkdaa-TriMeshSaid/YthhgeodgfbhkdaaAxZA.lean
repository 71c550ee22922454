/- The abstract executor 'AX', soundness (23): regions that draw: from start to end. -/
import Derived.Test.YthhgeodgfbhkdaaAxY
import Derived.Test.YthhgeodgfbhkdaaProg
set_option linter.unusedVariables false
set_option linter.unusedSimpArgs false
set_option linter.unusedSectionVars false
namespace Go.AX
variable {P : Program} {X : XT}

theorem count_set : ∀ (l : List Bool) (i : Nat), l[i]? = some false → (l.set i true).count false + 1 = l.count false
  | [], i, h => by simp at h
  | b :: l, 0, h => by simp at h; subst h; simp
  | b :: l, i + 1, h => by
    simp only [List.set_cons_succ, List.count_cons]
    have := count_set l i (by simpa using h)
    omega

def done (listed : Array Bool) (k : Nat) : Bool := listed.getD k false

theorem done_set {listed : Array Bool} {i : Nat} (hi : i < listed.size) : done (listed.setIfInBounds i true) = Cx.upd (done listed) i := by
  funext k
  unfold done Cx.upd
  by_cases e : i = k
  · subst e
    simp [Array.getD_eq_getD_getElem?, Array.getElem?_setIfInBounds, hi]
  · have : Nat.beq k i = false := Bool.eq_false_iff.2 fun h => e (Nat.eq_of_beq_eq_true h).symm
    simp [Array.getD_eq_getD_getElem?, Array.getElem?_setIfInBounds, e, this]

theorem done_false {listed : Array Bool} {i : Nat} (hi : i < listed.size) (h : done listed i = false) : listed.toList[i]? = some false := by
  unfold done at h
  rw [Array.getElem?_toList, Array.getElem?_eq_getElem hi]
  rw [Array.getD_eq_getD_getElem?, Array.getElem?_eq_getElem hi] at h
  simpa using h

theorem mem_ready {ops : Array Oper} {listed : Array Bool} (hsz : listed.size = ops.size) {i : Nat} : i ∈ Region.ready .any ops listed ↔ ∃ o, ops[i]? = some o ∧ done listed i = false ∧ ∀ e ∈ o.after.toList, Region.binds .any e = true → done listed e.on = true := by
  unfold Region.ready
  rw [List.mem_filter, List.mem_range, Bool.and_eq_true]
  constructor
  · intro ⟨h1, h2, h3⟩
    rw [Array.getElem?_eq_getElem h1] at h3
    refine ⟨ops[i], Array.getElem?_eq_getElem h1, ?_, fun e he hb => ?_⟩
    · unfold done
      rw [Array.getD_eq_getD_getElem?, Array.getElem?_eq_getElem (by omega)] at h2 ⊢
      simpa using h2
    · simp only [Option.map_some, Option.getD_some, Array.all_eq_true_iff_forall_mem] at h3
      have := h3 e (by simpa using he)
      rw [hb] at this
      simpa [done] using this
  · intro ⟨o, h1, h2, h3⟩
    have hi := (Array.getElem?_eq_some_iff.1 h1).1
    refine ⟨hi, ?_, ?_⟩
    · unfold done at h2
      rw [Array.getD_eq_getD_getElem?, Array.getElem?_eq_getElem (by omega)] at h2 ⊢
      simpa using h2
    · rw [h1]
      simp only [Option.map_some, Option.getD_some, Array.all_eq_true_iff_forall_mem]
      intro e he
      cases hb : Region.binds .any e
      · simp
      · have := h3 e (by simpa using he) hb
        simpa [done] using this

namespace Cx
variable {c : Cx} {m0 m : M} {H0 : AH} {w0 w : World} {S : Nat → Bool} {fr : Tr Value} {p : Nat} {a : Act}

theorem Ok.ready_bf (hc : c.Ok P X) {listed : Array Bool} (hcl : ∀ i, done listed i = true → ∀ k, (c.bf i).testBit k = true → done listed k = true) {i : Nat} {o : Oper} (ho : c.ops[i]? = some o)
    (hr : ∀ e ∈ o.after.toList, Region.binds .any e = true → done listed e.on = true) : ∀ k, (c.bf i).testBit k = true → done listed k = true := by
  intro k hk
  obtain ⟨_, e, he, hb, hh⟩ := (hc.edge i o ho).1 k hk
  have := hr e he hb
  rcases hh with rfl | hh
  · exact this
  · exact hcl _ this k hh

theorem Ok.ready_nil (hc : c.Ok P X) {listed : Array Bool} (hsz : listed.size = c.ops.size) (h : Region.ready .any c.ops listed = []) : ∀ i, i < c.ops.size → done listed i = true := by
  intro i
  induction i using Nat.strongRecOn with
  | _ i ih =>
    intro hi
    cases hb : done listed i with
    | true => rfl
    | false =>
      have ho := Array.getElem?_eq_getElem hi
      have : i ∈ Region.ready .any c.ops listed := (mem_ready hsz).2 ⟨_, ho, hb, fun e he hbd => by
        have hlt := (hc.edge i _ ho).2 e he hbd
        exact ih e.on hlt (by omega)⟩
      rw [h] at this; cases this

theorem sim (hc : c.Ok P X) {F : Fence} (hF : WF F) (hX : XOk P X) (hro : readsOk c.al (c.σ c.N) = true) (hcf : CfOk P m0 c.cf) (hrf : RfOk P m0 c.rf) {ds : List Deferred} {Q : Exit → Act → World → Prop}
    (hend : ∀ S m fr p a w, c.Inv m0 H0 w0 S m fr p a w → a.defers = ds → (∀ i, i < c.ops.size → S i = true) → Q .normal a w)
    (hlast : ∀ S m fr p a w i K, c.Inv m0 H0 w0 S m fr p a w → a.defers = ds → c.N ≤ i → i < c.ops.size → S i = false → (∀ k, (c.bf i).testBit k = true → S k = true) → wpOpIn F 0 P c.ops Q i K a w) :
    ∀ (fuel : Nat) (listed : Array Bool) (m : M) (fr : Tr Value) (p : Nat) (a : Act) (w : World), listed.size = c.ops.size → listed.toList.count false ≤ fuel → c.Inv m0 H0 w0 (done listed) m fr p a w → a.defers = ds →
      wpAnyIn F 0 P .any c.ops Q fuel listed a w := by
  intro fuel
  induction fuel with
  | zero =>
    intro listed m fr p a w hsz hcnt hinv hds
    have hnil : Region.ready .any c.ops listed = [] := by
      cases hr : Region.ready .any c.ops listed with
      | nil => rfl
      | cons i l =>
        obtain ⟨o, h1, h2, h3⟩ := (mem_ready hsz).1 (show i ∈ Region.ready .any c.ops listed by rw [hr]; exact List.mem_cons_self ..)
        have hi := (Array.getElem?_eq_some_iff.1 h1).1
        have := count_set listed.toList i (done_false (by omega) h2)
        omega
    exact ⟨hnil, hend _ m fr p a w hinv hds (hc.ready_nil hsz hnil)⟩
  | succ fuel ih =>
    intro listed m fr p a w hsz hcnt hinv hds
    refine ⟨fun hnil => hend _ m fr p a w hinv hds (hc.ready_nil hsz hnil), fun i hi => ?_⟩
    obtain ⟨o, h1, h2, h3⟩ := (mem_ready hsz).1 hi
    have hil := (Array.getElem?_eq_some_iff.1 h1).1
    have hbf := hc.ready_bf hinv.closed h1 h3
    by_cases hN : i < c.N
    · refine hinv.op hc hF hX hro hcf hrf hN h2 hbf fun m' fr' p' a' w' hinv' hds' => ?_
      have hcs := count_set listed.toList i (done_false (by omega) h2)
      refine ih (listed.setIfInBounds i true) m' fr' p' a' w' (by simp [hsz]) (by rw [Array.toList_setIfInBounds]; omega) ?_ (hds'.trans hds)
      rw [done_set (by omega)]
      exact hinv'
    · exact hlast _ m fr p a w i _ hinv hds (by omega) hil h2 hbf

end Cx

theorem countNew_take : ∀ (l : List AOper) (n : Nat), countNew (l.take n) ≤ countNew l
  | [], n => by simp
  | o :: l, 0 => by simp [countNew]
  | o :: l, n + 1 => by
    simp only [List.take_succ_cons, countNew]
    have := countNew_take l n
    cases o.kind <;> simp only <;> omega

theorem stop_spec {cf : CallF} {rf : RoundF} {al : List AOper} {j : Nat} {o : AOper} {s : DS} {ch : List PanicEntry} {h : AH} (e : dOne cf rf al j o s = some (.stop ch s h)) :
    want s.fr o.guard = true ∧ o.kind = .eff ∧ (∀ c ∈ s.chain, o.bf.testBit c.1 = true) ∧ allAfter j 0 al = true ∧ ∃ st, aDo cf rf o { fr := s.fr, df := [], h := lay s.h (opened o.bf s.seen s.news) } = some (.panic ch, st) ∧ st.h = h := by
  unfold dOne at e
  cases hw : want s.fr o.guard <;> rw [hw] at e
  · cases hk : known s.fr o.guard <;> rw [hk] at e <;> cases e
  · simp only [cond_true] at e
    split at e
    · split at e <;> cases e
    · split at e <;> cases e
    · split at e
      · split at e <;> cases e
      · cases e
    · rename_i hk
      cases hc : s.chain.all (fun c => o.bf.testBit c.1) <;> rw [hc] at e
      · cases e
      · simp only [cond_true, dEff] at e
        split at e
        · cases e
        · rename_i ch' st hst
          cases hb : allAfter j 0 al <;> rw [hb] at e
          · cases e
          · cases e
            exact ⟨rfl, hk, fun c hcm => List.all_eq_true.1 hc c hcm, rfl, st, hst, rfl⟩
        · cases e

theorem allAfter_spec {j : Nat} : ∀ {l : List AOper} {i : Nat}, allAfter j i l = true → ∀ k o, l[k]? = some o → j < i + k → o.bf.testBit j = true
  | [], i, _, k, o, h => by simp at h
  | x :: l, i, h, k, o, hk => by
    intro hlt
    simp only [allAfter, Bool.and_eq_true, Bool.or_eq_true] at h
    cases k with
    | zero =>
      simp at hk; subst hk
      rcases h.1 with h1 | h1
      · have := Nat.le_of_ble_eq_true h1; omega
      · exact h1
    | succ k => exact allAfter_spec h.2 k o (by simpa using hk) (by omega)

theorem draw_ok (hX : XOk P X) (hP : P.follows .mixedOrders = true) : DrawOk P X := by
  intro F hF nt id ops al m w st st' e a cf rf Q hchk hprep h hA hDf hR hD hcf hrf hQ
  rw [Bool.and_eq_true] at hchk
  obtain ⟨hlen, hget⟩ := prepOps_get hprep
  have hlen' : al.length = ops.size := by rw [hlen]; simp
  let d0 : DS := { fr := st.fr, h := ⟨st.h.bl, st.h.nx + countNew al, st.h.lo⟩, nid := st.h.nx, news := [], seen := 0, chain := [], reads := [] }
  let σ := walkS cf rf al d0
  let bf : Nat → Nat := fun j => (Region.before ops).getD j 0
  have OKC : ∀ N, N ≤ al.length → (∀ i, i < N → ∃ o, al[i]? = some o ∧ dOne cf rf al i o (σ i) = some (.go (σ (i + 1)))) → (Cx.mk nt ops bf al cf rf σ N).Ok P X := by
    intro N hN htr
    exact {
      get := fun j o ho => by
        obtain ⟨ao, k1, k2, k3⟩ := hget j o (by rw [Array.getElem?_toList]; exact ho)
        exact ⟨ao, k1, k2, by rw [k3, Nat.zero_add]⟩
      len := hlen'
      ord := fun i j a b hij ha hb hcl => ordOk_spec hchk.1 hij ha hb hcl
      edge := fun j o ho => edgeOk_spec hchk.2 ho
      le := hN
      tr := htr
      s0 := ⟨rfl, rfl, rfl, rfl⟩ }
  have INIT : ∀ N (hc : (Cx.mk nt ops bf al cf rf σ N).Ok P X), ∃ p, (Cx.mk nt ops bf al cf rf σ N).Inv m st.h w (done (Array.replicate ops.size false)) m st.fr p a { w with drawn := w.drawn + 1 } := by
    intro N hc
    have hS : ∀ k, done (Array.replicate ops.size false) k = false := by
      intro k
      unfold done
      rw [Array.getD_eq_getD_getElem?, Array.getElem?_replicate]
      split <;> rfl
    obtain ⟨p, hp1, hp2, hp3, hp4⟩ := (Cx.mk nt ops bf al cf rf σ N).next_eff N 0 (by simp)
    obtain ⟨e1, e2, _⟩ := hc.quiet_to (i := 0) p (by simpa using hp2) (fun k hk hk' => hp3 k hk (by omega))
    rw [Nat.zero_add] at e1 e2
    have hv : (Cx.mk nt ops bf al cf rf σ N).view p (done (Array.replicate ops.size false)) = ⟨st.h.bl, st.h.nx + countNew al, st.h.lo⟩ := by
      unfold Cx.view
      have : (Cx.mk nt ops bf al cf rf σ N).shown p (done (Array.replicate ops.size false)) = [] := by
        rw [List.eq_nil_iff_forall_not_mem]
        intro n hn
        have := (Cx.mem_shown.1 hn).2.1
        rw [hS] at this; cases this
      rw [this, e1]
      rfl
    have hR1 : Rel m ⟨st.h.bl, st.h.nx + countNew al, st.h.lo⟩ { w with drawn := w.drawn + 1 } := ⟨hR.blk, hR.dm, hR.inj, fun i b hi => by have := hR.lt i b hi; simp only; omega⟩
    refine ⟨p, ?_⟩
    exact {
      hp := hp2
      closed := fun i hi => by rw [hS] at hi; cases hi
      bound := fun i hi => by rw [hS] at hi; cases hi
      effs := fun k hk hlt => absurd hk (hp3 k (Nat.zero_le _) hlt)
      front := hp4.imp (fun h => h) fun h => ⟨h, hS p⟩
      last := fun t => .inr ⟨fun i hi => absurd (show done (Array.replicate ops.size false) i = true from hi) (by rw [hS]; simp), rfl⟩
      fri := hA
      rel := by rw [hv]; exact hR1
      dom := by rw [hv]; exact fun i hi => by have := hD i hi; simp only; omega
      step := by
        rw [hv]
        exact ⟨.refl m, fun _ h => .inl h, Nat.le_refl _, Nat.le_add_right _ _, rfl, rfl, rfl, Nat.le_refl _, fun _ _ _ => rfl, fun i y hi hy => .inr ⟨i, y, hi, hy, rfl, .inl rfl⟩⟩
      new := fun n hn _ hdm => by
        have := hc.id_ge hn
        have h2 := hD _ hdm
        have h3 : (Cx.mk nt ops bf al cf rf σ N).σ 0 = d0 := rfl
        rw [h3] at this
        simp only [d0] at this
        omega
      lt := fun i b hi => by rw [e1] at hi ⊢; have := hR.lt i b hi; simp only [σ, walkS, d0]; omega
      hid := fun n hn _ b hb => by
        rw [e1] at hb
        have h1 := hR.lt n.id b hb
        have := hc.id_ge hn
        have h3 : (Cx.mk nt ops bf al cf rf σ N).σ 0 = d0 := rfl
        rw [h3] at this
        simp only [d0] at this
        omega
      nx := by
        rw [e1]
        have h1 := (hc.news N (Nat.le_refl _)).2.2.2
        have h2 := countNew_take al N
        have h3 : (Cx.mk nt ops bf al cf rf σ N).σ 0 = d0 := rfl
        rw [h3] at h1 ⊢
        simp only [d0] at h1 ⊢
        omega
      nid0 := Nat.le_refl _ }
  refine wpIn_region_any hP ?_
  unfold aDraw at h
  cases hda : dAll cf rf al 0 al d0 with
  | none => rw [show dAll cf rf al 0 al { fr := st.fr, h := ⟨st.h.bl, st.h.nx + countNew al, st.h.lo⟩, nid := st.h.nx, news := [], seen := 0, chain := [], reads := [] } = none from hda] at h; cases h
  | some out =>
    rw [show dAll cf rf al 0 al { fr := st.fr, h := ⟨st.h.bl, st.h.nx + countNew al, st.h.lo⟩, nid := st.h.nx, news := [], seen := 0, chain := [], reads := [] } = some out from hda] at h
    have hcount : (Array.replicate ops.size false).toList.count false ≤ ops.size := by simp
    rcases dAll_trace (d := d0) al 0 rfl hda (fun i hi => by omega) (Nat.zero_le _) with ⟨hout, htr⟩ | ⟨N, ch, hh, o, hN, hout, htr, hao, hstop⟩
    · subst hout
      simp only at h
      cases hro : readsOk al (σ al.length) <;> rw [show readsOk al (walkS cf rf al d0 al.length) = readsOk al (σ al.length) from rfl, hro] at h
      · cases h
      · cases h
        have hc := OKC al.length (Nat.le_refl _) htr
        obtain ⟨p, hinv⟩ := INIT al.length hc
        refine Cx.sim (m0 := m) (H0 := st.h) (w0 := w) (ds := a.defers) hc hF hX hro hcf hrf ?_ ?_ ops.size _ m st.fr p a _ (by simp) hcount hinv rfl
        · intro S m1 fr1 p1 a1 w1 hi1 hds hall
          have hpN : p1 = al.length := by
            rcases hi1.front with q | ⟨q1, q2⟩
            · exact q
            · have hp := hi1.hp
              by_cases q : p1 = al.length
              · exact q
              · have := hall p1 (by rw [← hlen']; have : p1 ≤ al.length := hp; omega)
                rw [this] at q2; cases q2
          subst hpN
          have hSall : ∀ n ∈ (σ al.length).news, S n.op = true := fun n hn => by
            have := ((hc.news al.length (Nat.le_refl _)).1 n hn).1
            exact hall n.op (by rw [← hlen']; exact this)
          have hview : (Cx.mk nt ops bf al cf rf σ al.length).view al.length S = lay (σ al.length).h ((σ al.length).news.filter fun n => !(σ al.length).seen.testBit n.op) := by
            unfold Cx.view Cx.shown
            congr 1
            refine List.filter_congr fun n hn => ?_
            rw [hSall n hn, Bool.true_and]
          refine hQ _ _ _ ⟨m1, trivial, fun _ => ⟨fun t => ?_, hi1.fri.size⟩, by rw [hds]; exact hDf.mono hi1.step.le, by rw [← hview]; exact hi1.step, by rw [← hview]; exact hi1.rel, by rw [← hview]; exact hi1.dom⟩
          have e1 : tmp fr1 (pa t) = tmp (σ al.length).fr (pa t) := Cx.Last.eq (Cx.Last.same (S' := fun k => k < al.length) (fun k hk => ⟨fun h => hi1.bound k h, fun h => hall k (by have h' : k < al.length := h; show k < ops.size; omega)⟩) (hi1.last t)) (hc.last_text t al.length (Nat.le_refl _))
          have := hi1.fri.rel t
          rw [e1] at this
          exact this
        · intro S m1 fr1 p1 a1 w1 i K hi1 hds hge hlt
          have : al.length ≤ i := hge
          have hlt' : i < ops.size := hlt
          omega
    · subst hout
      simp only at h
      cases hro : readsOk al (σ N) <;> rw [show readsOk al (walkS cf rf al d0 N) = readsOk al (σ N) from rfl, hro] at h
      · cases h
      · cases h
        have hc := OKC N (Nat.le_of_lt hN) htr
        obtain ⟨p, hinv⟩ := INIT N hc
        obtain ⟨hwt, hk, hcn, haft, st1, hdo, hst1⟩ := stop_spec hstop
        refine Cx.sim (m0 := m) (H0 := st.h) (w0 := w) (ds := a.defers) hc hF hX hro hcf hrf ?_ ?_ ops.size _ m st.fr p a _ (by simp) hcount hinv rfl
        · intro S m1 fr1 p1 a1 w1 hi1 hds hall
          have h1 := hall N (by rw [← hlen']; exact hN)
          have : N < N := hi1.bound N h1
          omega
        · intro S m1 fr1 p1 a1 w1 i K hi1 hds hge hlt hSi hr
          have hge' : N ≤ i := hge
          have hiN : i = N := by
            refine Classical.byContradiction fun hne => ?_
            obtain ⟨ao, k1, k2, k3⟩ := hget i ops[i] (by rw [Array.getElem?_toList]; exact Array.getElem?_eq_getElem hlt)
            have hb := allAfter_spec haft i ao k1 (by omega)
            rw [k3, Nat.zero_add] at hb
            have : N < N := hi1.bound N (hr N hb)
            omega
          subst hiN
          obtain ⟨ao, k1, k2, k3⟩ := hget i ops[i] (by rw [Array.getElem?_toList]; exact Array.getElem?_eq_getElem hlt)
          rw [Nat.zero_add] at k3
          rw [hao] at k1; cases k1
          have ho := Array.getElem?_eq_getElem hlt
          obtain ⟨⟨hwa, _⟩, hu⟩ := hi1.agree hc ho k2 (.inr rfl) hSi hr
          have hpN : p1 = i := by
            rcases hi1.front with q | ⟨q1, q2⟩
            · exact q
            · by_cases q : p1 = i
              · exact q
              · have hp : p1 ≤ i := hi1.hp
                have := hr p1 (by show ((Region.before ops).getD i 0).testBit p1 = true; rw [← k3]; exact hcn _ ((hc.chain_mem i (Nat.le_refl _)).2.1 p1 (by omega) q1))
                rw [this] at q2; cases q2
          subst hpN
          have hL : ∀ n ∈ opened o.bf (σ p1).seen (σ p1).news, n ∈ (Cx.mk nt ops bf al cf rf σ p1).shown p1 S := fun n hn => by
            unfold opened at hn
            rw [List.mem_filter, Bool.and_eq_true, Bool.not_eq_true'] at hn
            obtain ⟨q1, q2, q3⟩ := hn
            exact Cx.mem_shown.2 ⟨q1, hr _ (by show ((Region.before ops).getD p1 0).testBit n.op = true; rw [← k3]; exact q2), q3⟩
          have hsub := hi1.sub hc hL
          have hltL := hi1.lay_lt hc (L := opened o.bf (σ p1).seen (σ p1).news) fun n hn => (Cx.mem_shown.1 (hL n hn)).1
          have hnx : (lay (σ p1).h (opened o.bf (σ p1).seen (σ p1).news)).nx = ((Cx.mk nt ops bf al cf rf σ p1).view p1 S).nx := by unfold Cx.view; rw [lay_nx, lay_nx]
          have hlo : (lay (σ p1).h (opened o.bf (σ p1).seen (σ p1).news)).lo = ((Cx.mk nt ops bf al cf rf σ p1).view p1 S).lo := by unfold Cx.view; rw [lay_lo, lay_lo]
          obtain ⟨st2, hdo2, hh2, _⟩ := aDo_loc (fr2 := fr1) (hu.loc _) hdo
          unfold wpOpIn
          simp only [ho]
          rw [want_eq hi1.fri k2 (.inl (hwa.trans hwt)), hwa, show want (σ p1).fr o.guard = true from hwt, if_pos rfl]
          refine (do_sound hF hX k2 (st := { fr := fr1, df := [], h := lay (σ p1).h (opened o.bf (σ p1).seen (σ p1).news) }) hi1.fri (hi1.rel.sub hsub hltL) (fun j hj => by simp only; rw [hnx]; exact hi1.dom j hj) (hcf.mono hi1.step.le) (hrf.mono hi1.step.le) hdo2 ?_ ?_).1
          · intro m' v v' w' e; cases e
          · intro m' ch' w' e hfr' hs hrel hdom
            cases e
            rw [hh2, hst1] at hs hrel hdom
            have hall := (hi1.step.trans (Step.sub hsub hlo hnx)).trans hs
            exact hQ _ _ _ ⟨m', rfl, fun hne => absurd rfl (hne ch), by rw [hds]; exact hDf.mono hall.le, hall, hrel, hdom⟩

end Go.AX
/- The functions without a body that the Tri laws reach: bits.Add64, bits.Sub64, as the executor answers them. -/
namespace Go.AX.Tri
open Go.Proofs

def m64 : Nat := 18446744073709551616
def tx : XT := fun f args =>
  match f, args with
  | 67, [.int .u64 (.ofNat x), .int .u64 (.ofNat y), .int .u64 (.ofNat c)] => bif Nat.ble c 1 then some (.tuple #[.int .u64 (Int.ofNat ((x + y + c) % m64)), .int .u64 (Int.ofNat ((x + y + c) / m64))]) else none
  | 68, [.int .u64 (.ofNat x), .int .u64 (.ofNat y), .int .u64 (.ofNat c)] => bif Nat.ble c 1 then some (.tuple #[.int .u64 (Int.ofNat ((x + m64 - y - c) % m64)), .int .u64 (Int.ofNat (bif Nat.blt x (y + c) then 1 else 0))]) else none
  | _, _ => none

noncomputable def f67 : Func := match Try.prog.funcs[67]? with | some fn => fn | none => default
noncomputable def f68 : Func := match Try.prog.funcs[68]? with | some fn => fn | none => default
theorem get67 : Try.prog.funcs[67]? = some f67 := by kernel_rfl
theorem get68 : Try.prog.funcs[68]? = some f68 := by kernel_rfl
def sub64Entry : Array Value → Sem Value := fun args => do
  let (x, y, b) ← Extern.MathBitsCarry.three "Sub64" args
  pure (Extern.MathBitsCarry.pair ((x + Extern.MathBitsCarry.m64 - y - b) % Extern.MathBitsCarry.m64) (if x < y + b then 1 else 0))
theorem ext67 : Extern.find f67 = some add64Entry := by kernel_rfl
theorem ext68 : Extern.find f68 = some sub64Entry := by kernel_rfl

theorem run_sub64 (x y c : Nat) (hc : c ≤ 1) (w : World) : (sub64Entry #[.int .u64 (Int.ofNat x), .int .u64 (Int.ofNat y), .int .u64 (Int.ofNat c)]).run Try.prog w =
    .ok (.tuple #[.int .u64 (Int.ofNat ((x + m64 - y - c) % m64)), .int .u64 (Int.ofNat (bif Nat.blt x (y + c) then 1 else 0))]) w := by
  have : c = 0 ∨ c = 1 := by omega
  have E : ∀ k, (if x < y + k then (1 : Nat) else 0) = (bif Nat.blt x (y + k) then 1 else 0) := by
    intro k
    cases hb : Nat.blt x (y + k)
    · have : ¬ x < y + k := fun h => by rw [← Nat.blt_eq, hb] at h; cases h
      rw [if_neg this]; rfl
    · rw [Nat.blt_eq] at hb; rw [if_pos hb]; rfl
  rw [← E]
  rcases this with rfl | rfl <;> rfl

theorem xok : XOk Try.prog tx := by
  intro f args v h w
  unfold tx at h
  split at h
  · rename_i x y c
    cases hb : Nat.ble c 1 <;> rw [hb] at h
    · cases h
    · cases h
      have hc := Nat.le_of_ble_eq_true hb
      rw [run_callFunc_extern get67 (by kernel_rfl) (by kernel_rfl) (by kernel_rfl) ext67]
      have := run_add64 (P := Try.prog) (Int.ofNat x) (Int.ofNat y) (Int.ofNat c) (Int.natCast_nonneg _) (Int.natCast_nonneg _) (Int.natCast_nonneg _) (by simp; omega) w
      rw [this]
      rfl
  · rename_i x y c
    cases hb : Nat.ble c 1 <;> rw [hb] at h
    · cases h
    · cases h
      have hc := Nat.le_of_ble_eq_true hb
      rw [run_callFunc_extern get68 (by kernel_rfl) (by kernel_rfl) (by kernel_rfl) ext68]
      rw [run_sub64 x y c hc w]
      rfl
  · cases h

theorem mixed : Try.prog.follows .mixedOrders = true := by kernel_rfl

end Go.AX.Tri
