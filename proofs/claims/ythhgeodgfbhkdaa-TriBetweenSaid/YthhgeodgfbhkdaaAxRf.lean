/- The executor's steps as a calculus of postconditions (6): loops over functions. -/
import Derived.Test.YthhgeodgfbhkdaaAxRe
import Derived.Test.YthhgeodgfbhkdaaAxZA
import Derived.Carry
import Derived.Attr
set_option linter.unusedVariables false
set_option linter.unusedSimpArgs false
set_option linter.unusedSectionVars false
namespace Go.AX.Mc
open Go.AX
noncomputable section
variable {T : FT} {env : List Lp} {r : Bool}

theorem X_range {f : Ar} {ps : List Pa} {asg body : ACode} {k : List KF} {fr : Tr Value} {df : List Nat} {h : AH} {Q : QF} (g : FuncId) (first cap : Array Value) (hf : ev fr f = .func (.func g) first cap)
    (hc : C T (⟨h.nx + 1, fr, ps, asg, body⟩ :: env) g (first.toList ++ (.func (.yield (h.nx + 1)) #[] #[] :: cap.toList)) ((h.push .dfr).push (.loop .ready none)) fun y h1 =>
      ∃ v, y = .ret v ∧ h1.get (h.nx + 1) = some (.loop .ready none) ∧ Kt T env false k .normal fr (h.nx :: df) (h1.set (h.nx + 1) (.loop .exhausted none)) Q) :
    X T env false (.rangeF f ps asg body) k fr df h Q := by
  obtain ⟨n, x, h1, h2, v, rfl, h3, h4⟩ := hc
  refine ⟨n + 1, .normal, ⟨fr, h.nx :: df, h1.set (h.nx + 1) (.loop .exhausted none)⟩, ?_, h4⟩
  change cRange T (aCode T n) env false (ev fr f) ps asg body ⟨fr, df, h⟩ = _
  rw [hf]
  unfold cRange
  unfold aCall at h2
  simp only [h2]
  unfold cAfter
  simp only [h3]

theorem R_round {l : Nat} {fr0 fr : Tr Value} {ps : List Pa} {asg body : ACode} {args : List Value} {H : AH} {Q : AEnd → AH → Prop} (hl : H.get l = some (.loop .ready none)) (hp : putMany fr0 ps args = some fr)
    (hr : X T env true asg [] fr [] H fun e fr1 df1 h1 => e = .normal ∧ df1 = [] ∧ h1.get l = some (.loop .ready none) ∧
      X T env true body [] fr1 [] (h1.set l (.loop .busy none)) fun e fr2 df2 h2 => e = .normal ∧ df2 = [] ∧ (∃ p, h2.get l = some (.loop .busy p)) ∧ Q (.ret (.bool true)) (h2.set l (.loop .ready none))) :
    R T (⟨l, fr0, ps, asg, body⟩ :: env) l args H Q := by
  obtain ⟨n, e, st, h1, h2⟩ := hr
  obtain ⟨rfl, h3, h4, m, e2, st2, h5, h6⟩ := h2
  obtain ⟨rfl, h7, ⟨p, h8⟩, h9⟩ := h6
  refine ⟨max n m, .ret (.bool true), st2.h.set l (.loop .ready none), ?_, h9⟩
  unfold aRound findLp
  simp only [Nat.beq_refl, cond_true, hl, hp]
  rw [aCode_mono (Nat.le_max_left n m) _ _ _ _ _ h1]
  unfold rBody
  simp only [h4]
  obtain ⟨fr1, df1, hh1⟩ := st
  simp only at h3 h5
  subst h3
  rw [aCode_mono (Nat.le_max_right n m) _ _ _ _ _ h5]
  unfold rEnd
  obtain ⟨fr2, df2, hh2⟩ := st2
  simp only at h7 h8
  subst h7
  simp only [h8]

/-- from a call's start to its end: blocks that were there stay. -/
structure Ext (H h : AH) : Prop where
  nx : H.nx ≤ h.nx
  lo : h.lo = H.lo
  get : ∀ b, b < H.nx → h.get b = H.get b
theorem Ext.rd {H h : AH} (e : Ext H h) {b : Nat} (hb : b < H.nx) (o n : Nat) : rd h b o n = rd H b o n := by rw [rd_rdB, e.get b hb, rd_rdB]
theorem Ext.refl (H : AH) : Ext H H := ⟨Nat.le_refl _, rfl, fun _ _ => rfl⟩
theorem Ext.trans {a b c : AH} (h : Ext a b) (k : Ext b c) : Ext a c := ⟨Nat.le_trans h.nx k.nx, k.lo.trans h.lo, fun i hi => (k.get i (Nat.lt_of_lt_of_le hi h.nx)).trans (h.get i hi)⟩
theorem Ext.ext (H : AH) (L : List (Option AB)) : Ext H (ext H L) := ⟨by rw [ext_nx]; omega, ext_lo _ _, fun b hb => ext_get_old _ _ _ hb⟩

end
end Go.AX.Mc
/- The whole world as an abstract heap that is never written; from a contract of the calculus to a call in the model. -/
namespace Go.AX.Mc
open Go.AX
noncomputable section

/-- how the world lies: each block is itself. -/
def wM (N : Nat) : M := { bk := id, sp := fun _ => 0, dm := fun i => i < N, lp := fun _ => default }

theorem abs_ex (m : M) : ∀ (n : Nat) (v : Value), SizeOf.sizeOf v < n → ∃ a, VR m a v
  | 0, v, h => by omega
  | n + 1, v, h => by
    have F : ∀ l : List Value, (∀ x ∈ l, SizeOf.sizeOf x < n) → ∃ l', VRL m l' l := by
      intro l
      induction l with
      | nil => intro _; exact ⟨[], .nil⟩
      | cons x l ih =>
        intro hl
        obtain ⟨a, ha⟩ := abs_ex m n x (hl x (List.mem_cons_self ..))
        obtain ⟨l', hl'⟩ := ih fun y hy => hl y (List.mem_cons_of_mem _ hy)
        exact ⟨a :: l', .cons _ _ _ _ ha hl'⟩
    cases hf : flat v
    · match v, hf, h with
      | .agg cs, _, h =>
        obtain ⟨l', hl'⟩ := F cs.toList fun x hx => by
          have h1 := Array.sizeOf_lt_of_mem (Array.mem_toList_iff.1 hx)
          simp at h; omega
        exact ⟨.agg l'.toArray, .agg _ _ (by simpa using hl')⟩
      | .tuple cs, _, h =>
        obtain ⟨l', hl'⟩ := F cs.toList fun x hx => by
          have h1 := Array.sizeOf_lt_of_mem (Array.mem_toList_iff.1 hx)
          simp at h; omega
        exact ⟨.tuple l'.toArray, .tuple _ _ (by simpa using hl')⟩
    · exact ⟨.chan none, .top _ hf⟩

def absV (N : Nat) (v : Value) : Value := match v with
  | .int k n => .int k n
  | .bool b => .bool b
  | .slice none l c => .slice none l c
  | .slice (some ⟨b, o, none⟩) l c => if b < N then .slice (some ⟨b, o, none⟩) l c else if l = 0 then .slice (some ⟨0, 0, some 1⟩) 0 0 else .chan none
  | .slice (some ⟨_, _, some _⟩) l _ => if l = 0 then .slice (some ⟨0, 0, some 1⟩) 0 0 else .chan none
  | v => Classical.choose (abs_ex (wM N) (SizeOf.sizeOf v + 1) v (Nat.lt_succ_self _))
theorem absV_ok (N : Nat) (v : Value) : VR (wM N) (absV N v) v := by
  unfold absV
  split
  · exact .int _ _
  · exact .bool _
  · exact .sl0 _ _
  · split
    · rename_i h; exact .sl (m := wM N) _ _ _ _ h
    · split
      · rename_i h; subst h; exact .sle _ _ _ _
      · exact .top _ rfl
  · split
    · rename_i h; subst h; exact .sle _ _ _ _
    · exact .top _ rfl
  · exact Classical.choose_spec (abs_ex (wM N) (SizeOf.sizeOf _ + 1) _ (Nat.lt_succ_self _))
theorem absV_slice {N b o l c : Nat} (h : b < N) : absV N (.slice (some ⟨b, o, none⟩) l c) = .slice (some ⟨b, o, none⟩) l c := if_pos h
/-- a slice of no elements. -/
theorem absV_slice0 (N : Nat) (a : Addr) (c : Nat) : ∃ a' c', absV N (.slice (some a) 0 c) = .slice (some a') 0 c' ∧ (a'.spot = none ∨ a'.spot = some 1) := by
  obtain ⟨b, o, s⟩ := a
  cases s with
  | none =>
    by_cases h : b < N
    · exact ⟨_, _, if_pos h, .inl rfl⟩
    · refine ⟨⟨0, 0, some 1⟩, 0, ?_, .inr rfl⟩
      show (if b < N then _ else _) = _
      rw [if_neg h]; rfl
  | some s => exact ⟨⟨0, 0, some 1⟩, 0, rfl, .inr rfl⟩
theorem absL_ok (N : Nat) : ∀ l : List Value, VRL (wM N) (l.map (absV N)) l
  | [] => .nil
  | v :: l => .cons _ _ _ _ (absV_ok N v) (absL_ok N l)

/-! ## The heap -/
def embB (N : Nat) (o : Obj) : AB := match o with
  | .cells c _ _ => .cells (c.toList.map (absV N)) 2 0
  | _ => .dead
def embT (N : Nat) : Nat → List Obj → Tr AB → Tr AB
  | _, [], t => t
  | k, o :: l, t => embT N (k + 1) l (t.put (pa k) (embB N o))
theorem embT_get (N : Nat) : ∀ (l : List Obj) (k i : Nat) (t : Tr AB), (embT N k l t).get (pa i) = if k ≤ i ∧ i < k + l.length then (l[i - k]?).map (embB N) else t.get (pa i)
  | [], k, i, t => by simp [embT]; omega
  | o :: l, k, i, t => by
    simp only [embT, List.length_cons]
    rw [embT_get N l (k + 1) i, Tr.get_put]
    by_cases h1 : i = k
    · subst h1
      rw [if_neg (by omega), if_pos rfl, if_pos (by omega), Nat.sub_self]; rfl
    · rw [if_neg (fun e => h1 (pa_inj e).symm)]
      by_cases h2 : k + 1 ≤ i ∧ i < k + 1 + l.length
      · rw [if_pos h2, if_pos (by omega), show i - k = (i - (k + 1)) + 1 by omega, List.getElem?_cons_succ]
      · rw [if_neg h2, if_neg (by omega)]
def emb (W : World) : AH := ⟨embT W.heap.size 0 W.heap.toList .e, W.heap.size, W.heap.size⟩
theorem emb_get (W : World) (i : Nat) : (emb W).get i = (W.heap[i]?).map (embB W.heap.size) := by
  show (embT W.heap.size 0 W.heap.toList .e).get (pa i) = _
  rw [embT_get, Tr.get_empty]
  by_cases h : i < W.heap.size
  · rw [if_pos ⟨Nat.zero_le _, by simpa using h⟩]; simp
  · rw [if_neg (by simpa using h), Array.getElem?_eq_none (by omega)]; rfl
theorem emb_lt {W : World} {i : Nat} {b : AB} (h : (emb W).get i = some b) : i < W.heap.size := by
  rw [emb_get] at h
  by_cases hi : i < W.heap.size
  · exact hi
  · rw [Array.getElem?_eq_none (by omega)] at h; cases h
theorem emb_rel (W : World) : Rel (wM W.heap.size) (emb W) W where
  blk i b h := by
    rw [emb_get] at h
    show BR _ i b W.heap[i]?
    cases ho : W.heap[i]? with
    | none => rw [ho] at h; cases h
    | some o =>
      rw [ho] at h
      cases h
      cases o with
      | cells c t f => obtain ⟨f1, f2⟩ := f; exact .cells _ 2 0 c t f1 f2 (fun _ => by simp) (fun e => by cases e) (by rw [List.take_of_length_le (by simp)]; exact absL_ok _ _) (.inl rfl)
      | _ => exact .dead _
  dm i b h _ := emb_lt h
  inj i j b c _ _ _ _ e := e
  lt i b h := emb_lt h
theorem emb_dom (W : World) : Dom (wM W.heap.size) (emb W) := fun i h => h
/-- cells that stand in the world. -/
theorem emb_rd {W : World} {b o : Nat} {l : List Value} (h : ∀ j v, l[j]? = some v → W.cell? ⟨b, o + j, none⟩ = some v) (hb : b < W.heap.size) (hl : l ≠ []) : rd (emb W) b o l.length = some (l.map (absV W.heap.size)) := by
  rw [rd_rdB, emb_get]
  have h0 := h 0 _ (List.getElem?_eq_getElem (List.length_pos_iff.2 hl))
  unfold World.cell? at h0
  cases ho : W.heap[b]? with
  | none => simp [ho] at h0
  | some ob =>
    cases ob with
    | cells c t f =>
      simp only [Option.map_some, embB]
      rw [rdB_cells]
      have hc : ∀ j v, l[j]? = some v → c[o + j]? = some v := by
        intro j v hj
        have := h j v hj
        simpa [World.cell?, ho] using this
      have hlen : o + l.length ≤ c.size := by
        have hp := List.length_pos_iff.2 hl
        have := hc (l.length - 1) _ (List.getElem?_eq_getElem (by omega))
        have := (Array.getElem?_eq_some_iff.1 this).1
        omega
      rw [if_pos (by simpa using hlen)]
      congr 1
      apply List.ext_getElem?
      intro j
      rw [List.getElem?_take]
      by_cases hj : j < l.length
      · rw [if_pos hj, List.getElem?_drop, List.getElem?_map, List.getElem?_map, List.getElem?_eq_getElem hj]
        have := hc j _ (List.getElem?_eq_getElem hj)
        rw [Array.getElem?_toList, this]
      · rw [if_neg hj, List.getElem?_map, List.getElem?_eq_none (by omega)]; rfl
    | _ => simp [ho] at h0

/-- A law's contract, in the model: it answers true, and what was there stays. -/
theorem law_calls {P : Program} {X : XT} {T : FT} (hX : XOk P X) (hT : ∀ f fn, T f = some fn → prepF P X f = some fn) (hP : P.follows .mixedOrders = true) {f : FuncId} {args : Array Value} {W : World} {v : Value} (hv : ∀ d, clo d v = true)
    (h : C T [] f (args.toList.map (absV W.heap.size)) (emb W) fun x H' => x = .ret v ∧ H' = emb W) : Calls P f args W fun e W' => e = .returned v ∧ RowKit.Below W.heap.size W W' := by
  obtain ⟨n, x, H', h1, rfl, rfl⟩ := h
  refine (call_ok hX hT (draw_ok hX hP) (emb_rel W) (emb_dom W) (absL_ok _ _) h1).mono ?_
  rintro e W' ⟨m', hs, hr, hd, v', rfl, hv'⟩
  refine ⟨by rw [VR.eq_of_clo 1 (hv 1) hv'], hs.os, hs.tape, hs.output, hs.size, ?_⟩
  intro b hb
  refine hs.blk b hb ?_
  intro j y hj hy hlo
  have h1 := emb_lt hj
  have : (emb W).lo = W.heap.size := rfl
  omega

end
end Go.AX.Mc

namespace Go.AX.Mc
open Go Go.ChangeShapes Go.RowKit
section
variable {H : Type} {enc : TypeId × Value → H} {P : Program}

theorem trodAll_stays (hl : laidOutB P = true) {W W' : World} (hb : Below W.heap.size W W') (sp : Nat → Bool) : ∀ {ts : List TypeId} {vs : List Value} {ds : List (DataW H)} {ps : List MemPlace}, (∀ t ∈ ts, P.readableRec t = true ∧ t < P.types.size) →
    (∀ p ∈ ps, p.block < W.heap.size) → (∀ p ∈ ps, sp p.block = true) → DataW.TrodAll enc P W 0 (fun _ => true) true ts vs ds ps → DataW.TrodAll enc P W' 0 sp true ts vs ds ps
  | [], [], [], _, _, _, _, h => h
  | t :: ts, v :: vs, d :: ds, _, ht, hlt, hsp, ⟨p, q, h1, h2, e⟩ => by
    subst e
    refine ⟨p, q, ?_, ?_, rfl⟩
    · exact WideElems.Trod_stays hl (ht t (List.mem_cons_self ..)).1 (ht t (List.mem_cons_self ..)).2 h1 (fun x hx => hb.same (hlt x (List.mem_append_left _ hx))) (fun x hx => hsp x (List.mem_append_left _ hx))
    · exact trodAll_stays hl hb sp (fun t h => ht t (List.mem_cons_of_mem _ h)) (fun p h => hlt p (List.mem_append_right _ h)) (fun p h => hsp p (List.mem_append_right _ h)) h2

theorem post_of_below {f : Func} {s : ChangeSpec} {apart fresh handsOn again : Bool} {W W' : World} {args : Array Value} {v : Value} {ds gs : List (DataW H)} {before pa pv : List MemPlace}
    (hW : DataW.Whole enc P f.params.toList s.vars apart W args.toList ds gs before) (hb : Below W.heap.size W W')
    (hres : ∀ (b : Nat) (sp : Nat → Bool) (hd : Bool), DataW.TrodAll enc P W' b sp hd f.resultTypes.toList (v.resultList f.resultTypes.size) (s.fn H (ds ++ gs)).results [])
    (hargs : ∀ sp : Nat → Bool, (∀ p ∈ before, sp p.block = true) → DataW.TrodAll enc P W' 0 sp true f.params.toList args.toList (s.fn H (ds ++ gs)).args pa)
    (hvars : ∀ sp : Nat → Bool, (∀ p ∈ before, sp p.block = true) → DataW.TrodVars enc P W' sp s.vars (s.fn H (ds ++ gs)).vars pv)
    (hps : before = pa ++ pv)
    (hok : ∀ (j : Nat) (t : TypeId) (r : Value), f.resultTypes[j]? = some t → (v.resultList f.resultTypes.size)[j]? = some r → Value.okWide P W' .any 0 t r) :
    s.post enc P f apart fresh handsOn again W args v W' := by
  have hold : ∀ p ∈ before, (fun b => decide (b < W.heap.size)) p.block = true := fun p hp => by simpa using hW.lt p hp
  have hlt := hW.lt
  refine ⟨ds, gs, before, [], pa, pv, hW, hres _ _ _, hargs _ hold, hvars _ hold, World.keptBut_mono (fun p hp => ⟨hp, ?_⟩) (hb.frame (· ∈ before)), fun _ => ?_⟩
  · rw [hps, List.mem_append] at hp
    exact Or.inr hp
  · obtain ⟨_, _, _, _, _, hz, hn⟩ := hW
    refine ⟨hok, _, _, ([] ++ pa) ++ pv, ⟨[] ++ pa, pv, trodAll_append (hargs _ (fun _ _ => rfl)) (hres _ _ _), hvars _ (fun _ _ => rfl), rfl, ?_, ?_⟩, ?_⟩
    · intro b off hp
      have hp' : MemPlace.cell b off ∈ before := by rw [hps]; simpa using hp
      rw [hb.frozen (hlt _ hp')]
      exact hz b off hp'
    · intro ha
      have := hn ha
      rw [hps] at this
      simpa using this
    · intro p hp _
      rw [hps]
      simpa using hp
end
end Go.AX.Mc
/- The calculus' lemmas as one set. -/
namespace Go.AX.Mc
open Go.AX
attribute [go_sem] K_nil K_seq K_seq_ret K_seq_exit K_blk K_blk_ret K_blk_exit X_seq X_skip X_ret X_exit X_scope X_block X_cond X_region O_nil O_P O_G V_val V_val0 V_enter V_round
attribute [go_sem] CK_ret CK_ret0 Gd_tt Gd_ff Gd_tf Gd_ft Gd_u Cd_true Cd_false tm_put tmp_e ev_t ev_c evs_nil evs_cons evO_none evO_some evP_nil evP_cons puts_nil puts_cons rd_sset
attribute [go_sem] rd_sne get_sset get_sne rd_ssame rd_old wr_old rd_now now_get ext_get_new lt_now succ_lt rd_snew rd_snew0 nx_set' now_push ext_push ext_nx getN_some rd_new
attribute [go_sem] rd_new0 rdB_cells wr_new wr_new0 wrN_some wrB_cells app_get app_get0 app_set app_set0 now_le flat_int flat_bool flat_ptr flat_slice flat_func flat_nilFunc
attribute [go_sem] cells_agg cells_int cells_bool cells_ptr cells_slice cells_func splice_eq fillL_nil fillL_cons e_sliceS e_append e_minmax mmV_max2 mmV_min2 mmV_max3 mmV_min3
attribute [go_sem] e_ext e_mov e_pick pick3_t pick3_f e_alloc e_box e_build bld_some e_buildSlice bldS_some ptr_eq sl_eq e_loadA ldAV_ptr ldA_some e_load1 ld1V_ptr ld1_some e_store
attribute [go_sem] aStore_ptr stV_some e_nilCheck nilCk_ptr e_bin bin_lss bin_leq bin_gtr bin_geq bin_eql bin_neq e_un unV_not unV_neg_w e_cvtInt cvI_int e_fieldAddr fldA_ptr
attribute [go_sem] e_indexAddrA idxA_ptr e_indexAddrS idxS_s idxS_r e_lenS lnS_s lnS_r lnS_0 e_extract xtr_0 xtr_1 xtr_2 e_indexA idxV_t idxV_f vl_some e_enter e_callV clV_func
attribute [go_sem] clV_yield e_mkFunc bb_tt bb_ff bb_tf bb_ft clo_sl0 trim_ext_clo trim_now_clo clo_int clo_bool clo_tuple5 clo_agg5 clo_agg4 clo_agg3 aRess_nil aRess_cons
attribute [go_sem] aRes2_some aRes_t aRes_cA aLoadAV_ptr rsA_some tupleOf_one tupleOf_two tupleOf_three tupleOf_nil Fin_ret Fin_normal End1_some D_nil D_G D_O DO_P DO_R DO_N DO_E
attribute [go_sem] DP_val DP_val0 DR_val DN_some DE_val DE_val0 DE_enter DE_round DK_ret DK_ret0 DG_tt DG_ff DG_tf DG_ft DG_u ext_keep keep0 lay_nil lay_cons lay_cons0 opened_nil
attribute [go_sem] opened_cons readsOk_nil readsOk_cons readsAll_nil readsAll_cons readsAt_nil readsAt_cons readAt_eq veqV_val veq_int veq_bool veq_ptr veq_slice veq_agg6 bfAt_zero
attribute [go_sem] bfAt_succ nw_alloc nw_box nw_buildSlice nwS_some
attribute [go_sem] Nat.add_left_cancel_iff Nat.add_lt_add_iff_left Nat.lt_add_right List.append_assoc List.length_append decide_true decide_false List.nil_append List.cons_append
attribute [go_sem] List.append_nil List.length_cons List.length_nil List.getElem?_cons_zero List.getElem?_cons_succ List.take_succ_cons List.take_zero List.drop_succ_cons
attribute [go_sem] List.drop_zero List.set_cons_zero List.set_cons_succ List.all_cons List.all_nil Option.map_some Nat.lt_add_one Nat.zero_lt_succ Nat.lt_irrefl Nat.zero_add
attribute [go_sem] Nat.add_zero Nat.zero_mul Nat.mul_zero Nat.le_refl Nat.zero_le and_self and_true true_and ne_eq not_true_eq_false not_false_eq_true Bool.and_true Bool.true_and
attribute [go_sem] Bool.and_self Int.toNat_natCast Int.natCast_nonneg Int.natCast_zero Bool.not_true Bool.not_false List.filter_nil List.filter_cons List.map_cons List.map_nil
attribute [go_sem] Nat.zero_or List.zip_cons_cons List.zip_nil_left Nat.testBit Nat.one_and_eq_mod_two Bool.and_false Bool.false_and Bool.false_eq_true BEq.rfl List.replicate_zero
attribute [go_sem] List.replicate_succ
end Go.AX.Mc
