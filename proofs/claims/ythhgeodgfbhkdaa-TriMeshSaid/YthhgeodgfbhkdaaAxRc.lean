/- The executor's steps as a calculus of postconditions (3): frames, heaps, operations. -/
import Derived.Test.YthhgeodgfbhkdaaAxRb
set_option linter.unusedVariables false
set_option linter.unusedSimpArgs false
set_option linter.unusedSectionVars false
namespace Go.AX.Mc
open Go.AX
noncomputable section

/-! ## Frames -/
theorem tm_put (fr : Tr Value) (a b : Nat) (v : Value) : tmp (fr.put (pa a) v) (pa b) = if a = b then v else tmp fr (pa b) := by
  unfold tmp
  rw [Tr.get_put]
  by_cases h : a = b
  · subst h; rw [if_pos rfl, if_pos rfl]
  · rw [if_neg h, if_neg fun e => h (pa_inj e)]
theorem tmp_e (p : Pa) : tmp (Tr.e : Tr Value) p = undef := by unfold tmp; rw [Tr.get_empty]
theorem ev_t (fr : Tr Value) (p : Pa) : ev fr (.t p) = tmp fr p := rfl
theorem ev_c (fr : Tr Value) (v : Value) : ev fr (.c v) = v := rfl
theorem evs_nil (fr : Tr Value) : evs fr [] = [] := rfl
theorem evs_cons (fr : Tr Value) (x : Ar) (l : List Ar) : evs fr (x :: l) = ev fr x :: evs fr l := rfl
theorem evO_none (fr : Tr Value) : evO fr none = none := rfl
theorem evO_some (fr : Tr Value) (x : Ar) : evO fr (some x) = some (ev fr x) := rfl
theorem evP_nil (fr : Tr Value) : evP fr [] = [] := rfl
theorem evP_cons (fr : Tr Value) (a b : Nat) (x : Ar) (l : List (Nat × Nat × Ar)) : evP fr ((a, b, x) :: l) = (a, b, ev fr x) :: evP fr l := rfl
theorem puts_nil (x : Tr Value) (k : Nat) : x.puts k [] = x := rfl
theorem puts_cons (x : Tr Value) (k : Nat) (v : Value) (l : List Value) : x.puts k (v :: l) = (x.put (pa k) v).puts (k + 1) l := rfl

/-! ## Heaps: a base and blocks laid on it (none: a number that is kept, but not laid yet) -/
def pushO (H : AH) (b : Option AB) : AH := match b with
  | some x => H.push x
  | none => ⟨H.bl, H.nx + 1, H.lo⟩
def ext (H : AH) (L : List (Option AB)) : AH := L.foldl pushO H

theorem pushO_nx (H : AH) (b : Option AB) : (pushO H b).nx = H.nx + 1 := by cases b <;> rfl
theorem pushO_lo (H : AH) (b : Option AB) : (pushO H b).lo = H.lo := by cases b <;> rfl
theorem pushO_get_ne (H : AH) (b : Option AB) {i : Nat} (h : i ≠ H.nx) : (pushO H b).get i = H.get i := by
  cases b with
  | none => rfl
  | some x => exact AH.get_push_ne _ _ h
theorem ext_nx (H : AH) : ∀ L : List (Option AB), (ext H L).nx = H.nx + L.length := by
  intro L
  induction L generalizing H with
  | nil => rfl
  | cons b l ih => show (ext (pushO H b) l).nx = _; rw [ih, pushO_nx, List.length_cons]; omega
theorem ext_lo (H : AH) : ∀ L : List (Option AB), (ext H L).lo = H.lo := by
  intro L
  induction L generalizing H with
  | nil => rfl
  | cons b l ih => show (ext (pushO H b) l).lo = _; rw [ih, pushO_lo]
theorem ext_push (H : AH) (L : List (Option AB)) (b : AB) : (ext H L).push b = ext H (L ++ [some b]) := by
  unfold ext; rw [List.foldl_append]; rfl
theorem now_push (H : AH) (b : AB) : AH.push H.now b = ext H.now [some b] := rfl
theorem ext_nil (H : AH) : ext H [] = H := rfl
theorem ext_ext (H : AH) (L L' : List (Option AB)) : ext (ext H L) L' = ext H (L ++ L') := by
  unfold ext; rw [List.foldl_append]
theorem ext_get_old (H : AH) : ∀ (L : List (Option AB)) (b : Nat), b < H.nx → (ext H L).get b = H.get b := by
  intro L
  induction L generalizing H with
  | nil => intro b _; rfl
  | cons x l ih =>
    intro b hb
    show (ext (pushO H x) l).get b = _
    rw [ih _ b (by rw [pushO_nx]; omega), pushO_get_ne _ _ (by omega)]
def getN (x : Option (Option AB)) (y : Option AB) : Option AB := match x with
  | some (some b) => some b
  | _ => y
theorem getN_some (b : AB) (y : Option AB) : getN (some (some b)) y = some b := rfl
theorem ext_get_new (H : AH) : ∀ (L : List (Option AB)) (i : Nat), (ext H L).get (H.nx + i) = getN L[i]? (H.get (H.nx + i)) := by
  intro L
  induction L generalizing H with
  | nil => intro i; rfl
  | cons x l ih =>
    intro i
    show (ext (pushO H x) l).get _ = _
    cases i with
    | zero =>
      rw [ext_get_old _ _ _ (by rw [pushO_nx]; omega)]
      cases x with
      | none => rfl
      | some x => exact AH.get_push_same H x
    | succ i =>
      rw [List.getElem?_cons_succ, ← pushO_get_ne H x (show H.nx + (i + 1) ≠ H.nx by omega), show H.nx + (i + 1) = (pushO H x).nx + i by rw [pushO_nx]; omega]
      exact ih (pushO H x) i

theorem put_put_same {α : Type} : ∀ (p : Pa) (t : Tr α) (a b : α), (t.put p a).put p b = t.put p b
  | .e, t, a, b => rfl
  | .l p, t, a, b => by rw [Tr.put_l, Tr.put_l, Tr.put_l]; show Tr.n ((t.left.put p a).put p b) _ _ = _; rw [put_put_same p]; rfl
  | .r p, t, a, b => by rw [Tr.put_r, Tr.put_r, Tr.put_r]; show Tr.n _ _ ((t.right.put p a).put p b) = _; rw [put_put_same p]; rfl
theorem put_put_comm {α : Type} : ∀ (p q : Pa) (t : Tr α) (a b : α), p ≠ q → (t.put p a).put q b = (t.put q b).put p a
  | .e, .e, _, _, _, h => absurd rfl h
  | .e, .l q, t, a, b, _ => by simp only [Tr.put_e, Tr.put_l]; rfl
  | .e, .r q, t, a, b, _ => by simp only [Tr.put_e, Tr.put_r]; rfl
  | .l p, .e, t, a, b, _ => by simp only [Tr.put_e, Tr.put_l]; rfl
  | .r p, .e, t, a, b, _ => by simp only [Tr.put_e, Tr.put_r]; rfl
  | .l p, .r q, t, a, b, _ => by simp only [Tr.put_r, Tr.put_l]; rfl
  | .r p, .l q, t, a, b, _ => by simp only [Tr.put_r, Tr.put_l]; rfl
  | .l p, .l q, t, a, b, h => by
    simp only [Tr.put_l]
    show Tr.n ((t.left.put p a).put q b) _ _ = Tr.n ((t.left.put q b).put p a) _ _
    rw [put_put_comm p q t.left a b fun e => h (by rw [e])]; rfl
  | .r p, .r q, t, a, b, h => by
    simp only [Tr.put_r]
    show Tr.n _ _ ((t.right.put p a).put q b) = Tr.n _ _ ((t.right.put q b).put p a)
    rw [put_put_comm p q t.right a b fun e => h (by rw [e])]; rfl

/-- as 'set', but that what is oldest written stays. -/
def AH.st (H : AH) (b : Nat) (x : AB) : AH := ⟨H.bl.put (pa b) x, H.nx, H.lo⟩
theorem set_st (H : AH) (b : Nat) (x : AB) : H.set b x = ⟨(AH.st H b x).bl, (AH.st H b x).nx, min H.lo b⟩ := rfl
theorem pushO_st_same (H : AH) (a : Option AB) (b : AB) : AH.st (pushO H a) H.nx b = pushO H (some b) := by
  cases a with
  | none => rfl
  | some a => unfold pushO AH.push AH.st; simp only [put_put_same]
theorem pushO_st_ne (H : AH) (a : Option AB) (b : AB) (i : Nat) (h : i ≠ H.nx) : AH.st (pushO H a) i b = pushO (AH.st H i b) a := by
  cases a with
  | none => rfl
  | some a =>
    unfold pushO AH.push AH.st
    simp only
    rw [put_put_comm _ _ _ _ _ (fun e => h (pa_inj e).symm)]
theorem ext_st_old (H : AH) : ∀ (L : List (Option AB)) (i : Nat) (x : AB), i < H.nx → AH.st (ext H L) i x = ext (AH.st H i x) L := by
  intro L
  induction L generalizing H with
  | nil => intros; rfl
  | cons a l ih =>
    intro i x hi
    show AH.st (ext (pushO H a) l) i x = ext (pushO (AH.st H i x) a) l
    rw [ih _ i x (by rw [pushO_nx]; omega), pushO_st_ne _ _ _ _ (by omega)]
theorem ext_st_new (H : AH) : ∀ (L : List (Option AB)) (i : Nat) (x : AB), i < L.length → AH.st (ext H L) (H.nx + i) x = ext H (L.set i (some x)) := by
  intro L
  induction L generalizing H with
  | nil => intro i x hi; cases hi
  | cons a l ih =>
    intro i x hi
    cases i with
    | zero =>
      show AH.st (ext (pushO H a) l) H.nx x = ext (pushO H (some x)) l
      rw [ext_st_old _ _ _ _ (by rw [pushO_nx]; omega), pushO_st_same]
    | succ i =>
      show AH.st (ext (pushO H a) l) _ x = ext (pushO H a) (l.set i (some x))
      rw [← ih (pushO H a) i x (by simpa using hi), pushO_nx]
      congr 1; omega
theorem set_eq_st (H : AH) (i : Nat) (x : AB) (h : H.lo ≤ i) : H.set i x = AH.st H i x := by unfold AH.set AH.st; rw [Nat.min_eq_left h]
theorem ext_set_new (H : AH) (hlo : H.lo ≤ H.nx) (L : List (Option AB)) (i : Nat) (x : AB) (hi : i < L.length) : (ext H L).set (H.nx + i) x = ext H (L.set i (some x)) := by
  rw [set_eq_st _ _ _ (by rw [ext_lo]; omega), ext_st_new _ _ _ _ hi]
theorem ext_mk (H : AH) : ∀ (L : List (Option AB)) (lo : Nat), (⟨(ext H L).bl, (ext H L).nx, lo⟩ : AH) = ext ⟨H.bl, H.nx, lo⟩ L := by
  intro L
  induction L generalizing H with
  | nil => intro lo; rfl
  | cons a l ih =>
    intro lo
    show (⟨(ext (pushO H a) l).bl, (ext (pushO H a) l).nx, lo⟩ : AH) = ext (pushO ⟨H.bl, H.nx, lo⟩ a) l
    rw [ih]
    cases a <;> rfl
theorem ext_set_old (H : AH) (L : List (Option AB)) (i : Nat) (x : AB) (hi : i < H.nx) : (ext H L).set i x = ext (H.set i x) L := by
  rw [set_st, ext_st_old _ _ _ _ hi, ext_mk, ext_lo]; rfl

/-! ## Reading -/
def rdB (b : Option AB) (o n : Nat) : Option (List Value) :=
  match b with
  | some (.cells cs _ _) => bif Nat.ble (o + n) cs.length then some ((cs.drop o).take n) else none
  | _ => none
theorem rd_rdB (H : AH) (b o n : Nat) : rd H b o n = rdB (H.get b) o n := rfl
theorem rdB_cells (cs : List Value) (k z o n : Nat) : rdB (some (.cells cs k z)) o n = if o + n ≤ cs.length then some ((cs.drop o).take n) else none := by
  unfold rdB
  by_cases h : o + n ≤ cs.length
  · rw [if_pos h]; simp only [Nat.ble_eq_true_of_le h]; rfl
  · rw [if_neg h]; simp only [show Nat.ble (o + n) cs.length = false from Bool.eq_false_iff.2 fun e => h (Nat.le_of_ble_eq_true e)]; rfl
theorem rd_old (H : AH) (L : List (Option AB)) (b o n : Nat) (h : b < H.nx) : rd (ext H L) b o n = rd H b o n := by rw [rd_rdB, ext_get_old _ _ _ h, rd_rdB]
theorem rd_new (H : AH) (L : List (Option AB)) (i o n : Nat) : rd (ext H L) (H.nx + i) o n = rdB (getN L[i]? (H.get (H.nx + i))) o n := by rw [rd_rdB, ext_get_new]
theorem rd_new0 (H : AH) (L : List (Option AB)) (o n : Nat) : rd (ext H L) H.nx o n = rdB (getN L[0]? (H.get H.nx)) o n := rd_new H L 0 o n
theorem rd_now (H : AH) (b o n : Nat) : rd H.now b o n = rd H b o n := rfl
theorem now_lo (H : AH) : H.now.lo = H.nx := rfl
theorem now_nx (H : AH) : H.now.nx = H.nx := rfl
theorem now_le (H : AH) : H.now.lo ≤ H.now.nx := Nat.le_refl _
theorem now_get (H : AH) (b : Nat) : H.now.get b = H.get b := rfl

/-! ## Writing -/
def wrB (b : Option AB) (o : Nat) (vs : List Value) : Option AB :=
  match b with
  | some (.cells cs k z) => bif Nat.ble (o + vs.length) cs.length && !Nat.beq k 2 && vs.all flat then some (.cells (splice cs o vs) k z) else none
  | _ => none
theorem wrB_cells (cs : List Value) (k z o : Nat) (vs : List Value) : wrB (some (.cells cs k z)) o vs = if o + vs.length ≤ cs.length ∧ k ≠ 2 ∧ vs.all flat = true then some (.cells (splice cs o vs) k z) else none := by
  unfold wrB
  by_cases h : o + vs.length ≤ cs.length ∧ k ≠ 2 ∧ vs.all flat = true
  · rw [if_pos h]
    simp only [Nat.ble_eq_true_of_le h.1, nbeq h.2.1, h.2.2]; rfl
  · rw [if_neg h]
    cases hc : (Nat.ble (o + vs.length) cs.length && !Nat.beq k 2 && vs.all flat)
    · simp only [hc]; rfl
    · simp only [Bool.and_eq_true, Bool.not_eq_true'] at hc
      exact absurd ⟨Nat.le_of_ble_eq_true hc.1.1, fun e => by subst e; simp at hc, hc.2⟩ h
theorem wr_wrB (H : AH) (b o : Nat) (vs : List Value) : wr H b o vs = (wrB (H.get b) o vs).map (H.set b) := by
  unfold wr wrB
  cases H.get b with
  | none => rfl
  | some x =>
    cases x with
    | cells cs k z => simp only; cases (Nat.ble (o + vs.length) cs.length && !Nat.beq k 2 && vs.all flat) <;> rfl
    | _ => rfl
theorem wr_old (H : AH) (L : List (Option AB)) (b o : Nat) (vs : List Value) (h : b < H.nx) : wr (ext H L) b o vs = (wrB (H.get b) o vs).map fun x => ext (H.set b x) L := by
  rw [wr_wrB, ext_get_old _ _ _ h]
  cases wrB (H.get b) o vs with
  | none => rfl
  | some x => simp only [Option.map_some, ext_set_old _ _ _ _ h]
def wrN (x : Option (Option AB)) (H : AH) (L : List (Option AB)) (i o : Nat) (vs : List Value) : Option AH := match x with
  | some (some b) => (wrB (some b) o vs).map fun x => ext H (L.set i (some x))
  | _ => wr (ext H L) (H.nx + i) o vs
theorem wrN_some (b : AB) (H : AH) (L : List (Option AB)) (i o : Nat) (vs : List Value) : wrN (some (some b)) H L i o vs = (wrB (some b) o vs).map fun x => ext H (L.set i (some x)) := rfl
theorem wr_new (H : AH) (L : List (Option AB)) (i o : Nat) (vs : List Value) (hlo : H.lo ≤ H.nx) : wr (ext H L) (H.nx + i) o vs = wrN L[i]? H L i o vs := by
  cases hi : L[i]? with
  | none => rfl
  | some x =>
    cases x with
    | none => rfl
    | some b =>
      have hl := (List.getElem?_eq_some_iff.1 hi).1
      rw [wr_wrB, ext_get_new, hi, getN_some, wrN_some]
      cases wrB (some b) o vs with
      | none => rfl
      | some x => simp only [Option.map_some, ext_set_new _ hlo _ _ _ hl]
theorem wr_new0 (H : AH) (L : List (Option AB)) (o : Nat) (vs : List Value) (hlo : H.lo ≤ H.nx) : wr (ext H L) H.nx o vs = wrN L[0]? H L 0 o vs := wr_new H L 0 o vs hlo
theorem app_get (l m : List (Option AB)) (i : Nat) : (l ++ m)[l.length + i]? = m[i]? := by rw [List.getElem?_append_right (by omega)]; congr 1; omega
theorem app_get0 (l m : List (Option AB)) : (l ++ m)[l.length]? = m[0]? := app_get l m 0
theorem app_set (l m : List (Option AB)) (i : Nat) (x : Option AB) : (l ++ m).set (l.length + i) x = l ++ m.set i x := by rw [List.set_append_right _ _ (by omega)]; congr 2; omega
theorem app_set0 (l m : List (Option AB)) (x : Option AB) : (l ++ m).set l.length x = l ++ m.set 0 x := app_set l m 0 x

theorem flat_int (k : IntKind) (n : Int) : flat (.int k n) = true := rfl
theorem flat_bool (b : Bool) : flat (.bool b) = true := rfl
theorem flat_ptr (a : Option Addr) : flat (.pointer a) = true := rfl
theorem flat_slice (a : Option Addr) (l c : Nat) : flat (.slice a l c) = true := rfl
theorem flat_func (f : Fn) (a c : Array Value) : flat (.func f a c) = true := rfl
theorem flat_nilFunc : flat .nilFunc = true := rfl

/-! ## Cells -/
theorem cells_agg (l : List Value) : (Value.agg l.toArray).cells.toList = l := rfl
theorem cells_int (k : IntKind) (n : Int) : (Value.int k n).cells.toList = [.int k n] := rfl
theorem cells_bool (b : Bool) : (Value.bool b).cells.toList = [.bool b] := rfl
theorem cells_ptr (a : Option Addr) : (Value.pointer a).cells.toList = [.pointer a] := rfl
theorem cells_slice (a : Option Addr) (l c : Nat) : (Value.slice a l c).cells.toList = [.slice a l c] := rfl
theorem cells_func (f : Fn) (a c : Array Value) : (Value.func f a c).cells.toList = [.func f a c] := rfl
theorem splice_eq (cs : List Value) (o : Nat) (vs : List Value) : splice cs o vs = cs.take o ++ (vs ++ cs.drop (o + vs.length)) := rfl
theorem fillL_nil (cells : List Value) : fillL cells [] = some cells := rfl
theorem fillL_cons (cells : List Value) (off size : Nat) (v : Value) (l : List (Nat × Nat × Value)) : fillL cells ((off, size, v) :: l) =
    if v.cells.toList.length = size ∧ off + size ≤ cells.length then fillL (splice cells off v.cells.toList) l else none := by
  show (bif Nat.beq v.cells.toList.length size && Nat.ble (off + size) cells.length then _ else none) = _
  by_cases h : v.cells.toList.length = size ∧ off + size ≤ cells.length
  · rw [if_pos h, h.1, Nat.beq_refl, Nat.ble_eq_true_of_le h.2]; rfl
  · rw [if_neg h]
    cases hc : (Nat.beq v.cells.toList.length size && Nat.ble (off + size) cells.length)
    · rfl
    · simp only [Bool.and_eq_true] at hc
      exact absurd ⟨Nat.eq_of_beq_eq_true hc.1, Nat.le_of_ble_eq_true hc.2⟩ h

/-! ## Operations -/
variable (fr : Tr Value) (H : AH)
theorem e_mov (x : Ar) : oMov x fr H = some (.val (ev fr x) H) := rfl
def pick3 (c a b : Value) (H : AH) : Option ANext := match c with
  | .bool true => some (.val a H)
  | .bool false => some (.val b H)
  | _ => none
theorem e_pick (c a b : Ar) : oPick c a b fr H = pick3 (ev fr c) (ev fr a) (ev fr b) H := rfl
theorem pick3_t (a b : Value) : pick3 (.bool true) a b H = some (.val a H) := rfl
theorem pick3_f (a b : Value) : pick3 (.bool false) a b H = some (.val b H) := rfl
theorem e_alloc (z : List Value) : oAlloc z fr H = some (.val (ptr H.nx 0) (H.push (.cells z 0 0))) := rfl
theorem e_box (x : Ar) : oBox x fr H = some (.val (ptr H.nx 0) (H.push (.cells (ev fr x).cells.toList 0 0))) := rfl
def bld (x : Option (List Value)) (H : AH) : Option ANext := match x with
  | some cs => some (.val (.agg cs.toArray) H)
  | none => none
theorem e_build (z : List Value) (ps : List (Nat × Nat × Ar)) : oBuild z ps fr H = bld (fillL z (evP fr ps)) H := rfl
theorem bld_some (cs : List Value) : bld (some cs) H = some (.val (.agg cs.toArray) H) := rfl
def bldS (len : Nat) (x : Option (List Value)) (H : AH) : Option ANext := match x with
  | some cs => some (.val (sl H.nx 0 len len) (H.push (.cells cs 0 0)))
  | none => none
theorem e_buildSlice (len : Nat) (z : List Value) (ps : List (Nat × Nat × Ar)) : oBuildSlice len z ps fr H = bldS len (fillL z (evP fr ps)) H := rfl
theorem bldS_some (len : Nat) (cs : List Value) : bldS len (some cs) H = some (.val (sl H.nx 0 len len) (H.push (.cells cs 0 0))) := rfl
theorem ptr_eq (b o : Nat) : ptr b o = .pointer (some ⟨b, o, none⟩) := rfl
theorem sl_eq (b o l c : Nat) : sl b o l c = .slice (some ⟨b, o, none⟩) l c := rfl
def ldA (x : Option (List Value)) (H : AH) : Option ANext := match x with
  | some l => some (.val (.agg l.toArray) H)
  | none => none
def ldAV (n : Nat) (a : Value) (H : AH) : Option ANext := val? H (aLoadA n a H)
theorem e_loadA (n : Nat) (a : Ar) : oLoadA n a fr H = ldAV n (ev fr a) H := rfl
theorem ldAV_ptr (n b o : Nat) : ldAV n (.pointer (some ⟨b, o, none⟩)) H = ldA (rd H b o n) H := by
  unfold ldAV aLoadA ldA
  simp only
  cases rd H b o n <;> rfl
theorem ldA_some (l : List Value) : ldA (some l) H = some (.val (.agg l.toArray) H) := rfl
def ld1 (x : Option (List Value)) (H : AH) : Option ANext := match x with
  | some [v] => some (.val v H)
  | _ => none
def ld1V (a : Value) (H : AH) : Option ANext := val? H (aLoad1 a H)
theorem e_load1 (a : Ar) : oLoad1 a fr H = ld1V (ev fr a) H := rfl
theorem ld1V_ptr (b o : Nat) : ld1V (.pointer (some ⟨b, o, none⟩)) H = ld1 (rd H b o 1) H := by
  unfold ld1V aLoad1 ld1
  simp only
  cases rd H b o 1 with
  | none => rfl
  | some l => cases l with
    | nil => rfl
    | cons v l => cases l <;> rfl
theorem ld1_some (v : Value) : ld1 (some [v]) H = some (.val v H) := rfl
def stV (x : Option AH) : Option ANext := match x with
  | some H' => some (.val undef H')
  | none => none
theorem e_store (n : Nat) (a v : Ar) : oStore n a v fr H = aStore n (ev fr a) (ev fr v) H := rfl
theorem aStore_ptr (n b o : Nat) (v : Value) : aStore n (.pointer (some ⟨b, o, none⟩)) v H = if v.cells.toList.length = n then stV (wr H b o v.cells.toList) else none := by
  unfold aStore stV
  by_cases h : v.cells.toList.length = n
  · rw [if_pos h, h]; simp only [Nat.beq_refl, cond_true]; cases wr H b o v.cells.toList <;> rfl
  · rw [if_neg h]; simp only [nbeq h, cond_false]
theorem stV_some : stV (some H) = some (.val undef H) := rfl
def nilCk (v : Value) (H : AH) : Option ANext := match v with
  | .pointer (some ⟨b, o, none⟩) => some (.val (ptr b o) H)
  | .func (.func f) xs ys => some (.val (.func (.func f) xs ys) H)
  | _ => none
theorem e_nilCheck (x : Ar) : oNilCheck x fr H = nilCk (ev fr x) H := rfl
theorem nilCk_ptr (b o : Nat) : nilCk (.pointer (some ⟨b, o, none⟩)) H = some (.val (.pointer (some ⟨b, o, none⟩)) H) := rfl
theorem e_bin (P : Program) (op : BinOp) (ty : TypeId) (ox oy : Operand) (nk : Option NilK) (x y : Ar) : oBin P op ty ox oy nk x y fr H = aBin P op ty ox oy nk (ev fr x) (ev fr y) H := rfl
theorem keq_refl (k : IntKind) : keq k k = true := by cases k <;> rfl
theorem aBin_int (P : Program) (op : BinOp) (ty : TypeId) (ox oy : Operand) (nk : Option NilK) (k : IntKind) (m n : Int) (v : Value) (h : binInt op k m n = some v) : aBin P op ty ox oy nk (.int k m) (.int k n) H = some (.val v H) := by
  unfold aBin
  simp only [keq_refl, cond_true, h]
theorem bin_add (P : Program) (ty : TypeId) (ox oy : Operand) (nk : Option NilK) (k : IntKind) (m n : Int) : aBin P .add ty ox oy nk (.int k m) (.int k n) H = some (.val (.int k (wrapF k (m + n))) H) := aBin_int H P _ _ _ _ _ _ _ _ _ rfl
theorem bin_sub (P : Program) (ty : TypeId) (ox oy : Operand) (nk : Option NilK) (k : IntKind) (m n : Int) : aBin P .sub ty ox oy nk (.int k m) (.int k n) H = some (.val (.int k (wrapF k (m - n))) H) := aBin_int H P _ _ _ _ _ _ _ _ _ rfl
theorem bin_mul (P : Program) (ty : TypeId) (ox oy : Operand) (nk : Option NilK) (k : IntKind) (m n : Int) : aBin P .mul ty ox oy nk (.int k m) (.int k n) H = some (.val (.int k (wrapF k (m * n))) H) := aBin_int H P _ _ _ _ _ _ _ _ _ rfl
theorem bin_lss (P : Program) (ty : TypeId) (ox oy : Operand) (nk : Option NilK) (k : IntKind) (m n : Int) : aBin P .lss ty ox oy nk (.int k m) (.int k n) H = some (.val (.bool (decide (m < n))) H) := aBin_int H P _ _ _ _ _ _ _ _ _ rfl
theorem bin_leq (P : Program) (ty : TypeId) (ox oy : Operand) (nk : Option NilK) (k : IntKind) (m n : Int) : aBin P .leq ty ox oy nk (.int k m) (.int k n) H = some (.val (.bool (decide (m ≤ n))) H) := aBin_int H P _ _ _ _ _ _ _ _ _ rfl
theorem bin_gtr (P : Program) (ty : TypeId) (ox oy : Operand) (nk : Option NilK) (k : IntKind) (m n : Int) : aBin P .gtr ty ox oy nk (.int k m) (.int k n) H = some (.val (.bool (decide (n < m))) H) := aBin_int H P _ _ _ _ _ _ _ _ _ rfl
theorem bin_geq (P : Program) (ty : TypeId) (ox oy : Operand) (nk : Option NilK) (k : IntKind) (m n : Int) : aBin P .geq ty ox oy nk (.int k m) (.int k n) H = some (.val (.bool (decide (n ≤ m))) H) := aBin_int H P _ _ _ _ _ _ _ _ _ rfl
theorem int_beq (m n : Int) : (m == n) = decide (m = n) := by by_cases h : m = n <;> simp [h]
theorem bin_eql (P : Program) (ty : TypeId) (ox oy : Operand) (nk : Option NilK) (k : IntKind) (m n : Int) : aBin P .eql ty ox oy nk (.int k m) (.int k n) H = some (.val (.bool (decide (m = n))) H) :=
  aBin_int H P _ _ _ _ _ _ _ _ _ (by show some (Value.bool (m == n)) = _; rw [int_beq])
theorem bin_neq (P : Program) (ty : TypeId) (ox oy : Operand) (nk : Option NilK) (k : IntKind) (m n : Int) : aBin P .neq ty ox oy nk (.int k m) (.int k n) H = some (.val (.bool (!decide (m = n))) H) :=
  aBin_int H P _ _ _ _ _ _ _ _ _ (by show some (Value.bool (!(m == n))) = _; rw [int_beq])
def unV (P : Program) (op : UnOp) (v : Value) (H : AH) : Option ANext := match op, v with
  | .not, .bool b => some (.val (.bool (!b)) H)
  | op, v => bif clo 1 v then ofPR H (pure? P (Op.unary op v)) else none
theorem e_un (P : Program) (op : UnOp) (x : Ar) : oUn P op x fr H = unV P op (ev fr x) H := rfl
theorem unV_not (P : Program) (b : Bool) : unV P .not (.bool b) H = some (.val (.bool (!b)) H) := rfl
def cvI (k : IntKind) (v : Value) (H : AH) : Option ANext := match v with
  | .int _ n => some (.val (.int k (wrapF k n)) H)
  | _ => none
theorem e_cvtInt (k : IntKind) (x : Ar) : oCvtInt k x fr H = cvI k (ev fr x) H := rfl
theorem cvI_int (k j : IntKind) (n : Int) : cvI k (.int j n) H = some (.val (.int k (wrapF k n)) H) := rfl
def fldA (off : Nat) (v : Value) (H : AH) : Option ANext := match v with
  | .pointer (some ⟨b, o, none⟩) => some (.val (ptr b (o + off)) H)
  | _ => none
theorem e_fieldAddr (off : Nat) (x : Ar) : oFieldAddr off x fr H = fldA off (ev fr x) H := rfl
theorem fldA_ptr (off b o : Nat) : fldA off (.pointer (some ⟨b, o, none⟩)) H = some (.val (.pointer (some ⟨b, o + off, none⟩)) H) := rfl
def idxA (len n : Nat) (v i : Value) (H : AH) : Option ANext := match v, i with
  | .pointer (some ⟨b, o, none⟩), .int _ i => bif inB i len then some (.val (ptr b (o + i.toNat * n)) H) else none
  | _, _ => none
theorem e_indexAddrA (len n : Nat) (x i : Ar) : oIndexAddrA len n x i fr H = idxA len n (ev fr x) (ev fr i) H := rfl
theorem inB_iff {i : Int} {len : Nat} : inB i len = true ↔ 0 ≤ i ∧ i.toNat < len := by
  unfold inB
  cases i with
  | ofNat n => simp [Nat.blt_eq]
  | negSucc n => simp
theorem idxA_ptr (len n b o : Nat) (k : IntKind) (i : Int) : idxA len n (.pointer (some ⟨b, o, none⟩)) (.int k i) H = if 0 ≤ i ∧ i.toNat < len then some (.val (.pointer (some ⟨b, o + i.toNat * n, none⟩)) H) else none := by
  unfold idxA
  simp only
  by_cases h : 0 ≤ i ∧ i.toNat < len
  · rw [if_pos h, inB_iff.2 h]; rfl
  · rw [if_neg h, show inB i len = false from Bool.eq_false_iff.2 fun e => h (inB_iff.1 e)]; rfl
def idxS (n : Nat) (v i : Value) (H : AH) : Option ANext := match v, i with
  | .slice (some ⟨b, o, none⟩) len _, .int _ i | .slice (some ⟨b, o, some 0⟩) len _, .int _ i => bif inB i len then some (.val (ptr b (o + i.toNat * n)) H) else none
  | _, _ => none
theorem e_indexAddrS (n : Nat) (x i : Ar) : oIndexAddrS n x i fr H = idxS n (ev fr x) (ev fr i) H := rfl
theorem idxS_s (n b o len cap : Nat) (k : IntKind) (i : Int) : idxS n (.slice (some ⟨b, o, none⟩) len cap) (.int k i) H = if 0 ≤ i ∧ i.toNat < len then some (.val (.pointer (some ⟨b, o + i.toNat * n, none⟩)) H) else none := by
  unfold idxS
  simp only
  by_cases h : 0 ≤ i ∧ i.toNat < len
  · rw [if_pos h, inB_iff.2 h]; rfl
  · rw [if_neg h, show inB i len = false from Bool.eq_false_iff.2 fun e => h (inB_iff.1 e)]; rfl
theorem idxS_r (n b o len cap : Nat) (k : IntKind) (i : Int) : idxS n (.slice (some ⟨b, o, some 0⟩) len cap) (.int k i) H = if 0 ≤ i ∧ i.toNat < len then some (.val (.pointer (some ⟨b, o + i.toNat * n, none⟩)) H) else none := by
  unfold idxS
  simp only
  by_cases h : 0 ≤ i ∧ i.toNat < len
  · rw [if_pos h, inB_iff.2 h]; rfl
  · rw [if_neg h, show inB i len = false from Bool.eq_false_iff.2 fun e => h (inB_iff.1 e)]; rfl
def lnS (v : Value) (H : AH) : Option ANext := val? H (aLenS v)
theorem e_lenS (x : Ar) : oLenS x fr H = lnS (ev fr x) H := rfl
theorem lnS_s (b o l c : Nat) : lnS (.slice (some ⟨b, o, none⟩) l c) H = some (.val (.int .i64 l) H) := rfl
theorem lnS_r (b o l c : Nat) : lnS (.slice (some ⟨b, o, some 0⟩) l c) H = some (.val (.int .i64 l) H) := rfl
theorem lnS_0 (l c : Nat) : lnS (.slice none l c) H = some (.val (.int .i64 l) H) := rfl
def xtr (i : Nat) (v : Value) (H : AH) : Option ANext := match v with
  | .tuple vs => val? H vs[i]?
  | _ => none
theorem e_extract (i : Nat) (x : Ar) : oExtract i x fr H = xtr i (ev fr x) H := rfl
theorem xtr_0 (a : Value) (l : List Value) : xtr 0 (.tuple (a :: l).toArray) H = some (.val a H) := by simp [xtr, val?]
theorem xtr_1 (a b : Value) (l : List Value) : xtr 1 (.tuple (a :: b :: l).toArray) H = some (.val b H) := by simp [xtr, val?]
theorem xtr_2 (a b c : Value) (l : List Value) : xtr 2 (.tuple (a :: b :: c :: l).toArray) H = some (.val c H) := by simp [xtr, val?]
def idxV (len n : Nat) (agg : Bool) (v i : Value) (H : AH) : Option ANext := match v, i with
  | .agg cs, .int _ i => bif inB i len then
      (bif agg then some (.val (.agg (cs.extract (i.toNat * n) (i.toNat * n + n))) H) else val? H cs[i.toNat * n]?) else none
  | _, _ => none
theorem e_indexA (len n : Nat) (agg : Bool) (x i : Ar) : oIndexA len n agg x i fr H = idxV len n agg (ev fr x) (ev fr i) H := rfl
theorem e_enter (f : FuncId) (args : List Ar) : oEnter f args fr H = some (.enter f (evs fr args) H) := rfl
def clV (v : Value) (args : List Value) (H : AH) : Option ANext := match v with
  | .func (.func g) first cap => some (.enter g (first.toList ++ (args ++ cap.toList)) H)
  | .func (.yield l) first cap => bif first.isEmpty && cap.isEmpty then some (.round l args H) else none
  | _ => none
theorem e_callV (x : Ar) (args : List Ar) : oCallV x args fr H = clV (ev fr x) (evs fr args) H := rfl
theorem clV_func (g : FuncId) (first cap args : List Value) : clV (.func (.func g) first.toArray cap.toArray) args H = some (.enter g (first ++ (args ++ cap)) H) := rfl
theorem clV_yield (l : Nat) (args : List Value) : clV (.func (.yield l) #[] #[]) args H = some (.round l args H) := rfl
theorem e_mkFunc (f : FuncId) (xs ys : List Ar) : oMkFunc f xs ys fr H = some (.val (.func (.func f) (evs fr xs).toArray (evs fr ys).toArray) H) := rfl

/-! ## A function's end -/
theorem aRess_nil : aRess H fr [] = some [] := rfl
def aRes2 (x : Option Value) (y : Option (List Value)) : Option (List Value) := match x, y with
  | some v, some vs => some (v :: vs)
  | _, _ => none
theorem aRess_cons (a : ARes) (l : List ARes) : aRess H fr (a :: l) = aRes2 (aRes H fr a) (aRess H fr l) := rfl
theorem aRes2_some (v : Value) (vs : List Value) : aRes2 (some v) (some vs) = some (v :: vs) := rfl
theorem aRes_t (p : Pa) : aRes H fr (.t p) = some (tmp fr p) := rfl
def rsA (x : Option (List Value)) : Option Value := match x with
  | some l => some (.agg l.toArray)
  | none => none
def aLoadAV (n : Nat) (a : Value) (H : AH) : Option Value := aLoadA n a H
theorem aRes_cA (n : Nat) (p : Pa) : aRes H fr (.cA n p) = aLoadAV n (tmp fr p) H := rfl
theorem aLoadAV_ptr (n b o : Nat) : aLoadAV n (.pointer (some ⟨b, o, none⟩)) H = rsA (rd H b o n) := by
  unfold aLoadAV aLoadA rsA; simp only
  cases rd H b o n <;> rfl
theorem rsA_some (l : List Value) : rsA (some l) = some (.agg l.toArray) := rfl
theorem tupleOf_one (v : Value) : tupleOf [v] = v := rfl
theorem tupleOf_two (v w : Value) : tupleOf [v, w] = .tuple #[v, w] := rfl
theorem tupleOf_three (u v w : Value) : tupleOf [u, v, w] = .tuple #[u, v, w] := rfl
theorem tupleOf_nil : tupleOf [] = .tuple #[] := rfl
/-- the end of a function without deferred calls. -/
def End1 (H : AH) (vs : Option (List Value)) (Q : AEnd → AH → Prop) (h : AH) : Prop := match vs with
  | some vs => Q (.ret (tupleOf vs)) (trim H (tupleOf vs) h)
  | none => False
theorem Fin_ret (rs : List ARes) (Q : AEnd → AH → Prop) (h : AH) : Fin H rs Q .ret fr [] h = End1 H (aRess h fr rs) Q h := by
  unfold Fin End1 aEnd
  simp only [leave]
  cases aRess h fr rs with
  | none => simp
  | some vs =>
    simp only
    exact propext ⟨fun ⟨x, H', e, hq⟩ => by cases e; exact hq, fun hq => ⟨_, _, rfl, hq⟩⟩
theorem Fin_normal (rs : List ARes) (Q : AEnd → AH → Prop) (h : AH) : Fin H rs Q .normal fr [] h = End1 H (aRess h fr rs) Q h := Fin_ret fr H rs Q h
theorem End1_some (vs : List Value) (Q : AEnd → AH → Prop) (h : AH) : End1 H (some vs) Q h = Q (.ret (tupleOf vs)) (trim H (tupleOf vs) h) := rfl
/-- a value without addresses: nothing of the call is left. -/
theorem trim_clo (v : Value) (h : AH) (hv : clo 5 v = true) (hl : H.nx ≤ h.lo) : trim H v h = H := by
  unfold trim
  rw [hv, Nat.ble_eq_true_of_le hl]; rfl
theorem trim_ext_clo (v : Value) (L : List (Option AB)) (hv : clo 5 v = true) : trim H v (ext H.now L) = H := trim_clo H v _ hv (by rw [ext_lo]; exact Nat.le_refl _)

end
end Go.AX.Mc
