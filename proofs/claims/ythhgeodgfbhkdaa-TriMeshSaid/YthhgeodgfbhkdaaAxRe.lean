/- The executor's steps as a calculus of postconditions (5): more operations on numbers. -/
import Derived.Test.YthhgeodgfbhkdaaAxRd
import Derived.Test.YthhgeodgfbhkdaaAxF
import Derived.Attr
set_option linter.unusedVariables false
set_option linter.unusedSimpArgs false
set_option linter.unusedSectionVars false
namespace Go.AX.Mc
open Go.AX
noncomputable section
variable (H : AH) (P : Program) (ty : TypeId) (ox oy : Operand) (nk : Option NilK)

theorem clo_int (d : Nat) (k : IntKind) (n : Int) : clo d (.int k n) = true := by cases d <;> rfl
theorem clo_bool (d : Nat) (b : Bool) : clo d (.bool b) = true := by cases d <;> rfl
theorem clo_tuple (d : Nat) (l : List Value) : clo (d + 1) (.tuple l.toArray) = l.all (clo d) := rfl
theorem clo_agg (d : Nat) (l : List Value) : clo (d + 1) (.agg l.toArray) = l.all (clo d) := rfl
theorem clo_tuple5 (l : List Value) : clo 5 (.tuple l.toArray) = l.all (clo 4) := rfl
theorem clo_agg5 (l : List Value) : clo 5 (.agg l.toArray) = l.all (clo 4) := rfl
theorem clo_agg4 (l : List Value) : clo 4 (.agg l.toArray) = l.all (clo 3) := rfl
theorem clo_agg3 (l : List Value) : clo 3 (.agg l.toArray) = l.all (clo 2) := rfl

theorem aBin_ofPR (op : BinOp) (k j : IntKind) (m n : Int) (h : keq k j = true → binInt op k m n = none) (x : PR Value) (hx : pure? P (do eqGuard op ty ox oy (.int k m) (.int j n); binOp op ty (.int k m) (.int j n)) = x) :
    aBin P op ty ox oy nk (.int k m) (.int j n) H = ofPR H x := by
  unfold aBin
  have e : aBin' P op ty ox oy nk (.int k m) (.int j n) H = ofPR H x := by
    unfold aBin'
    rw [clo_int, clo_int, hx]; rfl
  cases hk : keq k j
  · simp only [hk, cond_false, e]
  · simp only [hk, cond_true, h hk, e]

theorem ofPR_int (k : IntKind) (n : Int) : ofPR H (.ok (.int k n)) = some (.val (.int k n) H) := by simp only [ofPR, clo_int, cond_true]

theorem bin_quo (k : IntKind) (m n : Int) (hn : n ≠ 0) : aBin P .quo ty ox oy nk (.int k m) (.int k n) H = some (.val (.int k (k.wrap (m.tdiv n))) H) := by
  rw [aBin_ofPR H P ty ox oy nk .quo k k m n (fun _ => rfl) (.ok (.int k (k.wrap (m.tdiv n)))) ?_, ofPR_int]
  show pure? P (if k ≠ k then _ else if n = 0 then _ else _) = _
  rw [if_neg (by simp), if_neg hn]; rfl
theorem bin_rem (k : IntKind) (m n : Int) (hn : n ≠ 0) : aBin P .rem ty ox oy nk (.int k m) (.int k n) H = some (.val (.int k (m.tmod n)) H) := by
  rw [aBin_ofPR H P ty ox oy nk .rem k k m n (fun _ => rfl) (.ok (.int k (m.tmod n))) ?_, ofPR_int]
  show pure? P (if k ≠ k then _ else if n = 0 then _ else _) = _
  rw [if_neg (by simp), if_neg hn]; rfl
theorem bin_and0 (k : IntKind) (m n : Int) : aBin P .and ty ox oy nk (.int k m) (.int k n) H = some (.val (.int k (k.wrap (BitVec.ofInt k.bits m &&& BitVec.ofInt k.bits n).toNat)) H) := by
  rw [aBin_ofPR H P ty ox oy nk .and k k m n (fun _ => rfl) (.ok (.int k (k.wrap (BitVec.ofInt k.bits m &&& BitVec.ofInt k.bits n).toNat))) ?_, ofPR_int]
  show pure? P (if k ≠ k then _ else _) = _
  rw [if_neg (by simp)]; rfl
theorem bin_or0 (k : IntKind) (m n : Int) : aBin P .or ty ox oy nk (.int k m) (.int k n) H = some (.val (.int k (k.wrap (BitVec.ofInt k.bits m ||| BitVec.ofInt k.bits n).toNat)) H) := by
  rw [aBin_ofPR H P ty ox oy nk .or k k m n (fun _ => rfl) (.ok (.int k (k.wrap (BitVec.ofInt k.bits m ||| BitVec.ofInt k.bits n).toNat))) ?_, ofPR_int]
  show pure? P (if k ≠ k then _ else _) = _
  rw [if_neg (by simp)]; rfl
theorem bin_shl0 (k j : IntKind) (m : Int) (n : Nat) : aBin P .shl ty ox oy nk (.int k m) (.int j n) H = some (.val (.int k (k.wrap (m * 2 ^ (min n k.bits)))) H) := by
  rw [aBin_ofPR H P ty ox oy nk .shl k j m n (fun _ => rfl) (.ok (.int k (k.wrap (m * 2 ^ (min n k.bits))))) ?_, ofPR_int]
  show pure? P (Op.shift .shl k m j n) = _
  unfold Op.shift
  rw [if_neg (by omega)]; rfl
theorem bin_shr0 (k j : IntKind) (m : Int) (n : Nat) : aBin P .shr ty ox oy nk (.int k m) (.int j n) H = some (.val (.int k (m.fdiv (2 ^ (min n k.bits)))) H) := by
  rw [aBin_ofPR H P ty ox oy nk .shr k j m n (fun _ => rfl) (.ok (.int k (m.fdiv (2 ^ (min n k.bits))))) ?_, ofPR_int]
  show pure? P (Op.shift .shr k m j n) = _
  unfold Op.shift
  rw [if_neg (by omega)]; rfl
theorem unV_neg (k : IntKind) (m : Int) : unV P .neg (.int k m) H = some (.val (.int k (k.wrap (0 - m))) H) := by
  show (bif clo 1 (.int k m) then ofPR H (.ok (.int k (k.wrap (0 - m)))) else none) = _
  rw [clo_int, ofPR_int]; rfl

theorem bin_quo_w (k : IntKind) (m n : Int) (hn : n ≠ 0) : aBin P .quo ty ox oy nk (.int k m) (.int k n) H = some (.val (.int k (wrapF k (m.tdiv n))) H) := by rw [bin_quo _ _ _ _ _ _ _ _ _ hn, wrapF_eq]
theorem bin_and (k : IntKind) (m n : Int) : aBin P .and ty ox oy nk (.int k m) (.int k n) H = some (.val (.int k (wrapF k (BitVec.ofInt k.bits m &&& BitVec.ofInt k.bits n).toNat)) H) := by rw [bin_and0, wrapF_eq]
theorem bin_or (k : IntKind) (m n : Int) : aBin P .or ty ox oy nk (.int k m) (.int k n) H = some (.val (.int k (wrapF k (BitVec.ofInt k.bits m ||| BitVec.ofInt k.bits n).toNat)) H) := by rw [bin_or0, wrapF_eq]
theorem bin_shl (k j : IntKind) (m : Int) (n : Nat) : aBin P .shl ty ox oy nk (.int k m) (.int j n) H = some (.val (.int k (wrapF k (m * 2 ^ (min n k.bits)))) H) := by rw [bin_shl0, wrapF_eq]
theorem bin_shl16 (k j : IntKind) (m : Int) : aBin P .shl ty ox oy nk (.int k m) (.int j 16) H = some (.val (.int k (wrapF k (m * 2 ^ (min 16 k.bits)))) H) := bin_shl H P ty ox oy nk k j m 16
theorem bin_shr1 (k j : IntKind) (m : Int) : aBin P .shr ty ox oy nk (.int k m) (.int j 1) H = some (.val (.int k (m.fdiv (2 ^ (min 1 k.bits)))) H) := bin_shr0 H P ty ox oy nk k j m 1
theorem bin_shr16 (k j : IntKind) (m : Int) : aBin P .shr ty ox oy nk (.int k m) (.int j 16) H = some (.val (.int k (m.fdiv (2 ^ (min 16 k.bits)))) H) := bin_shr0 H P ty ox oy nk k j m 16
theorem bin_shr32 (k j : IntKind) (m : Int) : aBin P .shr ty ox oy nk (.int k m) (.int j 32) H = some (.val (.int k (m.fdiv (2 ^ (min 32 k.bits)))) H) := bin_shr0 H P ty ox oy nk k j m 32
theorem unV_neg_w (k : IntKind) (m : Int) : unV P .neg (.int k m) H = some (.val (.int k (wrapF k (-m))) H) := by rw [unV_neg, wrapF_eq, Int.zero_sub]
theorem w64_id {n : Int} (h1 : -9223372036854775808 ≤ n) (h2 : n < 9223372036854775808) : wrapF .i64 n = n := by
  unfold wrapF wS
  rw [show (decide (-9223372036854775808 ≤ n) && decide (n < 9223372036854775808)) = true by simp [h1, h2]]; rfl
theorem w32_id {n : Int} (h1 : -2147483648 ≤ n) (h2 : n < 2147483648) : wrapF .i32 n = n := by
  unfold wrapF wS
  rw [show (decide (-2147483648 ≤ n) && decide (n < 2147483648)) = true by simp [h1, h2]]; rfl
def mmV (isMax : Bool) (P : Program) (args : List Value) (H : AH) : Option ANext := bif args.all (clo 1) then ofPR H (pure? P (bif isMax then Builtin.max_ #[] 0 args.toArray else Builtin.min_ #[] 0 args.toArray)) else none
theorem e_minmax (P : Program) (isMax : Bool) (args : List Ar) (fr : Tr Value) (H : AH) : oMinmax P isMax args fr H = mmV isMax P (evs fr args) H := rfl
def mx (a b : Int) : Int := if b > a then b else a
def mn (a b : Int) : Int := if b < a then b else a
theorem mx_eq (a b : Int) : mx a b = max a b := by unfold mx; omega
theorem mn_eq (a b : Int) : mn a b = min a b := by unfold mn; omega
theorem mmV_max2 (P : Program) (k : IntKind) (a b : Int) (H : AH) : mmV true P [.int k a, .int k b] H = some (.val (.int k (max a b)) H) := by
  rw [← mx_eq]
  show (bif (clo 1 (.int k a) && (clo 1 (.int k b) && true)) then ofPR H (.ok (.int k (mx a b))) else none) = _
  rw [clo_int, clo_int, ofPR_int]; rfl
theorem mmV_min2 (P : Program) (k : IntKind) (a b : Int) (H : AH) : mmV false P [.int k a, .int k b] H = some (.val (.int k (min a b)) H) := by
  rw [← mn_eq]
  show (bif (clo 1 (.int k a) && (clo 1 (.int k b) && true)) then ofPR H (.ok (.int k (mn a b))) else none) = _
  rw [clo_int, clo_int, ofPR_int]; rfl
theorem mmV_max3 (P : Program) (k : IntKind) (a b c : Int) (H : AH) : mmV true P [.int k a, .int k b, .int k c] H = some (.val (.int k (max (max a b) c)) H) := by
  rw [← mx_eq, ← mx_eq]
  show (bif (clo 1 (.int k a) && (clo 1 (.int k b) && (clo 1 (.int k c) && true))) then ofPR H (.ok (.int k (mx (mx a b) c))) else none) = _
  rw [clo_int, clo_int, clo_int, ofPR_int]; rfl
theorem mmV_min3 (P : Program) (k : IntKind) (a b c : Int) (H : AH) : mmV false P [.int k a, .int k b, .int k c] H = some (.val (.int k (min (min a b) c)) H) := by
  rw [← mn_eq, ← mn_eq]
  show (bif (clo 1 (.int k a) && (clo 1 (.int k b) && (clo 1 (.int k c) && true))) then ofPR H (.ok (.int k (mn (mn a b) c))) else none) = _
  rw [clo_int, clo_int, clo_int, ofPR_int]; rfl
def exV (X : XT) (f : FuncId) (args : List Value) (H : AH) : Option ANext := match X f args with
  | some v => bif clo 5 v && args.all (clo 4) then some (.val v H) else none
  | none => none
theorem e_ext (X : XT) (f : FuncId) (args : List Ar) (fr : Tr Value) (H : AH) : oExt X f args fr H = exV X f (evs fr args) H := rfl
theorem idxV_t (len n : Nat) (l : List Value) (k : IntKind) (i : Int) (H : AH) : idxV len n true (.agg l.toArray) (.int k i) H = if 0 ≤ i ∧ i.toNat < len then some (.val (.agg ((l.drop (i.toNat * n)).take n).toArray) H) else none := by
  unfold idxV
  simp only
  by_cases h : 0 ≤ i ∧ i.toNat < len
  · rw [if_pos h, inB_iff.2 h]
    simp only [cond_true, List.extract_toArray]
    rw [List.extract_eq_take_drop, Nat.add_sub_cancel_left]
  · rw [if_neg h, show inB i len = false from Bool.eq_false_iff.2 fun e => h (inB_iff.1 e)]; rfl
theorem idxV_f (len n : Nat) (l : List Value) (k : IntKind) (i : Int) (H : AH) : idxV len n false (.agg l.toArray) (.int k i) H = if 0 ≤ i ∧ i.toNat < len then val? H l[i.toNat * n]? else none := by
  unfold idxV
  simp only
  by_cases h : 0 ≤ i ∧ i.toNat < len
  · rw [if_pos h, inB_iff.2 h]
    simp only [cond_true, cond_false, List.getElem?_toArray]
  · rw [if_neg h, show inB i len = false from Bool.eq_false_iff.2 fun e => h (inB_iff.1 e)]; rfl
theorem vl_some (v : Value) (H : AH) : val? H (some v) = some (.val v H) := rfl
theorem rd_snew (H : AH) (b : Nat) (x : AB) (L : List (Option AB)) (i o n : Nat) : rd (ext (AH.set H b x) L) (H.nx + i) o n = rdB (getN L[i]? ((AH.set H b x).get (H.nx + i))) o n := rd_new (AH.set H b x) L i o n
theorem rd_snew0 (H : AH) (b : Nat) (x : AB) (L : List (Option AB)) (o n : Nat) : rd (ext (AH.set H b x) L) H.nx o n = rdB (getN L[0]? ((AH.set H b x).get H.nx)) o n := rd_new0 (AH.set H b x) L o n
theorem rd_ssame (H : AH) (b : Nat) (x : AB) (L : List (Option AB)) (o n : Nat) (hb : b < H.nx) : rd (ext (AH.set H b x) L) b o n = rdB (some x) o n := by
  rw [rd_old _ _ _ _ _ (by rw [AH.nx_set]; exact hb), rd_rdB, AH.get_set_same]
theorem trim_set (H : AH) (v : Value) (b : Nat) (x : AB) (L : List (Option AB)) (hb : b < H.nx) (hl : H.lo ≤ b) : trim H v (ext (AH.set H.now b x) L) = ext (AH.st H b x) L := by
  unfold trim
  have e : (ext (AH.set H.now b x) L).lo = b := by rw [ext_lo]; show min H.nx b = b; omega
  rw [e, show Nat.ble H.nx b = false from Bool.eq_false_iff.2 fun h => absurd (Nat.le_of_ble_eq_true h) (by omega)]
  simp only [Bool.false_and, cond_false]
  rw [ext_mk, Nat.min_eq_left hl]; rfl
theorem trim_keep (H : AH) (v : Value) (L : List (Option AB)) (hv : clo 5 v = false) (hl : H.lo ≤ H.nx) : trim H v (ext H.now L) = ext H L := by
  unfold trim
  rw [hv, Bool.and_false, cond_false, ext_mk, ext_lo, show min H.lo H.now.lo = H.lo from Nat.min_eq_left hl]; rfl
theorem lt_now (H : AH) (b : Nat) : (b < H.now.nx) = (b < H.nx) := propext ⟨fun h => h, fun h => h⟩
theorem succ_lt (i a : Nat) : (i + 1 < a + 1) = (i < a) := by simp
theorem e_append (size bytes : Nat) (s x : Ar) (fr : Tr Value) (H : AH) : oAppend size bytes s x fr H = aAppend size bytes (ev fr s) (ev fr x) H := rfl
theorem room_of {need bytes : Nat} (h : need * bytes ≤ 70368744177664) (k : need ≤ 1099511627776) : room need bytes = true := by
  unfold room; rw [Nat.ble_eq_true_of_le h, Nat.ble_eq_true_of_le k]; rfl
theorem aSource_s (H : AH) (z b o n c : Nat) (l : List Value) (h : rd H b o (n * z) = some l) : aSource H z (.slice (some ⟨b, o, none⟩) n c) none = some (n, l) := by
  show srcAt H b o z (cutN none n) = _
  unfold srcAt cutN; simp only [h]
theorem aSource_r (H : AH) (z b o n c : Nat) (l : List Value) (h : rd H b o (n * z) = some l) : aSource H z (.slice (some ⟨b, o, some 0⟩) n c) none = some (n, l) := by
  show srcAt H b o z (cutN none n) = _
  unfold srcAt cutN; simp only [h]
theorem app_nil (H : AH) (size bytes : Nat) (x : Value) (n : Nat) (l : List Value) (hx : aSource H size x none = some (n + 1, l)) (hr : room (n + 1) bytes = true) (hf : l.all flat = true) :
    aAppend size bytes (.slice none 0 0) x H = some (.val (.slice (some ⟨H.nx, 0, some 0⟩) (n + 1) (n + 1)) (H.push (.cells l 1 size))) := by
  unfold aAppend; simp only [hx, hr, hf, Bool.and_self, cond_true]; rfl
theorem app_slr (H : AH) (size bytes : Nat) (b len : Nat) (cs : List Value) (x : Value) (n : Nat) (l : List Value) (hx : aSource H size x none = some (n + 1, l)) (hb : H.get b = some (.cells cs 1 size)) (hc : cs.length = len * size)
    (hr : room (len + (n + 1)) bytes = true) (hf : l.all flat = true) :
    aAppend size bytes (.slice (some ⟨b, 0, some 0⟩) len len) x H = some (.val (.slice (some ⟨H.nx, 0, some 0⟩) (len + (n + 1)) (len + (n + 1))) ((H.set b .dead).push (.cells (cs ++ l) 1 size))) := by
  unfold aAppend
  simp only [hx, hb, hc, hr, hf, Nat.beq_refl, Nat.ble_eq_true_of_le (Nat.le_refl len), Bool.and_self, cond_true]
  rw [List.take_of_length_le (by omega)]; rfl
theorem app_s (H : AH) (size bytes : Nat) (b o len cap : Nat) (old : List Value) (x : Value) (n : Nat) (l : List Value) (hx : aSource H size x none = some (n + 1, l)) (hlt : cap < len + (n + 1)) (ho : rd H b o (len * size) = some old)
    (hr : room (len + (n + 1)) bytes = true) (hf : l.all flat = true) :
    aAppend size bytes (.slice (some ⟨b, o, none⟩) len cap) x H = some (.val (.slice (some ⟨H.nx, 0, some 0⟩) (len + (n + 1)) (len + (n + 1))) (H.push (.cells (old ++ l) 1 size))) := by
  unfold aAppend
  simp only [hx, ho, hr, hf, show Nat.ble (len + (n + 1)) cap = false from Bool.eq_false_iff.2 fun e => absurd (Nat.le_of_ble_eq_true e) (by omega), Bool.and_self, cond_true, cond_false]; rfl
theorem nx_set' (H : AH) (b : Nat) (x : AB) : (AH.set H b x).nx = H.nx := (Nat.add_zero _).symm.trans (Nat.add_zero _)
theorem ext_get_at (H : AH) (L : List (Option AB)) (n i : Nat) (h : n = H.nx) : (ext H L).get (n + i) = getN L[i]? (H.get (n + i)) := by rw [h, ext_get_new]
theorem rd_sset (H : AH) (b : Nat) (x : AB) (o n : Nat) : rd (AH.set H b x) b o n = rdB (some x) o n := by rw [rd_rdB, AH.get_set_same]
theorem rd_sne (H : AH) (b c : Nat) (x : AB) (o n : Nat) (h : c ≠ b) : rd (AH.set H b x) c o n = rd H c o n := by rw [rd_rdB, AH.get_set_ne _ _ _ h, rd_rdB]
theorem get_sset (H : AH) (b : Nat) (x : AB) : (AH.set H b x).get b = some x := AH.get_set_same H b x
theorem get_sne (H : AH) (b c : Nat) (x : AB) (h : c ≠ b) : (AH.set H b x).get c = H.get c := AH.get_set_ne H b x h
theorem clo_sl0 (d l c : Nat) : clo d (.slice none l c) = true := by cases d <;> rfl
theorem Fin_ret1 (fr : Tr Value) (H : AH) (rs : List ARes) (Q : AEnd → AH → Prop) (b : Nat) (h : AH) (hb : h.get b = some .dfr) : Fin H rs Q .ret fr [b] h = End1 H (aRess (h.set b .dead) fr rs) Q (h.set b .dead) := by
  unfold Fin End1 aEnd
  simp only [leave, hb]
  cases aRess (h.set b .dead) fr rs with
  | none => simp
  | some vs =>
    simp only
    exact propext ⟨fun ⟨x, H', e, hq⟩ => by cases e; exact hq, fun hq => ⟨_, _, rfl, hq⟩⟩
def slS (z : Nat) (x : Value) (lo hi mx : Option Value) (H : AH) : Option ANext := val? H (aSliceS z x lo hi mx)
theorem e_sliceS (z : Nat) (x : Ar) (lo hi mx : Option Ar) (fr : Tr Value) (H : AH) : oSliceS z x lo hi mx fr H = slS z (ev fr x) (evO fr lo) (evO fr hi) (evO fr mx) H := rfl
theorem slS_s (z b o l c m : Nat) (k : IntKind) (h : m ≤ c) (H : AH) : slS z (.slice (some ⟨b, o, none⟩) l c) none (some (.int k (m : Int))) none H = some (.val (.slice (some ⟨b, o, none⟩) m c) H) := by
  unfold slS aSliceS
  have e : bnds l c none (some (.int k (m : Int))) none = some (0, m, c) := by
    show (match bndL (some (.int k (Int.ofNat m))) l c with | none => none | some h => _) = _
    have : bndL (some (.int k (Int.ofNat m))) l c = some m := by
      show (bif Nat.ble m c then some m else none) = _
      rw [Nat.ble_eq_true_of_le h]; rfl
    rw [this]
    show (match (some 0 : Option Nat) with | none => none | some l => some (l, m, c)) = _
    rfl
  simp only [e]
  show some (ANext.val (sl b (bif Nat.beq c 0 then o else o + 0 * z) (m - 0) (c - 0)) H) = _
  rw [Nat.zero_mul, Nat.add_zero]
  cases Nat.beq c 0 <;> rfl
theorem slS_0 (z : Nat) (k : IntKind) (H : AH) : slS z (.slice none 0 0) none (some (.int k 0)) none H = some (.val (.slice none 0 0) H) := rfl
theorem min_nat (a : Nat) : min (a : Int) 8 = ((min a 8 : Nat) : Int) := by omega
theorem bb_tt : (true == true) = true := rfl
theorem bb_ff : (false == false) = true := rfl
theorem bb_tf : (true == false) = false := rfl
theorem bb_ft : (false == true) = false := rfl
theorem trim_now_clo {H : AH} {v : Value} (hc : clo 5 v = true) : trim H v H.now = H := trim_clo H v _ hc (Nat.le_refl _)

end
end Go.AX.Mc
/- The executor's steps as a calculus of postconditions (6): loops over functions. -/
namespace Go.AX.Mc
open Go.AX
noncomputable section
variable {T : FT} {env : List Lp} {r : Bool}

theorem X_range {f : Ar} {ps : List Pa} {asg body : ACode} {k : List KF} {fr : Tr Value} {df : List Nat} {h : AH} {Q : QF} (g : FuncId) (first cap : Array Value) (hf : ev fr f = .func (.func g) first cap)
    (hc : C T (⟨h.nx + 1, fr, ps, asg, body⟩ :: env) g (first.toList ++ (.func (.yield (h.nx + 1)) #[] #[] :: cap.toList)) ((h.push .dfr).push (.loop .ready none)) fun y h1 =>
      ∃ v, y = .ret v ∧ h1.get (h.nx + 1) = some (.loop .ready none) ∧ Kt T env false k .normal fr (h.nx :: df) (h1.set (h.nx + 1) (.loop .exhausted none)) Q) :
    X T env false (.rangeF f ps asg body) k fr df h Q := by
  obtain ⟨n, x, h1, h2, v, rfl, h3, h4⟩ := hc
  refine ⟨n + 1, .normal, ⟨fr, h.nx :: df, h1.set (h.nx + 1) (.loop .exhausted none)⟩, ?_, h4⟩
  change cRange T (aCode T n) env false (ev fr f) ps asg body ⟨fr, df, h⟩ = _
  rw [hf]
  unfold cRange
  unfold aCall at h2
  simp only [h2]
  unfold cAfter
  simp only [h3]

theorem R_round {l : Nat} {fr0 fr : Tr Value} {ps : List Pa} {asg body : ACode} {args : List Value} {H : AH} {Q : AEnd → AH → Prop} (hl : H.get l = some (.loop .ready none)) (hp : putMany fr0 ps args = some fr)
    (hr : X T env true asg [] fr [] H fun e fr1 df1 h1 => e = .normal ∧ df1 = [] ∧ h1.get l = some (.loop .ready none) ∧
      X T env true body [] fr1 [] (h1.set l (.loop .busy none)) fun e fr2 df2 h2 => e = .normal ∧ df2 = [] ∧ (∃ p, h2.get l = some (.loop .busy p)) ∧ Q (.ret (.bool true)) (h2.set l (.loop .ready none))) :
    R T (⟨l, fr0, ps, asg, body⟩ :: env) l args H Q := by
  obtain ⟨n, e, st, h1, h2⟩ := hr
  obtain ⟨rfl, h3, h4, m, e2, st2, h5, h6⟩ := h2
  obtain ⟨rfl, h7, ⟨p, h8⟩, h9⟩ := h6
  refine ⟨max n m, .ret (.bool true), st2.h.set l (.loop .ready none), ?_, h9⟩
  unfold aRound findLp
  simp only [Nat.beq_refl, cond_true, hl, hp]
  rw [aCode_mono (Nat.le_max_left n m) _ _ _ _ _ h1]
  unfold rBody
  simp only [h4]
  obtain ⟨fr1, df1, hh1⟩ := st
  simp only at h3 h5
  subst h3
  rw [aCode_mono (Nat.le_max_right n m) _ _ _ _ _ h5]
  unfold rEnd
  obtain ⟨fr2, df2, hh2⟩ := st2
  simp only at h7 h8
  subst h7
  simp only [h8]

/-- from a call's start to its end: blocks that were there stay. -/
structure Ext (H h : AH) : Prop where
  nx : H.nx ≤ h.nx
  lo : h.lo = H.lo
  get : ∀ b, b < H.nx → h.get b = H.get b
theorem Ext.rd {H h : AH} (e : Ext H h) {b : Nat} (hb : b < H.nx) (o n : Nat) : rd h b o n = rd H b o n := by rw [rd_rdB, e.get b hb, rd_rdB]
theorem Ext.refl (H : AH) : Ext H H := ⟨Nat.le_refl _, rfl, fun _ _ => rfl⟩
theorem Ext.trans {a b c : AH} (h : Ext a b) (k : Ext b c) : Ext a c := ⟨Nat.le_trans h.nx k.nx, k.lo.trans h.lo, fun i hi => (k.get i (Nat.lt_of_lt_of_le hi h.nx)).trans (h.get i hi)⟩
theorem Ext.ext (H : AH) (L : List (Option AB)) : Ext H (ext H L) := ⟨by rw [ext_nx]; omega, ext_lo _ _, fun b hb => ext_get_old _ _ _ hb⟩

end
end Go.AX.Mc
/- The calculus' lemmas as one set. -/
namespace Go.AX.Mc
open Go.AX
attribute [go_sem] K_nil K_seq K_seq_ret K_seq_exit K_blk K_blk_ret K_blk_exit X_seq X_skip X_ret X_exit X_scope X_block X_cond X_region O_nil O_P O_G V_val V_val0 V_enter V_round
attribute [go_sem] CK_ret CK_ret0 Gd_tt Gd_ff Gd_tf Gd_ft Gd_u Cd_true Cd_false tm_put tmp_e ev_t ev_c evs_nil evs_cons evO_none evO_some evP_nil evP_cons puts_nil puts_cons rd_sset
attribute [go_sem] rd_sne get_sset get_sne rd_ssame rd_old wr_old rd_now now_get ext_get_new lt_now succ_lt rd_snew rd_snew0 nx_set' now_push ext_push ext_nx getN_some rd_new
attribute [go_sem] rd_new0 rdB_cells wr_new wr_new0 wrN_some wrB_cells app_get app_get0 app_set app_set0 now_le flat_int flat_bool flat_ptr flat_slice flat_func flat_nilFunc
attribute [go_sem] cells_agg cells_int cells_bool cells_ptr cells_slice cells_func splice_eq fillL_nil fillL_cons e_sliceS e_append e_minmax mmV_max2 mmV_min2 mmV_max3 mmV_min3
attribute [go_sem] e_ext e_mov e_pick pick3_t pick3_f e_alloc e_box e_build bld_some e_buildSlice bldS_some ptr_eq sl_eq e_loadA ldAV_ptr ldA_some e_load1 ld1V_ptr ld1_some e_store
attribute [go_sem] aStore_ptr stV_some e_nilCheck nilCk_ptr e_bin bin_lss bin_leq bin_gtr bin_geq bin_eql bin_neq e_un unV_not unV_neg_w e_cvtInt cvI_int e_fieldAddr fldA_ptr
attribute [go_sem] e_indexAddrA idxA_ptr e_indexAddrS idxS_s idxS_r e_lenS lnS_s lnS_r lnS_0 e_extract xtr_0 xtr_1 xtr_2 e_indexA idxV_t idxV_f vl_some e_enter e_callV clV_func
attribute [go_sem] clV_yield e_mkFunc bb_tt bb_ff bb_tf bb_ft clo_sl0 trim_ext_clo trim_now_clo clo_int clo_bool clo_tuple5 clo_agg5 clo_agg4 clo_agg3 aRess_nil aRess_cons
attribute [go_sem] aRes2_some aRes_t aRes_cA aLoadAV_ptr rsA_some tupleOf_one tupleOf_two tupleOf_three tupleOf_nil Fin_ret Fin_normal End1_some D_nil D_G D_O DO_P DO_R DO_N DO_E
attribute [go_sem] DP_val DP_val0 DR_val DN_some DE_val DE_val0 DE_enter DE_round DK_ret DK_ret0 DG_tt DG_ff DG_tf DG_ft DG_u ext_keep keep0 lay_nil lay_cons lay_cons0 opened_nil
attribute [go_sem] opened_cons readsOk_nil readsOk_cons readsAll_nil readsAll_cons readsAt_nil readsAt_cons readAt_eq veqV_val veq_int veq_bool veq_ptr veq_slice veq_agg6 bfAt_zero
attribute [go_sem] bfAt_succ nw_alloc nw_box nw_buildSlice nwS_some
attribute [go_sem] Nat.add_left_cancel_iff Nat.add_lt_add_iff_left Nat.lt_add_right List.append_assoc List.length_append decide_true decide_false List.nil_append List.cons_append
attribute [go_sem] List.append_nil List.length_cons List.length_nil List.getElem?_cons_zero List.getElem?_cons_succ List.take_succ_cons List.take_zero List.drop_succ_cons
attribute [go_sem] List.drop_zero List.set_cons_zero List.set_cons_succ List.all_cons List.all_nil Option.map_some Nat.lt_add_one Nat.zero_lt_succ Nat.lt_irrefl Nat.zero_add
attribute [go_sem] Nat.add_zero Nat.zero_mul Nat.mul_zero Nat.le_refl Nat.zero_le and_self and_true true_and ne_eq not_true_eq_false not_false_eq_true Bool.and_true Bool.true_and
attribute [go_sem] Bool.and_self Int.toNat_natCast Int.natCast_nonneg Int.natCast_zero Bool.not_true Bool.not_false List.filter_nil List.filter_cons List.map_cons List.map_nil
attribute [go_sem] Nat.zero_or List.zip_cons_cons List.zip_nil_left Nat.testBit Nat.one_and_eq_mod_two Bool.and_false Bool.false_and Bool.false_eq_true BEq.rfl List.replicate_zero
attribute [go_sem] List.replicate_succ
end Go.AX.Mc
