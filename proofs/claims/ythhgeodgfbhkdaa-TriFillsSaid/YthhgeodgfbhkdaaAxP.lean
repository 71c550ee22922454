/- The abstract executor 'AX': a program's functions made ready for it. -/
import Derived.Test.YthhgeodgfbhkdaaAxA
set_option linter.unusedVariables false
set_option linter.unusedSimpArgs false
set_option linter.unusedSectionVars false
namespace Go.AX
noncomputable section

def arOf : Operand → Option Ar
  | .tmp t => some (.t (pa t))
  | .const v => bif clo 4 v then some (.c v) else none
  | .func f => some (.c (.func (.func f) #[] #[]))
  | .global _ => none

def arsOf : List Operand → Option (List Ar)
  | [] => some []
  | x :: r => match arOf x, arsOf r with
    | some a, some l => some (a :: l)
    | _, _ => none

def arO : Option Operand → Option (Option Ar)
  | none => some none
  | some x => match arOf x with | some a => some (some a) | none => none

def sizeT (P : Program) (t : TypeId) : Option Nat := match P.info? t with | some i => some i.size | none => none
def isAggT (P : Program) (t : TypeId) : Option Bool :=
  match P.underlying t with
  | some (.struct _) | some (.array _ _) => some true
  | some _ => some false
  | none => none
/-- a type's zero value, in cells. -/
def zeroT (P : Program) (t : TypeId) : Option Value :=
  match P.info? t with
  | some i => match i.zero with
    | some z => bif clo 4 z && Nat.beq z.cells.toList.length i.size && z.cells.toList.all flat then some z else none
    | none => none
  | none => none

/-- place and size of each part, by its number. -/
def partsS (P : Program) (fs : Array Field) : List (Nat × Operand) → Option (List (Nat × Nat × Ar))
  | [] => some []
  | (i, x) :: r => match fs[i]? with
    | some f => match sizeT P f.type, arOf x, partsS P fs r with
      | some n, some a, some l => some ((f.offset, n, a) :: l)
      | _, _, _ => none
    | none => none
def partsA (n : Nat) : List (Nat × Operand) → Option (List (Nat × Nat × Ar))
  | [] => some []
  | (i, x) :: r => match arOf x, partsA n r with
    | some a, some l => some ((i * n, n, a) :: l)
    | _, _ => none

def nilK (P : Program) (t : TypeId) : Option NilK :=
  match P.underlying t with
  | some (.pointer _) => some .ptr
  | some (.slice _) => some .slice
  | some (.map _ _) => some .map
  | some (.func _ _ _) => some .func
  | some (.interface _) => some .iface
  | _ => none

def isBytes (P : Program) (e : TypeId) : Bool := match P.underlying e with | some (.int .u8) => true | _ => false

def prepBuiltin (P : Program) (b : Builtin) (ts : Array TypeId) (args : List Operand) : Option (OpKind × (Tr Value → AH → Option ANext)) :=
  match b, ts.toList, args with
  | .append, [t, u], [s, x] => match P.underlying t, P.underlying u, arOf s, arOf x with
    | some (.slice e), some ud, some s, some x => match ud with
      | .int _ => none
      | _ => match P.info? e, zeroT P e with
        | some i, some _ => some (OpKind.eff, oAppend i.size i.bytes s x)
        | _, _ => none
    | _, _, _, _ => none
  | .copy, [t, _], [d, x] => match P.underlying t, arOf d, arOf x with
    | some (.slice e), some d, some x => match sizeT P e with
      | some n => some (OpKind.eff, oCopy n d x)
      | none => none
    | _, _, _ => none
  | .delete, [t, _], [m, k] => match P.underlying t, arOf m, arOf k with
    | some (.map kt _), some m, some k => some (OpKind.eff, oDelete P kt m k)
    | _, _, _ => none
  | .len, [t], [x] => match P.underlying t, arOf x with
    | some .string, some x => some (OpKind.pure, oLenT x)
    | some (.slice _), some x => some (OpKind.pure, oLenS x)
    | some (.map _ _), some x => some (OpKind.read, oLenM x)
    | some (.array n _), some _ => some (OpKind.pure, oLenC n)
    | some (.pointer a), some _ => match P.underlying a with
      | some (.array n _) => some (OpKind.pure, oLenC n)
      | _ => none
    | _, _ => none
  | .min, _, args => (arsOf args).map (fun q => (OpKind.pure, oMinmax P false q))
  | .max, _, args => (arsOf args).map (fun q => (OpKind.pure, oMinmax P true q))
  | _, _, _ => none

def prepCall (P : Program) (X : XT) (c : Call) : Option (OpKind × (Tr Value → AH → Option ANext)) :=
  match c.callee with
  | .builtin b => prepBuiltin P b c.argTypes c.args.toList
  | .value (.func g) => match P.funcs[g]?, arsOf c.args.toList with
    | some fn, some l => match fn.body with
      | some _ => some (OpKind.eff, oEnter g l)
      | none => some (OpKind.pure, oExt X g l)
    | _, _ => none
  | .value x => match arOf x, arsOf c.args.toList with
    | some a, some l => some (OpKind.eff, oCallV a l)
    | _, _ => none
  | .invoke _ _ => none

def prepOp (P : Program) (X : XT) (op : Op) : Option (OpKind × (Tr Value → AH → Option ANext)) :=
  match op with
  | .move x | .assign x => (arOf x).map (fun q => (OpKind.pure, oMov q))
  | .pick c a b => match arOf c, arOf a, arOf b with
    | some c, some a, some b => some (OpKind.pure, oPick c a b)
    | _, _, _ => none
  | .alloc t => (zeroT P t).map fun z => (OpKind.new, oAlloc z.cells.toList)
  | .box _ x => (arOf x).map (fun q => (OpKind.new, oBox q))
  | .build t ps => match zeroT P t, P.underlying t with
    | some z, some (.struct fs) => bif fs.toList.all (fun f => (sizeT P f.type).isSome) then (partsS P fs ps.toList).map (fun q => (OpKind.pure, oBuild z.cells.toList q)) else none
    | some z, some (.array _ e) => match sizeT P e with
      | some n => (partsA n ps.toList).map (fun q => (OpKind.pure, oBuild z.cells.toList q))
      | none => none
    | _, _ => none
  | .buildSlice t len ps => match P.underlying t with
    | some (.slice e) => match sizeT P e, zeroT P e with
      | some n, some z => bif Nat.ble (len * n) 16777216 then (partsA n ps.toList).map (fun q => (OpKind.new, oBuildSlice len (repl z.cells.toList len) q)) else none
      | _, _ => none
    | _ => none
  | .load t a => match isAggT P t, sizeT P t, arOf a with
    | some true, some n, some a => some (OpKind.read, oLoadA n a)
    | some false, some _, some a => some (OpKind.read, oLoad1 a)
    | _, _, _ => none
  | .store t a v => match sizeT P t, arOf a, arOf v with
    | some n, some a, some v => some (OpKind.eff, oStore n a v)
    | _, _, _ => none
  | .nilCheck x => (arOf x).map (fun q => (OpKind.pure, oNilCheck q))
  | .binOp op t x y _ => match arOf x, arOf y with
    | some a, some b => some (OpKind.pure, oBin P op t x y (nilK P t) a b)
    | _, _ => none
  | .unOp op _ x => (arOf x).map (fun q => (OpKind.pure, oUn P op q))
  | .convert s d x => match P.underlying s, P.underlying d, arOf x with
    | some a, some b, some x => match a, b with
      | .int _, .int k => some (OpKind.pure, oCvtInt k x)
      | .string, .slice e => bif isBytes P e then some (OpKind.new, oCvtBytes x) else none
      | .slice e, .string => bif isBytes P e then some (OpKind.read, oCvtString x) else none
      | .slice _, _ | _, .slice _ => none
      | _, _ => some (OpKind.pure, oCvt P s d x)
    | _, _, _ => none
  | .makeInterface t x => match P.underlying t, arOf x with
    | some (.interface _), _ => none
    | some _, some x => some (OpKind.pure, oMkIface t x)
    | _, _ => none
  | .makeFunc (.func f) xs ys => match arsOf xs.toList, arsOf ys.toList with
    | some xs, some ys => some (OpKind.pure, oMkFunc f xs ys)
    | _, _ => none
  | .makeMap _ none => some (OpKind.new, oMkMap)
  | .makeSlice t l c => match P.underlying t, arOf l, arOf c with
    | some (.slice e), some l, some c => match P.info? e, zeroT P e with
      | some i, some z => some (OpKind.new, oMakeSlice i.bytes i.size z.cells.toList l c)
      | _, _ => none
    | _, _, _ => none
  | .slice t x lo hi mx => match P.underlying t, arOf x, arO lo, arO hi, arO mx with
    | some (.array n e), some x, some lo, some hi, some mx => (sizeT P e).map fun z => (OpKind.pure, oSliceA n z x lo hi mx)
    | some (.slice e), some x, some lo, some hi, some mx => (sizeT P e).map fun z => (OpKind.pure, oSliceS z x lo hi mx)
    | some .string, some x, some lo, some hi, some none => some (OpKind.pure, oSliceT x lo hi)
    | _, _, _, _, _ => none
  | .fieldAddr s x f => match P.underlying s, arOf x with
    | some (.struct fs), some x => match fs[f]? with
      | some fd => match sizeT P fd.type with
        | some (_ + 1) => some (OpKind.pure, oFieldAddr fd.offset x)
        | _ => none
      | none => none
    | _, _ => none
  | .field t x f => match P.underlying t, arOf x with
    | some (.struct fs), some x => match fs[f]? with
      | some fd => match isAggT P fd.type, sizeT P fd.type with
        | some true, some n => some (OpKind.pure, oFieldA fd.offset n x)
        | some false, some _ => some (OpKind.pure, oField1 fd.offset x)
        | _, _ => none
      | none => none
    | _, _ => none
  | .indexAddr t x i => match P.underlying t, arOf x, arOf i with
    | some (.array len e), some x, some i => (sizeT P e).map fun n => (OpKind.pure, oIndexAddrA len n x i)
    | some (.slice e), some x, some i => (sizeT P e).map fun n => (OpKind.pure, oIndexAddrS n x i)
    | _, _, _ => none
  | .index t x i => match P.underlying t, arOf x, arOf i with
    | some (.array len e), some x, some i => match sizeT P e, isAggT P e with
      | some n, some g => some (OpKind.pure, oIndexA len n g x i)
      | _, _ => none
    | some .string, some x, some i => some (OpKind.pure, oIndexT x i)
    | _, _, _ => none
  | .lookup t m k ok => match P.underlying t, arOf m, arOf k with
    | some (.map kt et), some m, some k => (zeroT P et).map fun z => (OpKind.read, oLookup P kt z ok m k)
    | _, _, _ => none
  | .mapUpdate t m k v | .insert t m k v => match P.underlying t, arOf m, arOf k, arOf v with
    | some (.map kt _), some m, some k, some v => some (OpKind.eff, oMapUpdate P kt m k v)
    | _, _, _, _ => none
  | .mapEntry t m k => match P.underlying t, arOf m, arOf k with
    | some (.map kt et), some m, some k => (zeroT P et).map fun z => (OpKind.eff, oMapEntry P kt z m k)
    | _, _, _ => none
  | .entryStore _ m s v => match arOf m, arOf s, arOf v with
    | some m, some s, some v => some (OpKind.eff, oEntryStore m s v)
    | _, _, _ => none
  | .range t x => match P.underlying t, arOf x with
    | some .string, some x => some (OpKind.new, oRangeT x)
    | _, _ => none
  | .next it true => (arOf it).map (fun q => (OpKind.eff, oNextT q))
  | .typeAssert x _ as ok => match P.underlying as, zeroT P as, arOf x with
    | some (.interface want), some z, some x => some (OpKind.pure, oAssertI P want z ok x)
    | some _, some z, some x => some (OpKind.pure, oAssertC as z ok x)
    | _, _, _ => none
  | .extract t i => (arOf t).map (fun q => (OpKind.pure, oExtract i q))
  | .call c => prepCall P X c
  | .panic x => (arOf x).map (fun q => (OpKind.eff, oPanic q))
  | _ => none

def dstOf (nt : Nat) : Option Tmp → Option (Option Pa)
  | none => some none
  | some d => bif Nat.blt d nt then some (some (pa d)) else none

def guardOf (ops : Array Oper) : Option (Nat × Bool) → Option (Option (Pa × Bool))
  | none => some none
  | some (j, b) => match (ops[j]?).bind (·.dst) with
    | some d => some (some (pa d, b))
    | none => none

def prepOps (P : Program) (X : XT) (nt : Nat) (ops : Array Oper) (bf : Nat → Nat) : Nat → List Oper → Option (List AOper)
  | _, [] => some []
  | j, o :: r => match prepOp P X o.op, dstOf nt o.dst, guardOf ops o.guard, prepOps P X nt ops bf (j + 1) r with
    | some (kind, run), some dst, some guard, some l => some ({ run, dst, guard, kind, bf := bf j } :: l)
    | _, _, _, _ => none

def pasOf : List Tmp → List Pa
  | [] => []
  | t :: r => pa t :: pasOf r

/-- the temporaries that an operation names. -/
def opTmps (o : Oper) : List Tmp := o.op.operands.toList.filterMap fun | .tmp t => some t | _ => none
def gTmp (ops : Array Oper) (o : Oper) : List Tmp := match o.guard with
  | none => []
  | some (j, _) => ((ops[j]?).bind (·.dst)).toList
def names (ops : Array Oper) (o : Oper) : List Tmp := o.dst.toList ++ (opTmps o ++ gTmp ops o)
def clash (ops : Array Oper) (a b : Oper) : Bool := a.dst.toList.any (fun d => (names ops b).any (Nat.beq d)) || b.dst.toList.any (fun d => (names ops a).any (Nat.beq d))
/-- who writes what another names is ordered with it. -/
def ordOk (ops : Array Oper) (bf : Nat → Nat) : Bool := (List.range ops.size).all fun j => (List.range j).all fun i => match ops[i]?, ops[j]? with
  | some a, some b => !clash ops a b || (bf j).testBit i
  | _, _ => false
/-- what is said to come ahead does so. -/
def edgeOk (ops : Array Oper) (bf : Nat → Nat) : Bool := (List.range ops.size).all fun j => match ops[j]? with
  | some o => Nat.blt (bf j) (2 ^ j) && (o.after.toList.all (fun e => !Region.binds .any e || Nat.blt e.on j) && (List.range j).all fun k => !(bf j).testBit k || o.after.toList.any fun e => Region.binds .any e && (Nat.beq e.on k || (bf e.on).testBit k))
  | none => false

def prepCode (P : Program) (X : XT) (nt : Nat) : Code → Option ACode
  | .skip | .label _ => some .skip
  | .region _ ops false => (prepOps P X nt ops (fun _ => 0) 0 ops.toList).map .region
  | .region _ ops true =>
    let bf := Region.before ops
    bif ordOk ops (fun j => bf.getD j 0) && edgeOk ops (fun j => bf.getD j 0) then (prepOps P X nt ops (fun j => bf.getD j 0) 0 ops.toList).map .draw else none
  | .seq a b => match prepCode P X nt a, prepCode P X nt b with
    | some a, some b => some (.seq a b)
    | _, _ => none
  | .cond c a b => match arOf c, prepCode P X nt a, prepCode P X nt b with
    | some c, some a, some b => some (.cond c a b)
    | _, _, _ => none
  | .block id c => (prepCode P X nt c).map (.block id)
  | .loop c => (prepCode P X nt c).map .loop
  | .rangeFunc f ps a b => match arOf f, prepCode P X nt a, prepCode P X nt b with
    | some f, some a, some b => bif ps.toList.all (fun t => Nat.blt t nt) then some (.rangeF f (pasOf ps.toList) a b) else none
    | _, _, _ => none
  | .exit id => some (.exit id)
  | .scope c => (prepCode P X nt c).map .scope
  | .goto _ => none
  | .ret => some .ret
  | .refuse _ => none

def prepRes (P : Program) : ResultVar → Option ARes
  | .tmp t => some (.t (pa t))
  | .cell a t => match isAggT P t, sizeT P t with
    | some true, some n => some (.cA n (pa a))
    | some false, some _ => some (.c1 (pa a))
    | _, _ => none

def prepRess (P : Program) : List ResultVar → Option (List ARes)
  | [] => some []
  | r :: l => match prepRes P r, prepRess P l with
    | some x, some y => some (x :: y)
    | _, _ => none

def prepFn (P : Program) (X : XT) (fn : Func) : Option AFn :=
  match fn.body with
  | none => none
  | some c => match prepCode P X fn.ntmps c, prepRess P fn.results.toList with
    | some body, some results => bif Nat.ble (fn.params.size + fn.nfree) fn.ntmps && !(fn.name == "runtime.NumGoroutine") then some { nargs := fn.params.size + fn.nfree, results, body } else none
    | _, _ => none

def prepF (P : Program) (X : XT) (f : FuncId) : Option AFn := match P.funcs[f]? with | some fn => prepFn P X fn | none => none

end
end Go.AX
/- The abstract executor 'AX', soundness (1): tries; how abstract values and blocks lie in a world. -/
namespace Go.AX

/-! ## Tries -/
theorem nbeq {a b : Nat} (h : a ≠ b) : Nat.beq a b = false := Bool.eq_false_iff.2 fun e => h (Nat.eq_of_beq_eq_true e)
theorem paF_inv : ∀ (f k : Nat), k ≤ f → ∀ (g j : Nat), j ≤ g → paF f k = paF g j → k = j
  | 0, k, hk, 0, j, hj, _ => by omega
  | 0, k, hk, g + 1, j, hj, h => by
    have hk0 : k = 0 := by omega
    subst hk0
    change Pa.e = paS (paF g) j at h
    unfold paS at h
    by_cases h0 : j = 0
    · exact h0.symm
    · have : Nat.beq j 0 = false := nbeq h0
      rw [this] at h
      cases hb : Nat.beq (j % 2) 1 <;> rw [hb] at h <;> cases h
  | f + 1, k, hk, 0, j, hj, h => by
    have hj0 : j = 0 := by omega
    subst hj0
    change paS (paF f) k = Pa.e at h
    unfold paS at h
    by_cases h0 : k = 0
    · exact h0
    · have : Nat.beq k 0 = false := nbeq h0
      rw [this] at h
      cases hb : Nat.beq (k % 2) 1 <;> rw [hb] at h <;> cases h
  | f + 1, k, hk, g + 1, j, hj, h => by
    change paS (paF f) k = paS (paF g) j at h
    unfold paS at h
    by_cases hk0 : k = 0
    · by_cases hj0 : j = 0
      · omega
      · subst hk0
        have h2 : Nat.beq j 0 = false := nbeq hj0
        rw [h2] at h
        cases hb : Nat.beq (j % 2) 1 <;> rw [hb] at h <;> cases h
    · have h1 : Nat.beq k 0 = false := nbeq hk0
      rw [h1] at h
      by_cases hj0 : j = 0
      · subst hj0
        cases hb : Nat.beq (k % 2) 1 <;> rw [hb] at h <;> cases h
      · have h2 : Nat.beq j 0 = false := nbeq hj0
        rw [h2] at h
        cases hb : Nat.beq (k % 2) 1 <;> cases hc : Nat.beq (j % 2) 1 <;> rw [hb, hc] at h <;> simp only [cond_false, cond_true, Pa.l.injEq, Pa.r.injEq, reduceCtorEq] at h
        · have e := paF_inv f (k / 2 - 1) (by omega) g (j / 2 - 1) (by omega) h
          have e1 : k % 2 ≠ 1 := by intro e; rw [e] at hb; cases hb
          have e2 : j % 2 ≠ 1 := by intro e; rw [e] at hc; cases hc
          omega
        · have e := paF_inv f (k / 2) (by omega) g (j / 2) (by omega) h
          have e1 : k % 2 = 1 := Nat.eq_of_beq_eq_true hb
          have e2 : j % 2 = 1 := Nat.eq_of_beq_eq_true hc
          omega
theorem pa_inj {k j : Nat} (h : pa k = pa j) : k = j := paF_inv k k (Nat.le_refl _) j j (Nat.le_refl _) h
theorem pa_eq (k j : Nat) : (pa k = pa j) = (k = j) := propext ⟨pa_inj, fun h => by rw [h]⟩

namespace Tr
variable {α : Type}
theorem get_e (t : Tr α) : t.get .e = t.root := rfl
theorem get_l (t : Tr α) (p : Pa) : t.get (.l p) = t.left.get p := rfl
theorem get_r (t : Tr α) (p : Pa) : t.get (.r p) = t.right.get p := rfl
theorem put_e (t : Tr α) (v : α) : t.put .e v = .n t.left (some v) t.right := rfl
theorem put_l (t : Tr α) (p : Pa) (v : α) : t.put (.l p) v = .n (t.left.put p v) t.root t.right := rfl
theorem put_r (t : Tr α) (p : Pa) (v : α) : t.put (.r p) v = .n t.left t.root (t.right.put p v) := rfl
theorem get_put (p q : Pa) : ∀ (t : Tr α) (v : α), (t.put p v).get q = if p = q then some v else t.get q := by
  induction p generalizing q with
  | e => intro t v; cases q <;> simp [put_e, get_e, get_l, get_r, root, left, right]
  | l p ih =>
    intro t v
    cases q with
    | e => simp [put_l, get_e, root]
    | l q => rw [put_l, get_l, get_l]; simp only [left]; rw [ih]; simp
    | r q => simp [put_l, get_r, right]
  | r p ih =>
    intro t v
    cases q with
    | e => simp [put_r, get_e, root]
    | r q => rw [put_r, get_r, get_r]; simp only [right]; rw [ih]; simp
    | l q => simp [put_r, get_l, left]
theorem get_empty (p : Pa) : (Tr.e : Tr α).get p = none := by
  induction p with
  | e => rfl
  | l p ih => exact ih
  | r p ih => exact ih
end Tr

theorem AH.get_push_same (H : AH) (b : AB) : (H.push b).get H.nx = some b := by simp [AH.get, AH.push, Tr.get_put]
theorem AH.get_push_ne (H : AH) (b : AB) {i : Nat} (h : i ≠ H.nx) : (H.push b).get i = H.get i := by
  simp only [AH.get, AH.push, Tr.get_put, pa_eq]; rw [if_neg (by omega)]
theorem AH.get_set_same (H : AH) (i : Nat) (b : AB) : (H.set i b).get i = some b := by simp [AH.get, AH.set, Tr.get_put]
theorem AH.get_set_ne (H : AH) (j : Nat) (b : AB) {i : Nat} (h : i ≠ j) : (H.set j b).get i = H.get i := by
  simp only [AH.get, AH.set, Tr.get_put, pa_eq]; rw [if_neg (by omega)]
theorem AH.nx_push (H : AH) (b : AB) : (H.push b).nx = H.nx + 1 := rfl
theorem AH.nx_set (H : AH) (i : Nat) (b : AB) : (H.set i b).nx = H.nx := rfl

/-! ## Values in a world -/
/-- How abstract blocks lie in a world: which block each is; how many elements of room a row that grew has behind what is known; which numbers are given; what a loop's record bears. -/
structure M where
  bk : Nat → Nat
  sp : Nat → Nat
  dm : Nat → Prop
  lp : Nat → Loop

structure M.Le (m m' : M) : Prop where
  dm : ∀ i, m.dm i → m'.dm i
  bk : ∀ i, m.dm i → m'.bk i = m.bk i
  sp : ∀ i, m.dm i → m'.sp i = m.sp i
  lp : ∀ i, m.dm i → m'.lp i = m.lp i

theorem M.Le.refl (m : M) : m.Le m := ⟨fun _ h => h, fun _ _ => rfl, fun _ _ => rfl, fun _ _ => rfl⟩
theorem M.Le.trans {a b c : M} (h : a.Le b) (k : b.Le c) : a.Le c :=
  ⟨fun i hi => k.dm i (h.dm i hi), fun i hi => (k.bk i (h.dm i hi)).trans (h.bk i hi), fun i hi => (k.sp i (h.dm i hi)).trans (h.sp i hi), fun i hi => (k.lp i (h.dm i hi)).trans (h.lp i hi)⟩

mutual
inductive VR (m : M) : Value → Value → Prop
  | bool (b : Bool) : VR m (.bool b) (.bool b)
  | int (k : IntKind) (n : Int) : VR m (.int k n) (.int k n)
  | float (k : FloatKind) (n : Nat) : VR m (.float k n) (.float k n)
  | str (s : ByteArray) : VR m (.string s) (.string s)
  | ptr0 : VR m (.pointer none) (.pointer none)
  | ptr (b o : Nat) (h : m.dm b) : VR m (.pointer (some ⟨b, o, none⟩)) (.pointer (some ⟨m.bk b, o, none⟩))
  | sl0 (l c : Nat) : VR m (.slice none l c) (.slice none l c)
  | sl (b o l c : Nat) (h : m.dm b) : VR m (.slice (some ⟨b, o, none⟩) l c) (.slice (some ⟨m.bk b, o, none⟩) l c)
  | slr (b o l c : Nat) (h : m.dm b) : VR m (.slice (some ⟨b, o, some 0⟩) l c) (.slice (some ⟨m.bk b, o, none⟩) l (c + m.sp b))
  | sle (b o : Nat) (a : Addr) (c : Nat) : VR m (.slice (some ⟨b, o, some 1⟩) 0 0) (.slice (some a) 0 c)
  | map0 : VR m (.map none) (.map none)
  | map (r : Nat) (h : m.dm r) : VR m (.map (some r)) (.map (some (m.bk r)))
  | func (fn : Fn) (xs ys xs' ys' : Array Value) (hf : ∀ l, fn ≠ .yield l) (hx : VRL m xs.toList xs'.toList) (hy : VRL m ys.toList ys'.toList) : VR m (.func fn xs ys) (.func fn xs' ys')
  | yield (l : Nat) (h : m.dm l) : VR m (.func (.yield l) #[] #[]) (.func (.yield (m.bk l)) #[] #[])
  | nilFunc : VR m .nilFunc .nilFunc
  | nilIface : VR m .nilIface .nilIface
  | iface (t : TypeId) (v v' : Value) (h : VR m v v') : VR m (.iface t v) (.iface t v')
  | agg (xs xs' : Array Value) (h : VRL m xs.toList xs'.toList) : VR m (.agg xs) (.agg xs')
  | tuple (xs xs' : Array Value) (h : VRL m xs.toList xs'.toList) : VR m (.tuple xs) (.tuple xs')
  | top (v' : Value) (h : AX.flat v' = true) : VR m (.chan none) v'
inductive VRL (m : M) : List Value → List Value → Prop
  | nil : VRL m [] []
  | cons (v v' : Value) (l l' : List Value) (h : VR m v v') (hl : VRL m l l') : VRL m (v :: l) (v' :: l')
end

mutual
theorem VR.mono {m m' : M} (hm : m.Le m') : ∀ {v v' : Value}, VR m v v' → VR m' v v'
  | _, _, .bool b => .bool b
  | _, _, .int k n => .int k n
  | _, _, .float k n => .float k n
  | _, _, .str s => .str s
  | _, _, .ptr0 => .ptr0
  | _, _, .ptr b o h => by rw [← hm.bk b h]; exact .ptr b o (hm.dm b h)
  | _, _, .sl0 l c => .sl0 l c
  | _, _, .sl b o l c h => by rw [← hm.bk b h]; exact .sl b o l c (hm.dm b h)
  | _, _, .slr b o l c h => by rw [← hm.bk b h, ← hm.sp b h]; exact .slr b o l c (hm.dm b h)
  | _, _, .sle b o a c => .sle b o a c
  | _, _, .map0 => .map0
  | _, _, .map r h => by rw [← hm.bk r h]; exact .map r (hm.dm r h)
  | _, _, .func fn xs ys xs' ys' hf hx hy => .func fn xs ys xs' ys' hf (VRL.mono hm hx) (VRL.mono hm hy)
  | _, _, .yield l h => by rw [← hm.bk l h]; exact .yield l (hm.dm l h)
  | _, _, .nilFunc => .nilFunc
  | _, _, .nilIface => .nilIface
  | _, _, .iface t v v' h => .iface t v v' (VR.mono hm h)
  | _, _, .agg xs xs' h => .agg xs xs' (VRL.mono hm h)
  | _, _, .tuple xs xs' h => .tuple xs xs' (VRL.mono hm h)
  | _, _, .top v' h => .top v' h
theorem VRL.mono {m m' : M} (hm : m.Le m') : ∀ {l l' : List Value}, VRL m l l' → VRL m' l l'
  | _, _, .nil => .nil
  | _, _, .cons v v' l l' h hl => .cons v v' l l' (VR.mono hm h) (VRL.mono hm hl)
end

namespace VRL
variable {m : M}
theorem length {l l' : List Value} (h : VRL m l l') : l'.length = l.length := by
  induction l generalizing l' with
  | nil => cases h; rfl
  | cons v l ih => cases h with | cons _ v' _ l'' hv hl => simp [ih hl]
theorem get {l l' : List Value} (h : VRL m l l') (i : Nat) {v : Value} (hv : l[i]? = some v) : ∃ v', l'[i]? = some v' ∧ VR m v v' := by
  induction l generalizing l' i with
  | nil => simp at hv
  | cons x l ih =>
    cases h with
    | cons _ x' _ l'' hx hl =>
      cases i with
      | zero => simp at hv; subst hv; exact ⟨x', by simp, hx⟩
      | succ i => simp at hv; obtain ⟨v', h1, h2⟩ := ih hl i hv; exact ⟨v', by simpa using h1, h2⟩
theorem append {a a' b b' : List Value} (h : VRL m a a') (k : VRL m b b') : VRL m (a ++ b) (a' ++ b') := by
  induction a generalizing a' with
  | nil => cases h; exact k
  | cons v l ih => cases h with | cons _ v' _ l'' hv hl => exact .cons _ _ _ _ hv (ih hl)
theorem take {l l' : List Value} (h : VRL m l l') (n : Nat) : VRL m (l.take n) (l'.take n) := by
  induction n generalizing l l' with
  | zero => exact .nil
  | succ n ih => cases h with
    | nil => exact .nil
    | cons v v' l l' hv hl => exact .cons _ _ _ _ hv (ih hl)
theorem drop {l l' : List Value} (h : VRL m l l') (n : Nat) : VRL m (l.drop n) (l'.drop n) := by
  induction n generalizing l l' with
  | zero => exact h
  | succ n ih => cases h with
    | nil => exact .nil
    | cons v v' l l' hv hl => exact ih hl
theorem of_get {l l' : List Value} (hl : l'.length = l.length) (h : ∀ (i : Nat) (v : Value), l[i]? = some v → ∃ v', l'[i]? = some v' ∧ VR m v v') : VRL m l l' := by
  induction l generalizing l' with
  | nil => cases l' with | nil => exact .nil | cons _ _ => simp at hl
  | cons v l ih => cases l' with
    | nil => simp at hl
    | cons v' l' =>
      obtain ⟨x, h1, h2⟩ := h 0 v (by simp)
      simp at h1; subst h1
      exact .cons _ _ _ _ h2 (ih (by simpa using hl) fun i x hx => by simpa using h (i + 1) x (by simpa using hx))
end VRL

mutual
theorem VR.of_clo (m : M) : ∀ (d : Nat) (v : Value), clo d v = true → VR m v v
  | 0, v, h => by cases v <;> first | (simp [clo] at h; done) | exact .bool _ | exact .int _ _ | exact .str _ | exact .float _ _ | exact .nilFunc | exact .nilIface | skip
                  case pointer a => cases a <;> first | exact .ptr0 | simp [clo] at h
                  case slice a l c => cases a <;> first | exact .sl0 _ _ | simp [clo] at h
                  case map r => cases r <;> first | exact .map0 | simp [clo] at h
  | d + 1, v, h => by
    cases v with
    | bool b => exact .bool _
    | int k n => exact .int _ _
    | float k b => exact .float _ _
    | string s => exact .str _
    | complex _ _ _ => simp [clo] at h
    | pointer a => cases a <;> first | exact .ptr0 | simp [clo] at h
    | slice a l c => cases a <;> first | exact .sl0 _ _ | simp [clo] at h
    | map r => cases r <;> first | exact .map0 | simp [clo] at h
    | chan r => simp [clo] at h
    | nilFunc => exact .nilFunc
    | nilIface => exact .nilIface
    | iface t v => exact .iface _ _ _ (VR.of_clo m d v (by simpa [clo] using h))
    | agg cs => exact .agg _ _ (VRL.of_clo m d cs.toList (by simpa [clo] using h))
    | tuple cs => exact .tuple _ _ (VRL.of_clo m d cs.toList (by simpa [clo] using h))
    | func fn xs ys =>
      simp only [clo, Bool.and_eq_true] at h
      obtain ⟨⟨h1, h2⟩, h3⟩ := h
      exact .func _ _ _ _ _ (fun l e => by subst e; simp at h1) (VRL.of_clo m d _ h2) (VRL.of_clo m d _ h3)
theorem VRL.of_clo (m : M) : ∀ (d : Nat) (l : List Value), l.all (clo d) = true → VRL m l l
  | _, [], _ => .nil
  | d, v :: l, h => by
    simp only [List.all_cons, Bool.and_eq_true] at h
    exact .cons _ _ _ _ (VR.of_clo m d v h.1) (VRL.of_clo m d l h.2)
end

theorem VR.eq_of_clo {m : M} : ∀ (d : Nat) {v v' : Value}, clo d v = true → VR m v v' → v' = v := by
  intro d
  induction d with
  | zero => intro v v' h hv; cases hv <;> first | rfl | simp [clo] at h
  | succ d ih =>
    have L : ∀ (l l' : List Value), l.all (clo d) = true → VRL m l l' → l' = l := by
      intro l
      induction l with
      | nil => intro l' _ h; cases h; rfl
      | cons v l ihl =>
        intro l' h hl
        simp only [List.all_cons, Bool.and_eq_true] at h
        cases hl with | cons _ v' _ l'' hv hl => rw [ih h.1 hv, ihl _ h.2 hl]
    intro v v' h hv
    cases hv <;> first | rfl | (simp [clo] at h; done) | skip
    case func fn xs ys xs' ys' hf hx hy =>
      simp only [clo, Bool.and_eq_true] at h
      rw [Array.toList_inj.1 (L _ _ h.1.2 hx), Array.toList_inj.1 (L _ _ h.2 hy)]
    case iface t v v' hv => rw [ih (by simpa [clo] using h) hv]
    case agg xs xs' hx => rw [Array.toList_inj.1 (L _ _ (by simpa [clo] using h) hx)]
    case tuple xs xs' hx => rw [Array.toList_inj.1 (L _ _ (by simpa [clo] using h) hx)]
theorem VRL.eq_of_clo {m : M} (d : Nat) : ∀ {l l' : List Value}, l.all (clo d) = true → VRL m l l' → l' = l := by
  intro l
  induction l with
  | nil => intro l' _ h; cases h; rfl
  | cons v l ihl =>
    intro l' h hl
    simp only [List.all_cons, Bool.and_eq_true] at h
    cases hl with | cons _ v' _ l'' hv hl => rw [VR.eq_of_clo d h.1 hv, ihl h.2 hl]

theorem VR.flat {m : M} {v v' : Value} (h : VR m v v') : flat v' = flat v := by cases h <;> first | rfl | assumption
theorem VR.cells {m : M} {v v' : Value} (h : VR m v v') : VRL m v.cells.toList v'.cells.toList := by
  have h0 := h
  cases h <;> first | assumption | exact .cons _ _ _ _ h0 .nil | skip
  case top hf => cases v' <;> first | exact .cons _ _ _ _ h0 .nil | (simp [AX.flat] at hf)

end Go.AX
