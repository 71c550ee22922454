/- The abstract executor 'AX': a program's functions made ready for it. -/
import Derived.Test.YthhgeodgfbhkdaaAxA
set_option linter.unusedVariables false
set_option linter.unusedSimpArgs false
set_option linter.unusedSectionVars false
namespace Go.AX
noncomputable section

def arOf : Operand → Option Ar
  | .tmp t => some (.t (pa t))
  | .const v => bif clo 4 v then some (.c v) else none
  | .func f => some (.c (.func (.func f) #[] #[]))
  | .global _ => none

def arsOf : List Operand → Option (List Ar)
  | [] => some []
  | x :: r => match arOf x, arsOf r with
    | some a, some l => some (a :: l)
    | _, _ => none

def arO : Option Operand → Option (Option Ar)
  | none => some none
  | some x => match arOf x with | some a => some (some a) | none => none

def sizeT (P : Program) (t : TypeId) : Option Nat := match P.info? t with | some i => some i.size | none => none
def isAggT (P : Program) (t : TypeId) : Option Bool :=
  match P.underlying t with
  | some (.struct _) | some (.array _ _) => some true
  | some _ => some false
  | none => none
/-- a type's zero value, in cells. -/
def zeroT (P : Program) (t : TypeId) : Option Value :=
  match P.info? t with
  | some i => match i.zero with
    | some z => bif clo 4 z && Nat.beq z.cells.toList.length i.size && z.cells.toList.all flat then some z else none
    | none => none
  | none => none

/-- place and size of each part, by its number. -/
def partsS (P : Program) (fs : Array Field) : List (Nat × Operand) → Option (List (Nat × Nat × Ar))
  | [] => some []
  | (i, x) :: r => match fs[i]? with
    | some f => match sizeT P f.type, arOf x, partsS P fs r with
      | some n, some a, some l => some ((f.offset, n, a) :: l)
      | _, _, _ => none
    | none => none
def partsA (n : Nat) : List (Nat × Operand) → Option (List (Nat × Nat × Ar))
  | [] => some []
  | (i, x) :: r => match arOf x, partsA n r with
    | some a, some l => some ((i * n, n, a) :: l)
    | _, _ => none

def nilK (P : Program) (t : TypeId) : Option NilK :=
  match P.underlying t with
  | some (.pointer _) => some .ptr
  | some (.slice _) => some .slice
  | some (.map _ _) => some .map
  | some (.func _ _ _) => some .func
  | some (.interface _) => some .iface
  | _ => none

def isBytes (P : Program) (e : TypeId) : Bool := match P.underlying e with | some (.int .u8) => true | _ => false

def prepBuiltin (P : Program) (b : Builtin) (ts : Array TypeId) (args : List Operand) : Option (OpKind × (Tr Value → AH → Option ANext)) :=
  match b, ts.toList, args with
  | .append, [t, u], [s, x] => match P.underlying t, P.underlying u, arOf s, arOf x with
    | some (.slice e), some ud, some s, some x => match ud with
      | .int _ => none
      | _ => match P.info? e, zeroT P e with
        | some i, some _ => some (OpKind.eff, oAppend i.size i.bytes s x)
        | _, _ => none
    | _, _, _, _ => none
  | .copy, [t, _], [d, x] => match P.underlying t, arOf d, arOf x with
    | some (.slice e), some d, some x => match sizeT P e with
      | some n => some (OpKind.eff, oCopy n d x)
      | none => none
    | _, _, _ => none
  | .delete, [t, _], [m, k] => match P.underlying t, arOf m, arOf k with
    | some (.map kt _), some m, some k => some (OpKind.eff, oDelete P kt m k)
    | _, _, _ => none
  | .len, [t], [x] => match P.underlying t, arOf x with
    | some .string, some x => some (OpKind.pure, oLenT x)
    | some (.slice _), some x => some (OpKind.pure, oLenS x)
    | some (.map _ _), some x => some (OpKind.read, oLenM x)
    | some (.array n _), some _ => some (OpKind.pure, oLenC n)
    | some (.pointer a), some _ => match P.underlying a with
      | some (.array n _) => some (OpKind.pure, oLenC n)
      | _ => none
    | _, _ => none
  | .min, _, args => (arsOf args).map (fun q => (OpKind.pure, oMinmax P false q))
  | .max, _, args => (arsOf args).map (fun q => (OpKind.pure, oMinmax P true q))
  | _, _, _ => none

def prepCall (P : Program) (X : XT) (c : Call) : Option (OpKind × (Tr Value → AH → Option ANext)) :=
  match c.callee with
  | .builtin b => prepBuiltin P b c.argTypes c.args.toList
  | .value (.func g) => match P.funcs[g]?, arsOf c.args.toList with
    | some fn, some l => match fn.body with
      | some _ => some (OpKind.eff, oEnter g l)
      | none => some (OpKind.pure, oExt X g l)
    | _, _ => none
  | .value x => match arOf x, arsOf c.args.toList with
    | some a, some l => some (OpKind.eff, oCallV a l)
    | _, _ => none
  | .invoke _ _ => none

def prepOp (P : Program) (X : XT) (op : Op) : Option (OpKind × (Tr Value → AH → Option ANext)) :=
  match op with
  | .move x | .assign x => (arOf x).map (fun q => (OpKind.pure, oMov q))
  | .pick c a b => match arOf c, arOf a, arOf b with
    | some c, some a, some b => some (OpKind.pure, oPick c a b)
    | _, _, _ => none
  | .alloc t => (zeroT P t).map fun z => (OpKind.new, oAlloc z.cells.toList)
  | .box _ x => (arOf x).map (fun q => (OpKind.new, oBox q))
  | .build t ps => match zeroT P t, P.underlying t with
    | some z, some (.struct fs) => bif fs.toList.all (fun f => (sizeT P f.type).isSome) then (partsS P fs ps.toList).map (fun q => (OpKind.pure, oBuild z.cells.toList q)) else none
    | some z, some (.array _ e) => match sizeT P e with
      | some n => (partsA n ps.toList).map (fun q => (OpKind.pure, oBuild z.cells.toList q))
      | none => none
    | _, _ => none
  | .buildSlice t len ps => match P.underlying t with
    | some (.slice e) => match sizeT P e, zeroT P e with
      | some n, some z => bif Nat.ble (len * n) 16777216 then (partsA n ps.toList).map (fun q => (OpKind.new, oBuildSlice len (repl z.cells.toList len) q)) else none
      | _, _ => none
    | _ => none
  | .load t a => match isAggT P t, sizeT P t, arOf a with
    | some true, some n, some a => some (OpKind.read, oLoadA n a)
    | some false, some _, some a => some (OpKind.read, oLoad1 a)
    | _, _, _ => none
  | .store t a v => match sizeT P t, arOf a, arOf v with
    | some n, some a, some v => some (OpKind.eff, oStore n a v)
    | _, _, _ => none
  | .nilCheck x => (arOf x).map (fun q => (OpKind.pure, oNilCheck q))
  | .binOp op t x y _ => match arOf x, arOf y with
    | some a, some b => some (OpKind.pure, oBin P op t x y (nilK P t) a b)
    | _, _ => none
  | .unOp op _ x => (arOf x).map (fun q => (OpKind.pure, oUn P op q))
  | .convert s d x => match P.underlying s, P.underlying d, arOf x with
    | some a, some b, some x => match a, b with
      | .int _, .int k => some (OpKind.pure, oCvtInt k x)
      | .string, .slice e => bif isBytes P e then some (OpKind.new, oCvtBytes x) else none
      | .slice e, .string => bif isBytes P e then some (OpKind.read, oCvtString x) else none
      | .slice _, _ | _, .slice _ => none
      | _, _ => some (OpKind.pure, oCvt P s d x)
    | _, _, _ => none
  | .makeInterface t x => match P.underlying t, arOf x with
    | some (.interface _), _ => none
    | some _, some x => some (OpKind.pure, oMkIface t x)
    | _, _ => none
  | .makeFunc (.func f) xs ys => match arsOf xs.toList, arsOf ys.toList with
    | some xs, some ys => some (OpKind.pure, oMkFunc f xs ys)
    | _, _ => none
  | .makeMap _ none => some (OpKind.new, oMkMap)
  | .makeSlice t l c => match P.underlying t, arOf l, arOf c with
    | some (.slice e), some l, some c => match P.info? e, zeroT P e with
      | some i, some z => some (OpKind.new, oMakeSlice i.bytes i.size z.cells.toList l c)
      | _, _ => none
    | _, _, _ => none
  | .slice t x lo hi mx => match P.underlying t, arOf x, arO lo, arO hi, arO mx with
    | some (.array n e), some x, some lo, some hi, some mx => (sizeT P e).map fun z => (OpKind.pure, oSliceA n z x lo hi mx)
    | some (.slice e), some x, some lo, some hi, some mx => (sizeT P e).map fun z => (OpKind.pure, oSliceS z x lo hi mx)
    | some .string, some x, some lo, some hi, some none => some (OpKind.pure, oSliceT x lo hi)
    | _, _, _, _, _ => none
  | .fieldAddr s x f => match P.underlying s, arOf x with
    | some (.struct fs), some x => match fs[f]? with
      | some fd => match sizeT P fd.type with
        | some (_ + 1) => some (OpKind.pure, oFieldAddr fd.offset x)
        | _ => none
      | none => none
    | _, _ => none
  | .field t x f => match P.underlying t, arOf x with
    | some (.struct fs), some x => match fs[f]? with
      | some fd => match isAggT P fd.type, sizeT P fd.type with
        | some true, some n => some (OpKind.pure, oFieldA fd.offset n x)
        | some false, some _ => some (OpKind.pure, oField1 fd.offset x)
        | _, _ => none
      | none => none
    | _, _ => none
  | .indexAddr t x i => match P.underlying t, arOf x, arOf i with
    | some (.array len e), some x, some i => (sizeT P e).map fun n => (OpKind.pure, oIndexAddrA len n x i)
    | some (.slice e), some x, some i => (sizeT P e).map fun n => (OpKind.pure, oIndexAddrS n x i)
    | _, _, _ => none
  | .index t x i => match P.underlying t, arOf x, arOf i with
    | some (.array len e), some x, some i => match sizeT P e, isAggT P e with
      | some n, some g => some (OpKind.pure, oIndexA len n g x i)
      | _, _ => none
    | some .string, some x, some i => some (OpKind.pure, oIndexT x i)
    | _, _, _ => none
  | .lookup t m k ok => match P.underlying t, arOf m, arOf k with
    | some (.map kt et), some m, some k => (zeroT P et).map fun z => (OpKind.read, oLookup P kt z ok m k)
    | _, _, _ => none
  | .mapUpdate t m k v | .insert t m k v => match P.underlying t, arOf m, arOf k, arOf v with
    | some (.map kt _), some m, some k, some v => some (OpKind.eff, oMapUpdate P kt m k v)
    | _, _, _, _ => none
  | .mapEntry t m k => match P.underlying t, arOf m, arOf k with
    | some (.map kt et), some m, some k => (zeroT P et).map fun z => (OpKind.eff, oMapEntry P kt z m k)
    | _, _, _ => none
  | .entryStore _ m s v => match arOf m, arOf s, arOf v with
    | some m, some s, some v => some (OpKind.eff, oEntryStore m s v)
    | _, _, _ => none
  | .range t x => match P.underlying t, arOf x with
    | some .string, some x => some (OpKind.new, oRangeT x)
    | _, _ => none
  | .next it true => (arOf it).map (fun q => (OpKind.eff, oNextT q))
  | .typeAssert x _ as ok => match P.underlying as, zeroT P as, arOf x with
    | some (.interface want), some z, some x => some (OpKind.pure, oAssertI P want z ok x)
    | some _, some z, some x => some (OpKind.pure, oAssertC as z ok x)
    | _, _, _ => none
  | .extract t i => (arOf t).map (fun q => (OpKind.pure, oExtract i q))
  | .call c => prepCall P X c
  | .panic x => (arOf x).map (fun q => (OpKind.eff, oPanic q))
  | _ => none

def dstOf (nt : Nat) : Option Tmp → Option (Option Pa)
  | none => some none
  | some d => bif Nat.blt d nt then some (some (pa d)) else none

def guardOf (ops : Array Oper) : Option (Nat × Bool) → Option (Option (Pa × Bool))
  | none => some none
  | some (j, b) => match (ops[j]?).bind (·.dst) with
    | some d => some (some (pa d, b))
    | none => none

def prepOps (P : Program) (X : XT) (nt : Nat) (ops : Array Oper) (bf : Nat → Nat) : Nat → List Oper → Option (List AOper)
  | _, [] => some []
  | j, o :: r => match prepOp P X o.op, dstOf nt o.dst, guardOf ops o.guard, prepOps P X nt ops bf (j + 1) r with
    | some (kind, run), some dst, some guard, some l => some ({ run, dst, guard, kind, bf := bf j } :: l)
    | _, _, _, _ => none

def pasOf : List Tmp → List Pa
  | [] => []
  | t :: r => pa t :: pasOf r

/-- the temporaries that an operation names. -/
def opTmps (o : Oper) : List Tmp := o.op.operands.toList.filterMap fun | .tmp t => some t | _ => none
def gTmp (ops : Array Oper) (o : Oper) : List Tmp := match o.guard with
  | none => []
  | some (j, _) => ((ops[j]?).bind (·.dst)).toList
def names (ops : Array Oper) (o : Oper) : List Tmp := o.dst.toList ++ (opTmps o ++ gTmp ops o)
def clash (ops : Array Oper) (a b : Oper) : Bool := a.dst.toList.any (fun d => (names ops b).any (Nat.beq d)) || b.dst.toList.any (fun d => (names ops a).any (Nat.beq d))
/-- who writes what another names is ordered with it. -/
def ordOk (ops : Array Oper) (bf : Nat → Nat) : Bool := (List.range ops.size).all fun j => (List.range j).all fun i => match ops[i]?, ops[j]? with
  | some a, some b => !clash ops a b || (bf j).testBit i
  | _, _ => false
/-- what is said to come ahead does so. -/
def edgeOk (ops : Array Oper) (bf : Nat → Nat) : Bool := (List.range ops.size).all fun j => match ops[j]? with
  | some o => Nat.blt (bf j) (2 ^ j) && (o.after.toList.all (fun e => !Region.binds .any e || Nat.blt e.on j) && (List.range j).all fun k => !(bf j).testBit k || o.after.toList.any fun e => Region.binds .any e && (Nat.beq e.on k || (bf e.on).testBit k))
  | none => false

def prepCode (P : Program) (X : XT) (nt : Nat) : Code → Option ACode
  | .skip | .label _ => some .skip
  | .region _ ops false => (prepOps P X nt ops (fun _ => 0) 0 ops.toList).map .region
  | .region _ ops true =>
    let bf := Region.before ops
    bif ordOk ops (fun j => bf.getD j 0) && edgeOk ops (fun j => bf.getD j 0) then (prepOps P X nt ops (fun j => bf.getD j 0) 0 ops.toList).map .draw else none
  | .seq a b => match prepCode P X nt a, prepCode P X nt b with
    | some a, some b => some (.seq a b)
    | _, _ => none
  | .cond c a b => match arOf c, prepCode P X nt a, prepCode P X nt b with
    | some c, some a, some b => some (.cond c a b)
    | _, _, _ => none
  | .block id c => (prepCode P X nt c).map (.block id)
  | .loop c => (prepCode P X nt c).map .loop
  | .rangeFunc f ps a b => match arOf f, prepCode P X nt a, prepCode P X nt b with
    | some f, some a, some b => bif ps.toList.all (fun t => Nat.blt t nt) then some (.rangeF f (pasOf ps.toList) a b) else none
    | _, _, _ => none
  | .exit id => some (.exit id)
  | .scope c => (prepCode P X nt c).map .scope
  | .goto _ => none
  | .ret => some .ret
  | .refuse _ => none

def prepRes (P : Program) : ResultVar → Option ARes
  | .tmp t => some (.t (pa t))
  | .cell a t => match isAggT P t, sizeT P t with
    | some true, some n => some (.cA n (pa a))
    | some false, some _ => some (.c1 (pa a))
    | _, _ => none

def prepRess (P : Program) : List ResultVar → Option (List ARes)
  | [] => some []
  | r :: l => match prepRes P r, prepRess P l with
    | some x, some y => some (x :: y)
    | _, _ => none

def prepFn (P : Program) (X : XT) (fn : Func) : Option AFn :=
  match fn.body with
  | none => none
  | some c => match prepCode P X fn.ntmps c, prepRess P fn.results.toList with
    | some body, some results => bif Nat.ble (fn.params.size + fn.nfree) fn.ntmps && !(fn.name == "runtime.NumGoroutine") then some { nargs := fn.params.size + fn.nfree, results, body } else none
    | _, _ => none

def prepF (P : Program) (X : XT) (f : FuncId) : Option AFn := match P.funcs[f]? with | some fn => prepFn P X fn | none => none

end
end Go.AX
