/- The abstract executor 'AX': definitions (tries, the abstract heap, the operations, regions, code). -/
import Derived.WalkKit
import Derived.RangeFuncLeaves
set_option linter.unusedVariables false
set_option linter.unusedSimpArgs false
set_option linter.unusedSectionVars false
namespace Go.AX
noncomputable section

/-! ## Tries -/
inductive Pa where
  | e
  | l (p : Pa)
  | r (p : Pa)
  deriving DecidableEq

def paS (ih : Nat → Pa) (k : Nat) : Pa :=
  bif Nat.beq k 0 then .e else bif Nat.beq (k % 2) 1 then .l (ih (k / 2)) else .r (ih (k / 2 - 1))
def paF (f : Nat) : Nat → Pa := Nat.rec (motive := fun _ => Nat → Pa) (fun _ => .e) (fun _ ih => paS ih) f
/-- a number as a way through a trie. -/
def pa (k : Nat) : Pa := paF k k

inductive Tr (α : Type) where
  | e : Tr α
  | n (l : Tr α) (v : Option α) (r : Tr α) : Tr α

namespace Tr
variable {α : Type}
def root : Tr α → Option α
  | .e => none
  | .n _ v _ => v
def left : Tr α → Tr α
  | .e => .e
  | .n l _ _ => l
def right : Tr α → Tr α
  | .e => .e
  | .n _ _ r => r
def get (t : Tr α) (p : Pa) : Option α :=
  Pa.rec (motive := fun _ => Tr α → Option α) root (fun _ ih t => ih t.left) (fun _ ih t => ih t.right) p t
def put (t : Tr α) (p : Pa) (v : α) : Tr α :=
  Pa.rec (motive := fun _ => Tr α → Tr α) (fun t => .n t.left (some v) t.right) (fun _ ih t => .n (ih t.left) t.root t.right) (fun _ ih t => .n t.left t.root (ih t.right)) p t
def puts (t : Tr α) (k : Nat) : List α → Tr α
  | [] => t
  | v :: l => (t.put (pa k) v).puts (k + 1) l
end Tr

/-! ## Pure runs -/
inductive PR (α : Type) where
  | ok (a : α)
  | panic (v : Value)
  | no

/-- What a computation comes to that looks at the program alone. -/
def pure? {α : Type} (P : Program) : Sem α → PR α
  | .pure a => .ok a
  | .program k => pure? P (k P)
  | .mark _ k => pure? P k
  | .halt (.panic v) => .panic v
  | _ => .no

/-! ## Values without addresses -/
def clo : Nat → Value → Bool
  | d + 1, .agg cs => cs.toList.all (clo d)
  | d + 1, .tuple cs => cs.toList.all (clo d)
  | d + 1, .iface _ v => clo d v
  | d + 1, .func fn xs ys => (match fn with | .yield _ => false | _ => true) && xs.toList.all (clo d) && ys.toList.all (clo d)
  | _, .bool _ | _, .int _ _ | _, .string _ | _, .pointer none | _, .slice none _ _ | _, .map none | _, .nilFunc | _, .nilIface | _, .float _ _ => true
  | _, _ => false

def flat : Value → Bool
  | .agg _ | .tuple _ => false
  | _ => true

/-! ## The program, made ready -/
/-- an operand: a temporary, a constant without addresses, a function. -/
inductive Ar where
  | t (p : Pa)
  | c (v : Value)

/-- what a value of an interface, pointer .. type may be held against nil as. -/
inductive NilK where
  | ptr | slice | map | func | iface
  deriving DecidableEq

inductive OpKind where
  | pure | read | new | eff
  deriving DecidableEq

/-! ## The heap -/
/-- how a piece of code is left. -/
inductive AEx where
  | normal
  | exit (id : Nat)
  | ret
  | panic (chain : List PanicEntry)

/-- What a block is: a row of cells (kind 0: just these; kind 1: these and room for some elements of 'sz' cells behind them, how many is not known; kind 2: just these, never written); a map; a string's iterator; a loop's record; the block of a loop's deferred calls; nothing any more. -/
inductive AB where
  | cells (cs : List Value) (kind sz : Nat)
  | map (es : List MapEntry) (clock : Nat)
  | iter (s : ByteArray) (pos : Nat)
  | loop (state : LoopState) (pend : Option AEx)
  | dfr
  | dead

structure AH where
  bl : Tr AB
  nx : Nat
  /-- no block below it has been written since the call began -/
  lo : Nat

def AH.get (H : AH) (b : Nat) : Option AB := H.bl.get (pa b)
def AH.push (H : AH) (x : AB) : AH := ⟨H.bl.put (pa H.nx) x, H.nx + 1, H.lo⟩
def AH.set (H : AH) (b : Nat) (x : AB) : AH := ⟨H.bl.put (pa b) x, H.nx, min H.lo b⟩

def rd (H : AH) (b o n : Nat) : Option (List Value) :=
  match H.get b with
  | some (.cells cs _ _) => bif Nat.ble (o + n) cs.length then some ((cs.drop o).take n) else none
  | _ => none

def splice (cs : List Value) (o : Nat) (vs : List Value) : List Value := cs.take o ++ (vs ++ cs.drop (o + vs.length))

def wr (H : AH) (b o : Nat) (vs : List Value) : Option AH :=
  match H.get b with
  | some (.cells cs k z) => bif Nat.ble (o + vs.length) cs.length && !Nat.beq k 2 && vs.all flat then some (H.set b (.cells (splice cs o vs) k z)) else none
  | _ => none

def ptr (b o : Nat) : Value := .pointer (some ⟨b, o, none⟩)

/-! ## Frames -/
structure St where
  fr : Tr Value
  df : List Nat
  h : AH

def tmp (fr : Tr Value) (p : Pa) : Value := match fr.get p with | some v => v | none => undef
def ev (fr : Tr Value) : Ar → Value
  | .t p => tmp fr p
  | .c v => v
def evs (fr : Tr Value) : List Ar → List Value
  | [] => []
  | x :: r => ev fr x :: evs fr r
def evO (fr : Tr Value) : Option Ar → Option Value
  | none => none
  | some x => some (ev fr x)
def evP (fr : Tr Value) : List (Nat × Nat × Ar) → List (Nat × Nat × Value)
  | [] => []
  | (a, b, x) :: r => (a, b, ev fr x) :: evP fr r

def putT (fr : Tr Value) (dst : Option Pa) (v : Value) : Tr Value :=
  match dst with
  | none => fr
  | some d => fr.put d v

inductive ANext where
  | val (v : Value) (h : AH)
  | enter (f : FuncId) (args : List Value) (h : AH)
  | round (l : Nat) (args : List Value) (h : AH)
  | panic (v : Value) (h : AH)

inductive AEnd where
  | ret (v : Value)
  | panic (chain : List PanicEntry)

def ofPR (H : AH) : PR Value → Option ANext
  | .ok v => bif clo 5 v then some (.val v H) else none
  | .panic v => bif clo 5 v then some (.panic v H) else none
  | .no => none

/-! ## Operations -/
def aLoadA (n : Nat) (a : Value) (H : AH) : Option Value :=
  match a with
  | .pointer (some ⟨b, o, none⟩) => match rd H b o n with
    | some l => some (.agg l.toArray)
    | none => none
  | _ => none
def aLoad1 (a : Value) (H : AH) : Option Value :=
  match a with
  | .pointer (some ⟨b, o, none⟩) => match rd H b o 1 with
    | some [v] => some v
    | _ => none
  | _ => none

def aStore (n : Nat) (a v : Value) (H : AH) : Option ANext :=
  match a with
  | .pointer (some ⟨b, o, none⟩) => bif Nat.beq v.cells.toList.length n then (match wr H b o v.cells.toList with | some H' => some (.val undef H') | none => none) else none
  | _ => none

/-- parts (place, size, value) laid into cells. -/
def fillL (cells : List Value) : List (Nat × Nat × Value) → Option (List Value)
  | [] => some cells
  | (off, size, v) :: rest => bif Nat.beq v.cells.toList.length size && Nat.ble (off + size) cells.length then fillL (splice cells off v.cells.toList) rest else none

def repl (z : List Value) : Nat → List Value
  | 0 => []
  | n + 1 => z ++ repl z n

def inB (i : Int) (len : Nat) : Bool := match i with
  | .ofNat n => Nat.blt n len
  | .negSucc _ => false

def aMakeSlice (bytes size : Nat) (z : List Value) (l c : Value) (H : AH) : Option ANext :=
  match l, c with
  | .int _ (.ofNat l), .int _ (.ofNat c) =>
    bif Nat.ble l c && Nat.ble (c * bytes) 140737488355328 && Nat.ble c 4611686018427387904 && Nat.beq z.length size then
      some (.val (.slice (some ⟨H.nx, 0, none⟩) l c) (H.push (.cells (repl z c) 0 0)))
    else none
  | _, _ => none

def bndL (x : Option Value) (d y : Nat) : Option Nat :=
  match x with
  | none => some d
  | some (.int _ (.ofNat i)) => bif Nat.ble i y then some i else none
  | _ => none

/-- low, high and the third bound. -/
def bnds (len cap : Nat) (lo hi mx : Option Value) : Option (Nat × Nat × Nat) :=
  match mx, hi with
  | some _, none => none
  | _, _ =>
    match bndL mx cap cap with
    | none => none
    | some m => match bndL hi len m with
      | none => none
      | some h => match bndL lo 0 h with
        | none => none
        | some l => some (l, h, m)

def sl (b o l c : Nat) : Value := .slice (some ⟨b, o, none⟩) l c
def slr (b o l c : Nat) : Value := .slice (some ⟨b, o, some 0⟩) l c

def aSliceA (n z : Nat) (x : Value) (lo hi mx : Option Value) : Option Value :=
  match x with
  | .pointer (some ⟨b, o, none⟩) => match bnds n n lo hi mx with
    | some (l, h, m) => some (sl b (bif Nat.beq m l then o else o + l * z) (h - l) (m - l))
    | none => none
  | _ => none

def aSliceS (z : Nat) (x : Value) (lo hi mx : Option Value) : Option Value :=
  match x with
  | .slice (some ⟨b, o, none⟩) len cap => match bnds len cap lo hi mx with
    | some (l, h, m) => some (sl b (bif Nat.beq m l then o else o + l * z) (h - l) (m - l))
    | none => none
  | .slice (some ⟨b, o, some 0⟩) len cap => match bnds len cap lo hi mx, mx with
    | some (l, h, m), some _ => some (sl b (bif Nat.beq m l then o else o + l * z) (h - l) (m - l))
    | some (l, h, m), none => bif Nat.blt l m then some (slr b (o + l * z) (h - l) (m - l)) else bif Nat.beq l m && Nat.beq h l then some (.slice (some ⟨b, o, some 1⟩) 0 0) else none
    | none, _ => none
  | .slice none 0 0 => match bnds 0 0 lo hi mx with
    | some _ => some (.slice none 0 0)
    | none => none
  | _ => none

def aSliceT (x : Value) (lo hi : Option Value) : Option Value :=
  match x with
  | .string s => match bnds s.size s.size lo hi none with
    | some (l, h, _) => some (.string (s.extract l h))
    | none => none
  | _ => none

def aNilEq (k : NilK) (x y : Value) : Option Bool :=
  match k, x, y with
  | .ptr, .pointer (some ⟨_, _, none⟩), .pointer none | .ptr, .pointer none, .pointer (some ⟨_, _, none⟩) => some false
  | .slice, .slice (some _) _ _, .slice none _ _ | .slice, .slice none _ _, .slice (some _) _ _ => some false
  | .map, .map (some _), .map none | .map, .map none, .map (some _) => some false
  | .func, .func _ _ _, .nilFunc | .func, .nilFunc, .func _ _ _ => some false
  | .iface, .iface _ _, .nilIface | .iface, .nilIface, .iface _ _ => some false
  | _, _, _ => none

def keq (a b : IntKind) : Bool := Nat.beq (a.ctorIdx) (b.ctorIdx)

def wS (n a b : Int) : Int := bif decide (-a ≤ n) && decide (n < a) then n else (bif decide (n % b < a) then n % b else n % b - b)
def wU (n b : Int) : Int := n % b
/-- a number brought into its kind. -/
def wrapF (k : IntKind) (n : Int) : Int :=
  match k with
  | .i8 => wS n 128 256
  | .i16 => wS n 32768 65536
  | .i32 => wS n 2147483648 4294967296
  | .i64 => wS n 9223372036854775808 18446744073709551616
  | .u8 => wU n 256
  | .u16 => wU n 65536
  | .u32 => wU n 4294967296
  | .u64 => wU n 18446744073709551616

/-- two whole numbers of one kind. -/
def binInt (op : BinOp) (k : IntKind) (m n : Int) : Option Value :=
  match op with
  | .add => some (.int k (wrapF k (m + n)))
  | .sub => some (.int k (wrapF k (m - n)))
  | .mul => some (.int k (wrapF k (m * n)))
  | .lss => some (.bool (decide (m < n)))
  | .leq => some (.bool (decide (m ≤ n)))
  | .gtr => some (.bool (decide (m > n)))
  | .geq => some (.bool (decide (m ≥ n)))
  | .eql => some (.bool (m == n))
  | .neq => some (.bool (m != n))
  | _ => none

def aBin' (P : Program) (op : BinOp) (t : TypeId) (ox oy : Operand) (nk : Option NilK) (a b : Value) (H : AH) : Option ANext :=
  bif clo 4 a && clo 4 b then ofPR H (pure? P (do eqGuard op t ox oy a b; binOp op t a b))
  else match nk with
    | none => none
    | some k => match op, aNilEq k a b with
      | .eql, some r => some (.val (.bool r) H)
      | .neq, some r => some (.val (.bool (!r)) H)
      | _, _ => none

def aBin (P : Program) (op : BinOp) (t : TypeId) (ox oy : Operand) (nk : Option NilK) (a b : Value) (H : AH) : Option ANext :=
  match a, b with
  | .int k m, .int k' n => bif keq k k' then
      (match binInt op k m n with
      | some v => some (.val v H)
      | none => aBin' P op t ox oy nk a b H)
    else aBin' P op t ox oy nk a b H
  | _, _ => aBin' P op t ox oy nk a b H

def bytesOf (s : ByteArray) : List Value := s.data.toList.map fun b => .int .u8 b.toNat

def toBytes : List Value → ByteArray → Option ByteArray
  | [], acc => some acc
  | .int .u8 n :: r, acc => toBytes r (acc.push (UInt8.ofNat n.toNat))
  | _, _ => none

def aCvtString (x : Value) (H : AH) : Option Value :=
  match x with
  | .slice (some ⟨b, o, none⟩) len _ | .slice (some ⟨b, o, some 0⟩) len _ => match rd H b o len with
    | some l => match toBytes l .empty with | some s => some (.string s) | none => none
    | none => none
  | .slice (some ⟨_, _, some 1⟩) _ _ | .slice none _ _ => some (.string .empty)
  | _ => none

/-! ### Maps -/
def aFind (P : Program) (emp : Bool) (kt : TypeId) (k : Value) (es : List MapEntry) : Option (Option (Nat × Value)) :=
  bif clo 3 k then (match pure? P (do Instr.checkKey emp 10000 kt k; Instr.findKey kt k es) with | .ok r => some r | _ => none) else none

def keyAt (es : List MapEntry) (i : Nat) (d : Value) : Value := match es[i]? with | some e => e.key | none => d

def aLookup (P : Program) (kt : TypeId) (z : Value) (ok : Bool) (m k : Value) (H : AH) : Option Value :=
  match (match m with
    | .map none => some []
    | .map (some r) => (match H.get r with | some (.map es _) => some es | _ => none)
    | _ => none) with
  | none => none
  | some es => match aFind P es.isEmpty kt k es with
    | none => none
    | some (some (_, v)) => some (bif ok then .tuple #[v, .bool true] else v)
    | some none => some (bif ok then .tuple #[z, .bool false] else z)

def aMapUpdate (P : Program) (kt : TypeId) (m k v : Value) (H : AH) : Option AH :=
  match m with
  | .map (some r) => match H.get r with
    | some (.map es clock) => match aFind P false kt k es with
      | some (some (i, _)) => bif Instr.sameBits 10000 (keyAt es i k) k then some (H.set r (.map (es.modify i fun e => { e with key := k, val := v }) clock)) else none
      | some none => some (H.set r (.map (es ++ [{ key := k, val := v, born := clock }]) (clock + 1)))
      | none => none
    | _ => none
  | _ => none

def aMapEntry (P : Program) (kt : TypeId) (z : Value) (m k : Value) (H : AH) : Option ANext :=
  match m with
  | .map (some r) => match H.get r with
    | some (.map es clock) => match aFind P false kt k es with
      | some (some (i, v)) => bif Instr.sameBits 10000 (keyAt es i k) k then
          (match es[i]? with
          | some e => some (.val (.tuple #[v, .int .i64 e.born]) (H.set r (.map (es.modify i fun e => { e with key := k }) clock)))
          | none => none) else none
      | some none => some (.val (.tuple #[z, .int .i64 clock]) (H.set r (.map (es ++ [{ key := k, val := z, born := clock }]) (clock + 1))))
      | none => none
    | _ => none
  | _ => none

def bornAt (n : Int) : List MapEntry → Nat → Option Nat
  | [], _ => none
  | e :: r, i => bif (e.born : Int) == n then some i else bornAt n r (i + 1)

def aEntryStore (m s v : Value) (H : AH) : Option AH :=
  match m, s with
  | .map (some r), .int _ n => match H.get r with
    | some (.map es clock) => match bornAt n es 0 with
      | some i => some (H.set r (.map (es.modify i fun e => { e with val := v }) clock))
      | none => none
    | _ => none
  | _, _ => none

def aDelete (P : Program) (kt : TypeId) (m k : Value) (H : AH) : Option AH :=
  match m with
  | .map (some r) => match H.get r with
    | some (.map es clock) => match aFind P es.isEmpty kt k es with
      | some (some (i, _)) => some (H.set r (.map (es.eraseIdx i) clock))
      | some none => some (H.set r (.map es clock))
      | none => none
    | _ => none
  | _ => none

/-! ### Builtins -/
def aLenS (x : Value) : Option Value :=
  match x with
  | .slice (some ⟨_, _, none⟩) n _ | .slice (some ⟨_, _, some 0⟩) n _ | .slice (some ⟨_, _, some 1⟩) n _ | .slice none n _ => some (.int .i64 n)
  | _ => none
def aLenM (x : Value) (H : AH) : Option Value :=
  match x with
  | .map none => some (.int .i64 0)
  | .map (some r) => match H.get r with
    | some (.map es _) => some (.int .i64 es.length)
    | _ => none
  | _ => none

def cutN (lim : Option Nat) (n : Nat) : Nat := match lim with | some m => Nat.min n m | none => n
def srcAt (H : AH) (b o z k : Nat) : Option (Nat × List Value) :=
  match rd H b o (k * z) with
  | some l => some (k, l)
  | none => none
/-- The first elements (at most 'lim') of a source of append or copy: how many, and their cells. -/
def aSource (H : AH) (z : Nat) (x : Value) (lim : Option Nat) : Option (Nat × List Value) :=
  match x with
  | .slice none 0 _ => some (0, [])
  | .slice (some ⟨b, o, none⟩) n _ | .slice (some ⟨b, o, some 0⟩) n _ => srcAt H b o z (cutN lim n)
  | .slice (some ⟨_, _, some 1⟩) 0 _ => some (0, [])
  | .string s => bif Nat.beq z 1 then some (cutN lim s.size, (bytesOf s).take (cutN lim s.size)) else none
  | _ => none

def room (need bytes : Nat) : Bool := Nat.ble (need * bytes) 70368744177664 && Nat.ble need 1099511627776

def aAppend (size bytes : Nat) (s x : Value) (H : AH) : Option ANext :=
  match aSource H size x none with
  | none => none
  | some (0, _) => (match s with
    | .slice none 0 0 | .slice (some ⟨_, _, some 1⟩) _ _ => some (.val s H)
    | .slice (some ⟨_, _, none⟩) len cap | .slice (some ⟨_, _, some 0⟩) len cap => bif Nat.ble len cap then some (.val s H) else none
    | _ => none)
  | some (n, new) => match s with
    | .slice none 0 0 => bif room n bytes && new.all flat then some (.val (slr H.nx 0 n n) (H.push (.cells new 1 size))) else none
    | .slice (some ⟨b, o, none⟩) len cap =>
      bif Nat.ble (len + n) cap then (match wr H b (o + len * size) new with
        | some H' => some (.val (sl b o (len + n) cap) H')
        | none => none)
      else match rd H b o (len * size) with
        | some old => bif room (len + n) bytes && new.all flat then some (.val (slr H.nx 0 (len + n) (len + n)) (H.push (.cells (old ++ new) 1 size))) else none
        | none => none
    | .slice (some ⟨b, 0, some 0⟩) len cap => match H.get b with
      | some (.cells cs 1 z) => bif Nat.beq z size && Nat.ble len cap && Nat.beq cs.length (cap * size) && room (len + n) bytes && new.all flat then
          some (.val (slr H.nx 0 (len + n) (len + n)) ((H.set b .dead).push (.cells (cs.take (len * size) ++ new) 1 size))) else none
      | _ => none
    | _ => none

def aCopy (size : Nat) (d x : Value) (H : AH) : Option ANext :=
  match d with
  | .slice none 0 _ => match aSource H size x (some 0) with
    | some _ => some (.val (.int .i64 0) H)
    | none => none
  | .slice (some ⟨b, o, none⟩) len _ | .slice (some ⟨b, o, some 0⟩) len _ => match aSource H size x (some len) with
    | some (n, new) => match wr H b o new with
      | some H' => some (.val (.int .i64 n) H')
      | none => none
    | none => none
  | _ => none

/-- functions without a body, at arguments without addresses. -/
abbrev XT := FuncId → List Value → Option Value

def val? (H : AH) : Option Value → Option ANext
  | some v => some (.val v H)
  | none => none
def heap? : Option AH → Option ANext
  | some H => some (.val undef H)
  | none => none

def oMov (x : Ar) (fr : Tr Value) (H : AH) : Option ANext := some (.val (ev fr x) H)
def oPick (c a b : Ar) (fr : Tr Value) (H : AH) : Option ANext := match ev fr c with
    | .bool true => some (.val (ev fr a) H)
    | .bool false => some (.val (ev fr b) H)
    | _ => none
def oAlloc (z : List Value) (fr : Tr Value) (H : AH) : Option ANext := some (.val (ptr H.nx 0) (H.push (.cells z 0 0)))
def oBox (x : Ar) (fr : Tr Value) (H : AH) : Option ANext := some (.val (ptr H.nx 0) (H.push (.cells (ev fr x).cells.toList 0 0)))
def oBuild (z : List Value) (ps : List (Nat × Nat × Ar)) (fr : Tr Value) (H : AH) : Option ANext := match fillL z (evP fr ps) with
    | some cs => some (.val (.agg cs.toArray) H)
    | none => none
def oBuildSlice (len : Nat) (z : List Value) (ps : List (Nat × Nat × Ar)) (fr : Tr Value) (H : AH) : Option ANext := match fillL z (evP fr ps) with
    | some cs => some (.val (sl H.nx 0 len len) (H.push (.cells cs 0 0)))
    | none => none
def oLoadA (n : Nat) (a : Ar) (fr : Tr Value) (H : AH) : Option ANext := val? H (aLoadA n (ev fr a) H)
def oLoad1 (a : Ar) (fr : Tr Value) (H : AH) : Option ANext := val? H (aLoad1 (ev fr a) H)
def oStore (n : Nat) (a v : Ar) (fr : Tr Value) (H : AH) : Option ANext := aStore n (ev fr a) (ev fr v) H
def oNilCheck (x : Ar) (fr : Tr Value) (H : AH) : Option ANext := match ev fr x with
    | .pointer (some ⟨b, o, none⟩) => some (.val (ptr b o) H)
    | .func (.func f) xs ys => some (.val (.func (.func f) xs ys) H)
    | _ => none
def oBin (P : Program) (op : BinOp) (t : TypeId) (ox oy : Operand) (nk : Option NilK) (x y : Ar) (fr : Tr Value) (H : AH) : Option ANext := aBin P op t ox oy nk (ev fr x) (ev fr y) H
def oUn (P : Program) (op : UnOp) (x : Ar) (fr : Tr Value) (H : AH) : Option ANext := match op, ev fr x with
    | .not, .bool b => some (.val (.bool (!b)) H)
    | op, v => bif clo 1 v then ofPR H (pure? P (Op.unary op v)) else none
def oCvtInt (k : IntKind) (x : Ar) (fr : Tr Value) (H : AH) : Option ANext := match ev fr x with
    | .int _ n => some (.val (.int k (wrapF k n)) H)
    | _ => none
def oCvtBytes (x : Ar) (fr : Tr Value) (H : AH) : Option ANext := match ev fr x with
    | .string s => bif Nat.ble s.size 1073741824 then some (.val (slr H.nx 0 s.size s.size) (H.push (.cells (bytesOf s) 1 1))) else none
    | _ => none
def oCvtString (x : Ar) (fr : Tr Value) (H : AH) : Option ANext := val? H (aCvtString (ev fr x) H)
def oCvt (P : Program) (s d : TypeId) (x : Ar) (fr : Tr Value) (H : AH) : Option ANext := bif clo 4 (ev fr x) then ofPR H (pure? P (convert s d (ev fr x))) else none
def oMkIface (t : TypeId) (x : Ar) (fr : Tr Value) (H : AH) : Option ANext := some (.val (.iface t (ev fr x)) H)
def oMkFunc (f : FuncId) (xs ys : List Ar) (fr : Tr Value) (H : AH) : Option ANext := some (.val (.func (.func f) (evs fr xs).toArray (evs fr ys).toArray) H)
def oMkMap  (fr : Tr Value) (H : AH) : Option ANext := some (.val (.map (some H.nx)) (H.push (.map [] 0)))
def oMakeSlice (bytes size : Nat) (z : List Value) (l c : Ar) (fr : Tr Value) (H : AH) : Option ANext := aMakeSlice bytes size z (ev fr l) (ev fr c) H
def oSliceA (n z : Nat) (x : Ar) (lo hi mx : Option Ar) (fr : Tr Value) (H : AH) : Option ANext := val? H (aSliceA n z (ev fr x) (evO fr lo) (evO fr hi) (evO fr mx))
def oSliceS (z : Nat) (x : Ar) (lo hi mx : Option Ar) (fr : Tr Value) (H : AH) : Option ANext := val? H (aSliceS z (ev fr x) (evO fr lo) (evO fr hi) (evO fr mx))
def oSliceT (x : Ar) (lo hi : Option Ar) (fr : Tr Value) (H : AH) : Option ANext := val? H (aSliceT (ev fr x) (evO fr lo) (evO fr hi))
def oFieldAddr (off : Nat) (x : Ar) (fr : Tr Value) (H : AH) : Option ANext := match ev fr x with
    | .pointer (some ⟨b, o, none⟩) => some (.val (ptr b (o + off)) H)
    | _ => none
def oFieldA (off n : Nat) (x : Ar) (fr : Tr Value) (H : AH) : Option ANext := match ev fr x with
    | .agg cs => some (.val (.agg (cs.extract off (off + n))) H)
    | _ => none
def oField1 (off : Nat) (x : Ar) (fr : Tr Value) (H : AH) : Option ANext := match ev fr x with
    | .agg cs => val? H cs[off]?
    | _ => none
def oIndexAddrA (len n : Nat) (x i : Ar) (fr : Tr Value) (H : AH) : Option ANext := match ev fr x, ev fr i with
    | .pointer (some ⟨b, o, none⟩), .int _ i => bif inB i len then some (.val (ptr b (o + i.toNat * n)) H) else none
    | _, _ => none
def oIndexAddrS (n : Nat) (x i : Ar) (fr : Tr Value) (H : AH) : Option ANext := match ev fr x, ev fr i with
    | .slice (some ⟨b, o, none⟩) len _, .int _ i | .slice (some ⟨b, o, some 0⟩) len _, .int _ i => bif inB i len then some (.val (ptr b (o + i.toNat * n)) H) else none
    | _, _ => none
def oIndexA (len n : Nat) (agg : Bool) (x i : Ar) (fr : Tr Value) (H : AH) : Option ANext := match ev fr x, ev fr i with
    | .agg cs, .int _ i => bif inB i len then
        (bif agg then some (.val (.agg (cs.extract (i.toNat * n) (i.toNat * n + n))) H) else val? H cs[i.toNat * n]?) else none
    | _, _ => none
def oIndexT (x i : Ar) (fr : Tr Value) (H : AH) : Option ANext := match ev fr x, ev fr i with
    | .string s, .int _ i => bif inB i s.size then (match s.data.toList[i.toNat]? with | some b => some (.val (.int .u8 b.toNat) H) | none => none) else none
    | _, _ => none
def oLookup (P : Program) (kt : TypeId) (z : Value) (ok : Bool) (m k : Ar) (fr : Tr Value) (H : AH) : Option ANext := val? H (aLookup P kt z ok (ev fr m) (ev fr k) H)
def oMapUpdate (P : Program) (kt : TypeId) (m k v : Ar) (fr : Tr Value) (H : AH) : Option ANext := heap? (aMapUpdate P kt (ev fr m) (ev fr k) (ev fr v) H)
def oMapEntry (P : Program) (kt : TypeId) (z : Value) (m k : Ar) (fr : Tr Value) (H : AH) : Option ANext := aMapEntry P kt z (ev fr m) (ev fr k) H
def oEntryStore (m s v : Ar) (fr : Tr Value) (H : AH) : Option ANext := heap? (aEntryStore (ev fr m) (ev fr s) (ev fr v) H)
def oRangeT (x : Ar) (fr : Tr Value) (H : AH) : Option ANext := match ev fr x with
    | .string s => some (.val (ptr H.nx 0) (H.push (.iter s 0)))
    | _ => none
def oNextT (x : Ar) (fr : Tr Value) (H : AH) : Option ANext := match ev fr x with
    | .pointer (some ⟨r, 0, none⟩) => match H.get r with
      | some (.iter s pos) => bif Nat.blt pos s.size then
          (match Utf8.decode s pos with
          | (c, width) => some (.val (.tuple #[.bool true, .int .i64 pos, .int .i32 c]) (H.set r (.iter s (pos + width)))))
        else some (.val (.tuple #[.bool false]) H)
      | _ => none
    | _ => none
def oAssertI (P : Program) (want : Array (String × TypeId)) (z : Value) (ok : Bool) (x : Ar) (fr : Tr Value) (H : AH) : Option ANext := match ev fr x with
    | .iface t v => match P.info? t with
      | some i => match Instr.missingMethod want i.methods with
        | none => some (.val (bif ok then .tuple #[.iface t v, .bool true] else .iface t v) H)
        | some _ => bif ok then some (.val (.tuple #[z, .bool false]) H) else none
      | none => none
    | .nilIface => bif ok then some (.val (.tuple #[z, .bool false]) H) else none
    | _ => none
def oAssertC (t : TypeId) (z : Value) (ok : Bool) (x : Ar) (fr : Tr Value) (H : AH) : Option ANext := match ev fr x with
    | .iface u v => bif Nat.beq u t then some (.val (bif ok then .tuple #[v, .bool true] else v) H)
      else bif ok then some (.val (.tuple #[z, .bool false]) H) else none
    | .nilIface => bif ok then some (.val (.tuple #[z, .bool false]) H) else none
    | _ => none
def oExtract (i : Nat) (x : Ar) (fr : Tr Value) (H : AH) : Option ANext := match ev fr x with
    | .tuple vs => val? H vs[i]?
    | _ => none
def oEnter (f : FuncId) (args : List Ar) (fr : Tr Value) (H : AH) : Option ANext := some (.enter f (evs fr args) H)
def oExt (X : XT) (f : FuncId) (args : List Ar) (fr : Tr Value) (H : AH) : Option ANext := match X f (evs fr args) with
    | some v => bif clo 5 v && (evs fr args).all (clo 4) then some (.val v H) else none
    | none => none
def oCallV (x : Ar) (args : List Ar) (fr : Tr Value) (H : AH) : Option ANext := match ev fr x with
    | .func (.func g) first cap => some (.enter g (first.toList ++ (evs fr args ++ cap.toList)) H)
    | .func (.yield l) first cap => bif first.isEmpty && cap.isEmpty then some (.round l (evs fr args) H) else none
    | _ => none
def oLenC (n : Nat) (fr : Tr Value) (H : AH) : Option ANext := some (.val (.int .i64 n) H)
def oLenT (x : Ar) (fr : Tr Value) (H : AH) : Option ANext := match ev fr x with
    | .string s => some (.val (.int .i64 s.size) H)
    | _ => none
def oLenS (x : Ar) (fr : Tr Value) (H : AH) : Option ANext := val? H (aLenS (ev fr x))
def oLenM (x : Ar) (fr : Tr Value) (H : AH) : Option ANext := val? H (aLenM (ev fr x) H)
def oAppend (size bytes : Nat) (s x : Ar) (fr : Tr Value) (H : AH) : Option ANext := aAppend size bytes (ev fr s) (ev fr x) H
def oCopy (size : Nat) (d x : Ar) (fr : Tr Value) (H : AH) : Option ANext := aCopy size (ev fr d) (ev fr x) H
def oDelete (P : Program) (kt : TypeId) (m k : Ar) (fr : Tr Value) (H : AH) : Option ANext := match aDelete P kt (ev fr m) (ev fr k) H with
    | some H' => some (.val (.tuple #[]) H')
    | none => none
def oMinmax (P : Program) (isMax : Bool) (args : List Ar) (fr : Tr Value) (H : AH) : Option ANext := bif (evs fr args).all (clo 1) then ofPR H (pure? P (bif isMax then Builtin.max_ #[] 0 (evs fr args).toArray else Builtin.min_ #[] 0 (evs fr args).toArray)) else none
def oPanic (x : Ar) (fr : Tr Value) (H : AH) : Option ANext := match ev fr x with
    | .iface t v => bif clo 4 v then some (.panic (.iface t v) H) else none
    | _ => none

/-! ## Code, made ready -/
structure AOper where
  run : Tr Value → AH → Option ANext
  dst : Option Pa
  guard : Option (Pa × Bool)
  kind : OpKind
  /-- which operations of the region it waits for (bits). -/
  bf : Nat

inductive ACode where
  | skip
  | region (ops : List AOper)
  | draw (ops : List AOper)
  | seq (a b : ACode)
  | cond (c : Ar) (a b : ACode)
  | block (id : Nat) (c : ACode)
  | scope (c : ACode)
  | loop (c : ACode)
  | exit (id : Nat)
  | ret
  | rangeF (f : Ar) (params : List Pa) (assign body : ACode)

inductive ARes where
  | t (p : Pa)
  | cA (n : Nat) (p : Pa)
  | c1 (p : Pa)

structure AFn where
  nargs : Nat
  results : List ARes
  body : ACode

/-! ## Regions -/
def want (fr : Tr Value) : Option (Pa × Bool) → Bool
  | none => true
  | some (p, b) => match fr.get p with
    | some (.bool c) => c == b
    | _ => false

/-- is it known whether the operation is wanted? -/
def known (fr : Tr Value) : Option (Pa × Bool) → Bool
  | none => true
  | some (p, _) => match fr.get p with
    | some (.bool _) | some (.tuple _) | none => true
    | _ => false

abbrev CallF := FuncId → List Value → AH → Option (AEnd × AH)
abbrev RoundF := Nat → List Value → AH → Option (AEnd × AH)

/-- One operation, its calls carried out. -/
def aDo (cf : CallF) (rf : RoundF) (o : AOper) (st : St) : Option (AEx × St) :=
  match o.run st.fr st.h with
  | some (.val v h) => some (.normal, { st with fr := putT st.fr o.dst v, h })
  | some (.panic v h) => some (.panic [{ v, recovered := false }], { st with h })
  | some (.enter f args h) => match cf f args h with
    | some (.ret v, h') => some (.normal, { st with fr := putT st.fr o.dst v, h := h' })
    | some (.panic ch, h') => some (.panic ch, { st with h := h' })
    | none => none
  | some (.round l args h) => match rf l args h with
    | some (.ret v, h') => some (.normal, { st with fr := putT st.fr o.dst v, h := h' })
    | some (.panic ch, h') => some (.panic ch, { st with h := h' })
    | none => none
  | none => none

def oNext (go : St → Option (AEx × St)) (x : Option (AEx × St)) : Option (AEx × St) :=
  match x with
  | some (.normal, st') => go st'
  | r => r
def aOps (cf : CallF) (rf : RoundF) (l : List AOper) : St → Option (AEx × St) :=
  List.rec (motive := fun _ => St → Option (AEx × St)) (fun st => some (.normal, st))
    (fun o _ ih st => bif want st.fr o.guard then oNext ih (aDo cf rf o st) else bif known st.fr o.guard then ih { st with fr := putT st.fr o.dst undef } else none) l

/-! ## Regions that draw their order -/
def veq : Nat → Value → Value → Bool
  | _, .bool a, .bool b => a == b
  | _, .int j a, .int k b => keq j k && a == b
  | _, .string a, .string b => a.data.toList == b.data.toList
  | _, .pointer a, .pointer b => a == b
  | _, .slice a l c, .slice b m d => a == b && l == m && c == d
  | _, .map a, .map b => a == b
  | _, .nilIface, .nilIface => true
  | _, .nilFunc, .nilFunc => true
  | n + 1, .iface t v, .iface u w => t == u && veq n v w
  | n + 1, .agg a, .agg b => a.size == b.size && (a.toList.zip b.toList).all fun x => veq n x.1 x.2
  | n + 1, .tuple a, .tuple b => a.size == b.size && (a.toList.zip b.toList).all fun x => veq n x.1 x.2
  | n + 1, .func f a c, .func g b d => f == g && a.size == b.size && c.size == d.size && ((a.toList.zip b.toList).all fun x => veq n x.1 x.2) && ((c.toList.zip d.toList).all fun x => veq n x.1 x.2)
  | _, _, _ => false

/-- a block that an operation of the region laid: the operation's place, the block's number, what it held at first. -/
structure New where
  op : Nat
  id : Nat
  blk : AB

def lay (H : AH) : List New → AH
  | [] => H
  | a :: r => lay ⟨H.bl.put (pa a.id) a.blk, H.nx, H.lo⟩ r

/-- an operation that read: its place, the operation, the frame that it saw, what it read. -/
structure Read where
  op : Nat
  o : AOper
  fr : Tr Value
  v : Value

/-- The state of the walk of a region that draws: frame; the heap after the effects so far; the number that the next new block gets; the blocks laid; which operations' blocks are laid open (bits: what effects so far wait for); the effects so far (place, what was open and the heap ahead of it), the last first; what was read. -/
structure DS where
  fr : Tr Value
  h : AH
  nid : Nat
  news : List New
  seen : Nat
  chain : List (Nat × Nat × AH)
  reads : List Read

def opened (bf seen : Nat) (l : List New) : List New := l.filter fun a => bf.testBit a.op && !seen.testBit a.op

inductive DOut where
  | go (s : DS)
  | stop (ch : List PanicEntry) (s : DS) (h : AH)

/-- from place i on each operation waits for j, but those up to j. -/
def allAfter (j : Nat) : Nat → List AOper → Bool
  | _, [] => true
  | i, o :: r => (Nat.ble i j || o.bf.testBit j) && allAfter j (i + 1) r

def dEff (ops : List AOper) (j : Nat) (o : AOper) (s : DS) (x : Option (AEx × St)) : Option DOut :=
  match x with
  | some (.normal, st) => some (.go { s with fr := st.fr, h := st.h, seen := s.seen ||| o.bf, chain := (j, s.seen, s.h) :: s.chain })
  | some (.panic ch, st) => bif allAfter j 0 ops then some (.stop ch s st.h) else none
  | _ => none

def dOne (cf : CallF) (rf : RoundF) (ops : List AOper) (j : Nat) (o : AOper) (s : DS) : Option DOut :=
  bif want s.fr o.guard then
    match o.kind with
    | .pure => match o.run s.fr ⟨.e, 0, 0⟩ with
      | some (.val v _) => some (.go { s with fr := putT s.fr o.dst v })
      | _ => none
    | .read => match o.run s.fr (lay s.h (opened o.bf s.seen s.news)) with
      | some (.val v _) => some (.go { s with fr := putT s.fr o.dst v, reads := ⟨j, o, s.fr, v⟩ :: s.reads })
      | _ => none
    | .new => match o.run s.fr ⟨.e, s.nid, 0⟩ with
      | some (.val v h1) => match h1.get s.nid with
        | some .dead => none
        | some b => some (.go { s with fr := putT s.fr o.dst v, nid := s.nid + 1, news := ⟨j, s.nid, b⟩ :: s.news })
        | none => none
      | _ => none
    | .eff =>
      bif s.chain.all fun c => o.bf.testBit c.1 then dEff ops j o s (aDo cf rf o { fr := s.fr, df := [], h := lay s.h (opened o.bf s.seen s.news) }) else none
  else bif known s.fr o.guard then some (.go { s with fr := putT s.fr o.dst undef }) else none

def dAll (cf : CallF) (rf : RoundF) (ops : List AOper) : Nat → List AOper → DS → Option DOut
  | _, [], s => some (.go s)
  | j, o :: rest, s => match dOne cf rf ops j o s with
    | some (.go s') => dAll cf rf ops (j + 1) rest s'
    | r => r

def bfAt (ops : List AOper) (j : Nat) : Nat := match ops[j]? with | some o => o.bf | none => 0

/-- May this read be carried out when just the effects 'done' have been, 'left' still to come? Then it reads the same there. -/
def readAt (ops : List AOper) (news : List New) (r : Read) (done left : List Nat) (seen : Nat) (H : AH) : Bool :=
  bif left.all (fun c => !r.o.bf.testBit c) && done.all (fun c => !(bfAt ops c).testBit r.op) then
    match r.o.run r.fr (lay H (opened r.o.bf seen news)) with
    | some (.val v _) => veq 6 v r.v
    | _ => false
  else true

def readsAt (ops : List AOper) (news : List New) (rs : List Read) (done left : List Nat) (seen : Nat) (H : AH) : Bool :=
  rs.all fun r => readAt ops news r done left seen H

/-- over all points of the chain: 'left' the effects behind the point, 'chain' those ahead of it, the last first. -/
def readsAll (ops : List AOper) (news : List New) (rs : List Read) : List (Nat × Nat × AH) → List Nat → Nat → AH → Bool
  | [], left, seen, H => readsAt ops news rs [] left seen H
  | (c, seen', H') :: chain, left, seen, H =>
    readsAt ops news rs (c :: chain.map (·.1)) left seen H && readsAll ops news rs chain (c :: left) seen' H'

def readsOk (ops : List AOper) (s : DS) : Bool :=
  match s.chain with
  | [] => true
  | _ => readsAll ops s.news s.reads s.chain [] s.seen s.h

def countNew : List AOper → Nat
  | [] => 0
  | o :: r => match o.kind with
    | .new => countNew r + 1
    | _ => countNew r

def aDraw (cf : CallF) (rf : RoundF) (ops : List AOper) (st : St) : Option (AEx × St) :=
  match dAll cf rf ops 0 ops { fr := st.fr, h := ⟨st.h.bl, st.h.nx + countNew ops, st.h.lo⟩, nid := st.h.nx, news := [], seen := 0, chain := [], reads := [] } with
  | some (.go s) => bif readsOk ops s then some (.normal, { st with fr := s.fr, h := lay s.h (s.news.filter fun a => !s.seen.testBit a.op) }) else none
  | some (.stop ch s h) => bif readsOk ops s then some (.panic ch, { st with h := h }) else none
  | none => none

/-! ## Code -/
def aRes (H : AH) (fr : Tr Value) : ARes → Option Value
  | .t p => some (tmp fr p)
  | .cA n p => aLoadA n (tmp fr p) H
  | .c1 p => aLoad1 (tmp fr p) H

def aRess (H : AH) (fr : Tr Value) : List ARes → Option (List Value)
  | [] => some []
  | r :: l => match aRes H fr r, aRess H fr l with
    | some v, some vs => some (v :: vs)
    | _, _ => none

/-- At a function's end the blocks for the deferred calls of loops' rounds are taken: they are empty. -/
def leave : List Nat → AH → Option AH
  | [], H => some H
  | b :: ds, H => match H.get b with
    | some .dfr => leave ds (H.set b .dead)
    | _ => none

/-- what a call leaves: nothing but the value, if that bears no address and no block of the caller's has been written. -/
def trim (H : AH) (v : Value) (H' : AH) : AH :=
  bif Nat.ble H.nx H'.lo && clo 5 v then H else ⟨H'.bl, H'.nx, min H.lo H'.lo⟩

def tupleOf : List Value → Value
  | [v] => v
  | vs => .tuple vs.toArray

def aEnd (H : AH) (fn : AFn) (st : St) : Option (AEnd × AH) :=
  match leave st.df st.h with
  | none => none
  | some h => match aRess h st.fr fn.results with
    | some vs => some (.ret (tupleOf vs), trim H (tupleOf vs) h)
    | none => none

/-- the functions, made ready. -/
abbrev FT := FuncId → Option AFn

/-- A function's body run to its end. -/
def aBody (T : FT) (rc : ACode → St → Option (AEx × St)) (f : FuncId) (args : List Value) (H : AH) : Option (AEnd × AH) :=
  match T f with
  | none => none
  | some fn => bif Nat.beq args.length fn.nargs then
      (match rc fn.body { fr := Tr.e.puts 0 args, df := [], h := ⟨H.bl, H.nx, H.nx⟩ } with
      | some (.normal, st) | some (.ret, st) => aEnd H fn st
      | some (.panic ch, st) => match leave st.df st.h with
        | some h => some (.panic ch, ⟨h.bl, h.nx, min H.lo h.lo⟩)
        | none => none
      | _ => none)
    else none

def putMany (fr : Tr Value) : List Pa → List Value → Option (Tr Value)
  | [], [] => some fr
  | p :: ps, v :: vs => putMany (fr.put p v) ps vs
  | _, _ => none

/-- a loop over a function: its record's number, the frame that it began in, where a round's values go, its two pieces of code. -/
structure Lp where
  id : Nat
  fr : Tr Value
  params : List Pa
  assign : ACode
  body : ACode

def findLp (l : Nat) : List Lp → Option (Lp × List Lp)
  | [] => none
  | x :: r => bif Nat.beq x.id l then some (x, r) else findLp l r

/-- what runs code: the loops round about, whether the frame is that of a round. -/
abbrev Runs := List Lp → Bool → ACode → St → Option (AEx × St)

def rEnd (l : Nat) (x : Option (AEx × St)) : Option (AEnd × AH) :=
  match x with
  | some (e, st) => match st.df, st.h.get l with
    | [], some (.loop .busy _) =>
      match e with
      | .normal => some (.ret (.bool true), st.h.set l (.loop .ready none))
      | .ret => some (.ret (.bool false), st.h.set l (.loop .done (some .ret)))
      | .exit id => some (.ret (.bool false), st.h.set l (.loop .done (some (.exit id))))
      | .panic _ => none
    | _, _ => none
  | none => none

def rBody (ih : Runs) (env : List Lp) (x : Lp) (y : Option (AEx × St)) : Option (AEnd × AH) :=
  match y with
  | some (.normal, st) => match st.h.get x.id with
    | some (.loop .ready none) => rEnd x.id (ih env true x.body { st with h := st.h.set x.id (.loop .busy none) })
    | _ => none
  | _ => none

/-- One round of a loop over a function. -/
def aRound (ih : Runs) (env : List Lp) (l : Nat) (args : List Value) (H : AH) : Option (AEnd × AH) :=
  match findLp l env, H.get l with
  | some (x, env'), some (.loop _ _) => (match putMany x.fr x.params args with
    | none => none
    | some fr => rBody ih env' x (ih env' true x.assign { fr, df := [], h := H }))
  | _, _ => none

def cSeq (go : St → Option (AEx × St)) (x : Option (AEx × St)) : Option (AEx × St) :=
  match x with
  | some (.normal, st') => go st'
  | x => x
def cCond (ih : ACode → St → Option (AEx × St)) (c : Value) (a b : ACode) (st : St) : Option (AEx × St) :=
  match c with
  | .bool true => ih a st
  | .bool false => ih b st
  | _ => none
def cBlock (id : Nat) (x : Option (AEx × St)) : Option (AEx × St) :=
  match x with
  | some (.exit id', st') => bif Nat.beq id' id then some (.normal, st') else some (.exit id', st')
  | x => x
/-- behind the call of the function that is ranged over. -/
def cAfter (st : St) (x : Option (AEnd × AH)) : Option (AEx × St) :=
  match x with
  | some (.ret _, h1) => match h1.get (st.h.nx + 1) with
    | some (.loop .ready none) => some (.normal, { st with h := h1.set (st.h.nx + 1) (.loop .exhausted none), df := st.h.nx :: st.df })
    | some (.loop .done (some .ret)) => some (.ret, { st with h := h1.set (st.h.nx + 1) (.loop .exhausted (some .ret)), df := st.h.nx :: st.df })
    | some (.loop .done (some (.exit id))) => some (.exit id, { st with h := h1.set (st.h.nx + 1) (.loop .exhausted (some (.exit id))), df := st.h.nx :: st.df })
    | _ => none
  | some (.panic ch, h1) => some (.panic ch, { st with h := h1, df := st.h.nx :: st.df })
  | none => none
def cRange (T : FT) (ih : Runs) (env : List Lp) (r : Bool) (f : Value) (params : List Pa) (assign body : ACode) (st : St) : Option (AEx × St) :=
  match f, r with
  | .func (.func g) first cap, false =>
    cAfter st (aBody T (ih (⟨st.h.nx + 1, st.fr, params, assign, body⟩ :: env) false) g (first.toList ++ (.func (.yield (st.h.nx + 1)) #[] #[] :: cap.toList)) ((st.h.push .dfr).push (.loop .ready none)))
  | _, _ => none

def cStep (T : FT) (ih : Runs) (env : List Lp) (r : Bool) (c : ACode) (st : St) : Option (AEx × St) :=
  match c with
  | .skip => some (.normal, st)
  | .exit id => some (.exit id, st)
  | .ret => some (.ret, st)
  | .seq a b => cSeq (ih env r b) (ih env r a st)
  | .cond c a b => cCond (ih env r) (ev st.fr c) a b st
  | .block id c => cBlock id (ih env r c st)
  | .scope c => ih env r c st
  | .loop c => cSeq (ih env r (.loop c)) (ih env r c st)
  | .region ops => aOps (aBody T (ih env false)) (aRound ih env) ops st
  | .draw ops => aDraw (aBody T (ih env false)) (aRound ih env) ops st
  | .rangeF f params assign body => cRange T ih env r (ev st.fr f) params assign body st

/-- The executor. -/
def aCode (T : FT) (n : Nat) : Runs :=
  Nat.rec (motive := fun _ => Runs) (fun _ _ _ _ => none) (fun _ ih => cStep T ih) n

def aCall (T : FT) (n : Nat) (env : List Lp) (f : FuncId) (args : List Value) (H : AH) : Option (AEnd × AH) := aBody T (aCode T n env false) f args H

end
end Go.AX
