/-
  No cell of these rows narrows 'for every input' (looked for: loops, veiled, ifaces, maps, wideKeys, modest, calm, conditions, laid).
  DERIVED. THE GIVEN ROWS OF THIS SEAT. 8 by the template 'for every input the law returns true; each argument reads behind the call as it read before'; 0 by the template 'total and deterministic' (their statements: YthhgeodgfbhkdaaTotals.lean).
  GIVEN WITH THE SEED: the statements are not yours to turn. If you find one false, say at which input.
  Laid BY PROGRAM, IN A SANDBOX (cutbox-rows.mjs): the forced cells as the released guide's own fill.sh prints them over the translation 42c18a82d30c8f15… (all of the seat's roots in one cut). By AI agents, Wed Nov 11 2026. No macro, syntax, notation, axiom, sorry.
-/
import Derived.Test.YthhgeodgfbhkdaaChecked
import GoSem.Claim
import GoSem.ClaimJoined
import GoSem.ClaimMapViews
import Derived.JoinedTies
import Derived.KernelRfl
namespace Go.Proofs.Ythhgeodgfbhkdaa
/- THE CELL 'sum', in the pinned program and in every row, IS THE sha256 OF THE DUMP (.gsa) THAT YthhgeodgfbhkdaaProg.lean LOADS. Nothing in Lean hashes anything: it is a label: what it is worth is what the hold of that sum in a sandbox is worth. -/
noncomputable def Try.pinned : Pinned := { name := "ythhgeodgfbhkdaa", sum := "42c18a82d30c8f154f2f4ff312f3a5d63f8ae06a3b5ae23187bfaa47d0e28eba", checked := Try.checked }
namespace Rows
def none {H : Type} : Left H := { results := [], args := [] }

/-- 'paintboxlaw22.TriChecks': WHATEVER THE INPUT: true; the input reads as it did. -/
def triChecksSpec : ChangeSpec := { name := "triChecks", fn := fun _ => fun
  | [d] => { results := [.lit (.bool true)], args := [d] }
  | _ => none }
def triChecksRow : OpenClaim := { program := "ythhgeodgfbhkdaa", sum := "42c18a82d30c8f154f2f4ff312f3a5d63f8ae06a3b5ae23187bfaa47d0e28eba", func := "paintbox/paintboxlaw22.TriChecks", spec := "triChecks", inPlace := ["math/bits.Add64", "math/bits.Sub64"], unfollowed := true, recurses := true, plainKeys := false, apart := false }
def TriChecksSaid : Prop := triChecksRow.holds Try.pinned (OpenSpec.ofChange triChecksSpec)

/-- ITS FALSE NEIGHBOUR: 'it returns false'. Refute it at one input. -/
def triChecksWrong : ChangeSpec := { name := "triChecks", fn := fun _ => fun
  | [d] => { results := [.lit (.bool false)], args := [d] }
  | _ => none }
def TriChecksWrongFalsely : Prop := triChecksRow.holds Try.pinned (OpenSpec.ofChange triChecksWrong)

/-- 'paintboxlaw22.TriBeside': WHATEVER THE INPUT: true; the input reads as it did. -/
def triBesideSpec : ChangeSpec := { name := "triBeside", fn := fun _ => fun
  | [d1, d2] => { results := [.lit (.bool true)], args := [d1, d2] }
  | _ => none }
def triBesideRow : OpenClaim := { program := "ythhgeodgfbhkdaa", sum := "42c18a82d30c8f154f2f4ff312f3a5d63f8ae06a3b5ae23187bfaa47d0e28eba", func := "paintbox/paintboxlaw22.TriBeside", spec := "triBeside", inPlace := ["math/bits.Add64", "math/bits.Sub64"], unfollowed := true, recurses := true, plainKeys := false, apart := false }
def TriBesideSaid : Prop := triBesideRow.holds Try.pinned (OpenSpec.ofChange triBesideSpec)

/-- ITS FALSE NEIGHBOUR: 'it returns false'. Refute it at one input. -/
def triBesideWrong : ChangeSpec := { name := "triBeside", fn := fun _ => fun
  | [d1, d2] => { results := [.lit (.bool false)], args := [d1, d2] }
  | _ => none }
def TriBesideWrongFalsely : Prop := triBesideRow.holds Try.pinned (OpenSpec.ofChange triBesideWrong)

/-- 'paintboxlaw22.TriMesh': WHATEVER THE INPUT: true; the input reads as it did. -/
def triMeshSpec : ChangeSpec := { name := "triMesh", fn := fun _ => fun
  | [d1, d2, d3] => { results := [.lit (.bool true)], args := [d1, d2, d3] }
  | _ => none }
def triMeshRow : OpenClaim := { program := "ythhgeodgfbhkdaa", sum := "42c18a82d30c8f154f2f4ff312f3a5d63f8ae06a3b5ae23187bfaa47d0e28eba", func := "paintbox/paintboxlaw22.TriMesh", spec := "triMesh", inPlace := ["math/bits.Add64", "math/bits.Sub64"], unfollowed := true, recurses := true, plainKeys := false, apart := false }
def TriMeshSaid : Prop := triMeshRow.holds Try.pinned (OpenSpec.ofChange triMeshSpec)

/-- ITS FALSE NEIGHBOUR: 'it returns false'. Refute it at one input. -/
def triMeshWrong : ChangeSpec := { name := "triMesh", fn := fun _ => fun
  | [d1, d2, d3] => { results := [.lit (.bool false)], args := [d1, d2, d3] }
  | _ => none }
def TriMeshWrongFalsely : Prop := triMeshRow.holds Try.pinned (OpenSpec.ofChange triMeshWrong)

/-- 'paintboxlaw22.TriBetween': WHATEVER THE INPUT: true; the input reads as it did. -/
def triBetweenSpec : ChangeSpec := { name := "triBetween", fn := fun _ => fun
  | [d1, d2, d3] => { results := [.lit (.bool true)], args := [d1, d2, d3] }
  | _ => none }
def triBetweenRow : OpenClaim := { program := "ythhgeodgfbhkdaa", sum := "42c18a82d30c8f154f2f4ff312f3a5d63f8ae06a3b5ae23187bfaa47d0e28eba", func := "paintbox/paintboxlaw22.TriBetween", spec := "triBetween", inPlace := ["math/bits.Add64", "math/bits.Sub64"], unfollowed := true, recurses := true, plainKeys := false, apart := false }
def TriBetweenSaid : Prop := triBetweenRow.holds Try.pinned (OpenSpec.ofChange triBetweenSpec)

/-- ITS FALSE NEIGHBOUR: 'it returns false'. Refute it at one input. -/
def triBetweenWrong : ChangeSpec := { name := "triBetween", fn := fun _ => fun
  | [d1, d2, d3] => { results := [.lit (.bool false)], args := [d1, d2, d3] }
  | _ => none }
def TriBetweenWrongFalsely : Prop := triBetweenRow.holds Try.pinned (OpenSpec.ofChange triBetweenWrong)

/-- 'paintboxlaw22.TriAt': WHATEVER THE INPUT: true; the input reads as it did. -/
def triAtSpec : ChangeSpec := { name := "triAt", fn := fun _ => fun
  | [d1, d2, d3] => { results := [.lit (.bool true)], args := [d1, d2, d3] }
  | _ => none }
def triAtRow : OpenClaim := { program := "ythhgeodgfbhkdaa", sum := "42c18a82d30c8f154f2f4ff312f3a5d63f8ae06a3b5ae23187bfaa47d0e28eba", func := "paintbox/paintboxlaw22.TriAt", spec := "triAt", inPlace := ["math/bits.Add64", "math/bits.Sub64"], unfollowed := true, recurses := true, plainKeys := false, apart := false }
def TriAtSaid : Prop := triAtRow.holds Try.pinned (OpenSpec.ofChange triAtSpec)

/-- ITS FALSE NEIGHBOUR: 'it returns false'. Refute it at one input. -/
def triAtWrong : ChangeSpec := { name := "triAt", fn := fun _ => fun
  | [d1, d2, d3] => { results := [.lit (.bool false)], args := [d1, d2, d3] }
  | _ => none }
def TriAtWrongFalsely : Prop := triAtRow.holds Try.pinned (OpenSpec.ofChange triAtWrong)

/-- 'paintboxlaw22.TriFills': WHATEVER THE INPUT: true; the input reads as it did. -/
def triFillsSpec : ChangeSpec := { name := "triFills", fn := fun _ => fun
  | [d1, d2] => { results := [.lit (.bool true)], args := [d1, d2] }
  | _ => none }
def triFillsRow : OpenClaim := { program := "ythhgeodgfbhkdaa", sum := "42c18a82d30c8f154f2f4ff312f3a5d63f8ae06a3b5ae23187bfaa47d0e28eba", func := "paintbox/paintboxlaw22.TriFills", spec := "triFills", inPlace := ["math/bits.Add64", "math/bits.Sub64"], unfollowed := true, recurses := true, plainKeys := false, apart := false }
def TriFillsSaid : Prop := triFillsRow.holds Try.pinned (OpenSpec.ofChange triFillsSpec)

/-- ITS FALSE NEIGHBOUR: 'it returns false'. Refute it at one input. -/
def triFillsWrong : ChangeSpec := { name := "triFills", fn := fun _ => fun
  | [d1, d2] => { results := [.lit (.bool false)], args := [d1, d2] }
  | _ => none }
def TriFillsWrongFalsely : Prop := triFillsRow.holds Try.pinned (OpenSpec.ofChange triFillsWrong)

/-- 'paintboxlaw22.TriSame': WHATEVER THE INPUT: true; the input reads as it did. -/
def triSameSpec : ChangeSpec := { name := "triSame", fn := fun _ => fun
  | [d1, d2] => { results := [.lit (.bool true)], args := [d1, d2] }
  | _ => none }
def triSameRow : OpenClaim := { program := "ythhgeodgfbhkdaa", sum := "42c18a82d30c8f154f2f4ff312f3a5d63f8ae06a3b5ae23187bfaa47d0e28eba", func := "paintbox/paintboxlaw22.TriSame", spec := "triSame", inPlace := ["math/bits.Add64", "math/bits.Sub64"], unfollowed := true, recurses := true, plainKeys := false, apart := false }
def TriSameSaid : Prop := triSameRow.holds Try.pinned (OpenSpec.ofChange triSameSpec)

/-- ITS FALSE NEIGHBOUR: 'it returns false'. Refute it at one input. -/
def triSameWrong : ChangeSpec := { name := "triSame", fn := fun _ => fun
  | [d1, d2] => { results := [.lit (.bool false)], args := [d1, d2] }
  | _ => none }
def TriSameWrongFalsely : Prop := triSameRow.holds Try.pinned (OpenSpec.ofChange triSameWrong)

/-- 'paintboxlaw22.TriTurns': WHATEVER THE INPUT: true; the input reads as it did. -/
def triTurnsSpec : ChangeSpec := { name := "triTurns", fn := fun _ => fun
  | [d1, d2] => { results := [.lit (.bool true)], args := [d1, d2] }
  | _ => none }
def triTurnsRow : OpenClaim := { program := "ythhgeodgfbhkdaa", sum := "42c18a82d30c8f154f2f4ff312f3a5d63f8ae06a3b5ae23187bfaa47d0e28eba", func := "paintbox/paintboxlaw22.TriTurns", spec := "triTurns", inPlace := ["math/bits.Add64", "math/bits.Sub64"], unfollowed := true, recurses := true, plainKeys := false, apart := false }
def TriTurnsSaid : Prop := triTurnsRow.holds Try.pinned (OpenSpec.ofChange triTurnsSpec)

/-- ITS FALSE NEIGHBOUR: 'it returns false'. Refute it at one input. -/
def triTurnsWrong : ChangeSpec := { name := "triTurns", fn := fun _ => fun
  | [d1, d2] => { results := [.lit (.bool false)], args := [d1, d2] }
  | _ => none }
def TriTurnsWrongFalsely : Prop := triTurnsRow.holds Try.pinned (OpenSpec.ofChange triTurnsWrong)

/- THE SECOND FORM. 'bulk': how many values and letters a reading holds, each counted each time it is reached (what is shared counts as often as it is met; a slice's spare places count too). A statement '..UptoSaid' is the law's where the arguments, and the package variables that the reading takes, are together of bulk at most 1048576: NARROWER than '..Said'. Prove '..Said' where nothing that the law and all that it calls make is longer than what came in: it says more and counts as full. Else prove '..UptoSaid'. A law counts once. -/
mutual
def uptoBulk {H : Type} : DataW H → Nat
  | .lit (.string bytes) => bytes.length + 1
  | .lit _ => 1
  | .nil => 1
  | .ptr d => uptoBulk d + 1
  | .slice elems spare => uptoBulkAll elems + uptoBulkAll spare + 1
  | .agg parts => uptoBulkAll parts + 1
  | .iface _ d => uptoBulk d + 1
  | .map entries => uptoBulkEntries entries + 1
  | .held _ => 1
def uptoBulkAll {H : Type} : List (DataW H) → Nat
  | [] => 0
  | d :: r => uptoBulk d + uptoBulkAll r
def uptoBulkEntries {H : Type} : List (Lit × DataW H) → Nat
  | [] => 0
  | x :: r => uptoBulkEntry x + uptoBulkEntries r
def uptoBulkEntry {H : Type} : Lit × DataW H → Nat
  | (.string bytes, d) => bytes.length + uptoBulk d + 1
  | (_, d) => uptoBulk d + 1
 end
def uptoSmall : (H : Type) → List (DataW H) → Bool := fun _ ds => decide (uptoBulkAll ds ≤ 1048576)
def OpenSpec.upto (s : _root_.Go.ChangeSpec) : _root_.Go.OpenSpec := { _root_.Go.OpenSpec.ofChange s with cond := some uptoSmall }

/-- 'paintboxlaw22.TriChecks', WHERE WHAT IT READS IS OF BULK AT MOST 1048576: true; the input reads as it did. -/
def triChecksUptoRow : OpenClaim := { program := "ythhgeodgfbhkdaa", sum := "42c18a82d30c8f154f2f4ff312f3a5d63f8ae06a3b5ae23187bfaa47d0e28eba", func := "paintbox/paintboxlaw22.TriChecks", spec := "triChecks", inPlace := ["math/bits.Add64", "math/bits.Sub64"], unfollowed := true, recurses := true, plainKeys := false, apart := false, narrowed := true }
def TriChecksUptoSaid : Prop := triChecksUptoRow.holds Try.pinned (OpenSpec.upto triChecksSpec)

/-- 'paintboxlaw22.TriBeside', WHERE WHAT IT READS IS OF BULK AT MOST 1048576: true; the input reads as it did. -/
def triBesideUptoRow : OpenClaim := { program := "ythhgeodgfbhkdaa", sum := "42c18a82d30c8f154f2f4ff312f3a5d63f8ae06a3b5ae23187bfaa47d0e28eba", func := "paintbox/paintboxlaw22.TriBeside", spec := "triBeside", inPlace := ["math/bits.Add64", "math/bits.Sub64"], unfollowed := true, recurses := true, plainKeys := false, apart := false, narrowed := true }
def TriBesideUptoSaid : Prop := triBesideUptoRow.holds Try.pinned (OpenSpec.upto triBesideSpec)

/-- 'paintboxlaw22.TriMesh', WHERE WHAT IT READS IS OF BULK AT MOST 1048576: true; the input reads as it did. -/
def triMeshUptoRow : OpenClaim := { program := "ythhgeodgfbhkdaa", sum := "42c18a82d30c8f154f2f4ff312f3a5d63f8ae06a3b5ae23187bfaa47d0e28eba", func := "paintbox/paintboxlaw22.TriMesh", spec := "triMesh", inPlace := ["math/bits.Add64", "math/bits.Sub64"], unfollowed := true, recurses := true, plainKeys := false, apart := false, narrowed := true }
def TriMeshUptoSaid : Prop := triMeshUptoRow.holds Try.pinned (OpenSpec.upto triMeshSpec)

/-- 'paintboxlaw22.TriBetween', WHERE WHAT IT READS IS OF BULK AT MOST 1048576: true; the input reads as it did. -/
def triBetweenUptoRow : OpenClaim := { program := "ythhgeodgfbhkdaa", sum := "42c18a82d30c8f154f2f4ff312f3a5d63f8ae06a3b5ae23187bfaa47d0e28eba", func := "paintbox/paintboxlaw22.TriBetween", spec := "triBetween", inPlace := ["math/bits.Add64", "math/bits.Sub64"], unfollowed := true, recurses := true, plainKeys := false, apart := false, narrowed := true }
def TriBetweenUptoSaid : Prop := triBetweenUptoRow.holds Try.pinned (OpenSpec.upto triBetweenSpec)

/-- 'paintboxlaw22.TriAt', WHERE WHAT IT READS IS OF BULK AT MOST 1048576: true; the input reads as it did. -/
def triAtUptoRow : OpenClaim := { program := "ythhgeodgfbhkdaa", sum := "42c18a82d30c8f154f2f4ff312f3a5d63f8ae06a3b5ae23187bfaa47d0e28eba", func := "paintbox/paintboxlaw22.TriAt", spec := "triAt", inPlace := ["math/bits.Add64", "math/bits.Sub64"], unfollowed := true, recurses := true, plainKeys := false, apart := false, narrowed := true }
def TriAtUptoSaid : Prop := triAtUptoRow.holds Try.pinned (OpenSpec.upto triAtSpec)

/-- 'paintboxlaw22.TriFills', WHERE WHAT IT READS IS OF BULK AT MOST 1048576: true; the input reads as it did. -/
def triFillsUptoRow : OpenClaim := { program := "ythhgeodgfbhkdaa", sum := "42c18a82d30c8f154f2f4ff312f3a5d63f8ae06a3b5ae23187bfaa47d0e28eba", func := "paintbox/paintboxlaw22.TriFills", spec := "triFills", inPlace := ["math/bits.Add64", "math/bits.Sub64"], unfollowed := true, recurses := true, plainKeys := false, apart := false, narrowed := true }
def TriFillsUptoSaid : Prop := triFillsUptoRow.holds Try.pinned (OpenSpec.upto triFillsSpec)

/-- 'paintboxlaw22.TriSame', WHERE WHAT IT READS IS OF BULK AT MOST 1048576: true; the input reads as it did. -/
def triSameUptoRow : OpenClaim := { program := "ythhgeodgfbhkdaa", sum := "42c18a82d30c8f154f2f4ff312f3a5d63f8ae06a3b5ae23187bfaa47d0e28eba", func := "paintbox/paintboxlaw22.TriSame", spec := "triSame", inPlace := ["math/bits.Add64", "math/bits.Sub64"], unfollowed := true, recurses := true, plainKeys := false, apart := false, narrowed := true }
def TriSameUptoSaid : Prop := triSameUptoRow.holds Try.pinned (OpenSpec.upto triSameSpec)

/-- 'paintboxlaw22.TriTurns', WHERE WHAT IT READS IS OF BULK AT MOST 1048576: true; the input reads as it did. -/
def triTurnsUptoRow : OpenClaim := { program := "ythhgeodgfbhkdaa", sum := "42c18a82d30c8f154f2f4ff312f3a5d63f8ae06a3b5ae23187bfaa47d0e28eba", func := "paintbox/paintboxlaw22.TriTurns", spec := "triTurns", inPlace := ["math/bits.Add64", "math/bits.Sub64"], unfollowed := true, recurses := true, plainKeys := false, apart := false, narrowed := true }
def TriTurnsUptoSaid : Prop := triTurnsUptoRow.holds Try.pinned (OpenSpec.upto triTurnsSpec)

end Rows
end Go.Proofs.Ythhgeodgfbhkdaa
