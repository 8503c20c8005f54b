/-
  No cell of these rows narrows 'for every input' (looked for: loops, veiled, ifaces, maps, wideKeys, modest, calm, conditions, laid).
  DERIVED. THE GIVEN ROWS OF THIS SEAT. 11 by the template 'for every input the law returns true; each argument reads behind the call as it read before'; 0 by the template 'total and deterministic' (their statements: YtikkknaofiafhaaTotals.lean).
  GIVEN WITH THE SEED: the statements are not yours to turn. If you find one false, say at which input.
  Laid BY PROGRAM, IN A SANDBOX (cutbox-rows.mjs): the forced cells as the released guide's own fill.sh prints them over the translation 582597b9a663b6b4… (all of the seat's roots in one cut). By AI agents, Wed Nov 11 2026. No macro, syntax, notation, axiom, sorry.
-/
import Derived.Test.YtikkknaofiafhaaChecked
import GoSem.Claim
import GoSem.ClaimJoined
import GoSem.ClaimMapViews
import Derived.JoinedTies
import Derived.KernelRfl
namespace Go.Proofs.Ytikkknaofiafhaa
/- THE CELL 'sum', in the pinned program and in every row, IS THE sha256 OF THE DUMP (.gsa) THAT YtikkknaofiafhaaProg.lean LOADS. Nothing in Lean hashes anything: it is a label: what it is worth is what the hold of that sum in a sandbox is worth. -/
noncomputable def Try.pinned : Pinned := { name := "ytikkknaofiafhaa", sum := "582597b9a663b6b4d05c69147070ccba56e21e44281b907fa4604d7509011c1e", checked := Try.checked }
namespace Rows
def none {H : Type} : Left H := { results := [], args := [] }

/-- 'armoirelaw03.TupleWrites': WHATEVER THE INPUT: true; the input reads as it did. -/
def tupleWritesSpec : ChangeSpec := { name := "tupleWrites", fn := fun _ => fun
  | [d1, d2] => { results := [.lit (.bool true)], args := [d1, d2] }
  | _ => none }
def tupleWritesRow : OpenClaim := { program := "ytikkknaofiafhaa", sum := "582597b9a663b6b4d05c69147070ccba56e21e44281b907fa4604d7509011c1e", func := "armoire/armoirelaw03.TupleWrites", spec := "tupleWrites", unfollowed := true, recurses := true, apart := false }
def TupleWritesSaid : Prop := tupleWritesRow.holds Try.pinned (OpenSpec.ofChange tupleWritesSpec)

/-- ITS FALSE NEIGHBOUR: 'it returns false'. Refute it at one input. -/
def tupleWritesWrong : ChangeSpec := { name := "tupleWrites", fn := fun _ => fun
  | [d1, d2] => { results := [.lit (.bool false)], args := [d1, d2] }
  | _ => none }
def TupleWritesWrongFalsely : Prop := tupleWritesRow.holds Try.pinned (OpenSpec.ofChange tupleWritesWrong)

/-- 'armoirelaw03.TupleBegins': WHATEVER THE INPUT: true; the input reads as it did. -/
def tupleBeginsSpec : ChangeSpec := { name := "tupleBegins", fn := fun _ => fun
  | [d1, d2, d3] => { results := [.lit (.bool true)], args := [d1, d2, d3] }
  | _ => none }
def tupleBeginsRow : OpenClaim := { program := "ytikkknaofiafhaa", sum := "582597b9a663b6b4d05c69147070ccba56e21e44281b907fa4604d7509011c1e", func := "armoire/armoirelaw03.TupleBegins", spec := "tupleBegins", unfollowed := true, recurses := true, apart := false }
def TupleBeginsSaid : Prop := tupleBeginsRow.holds Try.pinned (OpenSpec.ofChange tupleBeginsSpec)

/-- ITS FALSE NEIGHBOUR: 'it returns false'. Refute it at one input. -/
def tupleBeginsWrong : ChangeSpec := { name := "tupleBegins", fn := fun _ => fun
  | [d1, d2, d3] => { results := [.lit (.bool false)], args := [d1, d2, d3] }
  | _ => none }
def TupleBeginsWrongFalsely : Prop := tupleBeginsRow.holds Try.pinned (OpenSpec.ofChange tupleBeginsWrong)

/-- 'armoirelaw03.TupleEnds': WHATEVER THE INPUT: true; the input reads as it did. -/
def tupleEndsSpec : ChangeSpec := { name := "tupleEnds", fn := fun _ => fun
  | [d1, d2, d3] => { results := [.lit (.bool true)], args := [d1, d2, d3] }
  | _ => none }
def tupleEndsRow : OpenClaim := { program := "ytikkknaofiafhaa", sum := "582597b9a663b6b4d05c69147070ccba56e21e44281b907fa4604d7509011c1e", func := "armoire/armoirelaw03.TupleEnds", spec := "tupleEnds", unfollowed := true, recurses := true, apart := false }
def TupleEndsSaid : Prop := tupleEndsRow.holds Try.pinned (OpenSpec.ofChange tupleEndsSpec)

/-- ITS FALSE NEIGHBOUR: 'it returns false'. Refute it at one input. -/
def tupleEndsWrong : ChangeSpec := { name := "tupleEnds", fn := fun _ => fun
  | [d1, d2, d3] => { results := [.lit (.bool false)], args := [d1, d2, d3] }
  | _ => none }
def TupleEndsWrongFalsely : Prop := tupleEndsRow.holds Try.pinned (OpenSpec.ofChange tupleEndsWrong)

/-- 'armoirelaw22.SplitPlays': WHATEVER THE INPUT: true; the input reads as it did. -/
def splitPlaysSpec : ChangeSpec := { name := "splitPlays", fn := fun _ => fun
  | [d1, d2, d3] => { results := [.lit (.bool true)], args := [d1, d2, d3] }
  | _ => none }
def splitPlaysRow : OpenClaim := { program := "ytikkknaofiafhaa", sum := "582597b9a663b6b4d05c69147070ccba56e21e44281b907fa4604d7509011c1e", func := "armoire/armoirelaw22.SplitPlays", spec := "splitPlays", unfollowed := true, recurses := true, apart := false }
def SplitPlaysSaid : Prop := splitPlaysRow.holds Try.pinned (OpenSpec.ofChange splitPlaysSpec)

/-- ITS FALSE NEIGHBOUR: 'it returns false'. Refute it at one input. -/
def splitPlaysWrong : ChangeSpec := { name := "splitPlays", fn := fun _ => fun
  | [d1, d2, d3] => { results := [.lit (.bool false)], args := [d1, d2, d3] }
  | _ => none }
def SplitPlaysWrongFalsely : Prop := splitPlaysRow.holds Try.pinned (OpenSpec.ofChange splitPlaysWrong)

/-- 'armoirelaw22.SplitMoves': WHATEVER THE INPUT: true; the input reads as it did. -/
def splitMovesSpec : ChangeSpec := { name := "splitMoves", fn := fun _ => fun
  | [d1, d2, d3, d4] => { results := [.lit (.bool true)], args := [d1, d2, d3, d4] }
  | _ => none }
def splitMovesRow : OpenClaim := { program := "ytikkknaofiafhaa", sum := "582597b9a663b6b4d05c69147070ccba56e21e44281b907fa4604d7509011c1e", func := "armoire/armoirelaw22.SplitMoves", spec := "splitMoves", unfollowed := true, recurses := true, apart := false }
def SplitMovesSaid : Prop := splitMovesRow.holds Try.pinned (OpenSpec.ofChange splitMovesSpec)

/-- ITS FALSE NEIGHBOUR: 'it returns false'. Refute it at one input. -/
def splitMovesWrong : ChangeSpec := { name := "splitMoves", fn := fun _ => fun
  | [d1, d2, d3, d4] => { results := [.lit (.bool false)], args := [d1, d2, d3, d4] }
  | _ => none }
def SplitMovesWrongFalsely : Prop := splitMovesRow.holds Try.pinned (OpenSpec.ofChange splitMovesWrong)

/-- 'armoirelaw22.SplitNil': WHATEVER THE INPUT: true; the input reads as it did. -/
def splitNilSpec : ChangeSpec := { name := "splitNil", fn := fun _ => fun
  | [d1, d2] => { results := [.lit (.bool true)], args := [d1, d2] }
  | _ => none }
def splitNilRow : OpenClaim := { program := "ytikkknaofiafhaa", sum := "582597b9a663b6b4d05c69147070ccba56e21e44281b907fa4604d7509011c1e", func := "armoire/armoirelaw22.SplitNil", spec := "splitNil", unfollowed := true, recurses := true, apart := false }
def SplitNilSaid : Prop := splitNilRow.holds Try.pinned (OpenSpec.ofChange splitNilSpec)

/-- ITS FALSE NEIGHBOUR: 'it returns false'. Refute it at one input. -/
def splitNilWrong : ChangeSpec := { name := "splitNil", fn := fun _ => fun
  | [d1, d2] => { results := [.lit (.bool false)], args := [d1, d2] }
  | _ => none }
def SplitNilWrongFalsely : Prop := splitNilRow.holds Try.pinned (OpenSpec.ofChange splitNilWrong)

/-- 'armoirelaw03.TupleJoin': WHATEVER THE INPUT: true; the input reads as it did. -/
def tupleJoinSpec : ChangeSpec := { name := "tupleJoin", fn := fun _ => fun
  | [d1, d2] => { results := [.lit (.bool true)], args := [d1, d2] }
  | _ => none }
def tupleJoinRow : OpenClaim := { program := "ytikkknaofiafhaa", sum := "582597b9a663b6b4d05c69147070ccba56e21e44281b907fa4604d7509011c1e", func := "armoire/armoirelaw03.TupleJoin", spec := "tupleJoin", unfollowed := true, recurses := true, apart := false }
def TupleJoinSaid : Prop := tupleJoinRow.holds Try.pinned (OpenSpec.ofChange tupleJoinSpec)

/-- ITS FALSE NEIGHBOUR: 'it returns false'. Refute it at one input. -/
def tupleJoinWrong : ChangeSpec := { name := "tupleJoin", fn := fun _ => fun
  | [d1, d2] => { results := [.lit (.bool false)], args := [d1, d2] }
  | _ => none }
def TupleJoinWrongFalsely : Prop := tupleJoinRow.holds Try.pinned (OpenSpec.ofChange tupleJoinWrong)

/-- 'armoirelaw03.TupleCut': WHATEVER THE INPUT: true; the input reads as it did. -/
def tupleCutSpec : ChangeSpec := { name := "tupleCut", fn := fun _ => fun
  | [d1, d2] => { results := [.lit (.bool true)], args := [d1, d2] }
  | _ => none }
def tupleCutRow : OpenClaim := { program := "ytikkknaofiafhaa", sum := "582597b9a663b6b4d05c69147070ccba56e21e44281b907fa4604d7509011c1e", func := "armoire/armoirelaw03.TupleCut", spec := "tupleCut", unfollowed := true, recurses := true, apart := false }
def TupleCutSaid : Prop := tupleCutRow.holds Try.pinned (OpenSpec.ofChange tupleCutSpec)

/-- ITS FALSE NEIGHBOUR: 'it returns false'. Refute it at one input. -/
def tupleCutWrong : ChangeSpec := { name := "tupleCut", fn := fun _ => fun
  | [d1, d2] => { results := [.lit (.bool false)], args := [d1, d2] }
  | _ => none }
def TupleCutWrongFalsely : Prop := tupleCutRow.holds Try.pinned (OpenSpec.ofChange tupleCutWrong)

/-- 'armoirelaw03.TupleReads': WHATEVER THE INPUT: true; the input reads as it did. -/
def tupleReadsSpec : ChangeSpec := { name := "tupleReads", fn := fun _ => fun
  | [d] => { results := [.lit (.bool true)], args := [d] }
  | _ => none }
def tupleReadsRow : OpenClaim := { program := "ytikkknaofiafhaa", sum := "582597b9a663b6b4d05c69147070ccba56e21e44281b907fa4604d7509011c1e", func := "armoire/armoirelaw03.TupleReads", spec := "tupleReads", unfollowed := true, recurses := true, apart := false }
def TupleReadsSaid : Prop := tupleReadsRow.holds Try.pinned (OpenSpec.ofChange tupleReadsSpec)

/-- ITS FALSE NEIGHBOUR: 'it returns false'. Refute it at one input. -/
def tupleReadsWrong : ChangeSpec := { name := "tupleReads", fn := fun _ => fun
  | [d] => { results := [.lit (.bool false)], args := [d] }
  | _ => none }
def TupleReadsWrongFalsely : Prop := tupleReadsRow.holds Try.pinned (OpenSpec.ofChange tupleReadsWrong)

/-- 'armoirelaw03.TupleOrder': WHATEVER THE INPUT: true; the input reads as it did. -/
def tupleOrderSpec : ChangeSpec := { name := "tupleOrder", fn := fun _ => fun
  | [d1, d2] => { results := [.lit (.bool true)], args := [d1, d2] }
  | _ => none }
def tupleOrderRow : OpenClaim := { program := "ytikkknaofiafhaa", sum := "582597b9a663b6b4d05c69147070ccba56e21e44281b907fa4604d7509011c1e", func := "armoire/armoirelaw03.TupleOrder", spec := "tupleOrder", unfollowed := true, recurses := true, apart := false }
def TupleOrderSaid : Prop := tupleOrderRow.holds Try.pinned (OpenSpec.ofChange tupleOrderSpec)

/-- ITS FALSE NEIGHBOUR: 'it returns false'. Refute it at one input. -/
def tupleOrderWrong : ChangeSpec := { name := "tupleOrder", fn := fun _ => fun
  | [d1, d2] => { results := [.lit (.bool false)], args := [d1, d2] }
  | _ => none }
def TupleOrderWrongFalsely : Prop := tupleOrderRow.holds Try.pinned (OpenSpec.ofChange tupleOrderWrong)

/-- 'armoirelaw13.RowsBack': WHATEVER THE INPUT: true; the input reads as it did. -/
def rowsBackSpec : ChangeSpec := { name := "rowsBack", fn := fun _ => fun
  | [d1, d2, d3, d4] => { results := [.lit (.bool true)], args := [d1, d2, d3, d4] }
  | _ => none }
def rowsBackRow : OpenClaim := { program := "ytikkknaofiafhaa", sum := "582597b9a663b6b4d05c69147070ccba56e21e44281b907fa4604d7509011c1e", func := "armoire/armoirelaw13.RowsBack", spec := "rowsBack", unfollowed := true, recurses := true, apart := false }
def RowsBackSaid : Prop := rowsBackRow.holds Try.pinned (OpenSpec.ofChange rowsBackSpec)

/-- ITS FALSE NEIGHBOUR: 'it returns false'. Refute it at one input. -/
def rowsBackWrong : ChangeSpec := { name := "rowsBack", fn := fun _ => fun
  | [d1, d2, d3, d4] => { results := [.lit (.bool false)], args := [d1, d2, d3, d4] }
  | _ => none }
def RowsBackWrongFalsely : Prop := rowsBackRow.holds Try.pinned (OpenSpec.ofChange rowsBackWrong)

/- THE SECOND FORM. 'bulk': how many values and letters a reading holds, each counted each time it is reached (what is shared counts as often as it is met; a slice's spare places count too). A statement '..UptoSaid' is the law's where the arguments, and the package variables that the reading takes, are together of bulk at most 1048576: NARROWER than '..Said'. Prove '..Said' where nothing that the law and all that it calls make is longer than what came in: it says more and counts as full. Else prove '..UptoSaid'. A law counts once. -/
mutual
def uptoBulk {H : Type} : DataW H → Nat
  | .lit (.string bytes) => bytes.length + 1
  | .lit _ => 1
  | .nil => 1
  | .ptr d => uptoBulk d + 1
  | .slice elems spare => uptoBulkAll elems + uptoBulkAll spare + 1
  | .agg parts => uptoBulkAll parts + 1
  | .iface _ d => uptoBulk d + 1
  | .map entries => uptoBulkEntries entries + 1
  | .held _ => 1
def uptoBulkAll {H : Type} : List (DataW H) → Nat
  | [] => 0
  | d :: r => uptoBulk d + uptoBulkAll r
def uptoBulkEntries {H : Type} : List (Lit × DataW H) → Nat
  | [] => 0
  | x :: r => uptoBulkEntry x + uptoBulkEntries r
def uptoBulkEntry {H : Type} : Lit × DataW H → Nat
  | (.string bytes, d) => bytes.length + uptoBulk d + 1
  | (_, d) => uptoBulk d + 1
 end
def uptoSmall : (H : Type) → List (DataW H) → Bool := fun _ ds => decide (uptoBulkAll ds ≤ 1048576)
def OpenSpec.upto (s : _root_.Go.ChangeSpec) : _root_.Go.OpenSpec := { _root_.Go.OpenSpec.ofChange s with cond := some uptoSmall }

/-- 'armoirelaw03.TupleWrites', WHERE WHAT IT READS IS OF BULK AT MOST 1048576: true; the input reads as it did. -/
def tupleWritesUptoRow : OpenClaim := { program := "ytikkknaofiafhaa", sum := "582597b9a663b6b4d05c69147070ccba56e21e44281b907fa4604d7509011c1e", func := "armoire/armoirelaw03.TupleWrites", spec := "tupleWrites", unfollowed := true, recurses := true, apart := false, narrowed := true }
def TupleWritesUptoSaid : Prop := tupleWritesUptoRow.holds Try.pinned (OpenSpec.upto tupleWritesSpec)

/-- 'armoirelaw03.TupleBegins', WHERE WHAT IT READS IS OF BULK AT MOST 1048576: true; the input reads as it did. -/
def tupleBeginsUptoRow : OpenClaim := { program := "ytikkknaofiafhaa", sum := "582597b9a663b6b4d05c69147070ccba56e21e44281b907fa4604d7509011c1e", func := "armoire/armoirelaw03.TupleBegins", spec := "tupleBegins", unfollowed := true, recurses := true, apart := false, narrowed := true }
def TupleBeginsUptoSaid : Prop := tupleBeginsUptoRow.holds Try.pinned (OpenSpec.upto tupleBeginsSpec)

/-- 'armoirelaw03.TupleEnds', WHERE WHAT IT READS IS OF BULK AT MOST 1048576: true; the input reads as it did. -/
def tupleEndsUptoRow : OpenClaim := { program := "ytikkknaofiafhaa", sum := "582597b9a663b6b4d05c69147070ccba56e21e44281b907fa4604d7509011c1e", func := "armoire/armoirelaw03.TupleEnds", spec := "tupleEnds", unfollowed := true, recurses := true, apart := false, narrowed := true }
def TupleEndsUptoSaid : Prop := tupleEndsUptoRow.holds Try.pinned (OpenSpec.upto tupleEndsSpec)

/-- 'armoirelaw22.SplitPlays', WHERE WHAT IT READS IS OF BULK AT MOST 1048576: true; the input reads as it did. -/
def splitPlaysUptoRow : OpenClaim := { program := "ytikkknaofiafhaa", sum := "582597b9a663b6b4d05c69147070ccba56e21e44281b907fa4604d7509011c1e", func := "armoire/armoirelaw22.SplitPlays", spec := "splitPlays", unfollowed := true, recurses := true, apart := false, narrowed := true }
def SplitPlaysUptoSaid : Prop := splitPlaysUptoRow.holds Try.pinned (OpenSpec.upto splitPlaysSpec)

/-- 'armoirelaw22.SplitMoves', WHERE WHAT IT READS IS OF BULK AT MOST 1048576: true; the input reads as it did. -/
def splitMovesUptoRow : OpenClaim := { program := "ytikkknaofiafhaa", sum := "582597b9a663b6b4d05c69147070ccba56e21e44281b907fa4604d7509011c1e", func := "armoire/armoirelaw22.SplitMoves", spec := "splitMoves", unfollowed := true, recurses := true, apart := false, narrowed := true }
def SplitMovesUptoSaid : Prop := splitMovesUptoRow.holds Try.pinned (OpenSpec.upto splitMovesSpec)

/-- 'armoirelaw22.SplitNil', WHERE WHAT IT READS IS OF BULK AT MOST 1048576: true; the input reads as it did. -/
def splitNilUptoRow : OpenClaim := { program := "ytikkknaofiafhaa", sum := "582597b9a663b6b4d05c69147070ccba56e21e44281b907fa4604d7509011c1e", func := "armoire/armoirelaw22.SplitNil", spec := "splitNil", unfollowed := true, recurses := true, apart := false, narrowed := true }
def SplitNilUptoSaid : Prop := splitNilUptoRow.holds Try.pinned (OpenSpec.upto splitNilSpec)

/-- 'armoirelaw03.TupleJoin', WHERE WHAT IT READS IS OF BULK AT MOST 1048576: true; the input reads as it did. -/
def tupleJoinUptoRow : OpenClaim := { program := "ytikkknaofiafhaa", sum := "582597b9a663b6b4d05c69147070ccba56e21e44281b907fa4604d7509011c1e", func := "armoire/armoirelaw03.TupleJoin", spec := "tupleJoin", unfollowed := true, recurses := true, apart := false, narrowed := true }
def TupleJoinUptoSaid : Prop := tupleJoinUptoRow.holds Try.pinned (OpenSpec.upto tupleJoinSpec)

/-- 'armoirelaw03.TupleCut', WHERE WHAT IT READS IS OF BULK AT MOST 1048576: true; the input reads as it did. -/
def tupleCutUptoRow : OpenClaim := { program := "ytikkknaofiafhaa", sum := "582597b9a663b6b4d05c69147070ccba56e21e44281b907fa4604d7509011c1e", func := "armoire/armoirelaw03.TupleCut", spec := "tupleCut", unfollowed := true, recurses := true, apart := false, narrowed := true }
def TupleCutUptoSaid : Prop := tupleCutUptoRow.holds Try.pinned (OpenSpec.upto tupleCutSpec)

/-- 'armoirelaw03.TupleReads', WHERE WHAT IT READS IS OF BULK AT MOST 1048576: true; the input reads as it did. -/
def tupleReadsUptoRow : OpenClaim := { program := "ytikkknaofiafhaa", sum := "582597b9a663b6b4d05c69147070ccba56e21e44281b907fa4604d7509011c1e", func := "armoire/armoirelaw03.TupleReads", spec := "tupleReads", unfollowed := true, recurses := true, apart := false, narrowed := true }
def TupleReadsUptoSaid : Prop := tupleReadsUptoRow.holds Try.pinned (OpenSpec.upto tupleReadsSpec)

/-- 'armoirelaw03.TupleOrder', WHERE WHAT IT READS IS OF BULK AT MOST 1048576: true; the input reads as it did. -/
def tupleOrderUptoRow : OpenClaim := { program := "ytikkknaofiafhaa", sum := "582597b9a663b6b4d05c69147070ccba56e21e44281b907fa4604d7509011c1e", func := "armoire/armoirelaw03.TupleOrder", spec := "tupleOrder", unfollowed := true, recurses := true, apart := false, narrowed := true }
def TupleOrderUptoSaid : Prop := tupleOrderUptoRow.holds Try.pinned (OpenSpec.upto tupleOrderSpec)

/-- 'armoirelaw13.RowsBack', WHERE WHAT IT READS IS OF BULK AT MOST 1048576: true; the input reads as it did. -/
def rowsBackUptoRow : OpenClaim := { program := "ytikkknaofiafhaa", sum := "582597b9a663b6b4d05c69147070ccba56e21e44281b907fa4604d7509011c1e", func := "armoire/armoirelaw13.RowsBack", spec := "rowsBack", unfollowed := true, recurses := true, apart := false, narrowed := true }
def RowsBackUptoSaid : Prop := rowsBackUptoRow.holds Try.pinned (OpenSpec.upto rowsBackSpec)

end Rows
end Go.Proofs.Ytikkknaofiafhaa
