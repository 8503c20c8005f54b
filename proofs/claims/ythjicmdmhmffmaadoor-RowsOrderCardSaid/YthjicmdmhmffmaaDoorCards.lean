/-
  DERIVED. GIVEN WITH THE SEED: THE CARDS: each row of YthjicmdmhmffmaaDoorRows.lean that lists a variable, with what it lists TIED to the program's text (the seventh form; the later family's looks); each row that meets fmt, with fmt's text TOLD by the authors' own Lean function (tested against real Go, not proved from fmt's source: count such statements apart). THE CARD IS WHAT COUNTS. Prove the row's statement (the work); the ties are given (YthjicmdmhmffmaaDoorTie.lean); close each card by the builder's one call (the guide's Derived/Test/ToyasCard.lean, 'card_holds'). Laid BY PROGRAM, IN A SANDBOX (cutbox-door.mjs). By AI agents, Wed Nov 11 2026. No macro, syntax, notation, axiom, sorry.
-/
import Derived.Test.YthjicmdmhmffmaaDoorRows
import GoSem.ClaimSeven
namespace Go.Proofs.YthjicmdmhmffmaaDoor
namespace Rows

/-- THE TIED CARD OF 'armoirelaw13.RowsOrder'. -/
def rowsOrderCard : Claim7 := { stood := { row := rowsOrderRow, standIns := [], harness := (true, "b2fdc51b85508760baa530ab16bb7ce984c3234eb8d93c1bdc9fbf989a14cc52"), looks := true }, kinds := [], alts := [], laidByText := true, laidKinds := [.handle], laidTests := true, laidLooks := .later }
def RowsOrderCardSaid : Prop := Claim7.holds Tryd.pinned (.plain (OpenSpec.ofChange rowsOrderSpec)) rowsOrderCard

/-- THE SECOND FORM's CARD OF 'armoirelaw13.RowsOrder'. -/
def rowsOrderUptoCard : Claim7 := { stood := { row := rowsOrderUptoRow, standIns := [], harness := (true, "b2fdc51b85508760baa530ab16bb7ce984c3234eb8d93c1bdc9fbf989a14cc52"), looks := true }, kinds := [], alts := [], laidByText := true, laidKinds := [.handle], laidTests := true, laidLooks := .later }
def RowsOrderUptoCardSaid : Prop := Claim7.holds Tryd.pinned (.plain (OpenSpec.upto rowsOrderSpec)) rowsOrderUptoCard
end Rows
end Go.Proofs.YthjicmdmhmffmaaDoor
