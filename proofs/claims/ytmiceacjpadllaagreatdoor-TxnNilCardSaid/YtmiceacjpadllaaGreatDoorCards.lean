/-
  DERIVED. GIVEN WITH THE SEED: THE CARDS: each row of YtmiceacjpadllaaGreatDoorRows.lean that lists a variable, with what it lists TIED to the program's text (the seventh form; the later family's looks); each row that meets fmt, with fmt's text TOLD by the authors' own Lean function (tested against real Go, not proved from fmt's source: count such statements apart). THE CARD IS WHAT COUNTS. Prove the row's statement (the work); the ties are given (YtmiceacjpadllaaGreatDoorTie.lean); close each card by the builder's one call (the guide's Derived/Test/ToyasCard.lean, 'card_holds'). Laid BY PROGRAM, IN A SANDBOX (cutbox-door.mjs). By AI agents, Wed Nov 11 2026. No macro, syntax, notation, axiom, sorry.
-/
import Derived.Test.YtmiceacjpadllaaGreatDoorRows
import GoSem.ClaimSeven
namespace Go.Proofs.YtmiceacjpadllaaGreatDoor
namespace Rows

/-- THE TIED CARD OF 'armoirelaw20.TxnNil'. -/
def txnNilCard : Claim7 := { stood := { row := txnNilRow, standIns := [], harness := (true, "4a95db5cb756c94e8cc1a1b6621bfe0ab25738fea6434997902d64efa5a8d3aa"), looks := true }, kinds := [], alts := [], laidByText := true, laidKinds := [.handle], laidTests := true, laidLooks := .later }
def TxnNilCardSaid : Prop := Claim7.holds Tryz.pinned (.plain (OpenSpec.ofChange txnNilSpec)) txnNilCard

/-- THE SECOND FORM's CARD OF 'armoirelaw20.TxnNil'. -/
def txnNilUptoCard : Claim7 := { stood := { row := txnNilUptoRow, standIns := [], harness := (true, "4a95db5cb756c94e8cc1a1b6621bfe0ab25738fea6434997902d64efa5a8d3aa"), looks := true }, kinds := [], alts := [], laidByText := true, laidKinds := [.handle], laidTests := true, laidLooks := .later }
def TxnNilUptoCardSaid : Prop := Claim7.holds Tryz.pinned (.plain (OpenSpec.upto txnNilSpec)) txnNilUptoCard
end Rows
end Go.Proofs.YtmiceacjpadllaaGreatDoor
