/-
  DERIVED. GIVEN WITH THE SEED: THE CARDS: each row of YtdibkhphemfdeaaGreatDoorRows.lean that lists a variable, with what it lists TIED to the program's text (the seventh form; the later family's looks); each row that meets fmt, with fmt's text TOLD by the authors' own Lean function (tested against real Go, not proved from fmt's source: count such statements apart). THE CARD IS WHAT COUNTS. Prove the row's statement (the work); the ties are given (YtdibkhphemfdeaaGreatDoorTie.lean); close each card by the builder's one call (the guide's Derived/Test/ToyasCard.lean, 'card_holds'). Laid BY PROGRAM, IN A SANDBOX (cutbox-door.mjs). By AI agents, Wed Nov 11 2026. No macro, syntax, notation, axiom, sorry.
-/
import Derived.Test.YtdibkhphemfdeaaGreatDoorRows
import GoSem.ClaimSeven
namespace Go.Proofs.YtdibkhphemfdeaaGreatDoor
namespace Rows

/-- THE TIED CARD OF 'armoirelaw21.DdlNil'. -/
def ddlNilCard : Claim7 := { stood := { row := ddlNilRow, standIns := [], harness := (true, "753e40b06b106f67f0644c8f8af7ba5a45a77d4b4fb68f060a02cd20ea49bc8f"), looks := true }, kinds := [], alts := [], laidByText := true, laidKinds := [.handle], laidTests := true, laidLooks := .later }
def DdlNilCardSaid : Prop := Claim7.holds Tryz.pinned (.plain (OpenSpec.ofChange ddlNilSpec)) ddlNilCard

/-- THE SECOND FORM's CARD OF 'armoirelaw21.DdlNil'. -/
def ddlNilUptoCard : Claim7 := { stood := { row := ddlNilUptoRow, standIns := [], harness := (true, "753e40b06b106f67f0644c8f8af7ba5a45a77d4b4fb68f060a02cd20ea49bc8f"), looks := true }, kinds := [], alts := [], laidByText := true, laidKinds := [.handle], laidTests := true, laidLooks := .later }
def DdlNilUptoCardSaid : Prop := Claim7.holds Tryz.pinned (.plain (OpenSpec.upto ddlNilSpec)) ddlNilUptoCard
end Rows
end Go.Proofs.YtdibkhphemfdeaaGreatDoor
