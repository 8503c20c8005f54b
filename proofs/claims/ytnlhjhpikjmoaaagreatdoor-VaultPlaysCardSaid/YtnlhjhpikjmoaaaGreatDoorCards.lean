/-
  DERIVED. GIVEN WITH THE SEED: THE CARDS: each row of YtnlhjhpikjmoaaaGreatDoorRows.lean that lists a variable, with what it lists TIED to the program's text (the seventh form; the later family's looks); each row that meets fmt, with fmt's text TOLD by the authors' own Lean function (tested against real Go, not proved from fmt's source: count such statements apart). THE CARD IS WHAT COUNTS. Prove the row's statement (the work); the ties are given (YtnlhjhpikjmoaaaGreatDoorTie.lean); close each card by the builder's one call (the guide's Derived/Test/ToyasCard.lean, 'card_holds'). Laid BY PROGRAM, IN A SANDBOX (cutbox-door.mjs). By AI agents, Wed Nov 11 2026. No macro, syntax, notation, axiom, sorry.
-/
import Derived.Test.YtnlhjhpikjmoaaaGreatDoorRows
import GoSem.ClaimSeven
namespace Go.Proofs.YtnlhjhpikjmoaaaGreatDoor
namespace Rows

/-- THE TIED CARD OF 'armoirelaw07.VaultRight'. -/
def vaultRightCard : Claim7 := { stood := { row := vaultRightRow, standIns := [], harness := (true, "8d7f0da85dced1974d6d2f4459b580ffb52f2341e5f8ee761b58e1118bb13d1b"), looks := true }, kinds := [], alts := [], laidByText := true, laidKinds := [.handle], laidTests := true, laidLooks := .later }
def VaultRightCardSaid : Prop := Claim7.holds Tryz.pinned (.plain (OpenSpec.ofChange vaultRightSpec)) vaultRightCard

/-- THE TIED CARD OF 'armoirelaw07.VaultNil'. -/
def vaultNilCard : Claim7 := { stood := { row := vaultNilRow, standIns := [], harness := (true, "8d7f0da85dced1974d6d2f4459b580ffb52f2341e5f8ee761b58e1118bb13d1b"), looks := true }, kinds := [], alts := [], laidByText := true, laidKinds := [.handle], laidTests := true, laidLooks := .later }
def VaultNilCardSaid : Prop := Claim7.holds Tryz.pinned (.plain (OpenSpec.ofChange vaultNilSpec)) vaultNilCard

/-- THE TIED CARD OF 'armoirelaw07.VaultGrows'. -/
def vaultGrowsCard : Claim7 := { stood := { row := vaultGrowsRow, standIns := [], harness := (true, "8d7f0da85dced1974d6d2f4459b580ffb52f2341e5f8ee761b58e1118bb13d1b"), looks := true }, kinds := [], alts := [], laidByText := true, laidKinds := [.handle], laidTests := true, laidLooks := .later }
def VaultGrowsCardSaid : Prop := Claim7.holds Tryz.pinned (.plain (OpenSpec.ofChange vaultGrowsSpec)) vaultGrowsCard

/-- THE TIED CARD OF 'armoirelaw07.VaultAny'. -/
def vaultAnyCard : Claim7 := { stood := { row := vaultAnyRow, standIns := [], harness := (true, "8d7f0da85dced1974d6d2f4459b580ffb52f2341e5f8ee761b58e1118bb13d1b"), looks := true }, kinds := [], alts := [], laidByText := true, laidKinds := [.handle], laidTests := true, laidLooks := .later }
def VaultAnyCardSaid : Prop := Claim7.holds Tryz.pinned (.plain (OpenSpec.ofChange vaultAnySpec)) vaultAnyCard

/-- THE TIED CARD OF 'armoirelaw07.VaultPlays'. -/
def vaultPlaysCard : Claim7 := { stood := { row := vaultPlaysRow, standIns := [], harness := (true, "8d7f0da85dced1974d6d2f4459b580ffb52f2341e5f8ee761b58e1118bb13d1b"), looks := true }, kinds := [], alts := [], laidByText := true, laidKinds := [.handle], laidTests := true, laidLooks := .later }
def VaultPlaysCardSaid : Prop := Claim7.holds Tryz.pinned (.plain (OpenSpec.ofChange vaultPlaysSpec)) vaultPlaysCard

/-- THE SECOND FORM's CARD OF 'armoirelaw07.VaultRight'. -/
def vaultRightUptoCard : Claim7 := { stood := { row := vaultRightUptoRow, standIns := [], harness := (true, "8d7f0da85dced1974d6d2f4459b580ffb52f2341e5f8ee761b58e1118bb13d1b"), looks := true }, kinds := [], alts := [], laidByText := true, laidKinds := [.handle], laidTests := true, laidLooks := .later }
def VaultRightUptoCardSaid : Prop := Claim7.holds Tryz.pinned (.plain (OpenSpec.upto vaultRightSpec)) vaultRightUptoCard

/-- THE SECOND FORM's CARD OF 'armoirelaw07.VaultNil'. -/
def vaultNilUptoCard : Claim7 := { stood := { row := vaultNilUptoRow, standIns := [], harness := (true, "8d7f0da85dced1974d6d2f4459b580ffb52f2341e5f8ee761b58e1118bb13d1b"), looks := true }, kinds := [], alts := [], laidByText := true, laidKinds := [.handle], laidTests := true, laidLooks := .later }
def VaultNilUptoCardSaid : Prop := Claim7.holds Tryz.pinned (.plain (OpenSpec.upto vaultNilSpec)) vaultNilUptoCard

/-- THE SECOND FORM's CARD OF 'armoirelaw07.VaultGrows'. -/
def vaultGrowsUptoCard : Claim7 := { stood := { row := vaultGrowsUptoRow, standIns := [], harness := (true, "8d7f0da85dced1974d6d2f4459b580ffb52f2341e5f8ee761b58e1118bb13d1b"), looks := true }, kinds := [], alts := [], laidByText := true, laidKinds := [.handle], laidTests := true, laidLooks := .later }
def VaultGrowsUptoCardSaid : Prop := Claim7.holds Tryz.pinned (.plain (OpenSpec.upto vaultGrowsSpec)) vaultGrowsUptoCard

/-- THE SECOND FORM's CARD OF 'armoirelaw07.VaultAny'. -/
def vaultAnyUptoCard : Claim7 := { stood := { row := vaultAnyUptoRow, standIns := [], harness := (true, "8d7f0da85dced1974d6d2f4459b580ffb52f2341e5f8ee761b58e1118bb13d1b"), looks := true }, kinds := [], alts := [], laidByText := true, laidKinds := [.handle], laidTests := true, laidLooks := .later }
def VaultAnyUptoCardSaid : Prop := Claim7.holds Tryz.pinned (.plain (OpenSpec.upto vaultAnySpec)) vaultAnyUptoCard

/-- THE SECOND FORM's CARD OF 'armoirelaw07.VaultPlays'. -/
def vaultPlaysUptoCard : Claim7 := { stood := { row := vaultPlaysUptoRow, standIns := [], harness := (true, "8d7f0da85dced1974d6d2f4459b580ffb52f2341e5f8ee761b58e1118bb13d1b"), looks := true }, kinds := [], alts := [], laidByText := true, laidKinds := [.handle], laidTests := true, laidLooks := .later }
def VaultPlaysUptoCardSaid : Prop := Claim7.holds Tryz.pinned (.plain (OpenSpec.upto vaultPlaysSpec)) vaultPlaysUptoCard
end Rows
end Go.Proofs.YtnlhjhpikjmoaaaGreatDoor
