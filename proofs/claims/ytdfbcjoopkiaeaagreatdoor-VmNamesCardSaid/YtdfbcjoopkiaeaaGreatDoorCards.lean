/-
  DERIVED. GIVEN WITH THE SEED: THE CARDS: each row of YtdfbcjoopkiaeaaGreatDoorRows.lean that lists a variable, with what it lists TIED to the program's text (the seventh form; the later family's looks); each row that meets fmt, with fmt's text TOLD by the authors' own Lean function (tested against real Go, not proved from fmt's source: count such statements apart). THE CARD IS WHAT COUNTS. Prove the row's statement (the work); the ties are given (YtdfbcjoopkiaeaaGreatDoorTie.lean); close each card by the builder's one call (the guide's Derived/Test/ToyasCard.lean, 'card_holds'). Laid BY PROGRAM, IN A SANDBOX (cutbox-door.mjs). By AI agents, Wed Nov 11 2026. No macro, syntax, notation, axiom, sorry.
-/
import Derived.Test.YtdfbcjoopkiaeaaGreatDoorRows
import GoSem.ClaimSeven
namespace Go.Proofs.YtdfbcjoopkiaeaaGreatDoor
namespace Rows

/-- THE TIED CARD OF 'distafflaw22.VmNames'. -/
def vmNamesCard : Claim7 := { stood := { row := vmNamesRow, standIns := [], harness := (true, "e07c90f6d5b16c306bbf9b9cb5207245b387f382aac0f149ed2d84cc343bf389"), looks := true }, kinds := [], alts := [], laidByText := true, laidKinds := [.data, .data], laidTests := true, laidLooks := .later }
def VmNamesCardSaid : Prop := Claim7.holds Tryz.pinned (.plain (OpenSpec.ofChange vmNamesSpec)) vmNamesCard

/-- THE SECOND FORM's CARD OF 'distafflaw22.VmNames'. -/
def vmNamesUptoCard : Claim7 := { stood := { row := vmNamesUptoRow, standIns := [], harness := (true, "e07c90f6d5b16c306bbf9b9cb5207245b387f382aac0f149ed2d84cc343bf389"), looks := true }, kinds := [], alts := [], laidByText := true, laidKinds := [.data, .data], laidTests := true, laidLooks := .later }
def VmNamesUptoCardSaid : Prop := Claim7.holds Tryz.pinned (.plain (OpenSpec.upto vmNamesSpec)) vmNamesUptoCard
end Rows
end Go.Proofs.YtdfbcjoopkiaeaaGreatDoor
