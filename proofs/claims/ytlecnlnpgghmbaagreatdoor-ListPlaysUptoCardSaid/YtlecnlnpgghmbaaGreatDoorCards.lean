/-
  DERIVED. GIVEN WITH THE SEED: THE CARDS: each row of YtlecnlnpgghmbaaGreatDoorRows.lean that lists a variable, with what it lists TIED to the program's text (the seventh form; the later family's looks); each row that meets fmt, with fmt's text TOLD by the authors' own Lean function (tested against real Go, not proved from fmt's source: count such statements apart). THE CARD IS WHAT COUNTS. Prove the row's statement (the work); the ties are given (YtlecnlnpgghmbaaGreatDoorTie.lean); close each card by the builder's one call (the guide's Derived/Test/ToyasCard.lean, 'card_holds'). Laid BY PROGRAM, IN A SANDBOX (cutbox-door.mjs). By AI agents, Wed Nov 11 2026. No macro, syntax, notation, axiom, sorry.
-/
import Derived.Test.YtlecnlnpgghmbaaGreatDoorRows
import GoSem.ClaimSeven
namespace Go.Proofs.YtlecnlnpgghmbaaGreatDoor
namespace Rows

/-- THE TIED CARD OF 'stillroomlaw12.ListPlays'. -/
def listPlaysCard : Claim7 := { stood := { row := listPlaysRow, standIns := [], harness := (true, "3dea0dffc96a13af9ce5c57f4740af8e9c54ccdfb02e3b1b23dd73b349cc2092"), looks := true }, kinds := [], alts := [], laidByText := true, laidKinds := [.data, .data, .data, .sentinel, .sentinel], laidTests := true, laidLooks := .later }
def ListPlaysCardSaid : Prop := Claim7.holds Tryz.pinned (.plain (OpenSpec.ofChange listPlaysSpec)) listPlaysCard

/-- THE SECOND FORM's CARD OF 'stillroomlaw12.ListPlays'. -/
def listPlaysUptoCard : Claim7 := { stood := { row := listPlaysUptoRow, standIns := [], harness := (true, "3dea0dffc96a13af9ce5c57f4740af8e9c54ccdfb02e3b1b23dd73b349cc2092"), looks := true }, kinds := [], alts := [], laidByText := true, laidKinds := [.data, .data, .data, .sentinel, .sentinel], laidTests := true, laidLooks := .later }
def ListPlaysUptoCardSaid : Prop := Claim7.holds Tryz.pinned (.plain (OpenSpec.upto listPlaysSpec)) listPlaysUptoCard
end Rows
end Go.Proofs.YtlecnlnpgghmbaaGreatDoor
