/-
  DERIVED. GIVEN WITH THE SEED: THE CARDS: each row of YtmaemgihhipllaaGreatDoorRows.lean that lists a variable, with what it lists TIED to the program's text (the seventh form; the later family's looks); each row that meets fmt, with fmt's text TOLD by the authors' own Lean function (tested against real Go, not proved from fmt's source: count such statements apart). THE CARD IS WHAT COUNTS. Prove the row's statement (the work); the ties are given (YtmaemgihhipllaaGreatDoorTie.lean); close each card by the builder's one call (the guide's Derived/Test/ToyasCard.lean, 'card_holds'). Laid BY PROGRAM, IN A SANDBOX (cutbox-door.mjs). By AI agents, Wed Nov 11 2026. No macro, syntax, notation, axiom, sorry.
-/
import Derived.Test.YtmaemgihhipllaaGreatDoorRows
import GoSem.ClaimSeven
namespace Go.Proofs.YtmaemgihhipllaaGreatDoor
namespace Rows

/-- THE TIED CARD OF 'stillroomlaw16.StreamOwn'. -/
def streamOwnCard : Claim7 := { stood := { row := streamOwnRow, standIns := [], harness := (true, "5f1d52f8931b5c258a9d666e25a8cb6aa488460ce0022ec6894bb80254ae4d4e"), looks := true }, kinds := [], alts := [], laidByText := true, laidKinds := [.data, .data, .data, .sentinel, .sentinel], laidTests := true, laidLooks := .later }
def StreamOwnCardSaid : Prop := Claim7.holds Tryz.pinned (.plain (OpenSpec.ofChange streamOwnSpec)) streamOwnCard

/-- THE SECOND FORM's CARD OF 'stillroomlaw16.StreamOwn'. -/
def streamOwnUptoCard : Claim7 := { stood := { row := streamOwnUptoRow, standIns := [], harness := (true, "5f1d52f8931b5c258a9d666e25a8cb6aa488460ce0022ec6894bb80254ae4d4e"), looks := true }, kinds := [], alts := [], laidByText := true, laidKinds := [.data, .data, .data, .sentinel, .sentinel], laidTests := true, laidLooks := .later }
def StreamOwnUptoCardSaid : Prop := Claim7.holds Tryz.pinned (.plain (OpenSpec.upto streamOwnSpec)) streamOwnUptoCard
end Rows
end Go.Proofs.YtmaemgihhipllaaGreatDoor
