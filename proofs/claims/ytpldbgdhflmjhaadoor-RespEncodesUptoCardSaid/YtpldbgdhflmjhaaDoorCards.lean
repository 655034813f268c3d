/-
  DERIVED. GIVEN WITH THE SEED: THE CARDS: each row of YtpldbgdhflmjhaaDoorRows.lean that lists a variable, with what it lists TIED to the program's text (the seventh form; the later family's looks); each row that meets fmt, with fmt's text TOLD by the authors' own Lean function (tested against real Go, not proved from fmt's source: count such statements apart). THE CARD IS WHAT COUNTS. Prove the row's statement (the work); the ties are given (YtpldbgdhflmjhaaDoorTie.lean); close each card by the builder's one call (the guide's Derived/Test/ToyasCard.lean, 'card_holds'). Laid BY PROGRAM, IN A SANDBOX (cutbox-door.mjs). By AI agents, Wed Nov 11 2026. No macro, syntax, notation, axiom, sorry.
-/
import Derived.Test.YtpldbgdhflmjhaaDoorRows
import GoSem.ClaimSeven
namespace Go.Proofs.YtpldbgdhflmjhaaDoor
namespace Rows

/-- THE TIED CARD OF 'stillroomlaw11.RespEncodes'. -/
def respEncodesCard : Claim7 := { stood := { row := respEncodesRow, standIns := [], harness := (true, "d18b1d3ca2b7b5e710ff4eee8687a04b73bdb2f41ff550ad891a46bbe20a4b50"), looks := true }, kinds := [], alts := [], laidByText := true, laidKinds := [.data, .data, .data], laidTests := true, laidLooks := .later }
def RespEncodesCardSaid : Prop := Claim7.holds Tryd.pinned (.plain (OpenSpec.ofChange respEncodesSpec)) respEncodesCard

/-- THE TIED CARD OF 'stillroomlaw11.RespCuts'. -/
def respCutsCard : Claim7 := { stood := { row := respCutsRow, standIns := [], harness := (true, "d18b1d3ca2b7b5e710ff4eee8687a04b73bdb2f41ff550ad891a46bbe20a4b50"), looks := true }, kinds := [], alts := [], laidByText := true, laidKinds := [.data, .data, .data, .sentinel, .sentinel], laidTests := true, laidLooks := .later }
def RespCutsCardSaid : Prop := Claim7.holds Tryd.pinned (.plain (OpenSpec.ofChange respCutsSpec)) respCutsCard

/-- THE TIED CARD OF 'stillroomlaw11.RespBack'. -/
def respBackCard : Claim7 := { stood := { row := respBackRow, standIns := [], harness := (true, "d18b1d3ca2b7b5e710ff4eee8687a04b73bdb2f41ff550ad891a46bbe20a4b50"), looks := true }, kinds := [], alts := [], laidByText := true, laidKinds := [.data, .data, .data, .sentinel, .sentinel], laidTests := true, laidLooks := .later }
def RespBackCardSaid : Prop := Claim7.holds Tryd.pinned (.plain (OpenSpec.ofChange respBackSpec)) respBackCard

/-- THE TIED CARD OF 'stillroomlaw11.RespReplies'. -/
def respRepliesCard : Claim7 := { stood := { row := respRepliesRow, standIns := [], harness := (true, "d18b1d3ca2b7b5e710ff4eee8687a04b73bdb2f41ff550ad891a46bbe20a4b50"), looks := true }, kinds := [], alts := [], laidByText := true, laidKinds := [.data, .data, .data, .sentinel, .sentinel], laidTests := true, laidLooks := .later }
def RespRepliesCardSaid : Prop := Claim7.holds Tryd.pinned (.plain (OpenSpec.ofChange respRepliesSpec)) respRepliesCard

/-- THE TIED CARD OF 'stillroomlaw11.RespOne'. -/
def respOneCard : Claim7 := { stood := { row := respOneRow, standIns := [], harness := (true, "d18b1d3ca2b7b5e710ff4eee8687a04b73bdb2f41ff550ad891a46bbe20a4b50"), looks := true }, kinds := [], alts := [], laidByText := true, laidKinds := [.data, .data, .data, .sentinel, .sentinel], laidTests := true, laidLooks := .later }
def RespOneCardSaid : Prop := Claim7.holds Tryd.pinned (.plain (OpenSpec.ofChange respOneSpec)) respOneCard

/-- THE SECOND FORM's CARD OF 'stillroomlaw11.RespEncodes'. -/
def respEncodesUptoCard : Claim7 := { stood := { row := respEncodesUptoRow, standIns := [], harness := (true, "d18b1d3ca2b7b5e710ff4eee8687a04b73bdb2f41ff550ad891a46bbe20a4b50"), looks := true }, kinds := [], alts := [], laidByText := true, laidKinds := [.data, .data, .data], laidTests := true, laidLooks := .later }
def RespEncodesUptoCardSaid : Prop := Claim7.holds Tryd.pinned (.plain (OpenSpec.upto respEncodesSpec)) respEncodesUptoCard

/-- THE SECOND FORM's CARD OF 'stillroomlaw11.RespCuts'. -/
def respCutsUptoCard : Claim7 := { stood := { row := respCutsUptoRow, standIns := [], harness := (true, "d18b1d3ca2b7b5e710ff4eee8687a04b73bdb2f41ff550ad891a46bbe20a4b50"), looks := true }, kinds := [], alts := [], laidByText := true, laidKinds := [.data, .data, .data, .sentinel, .sentinel], laidTests := true, laidLooks := .later }
def RespCutsUptoCardSaid : Prop := Claim7.holds Tryd.pinned (.plain (OpenSpec.upto respCutsSpec)) respCutsUptoCard

/-- THE SECOND FORM's CARD OF 'stillroomlaw11.RespBack'. -/
def respBackUptoCard : Claim7 := { stood := { row := respBackUptoRow, standIns := [], harness := (true, "d18b1d3ca2b7b5e710ff4eee8687a04b73bdb2f41ff550ad891a46bbe20a4b50"), looks := true }, kinds := [], alts := [], laidByText := true, laidKinds := [.data, .data, .data, .sentinel, .sentinel], laidTests := true, laidLooks := .later }
def RespBackUptoCardSaid : Prop := Claim7.holds Tryd.pinned (.plain (OpenSpec.upto respBackSpec)) respBackUptoCard

/-- THE SECOND FORM's CARD OF 'stillroomlaw11.RespReplies'. -/
def respRepliesUptoCard : Claim7 := { stood := { row := respRepliesUptoRow, standIns := [], harness := (true, "d18b1d3ca2b7b5e710ff4eee8687a04b73bdb2f41ff550ad891a46bbe20a4b50"), looks := true }, kinds := [], alts := [], laidByText := true, laidKinds := [.data, .data, .data, .sentinel, .sentinel], laidTests := true, laidLooks := .later }
def RespRepliesUptoCardSaid : Prop := Claim7.holds Tryd.pinned (.plain (OpenSpec.upto respRepliesSpec)) respRepliesUptoCard

/-- THE SECOND FORM's CARD OF 'stillroomlaw11.RespOne'. -/
def respOneUptoCard : Claim7 := { stood := { row := respOneUptoRow, standIns := [], harness := (true, "d18b1d3ca2b7b5e710ff4eee8687a04b73bdb2f41ff550ad891a46bbe20a4b50"), looks := true }, kinds := [], alts := [], laidByText := true, laidKinds := [.data, .data, .data, .sentinel, .sentinel], laidTests := true, laidLooks := .later }
def RespOneUptoCardSaid : Prop := Claim7.holds Tryd.pinned (.plain (OpenSpec.upto respOneSpec)) respOneUptoCard
end Rows
end Go.Proofs.YtpldbgdhflmjhaaDoor
