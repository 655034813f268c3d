/-
  DERIVED. GIVEN WITH THE SEED: THE CARDS: each row of YtlecnlnpgghmbaaDoorRows.lean that lists a variable, with what it lists TIED to the program's text (the seventh form; the later family's looks); each row that meets fmt, with fmt's text TOLD by the authors' own Lean function (tested against real Go, not proved from fmt's source: count such statements apart). THE CARD IS WHAT COUNTS. Prove the row's statement (the work); the ties are given (YtlecnlnpgghmbaaDoorTie.lean); close each card by the builder's one call (the guide's Derived/Test/ToyasCard.lean, 'card_holds'). Laid BY PROGRAM, IN A SANDBOX (cutbox-door.mjs). By AI agents, Wed Nov 11 2026. No macro, syntax, notation, axiom, sorry.
-/
import Derived.Test.YtlecnlnpgghmbaaDoorRows
import GoSem.ClaimSeven
namespace Go.Proofs.YtlecnlnpgghmbaaDoor
namespace Rows

/-- THE TIED CARD OF 'stillroomlaw12.ListEnds'. -/
def listEndsCard : Claim7 := { stood := { row := listEndsRow, standIns := [], harness := (true, "cfbed33dc6cfba6b7f02840d547f33237f8a67664ad1ebaf3202f1a649f2c2e2"), looks := true }, kinds := [], alts := [], laidByText := true, laidKinds := [.data, .data, .data, .sentinel, .sentinel], laidTests := true, laidLooks := .later }
def ListEndsCardSaid : Prop := Claim7.holds Tryd.pinned (.plain (OpenSpec.ofChange listEndsSpec)) listEndsCard

/-- THE TIED CARD OF 'stillroomlaw12.ListSmall'. -/
def listSmallCard : Claim7 := { stood := { row := listSmallRow, standIns := [], harness := (true, "cfbed33dc6cfba6b7f02840d547f33237f8a67664ad1ebaf3202f1a649f2c2e2"), looks := true }, kinds := [], alts := [], laidByText := true, laidKinds := [.data, .data, .data, .sentinel, .sentinel], laidTests := true, laidLooks := .later }
def ListSmallCardSaid : Prop := Claim7.holds Tryd.pinned (.plain (OpenSpec.ofChange listSmallSpec)) listSmallCard

/-- THE TIED CARD OF 'stillroomlaw12.ListRemoves'. -/
def listRemovesCard : Claim7 := { stood := { row := listRemovesRow, standIns := [], harness := (true, "cfbed33dc6cfba6b7f02840d547f33237f8a67664ad1ebaf3202f1a649f2c2e2"), looks := true }, kinds := [], alts := [], laidByText := true, laidKinds := [.data, .data, .data, .sentinel, .sentinel], laidTests := true, laidLooks := .later }
def ListRemovesCardSaid : Prop := Claim7.holds Tryd.pinned (.plain (OpenSpec.ofChange listRemovesSpec)) listRemovesCard

/-- THE TIED CARD OF 'stillroomlaw12.ListTrims'. -/
def listTrimsCard : Claim7 := { stood := { row := listTrimsRow, standIns := [], harness := (true, "cfbed33dc6cfba6b7f02840d547f33237f8a67664ad1ebaf3202f1a649f2c2e2"), looks := true }, kinds := [], alts := [], laidByText := true, laidKinds := [.data, .data, .data, .sentinel, .sentinel], laidTests := true, laidLooks := .later }
def ListTrimsCardSaid : Prop := Claim7.holds Tryd.pinned (.plain (OpenSpec.ofChange listTrimsSpec)) listTrimsCard

/-- THE SECOND FORM's CARD OF 'stillroomlaw12.ListEnds'. -/
def listEndsUptoCard : Claim7 := { stood := { row := listEndsUptoRow, standIns := [], harness := (true, "cfbed33dc6cfba6b7f02840d547f33237f8a67664ad1ebaf3202f1a649f2c2e2"), looks := true }, kinds := [], alts := [], laidByText := true, laidKinds := [.data, .data, .data, .sentinel, .sentinel], laidTests := true, laidLooks := .later }
def ListEndsUptoCardSaid : Prop := Claim7.holds Tryd.pinned (.plain (OpenSpec.upto listEndsSpec)) listEndsUptoCard

/-- THE SECOND FORM's CARD OF 'stillroomlaw12.ListSmall'. -/
def listSmallUptoCard : Claim7 := { stood := { row := listSmallUptoRow, standIns := [], harness := (true, "cfbed33dc6cfba6b7f02840d547f33237f8a67664ad1ebaf3202f1a649f2c2e2"), looks := true }, kinds := [], alts := [], laidByText := true, laidKinds := [.data, .data, .data, .sentinel, .sentinel], laidTests := true, laidLooks := .later }
def ListSmallUptoCardSaid : Prop := Claim7.holds Tryd.pinned (.plain (OpenSpec.upto listSmallSpec)) listSmallUptoCard

/-- THE SECOND FORM's CARD OF 'stillroomlaw12.ListRemoves'. -/
def listRemovesUptoCard : Claim7 := { stood := { row := listRemovesUptoRow, standIns := [], harness := (true, "cfbed33dc6cfba6b7f02840d547f33237f8a67664ad1ebaf3202f1a649f2c2e2"), looks := true }, kinds := [], alts := [], laidByText := true, laidKinds := [.data, .data, .data, .sentinel, .sentinel], laidTests := true, laidLooks := .later }
def ListRemovesUptoCardSaid : Prop := Claim7.holds Tryd.pinned (.plain (OpenSpec.upto listRemovesSpec)) listRemovesUptoCard

/-- THE SECOND FORM's CARD OF 'stillroomlaw12.ListTrims'. -/
def listTrimsUptoCard : Claim7 := { stood := { row := listTrimsUptoRow, standIns := [], harness := (true, "cfbed33dc6cfba6b7f02840d547f33237f8a67664ad1ebaf3202f1a649f2c2e2"), looks := true }, kinds := [], alts := [], laidByText := true, laidKinds := [.data, .data, .data, .sentinel, .sentinel], laidTests := true, laidLooks := .later }
def ListTrimsUptoCardSaid : Prop := Claim7.holds Tryd.pinned (.plain (OpenSpec.upto listTrimsSpec)) listTrimsUptoCard
end Rows
end Go.Proofs.YtlecnlnpgghmbaaDoor
