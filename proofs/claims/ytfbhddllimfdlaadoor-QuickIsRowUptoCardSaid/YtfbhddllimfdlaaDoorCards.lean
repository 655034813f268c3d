/-
  DERIVED. GIVEN WITH THE SEED: THE CARDS: each row of YtfbhddllimfdlaaDoorRows.lean that lists a variable, with what it lists TIED to the program's text (the seventh form; the later family's looks); each row that meets fmt, with fmt's text TOLD by the authors' own Lean function (tested against real Go, not proved from fmt's source: count such statements apart). THE CARD IS WHAT COUNTS. Prove the row's statement (the work); the ties are given (YtfbhddllimfdlaaDoorTie.lean); close each card by the builder's one call (the guide's Derived/Test/ToyasCard.lean, 'card_holds'). Laid BY PROGRAM, IN A SANDBOX (cutbox-door.mjs). By AI agents, Wed Nov 11 2026. No macro, syntax, notation, axiom, sorry.
-/
import Derived.Test.YtfbhddllimfdlaaDoorRows
import GoSem.ClaimSeven
namespace Go.Proofs.YtfbhddllimfdlaaDoor
namespace Rows

/-- THE TIED CARD OF 'stillroomlaw05.PackParses'. -/
def packParsesCard : Claim7 := { stood := { row := packParsesRow, standIns := [], harness := (true, "2a9bba20dffd982c7f8d7c310e7342e8ad23ec1e627ad5a47371290dd3bae618"), looks := true }, kinds := [], alts := [], laidByText := true, laidKinds := [.data, .data, .data, .sentinel, .sentinel], laidTests := true, laidLooks := .later }
def PackParsesCardSaid : Prop := Claim7.holds Tryd.pinned (.plain (OpenSpec.ofChange packParsesSpec)) packParsesCard

/-- THE TIED CARD OF 'stillroomlaw08.QuickRanges'. -/
def quickRangesCard : Claim7 := { stood := { row := quickRangesRow, standIns := [], harness := (true, "2a9bba20dffd982c7f8d7c310e7342e8ad23ec1e627ad5a47371290dd3bae618"), looks := true }, kinds := [], alts := [], laidByText := true, laidKinds := [.data, .data, .data, .sentinel, .sentinel], laidTests := true, laidLooks := .later }
def QuickRangesCardSaid : Prop := Claim7.holds Tryd.pinned (.plain (OpenSpec.ofChange quickRangesSpec)) quickRangesCard

/-- THE TIED CARD OF 'stillroomlaw08.QuickIsRow'. -/
def quickIsRowCard : Claim7 := { stood := { row := quickIsRowRow, standIns := [], harness := (true, "2a9bba20dffd982c7f8d7c310e7342e8ad23ec1e627ad5a47371290dd3bae618"), looks := true }, kinds := [], alts := [], laidByText := true, laidKinds := [.data, .data, .data, .sentinel, .sentinel], laidTests := true, laidLooks := .later }
def QuickIsRowCardSaid : Prop := Claim7.holds Tryd.pinned (.plain (OpenSpec.ofChange quickIsRowSpec)) quickIsRowCard

/-- THE TIED CARD OF 'stillroomlaw12.ListEnds'. -/
def listEndsCard : Claim7 := { stood := { row := listEndsRow, standIns := [], harness := (true, "2a9bba20dffd982c7f8d7c310e7342e8ad23ec1e627ad5a47371290dd3bae618"), looks := true }, kinds := [], alts := [], laidByText := true, laidKinds := [.data, .data, .data, .sentinel, .sentinel], laidTests := true, laidLooks := .later }
def ListEndsCardSaid : Prop := Claim7.holds Tryd.pinned (.plain (OpenSpec.ofChange listEndsSpec)) listEndsCard

/-- THE TIED CARD OF 'stillroomlaw12.ListSmall'. -/
def listSmallCard : Claim7 := { stood := { row := listSmallRow, standIns := [], harness := (true, "2a9bba20dffd982c7f8d7c310e7342e8ad23ec1e627ad5a47371290dd3bae618"), looks := true }, kinds := [], alts := [], laidByText := true, laidKinds := [.data, .data, .data, .sentinel, .sentinel], laidTests := true, laidLooks := .later }
def ListSmallCardSaid : Prop := Claim7.holds Tryd.pinned (.plain (OpenSpec.ofChange listSmallSpec)) listSmallCard

/-- THE TIED CARD OF 'stillroomlaw12.ListRemoves'. -/
def listRemovesCard : Claim7 := { stood := { row := listRemovesRow, standIns := [], harness := (true, "2a9bba20dffd982c7f8d7c310e7342e8ad23ec1e627ad5a47371290dd3bae618"), looks := true }, kinds := [], alts := [], laidByText := true, laidKinds := [.data, .data, .data, .sentinel, .sentinel], laidTests := true, laidLooks := .later }
def ListRemovesCardSaid : Prop := Claim7.holds Tryd.pinned (.plain (OpenSpec.ofChange listRemovesSpec)) listRemovesCard

/-- THE TIED CARD OF 'stillroomlaw12.ListTrims'. -/
def listTrimsCard : Claim7 := { stood := { row := listTrimsRow, standIns := [], harness := (true, "2a9bba20dffd982c7f8d7c310e7342e8ad23ec1e627ad5a47371290dd3bae618"), looks := true }, kinds := [], alts := [], laidByText := true, laidKinds := [.data, .data, .data, .sentinel, .sentinel], laidTests := true, laidLooks := .later }
def ListTrimsCardSaid : Prop := Claim7.holds Tryd.pinned (.plain (OpenSpec.ofChange listTrimsSpec)) listTrimsCard

/-- THE SECOND FORM's CARD OF 'stillroomlaw05.PackParses'. -/
def packParsesUptoCard : Claim7 := { stood := { row := packParsesUptoRow, standIns := [], harness := (true, "2a9bba20dffd982c7f8d7c310e7342e8ad23ec1e627ad5a47371290dd3bae618"), looks := true }, kinds := [], alts := [], laidByText := true, laidKinds := [.data, .data, .data, .sentinel, .sentinel], laidTests := true, laidLooks := .later }
def PackParsesUptoCardSaid : Prop := Claim7.holds Tryd.pinned (.plain (OpenSpec.upto packParsesSpec)) packParsesUptoCard

/-- THE SECOND FORM's CARD OF 'stillroomlaw08.QuickRanges'. -/
def quickRangesUptoCard : Claim7 := { stood := { row := quickRangesUptoRow, standIns := [], harness := (true, "2a9bba20dffd982c7f8d7c310e7342e8ad23ec1e627ad5a47371290dd3bae618"), looks := true }, kinds := [], alts := [], laidByText := true, laidKinds := [.data, .data, .data, .sentinel, .sentinel], laidTests := true, laidLooks := .later }
def QuickRangesUptoCardSaid : Prop := Claim7.holds Tryd.pinned (.plain (OpenSpec.upto quickRangesSpec)) quickRangesUptoCard

/-- THE SECOND FORM's CARD OF 'stillroomlaw08.QuickIsRow'. -/
def quickIsRowUptoCard : Claim7 := { stood := { row := quickIsRowUptoRow, standIns := [], harness := (true, "2a9bba20dffd982c7f8d7c310e7342e8ad23ec1e627ad5a47371290dd3bae618"), looks := true }, kinds := [], alts := [], laidByText := true, laidKinds := [.data, .data, .data, .sentinel, .sentinel], laidTests := true, laidLooks := .later }
def QuickIsRowUptoCardSaid : Prop := Claim7.holds Tryd.pinned (.plain (OpenSpec.upto quickIsRowSpec)) quickIsRowUptoCard

/-- THE SECOND FORM's CARD OF 'stillroomlaw12.ListEnds'. -/
def listEndsUptoCard : Claim7 := { stood := { row := listEndsUptoRow, standIns := [], harness := (true, "2a9bba20dffd982c7f8d7c310e7342e8ad23ec1e627ad5a47371290dd3bae618"), looks := true }, kinds := [], alts := [], laidByText := true, laidKinds := [.data, .data, .data, .sentinel, .sentinel], laidTests := true, laidLooks := .later }
def ListEndsUptoCardSaid : Prop := Claim7.holds Tryd.pinned (.plain (OpenSpec.upto listEndsSpec)) listEndsUptoCard

/-- THE SECOND FORM's CARD OF 'stillroomlaw12.ListSmall'. -/
def listSmallUptoCard : Claim7 := { stood := { row := listSmallUptoRow, standIns := [], harness := (true, "2a9bba20dffd982c7f8d7c310e7342e8ad23ec1e627ad5a47371290dd3bae618"), looks := true }, kinds := [], alts := [], laidByText := true, laidKinds := [.data, .data, .data, .sentinel, .sentinel], laidTests := true, laidLooks := .later }
def ListSmallUptoCardSaid : Prop := Claim7.holds Tryd.pinned (.plain (OpenSpec.upto listSmallSpec)) listSmallUptoCard

/-- THE SECOND FORM's CARD OF 'stillroomlaw12.ListRemoves'. -/
def listRemovesUptoCard : Claim7 := { stood := { row := listRemovesUptoRow, standIns := [], harness := (true, "2a9bba20dffd982c7f8d7c310e7342e8ad23ec1e627ad5a47371290dd3bae618"), looks := true }, kinds := [], alts := [], laidByText := true, laidKinds := [.data, .data, .data, .sentinel, .sentinel], laidTests := true, laidLooks := .later }
def ListRemovesUptoCardSaid : Prop := Claim7.holds Tryd.pinned (.plain (OpenSpec.upto listRemovesSpec)) listRemovesUptoCard

/-- THE SECOND FORM's CARD OF 'stillroomlaw12.ListTrims'. -/
def listTrimsUptoCard : Claim7 := { stood := { row := listTrimsUptoRow, standIns := [], harness := (true, "2a9bba20dffd982c7f8d7c310e7342e8ad23ec1e627ad5a47371290dd3bae618"), looks := true }, kinds := [], alts := [], laidByText := true, laidKinds := [.data, .data, .data, .sentinel, .sentinel], laidTests := true, laidLooks := .later }
def ListTrimsUptoCardSaid : Prop := Claim7.holds Tryd.pinned (.plain (OpenSpec.upto listTrimsSpec)) listTrimsUptoCard
end Rows
end Go.Proofs.YtfbhddllimfdlaaDoor
