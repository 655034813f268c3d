/-
  DERIVED. GIVEN WITH THE SEED: THE CARDS: each row of YtcoepekoacpgnaaDoorRows.lean that lists a variable, with what it lists TIED to the program's text (the seventh form; the later family's looks); each row that meets fmt, with fmt's text TOLD by the authors' own Lean function (tested against real Go, not proved from fmt's source: count such statements apart). THE CARD IS WHAT COUNTS. Prove the row's statement (the work); the ties are given (YtcoepekoacpgnaaDoorTie.lean); close each card by the builder's one call (the guide's Derived/Test/ToyasCard.lean, 'card_holds'). Laid BY PROGRAM, IN A SANDBOX (cutbox-door.mjs). By AI agents, Wed Nov 11 2026. No macro, syntax, notation, axiom, sorry.
-/
import Derived.Test.YtcoepekoacpgnaaDoorRows
import GoSem.ClaimSeven
namespace Go.Proofs.YtcoepekoacpgnaaDoor
namespace Rows

/-- THE TIED CARD OF 'stillroomlaw05.PackApart'. -/
def packApartCard : Claim7 := { stood := { row := packApartRow, standIns := [], harness := (true, "1f3cee62c2ef2214d9de1ff7a13894e47689ab8e6645b379b989fdf9bb5f4bd5"), looks := true }, kinds := [], alts := [], laidByText := true, laidKinds := [.data, .data, .data, .sentinel, .sentinel], laidTests := true, laidLooks := .later }
def PackApartCardSaid : Prop := Claim7.holds Tryd.pinned (.plain (OpenSpec.ofChange packApartSpec)) packApartCard

/-- THE TIED CARD OF 'stillroomlaw05.PackFinds'. -/
def packFindsCard : Claim7 := { stood := { row := packFindsRow, standIns := [], harness := (true, "1f3cee62c2ef2214d9de1ff7a13894e47689ab8e6645b379b989fdf9bb5f4bd5"), looks := true }, kinds := [], alts := [], laidByText := true, laidKinds := [.data, .data, .data, .sentinel, .sentinel], laidTests := true, laidLooks := .later }
def PackFindsCardSaid : Prop := Claim7.holds Tryd.pinned (.plain (OpenSpec.ofChange packFindsSpec)) packFindsCard

/-- THE TIED CARD OF 'stillroomlaw05.PackBack'. -/
def packBackCard : Claim7 := { stood := { row := packBackRow, standIns := [], harness := (true, "1f3cee62c2ef2214d9de1ff7a13894e47689ab8e6645b379b989fdf9bb5f4bd5"), looks := true }, kinds := [], alts := [], laidByText := true, laidKinds := [.data, .data, .data, .sentinel, .sentinel], laidTests := true, laidLooks := .later }
def PackBackCardSaid : Prop := Claim7.holds Tryd.pinned (.plain (OpenSpec.ofChange packBackSpec)) packBackCard

/-- THE TIED CARD OF 'stillroomlaw05.PackCuts'. -/
def packCutsCard : Claim7 := { stood := { row := packCutsRow, standIns := [], harness := (true, "1f3cee62c2ef2214d9de1ff7a13894e47689ab8e6645b379b989fdf9bb5f4bd5"), looks := true }, kinds := [], alts := [], laidByText := true, laidKinds := [.data, .data, .data, .sentinel, .sentinel], laidTests := true, laidLooks := .later }
def PackCutsCardSaid : Prop := Claim7.holds Tryd.pinned (.plain (OpenSpec.ofChange packCutsSpec)) packCutsCard

/-- THE TIED CARD OF 'stillroomlaw05.PackUndoes'. -/
def packUndoesCard : Claim7 := { stood := { row := packUndoesRow, standIns := [], harness := (true, "1f3cee62c2ef2214d9de1ff7a13894e47689ab8e6645b379b989fdf9bb5f4bd5"), looks := true }, kinds := [], alts := [], laidByText := true, laidKinds := [.data, .data, .data, .sentinel, .sentinel], laidTests := true, laidLooks := .later }
def PackUndoesCardSaid : Prop := Claim7.holds Tryd.pinned (.plain (OpenSpec.ofChange packUndoesSpec)) packUndoesCard

/-- THE TIED CARD OF 'stillroomlaw05.PackParses'. -/
def packParsesCard : Claim7 := { stood := { row := packParsesRow, standIns := [], harness := (true, "1f3cee62c2ef2214d9de1ff7a13894e47689ab8e6645b379b989fdf9bb5f4bd5"), looks := true }, kinds := [], alts := [], laidByText := true, laidKinds := [.data, .data, .data, .sentinel, .sentinel], laidTests := true, laidLooks := .later }
def PackParsesCardSaid : Prop := Claim7.holds Tryd.pinned (.plain (OpenSpec.ofChange packParsesSpec)) packParsesCard

/-- THE TIED CARD OF 'stillroomlaw08.QuickRanges'. -/
def quickRangesCard : Claim7 := { stood := { row := quickRangesRow, standIns := [], harness := (true, "1f3cee62c2ef2214d9de1ff7a13894e47689ab8e6645b379b989fdf9bb5f4bd5"), looks := true }, kinds := [], alts := [], laidByText := true, laidKinds := [.data, .data, .data, .sentinel, .sentinel], laidTests := true, laidLooks := .later }
def QuickRangesCardSaid : Prop := Claim7.holds Tryd.pinned (.plain (OpenSpec.ofChange quickRangesSpec)) quickRangesCard

/-- THE TIED CARD OF 'stillroomlaw08.QuickIsRow'. -/
def quickIsRowCard : Claim7 := { stood := { row := quickIsRowRow, standIns := [], harness := (true, "1f3cee62c2ef2214d9de1ff7a13894e47689ab8e6645b379b989fdf9bb5f4bd5"), looks := true }, kinds := [], alts := [], laidByText := true, laidKinds := [.data, .data, .data, .sentinel, .sentinel], laidTests := true, laidLooks := .later }
def QuickIsRowCardSaid : Prop := Claim7.holds Tryd.pinned (.plain (OpenSpec.ofChange quickIsRowSpec)) quickIsRowCard

/-- THE SECOND FORM's CARD OF 'stillroomlaw05.PackApart'. -/
def packApartUptoCard : Claim7 := { stood := { row := packApartUptoRow, standIns := [], harness := (true, "1f3cee62c2ef2214d9de1ff7a13894e47689ab8e6645b379b989fdf9bb5f4bd5"), looks := true }, kinds := [], alts := [], laidByText := true, laidKinds := [.data, .data, .data, .sentinel, .sentinel], laidTests := true, laidLooks := .later }
def PackApartUptoCardSaid : Prop := Claim7.holds Tryd.pinned (.plain (OpenSpec.upto packApartSpec)) packApartUptoCard

/-- THE SECOND FORM's CARD OF 'stillroomlaw05.PackFinds'. -/
def packFindsUptoCard : Claim7 := { stood := { row := packFindsUptoRow, standIns := [], harness := (true, "1f3cee62c2ef2214d9de1ff7a13894e47689ab8e6645b379b989fdf9bb5f4bd5"), looks := true }, kinds := [], alts := [], laidByText := true, laidKinds := [.data, .data, .data, .sentinel, .sentinel], laidTests := true, laidLooks := .later }
def PackFindsUptoCardSaid : Prop := Claim7.holds Tryd.pinned (.plain (OpenSpec.upto packFindsSpec)) packFindsUptoCard

/-- THE SECOND FORM's CARD OF 'stillroomlaw05.PackBack'. -/
def packBackUptoCard : Claim7 := { stood := { row := packBackUptoRow, standIns := [], harness := (true, "1f3cee62c2ef2214d9de1ff7a13894e47689ab8e6645b379b989fdf9bb5f4bd5"), looks := true }, kinds := [], alts := [], laidByText := true, laidKinds := [.data, .data, .data, .sentinel, .sentinel], laidTests := true, laidLooks := .later }
def PackBackUptoCardSaid : Prop := Claim7.holds Tryd.pinned (.plain (OpenSpec.upto packBackSpec)) packBackUptoCard

/-- THE SECOND FORM's CARD OF 'stillroomlaw05.PackCuts'. -/
def packCutsUptoCard : Claim7 := { stood := { row := packCutsUptoRow, standIns := [], harness := (true, "1f3cee62c2ef2214d9de1ff7a13894e47689ab8e6645b379b989fdf9bb5f4bd5"), looks := true }, kinds := [], alts := [], laidByText := true, laidKinds := [.data, .data, .data, .sentinel, .sentinel], laidTests := true, laidLooks := .later }
def PackCutsUptoCardSaid : Prop := Claim7.holds Tryd.pinned (.plain (OpenSpec.upto packCutsSpec)) packCutsUptoCard

/-- THE SECOND FORM's CARD OF 'stillroomlaw05.PackUndoes'. -/
def packUndoesUptoCard : Claim7 := { stood := { row := packUndoesUptoRow, standIns := [], harness := (true, "1f3cee62c2ef2214d9de1ff7a13894e47689ab8e6645b379b989fdf9bb5f4bd5"), looks := true }, kinds := [], alts := [], laidByText := true, laidKinds := [.data, .data, .data, .sentinel, .sentinel], laidTests := true, laidLooks := .later }
def PackUndoesUptoCardSaid : Prop := Claim7.holds Tryd.pinned (.plain (OpenSpec.upto packUndoesSpec)) packUndoesUptoCard

/-- THE SECOND FORM's CARD OF 'stillroomlaw05.PackParses'. -/
def packParsesUptoCard : Claim7 := { stood := { row := packParsesUptoRow, standIns := [], harness := (true, "1f3cee62c2ef2214d9de1ff7a13894e47689ab8e6645b379b989fdf9bb5f4bd5"), looks := true }, kinds := [], alts := [], laidByText := true, laidKinds := [.data, .data, .data, .sentinel, .sentinel], laidTests := true, laidLooks := .later }
def PackParsesUptoCardSaid : Prop := Claim7.holds Tryd.pinned (.plain (OpenSpec.upto packParsesSpec)) packParsesUptoCard

/-- THE SECOND FORM's CARD OF 'stillroomlaw08.QuickRanges'. -/
def quickRangesUptoCard : Claim7 := { stood := { row := quickRangesUptoRow, standIns := [], harness := (true, "1f3cee62c2ef2214d9de1ff7a13894e47689ab8e6645b379b989fdf9bb5f4bd5"), looks := true }, kinds := [], alts := [], laidByText := true, laidKinds := [.data, .data, .data, .sentinel, .sentinel], laidTests := true, laidLooks := .later }
def QuickRangesUptoCardSaid : Prop := Claim7.holds Tryd.pinned (.plain (OpenSpec.upto quickRangesSpec)) quickRangesUptoCard

/-- THE SECOND FORM's CARD OF 'stillroomlaw08.QuickIsRow'. -/
def quickIsRowUptoCard : Claim7 := { stood := { row := quickIsRowUptoRow, standIns := [], harness := (true, "1f3cee62c2ef2214d9de1ff7a13894e47689ab8e6645b379b989fdf9bb5f4bd5"), looks := true }, kinds := [], alts := [], laidByText := true, laidKinds := [.data, .data, .data, .sentinel, .sentinel], laidTests := true, laidLooks := .later }
def QuickIsRowUptoCardSaid : Prop := Claim7.holds Tryd.pinned (.plain (OpenSpec.upto quickIsRowSpec)) quickIsRowUptoCard
end Rows
end Go.Proofs.YtcoepekoacpgnaaDoor
