/-
  DERIVED. GIVEN WITH THE SEED: THE CARDS: each row of YtbjpfnafhhbmaaaDoorRows.lean that lists a variable, with what it lists TIED to the program's text (the seventh form; the later family's looks); each row that meets fmt, with fmt's text TOLD by the authors' own Lean function (tested against real Go, not proved from fmt's source: count such statements apart). THE CARD IS WHAT COUNTS. Prove the row's statement (the work); the ties are given (YtbjpfnafhhbmaaaDoorTie.lean); close each card by the builder's one call (the guide's Derived/Test/ToyasCard.lean, 'card_holds'). Laid BY PROGRAM, IN A SANDBOX (cutbox-door.mjs). By AI agents, Wed Nov 11 2026. No macro, syntax, notation, axiom, sorry.
-/
import Derived.Test.YtbjpfnafhhbmaaaDoorRows
import GoSem.ClaimSeven
namespace Go.Proofs.YtbjpfnafhhbmaaaDoor
namespace Rows

/-- THE TIED CARD OF 'stillroomlaw16.StreamNames'. -/
def streamNamesCard : Claim7 := { stood := { row := streamNamesRow, standIns := [], harness := (true, "6053d889fdb6757a9a0803dca80406b952c22547afe35f6af35aae2b53147af8"), looks := true }, kinds := [], alts := [], laidByText := true, laidKinds := [.data, .data, .data, .sentinel, .sentinel], laidTests := true, laidLooks := .later }
def StreamNamesCardSaid : Prop := Claim7.holds Tryd.pinned (.plain (OpenSpec.ofChange streamNamesSpec)) streamNamesCard

/-- THE TIED CARD OF 'stillroomlaw16.StreamSpells'. -/
def streamSpellsCard : Claim7 := { stood := { row := streamSpellsRow, standIns := [], harness := (true, "6053d889fdb6757a9a0803dca80406b952c22547afe35f6af35aae2b53147af8"), looks := true }, kinds := [], alts := [], laidByText := true, laidKinds := [.data, .data, .data, .sentinel, .sentinel], laidTests := true, laidLooks := .later }
def StreamSpellsCardSaid : Prop := Claim7.holds Tryd.pinned (.plain (OpenSpec.ofChange streamSpellsSpec)) streamSpellsCard

/-- THE TIED CARD OF 'stillroomlaw16.StreamSplits'. -/
def streamSplitsCard : Claim7 := { stood := { row := streamSplitsRow, standIns := [], harness := (true, "6053d889fdb6757a9a0803dca80406b952c22547afe35f6af35aae2b53147af8"), looks := true }, kinds := [], alts := [], laidByText := true, laidKinds := [.data, .data, .data, .sentinel, .sentinel], laidTests := true, laidLooks := .later }
def StreamSplitsCardSaid : Prop := Claim7.holds Tryd.pinned (.plain (OpenSpec.ofChange streamSplitsSpec)) streamSplitsCard

/-- THE TIED CARD OF 'stillroomlaw16.StreamPlays'. -/
def streamPlaysCard : Claim7 := { stood := { row := streamPlaysRow, standIns := [], harness := (true, "6053d889fdb6757a9a0803dca80406b952c22547afe35f6af35aae2b53147af8"), looks := true }, kinds := [], alts := [], laidByText := true, laidKinds := [.data, .data, .data, .sentinel, .sentinel], laidTests := true, laidLooks := .later }
def StreamPlaysCardSaid : Prop := Claim7.holds Tryd.pinned (.plain (OpenSpec.ofChange streamPlaysSpec)) streamPlaysCard

/-- THE TIED CARD OF 'stillroomlaw16.StreamNone'. -/
def streamNoneCard : Claim7 := { stood := { row := streamNoneRow, standIns := [], harness := (true, "6053d889fdb6757a9a0803dca80406b952c22547afe35f6af35aae2b53147af8"), looks := true }, kinds := [], alts := [], laidByText := true, laidKinds := [.data, .data, .data, .sentinel, .sentinel], laidTests := true, laidLooks := .later }
def StreamNoneCardSaid : Prop := Claim7.holds Tryd.pinned (.plain (OpenSpec.ofChange streamNoneSpec)) streamNoneCard

/-- THE TIED CARD OF 'stillroomlaw16.StreamRises'. -/
def streamRisesCard : Claim7 := { stood := { row := streamRisesRow, standIns := [], harness := (true, "6053d889fdb6757a9a0803dca80406b952c22547afe35f6af35aae2b53147af8"), looks := true }, kinds := [], alts := [], laidByText := true, laidKinds := [.data, .data, .data, .sentinel, .sentinel], laidTests := true, laidLooks := .later }
def StreamRisesCardSaid : Prop := Claim7.holds Tryd.pinned (.plain (OpenSpec.ofChange streamRisesSpec)) streamRisesCard

/-- THE SECOND FORM's CARD OF 'stillroomlaw16.StreamNames'. -/
def streamNamesUptoCard : Claim7 := { stood := { row := streamNamesUptoRow, standIns := [], harness := (true, "6053d889fdb6757a9a0803dca80406b952c22547afe35f6af35aae2b53147af8"), looks := true }, kinds := [], alts := [], laidByText := true, laidKinds := [.data, .data, .data, .sentinel, .sentinel], laidTests := true, laidLooks := .later }
def StreamNamesUptoCardSaid : Prop := Claim7.holds Tryd.pinned (.plain (OpenSpec.upto streamNamesSpec)) streamNamesUptoCard

/-- THE SECOND FORM's CARD OF 'stillroomlaw16.StreamSpells'. -/
def streamSpellsUptoCard : Claim7 := { stood := { row := streamSpellsUptoRow, standIns := [], harness := (true, "6053d889fdb6757a9a0803dca80406b952c22547afe35f6af35aae2b53147af8"), looks := true }, kinds := [], alts := [], laidByText := true, laidKinds := [.data, .data, .data, .sentinel, .sentinel], laidTests := true, laidLooks := .later }
def StreamSpellsUptoCardSaid : Prop := Claim7.holds Tryd.pinned (.plain (OpenSpec.upto streamSpellsSpec)) streamSpellsUptoCard

/-- THE SECOND FORM's CARD OF 'stillroomlaw16.StreamSplits'. -/
def streamSplitsUptoCard : Claim7 := { stood := { row := streamSplitsUptoRow, standIns := [], harness := (true, "6053d889fdb6757a9a0803dca80406b952c22547afe35f6af35aae2b53147af8"), looks := true }, kinds := [], alts := [], laidByText := true, laidKinds := [.data, .data, .data, .sentinel, .sentinel], laidTests := true, laidLooks := .later }
def StreamSplitsUptoCardSaid : Prop := Claim7.holds Tryd.pinned (.plain (OpenSpec.upto streamSplitsSpec)) streamSplitsUptoCard

/-- THE SECOND FORM's CARD OF 'stillroomlaw16.StreamPlays'. -/
def streamPlaysUptoCard : Claim7 := { stood := { row := streamPlaysUptoRow, standIns := [], harness := (true, "6053d889fdb6757a9a0803dca80406b952c22547afe35f6af35aae2b53147af8"), looks := true }, kinds := [], alts := [], laidByText := true, laidKinds := [.data, .data, .data, .sentinel, .sentinel], laidTests := true, laidLooks := .later }
def StreamPlaysUptoCardSaid : Prop := Claim7.holds Tryd.pinned (.plain (OpenSpec.upto streamPlaysSpec)) streamPlaysUptoCard

/-- THE SECOND FORM's CARD OF 'stillroomlaw16.StreamNone'. -/
def streamNoneUptoCard : Claim7 := { stood := { row := streamNoneUptoRow, standIns := [], harness := (true, "6053d889fdb6757a9a0803dca80406b952c22547afe35f6af35aae2b53147af8"), looks := true }, kinds := [], alts := [], laidByText := true, laidKinds := [.data, .data, .data, .sentinel, .sentinel], laidTests := true, laidLooks := .later }
def StreamNoneUptoCardSaid : Prop := Claim7.holds Tryd.pinned (.plain (OpenSpec.upto streamNoneSpec)) streamNoneUptoCard

/-- THE SECOND FORM's CARD OF 'stillroomlaw16.StreamRises'. -/
def streamRisesUptoCard : Claim7 := { stood := { row := streamRisesUptoRow, standIns := [], harness := (true, "6053d889fdb6757a9a0803dca80406b952c22547afe35f6af35aae2b53147af8"), looks := true }, kinds := [], alts := [], laidByText := true, laidKinds := [.data, .data, .data, .sentinel, .sentinel], laidTests := true, laidLooks := .later }
def StreamRisesUptoCardSaid : Prop := Claim7.holds Tryd.pinned (.plain (OpenSpec.upto streamRisesSpec)) streamRisesUptoCard
end Rows
end Go.Proofs.YtbjpfnafhhbmaaaDoor
