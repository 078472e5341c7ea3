/-
  DERIVED. GIVEN WITH THE SEED: THE CARDS: each row of YthgemggkogfhaaaGreatDoorRows.lean that lists a variable, with what it lists TIED to the program's text (the seventh form; the later family's looks); each row that meets fmt, with fmt's text TOLD by the authors' own Lean function (tested against real Go, not proved from fmt's source: count such statements apart). THE CARD IS WHAT COUNTS. Prove the row's statement (the work); the ties are given (YthgemggkogfhaaaGreatDoorTie.lean); close each card by the builder's one call (the guide's Derived/Test/ToyasCard.lean, 'card_holds'). Laid BY PROGRAM, IN A SANDBOX (cutbox-door.mjs). By AI agents, Wed Nov 11 2026. No macro, syntax, notation, axiom, sorry.
-/
import Derived.Test.YthgemggkogfhaaaGreatDoorRows
import GoSem.ClaimSeven
namespace Go.Proofs.YthgemggkogfhaaaGreatDoor
namespace Rows

/-- THE TIED CARD OF 'binnaclelaw17.FrontBack'. -/
def frontBackCard : Claim7 := { stood := { row := frontBackRow, standIns := [], harness := (true, "77b9ccebbdb4aef2f09ed85708f4374c34ebe0bc2763323b20f69ef6ff250b1e"), looks := true }, kinds := [], alts := [], laidByText := true, laidKinds := [.data, .data, .data, .data, .sentinel, .sentinel, .listed, .data, .pinned], laidTests := true, laidLooks := .later }
def FrontBackCardSaid : Prop := Claim7.holds Tryz.pinned (.plain (OpenSpec.ofChange frontBackSpec)) frontBackCard

/-- THE TIED CARD OF 'binnaclelaw18.SortSources'. -/
def sortSourcesCard : Claim7 := { stood := { row := sortSourcesRow, standIns := [], harness := (true, "77b9ccebbdb4aef2f09ed85708f4374c34ebe0bc2763323b20f69ef6ff250b1e"), looks := true }, kinds := [], alts := [], laidByText := true, laidKinds := [.data, .data, .data, .data, .sentinel, .sentinel, .listed, .data, .pinned], laidTests := true, laidLooks := .later }
def SortSourcesCardSaid : Prop := Claim7.holds Tryz.pinned (.plain (OpenSpec.ofChange sortSourcesSpec)) sortSourcesCard

/-- THE TIED CARD OF 'binnaclelaw18.SortNames'. -/
def sortNamesCard : Claim7 := { stood := { row := sortNamesRow, standIns := [], harness := (true, "77b9ccebbdb4aef2f09ed85708f4374c34ebe0bc2763323b20f69ef6ff250b1e"), looks := true }, kinds := [], alts := [], laidByText := true, laidKinds := [.data, .data, .data, .data, .sentinel, .sentinel, .listed, .data, .pinned], laidTests := true, laidLooks := .later }
def SortNamesCardSaid : Prop := Claim7.holds Tryz.pinned (.plain (OpenSpec.ofChange sortNamesSpec)) sortNamesCard

/-- THE TIED CARD OF 'binnaclelaw18.SortRenamed'. -/
def sortRenamedCard : Claim7 := { stood := { row := sortRenamedRow, standIns := [], harness := (true, "77b9ccebbdb4aef2f09ed85708f4374c34ebe0bc2763323b20f69ef6ff250b1e"), looks := true }, kinds := [], alts := [], laidByText := true, laidKinds := [.data, .data, .data, .data, .sentinel, .sentinel, .listed, .data, .pinned], laidTests := true, laidLooks := .later }
def SortRenamedCardSaid : Prop := Claim7.holds Tryz.pinned (.plain (OpenSpec.ofChange sortRenamedSpec)) sortRenamedCard

/-- THE TIED CARD OF 'binnaclelaw18.SortSpare'. -/
def sortSpareCard : Claim7 := { stood := { row := sortSpareRow, standIns := [], harness := (true, "77b9ccebbdb4aef2f09ed85708f4374c34ebe0bc2763323b20f69ef6ff250b1e"), looks := true }, kinds := [], alts := [], laidByText := true, laidKinds := [.data, .data, .data, .data, .sentinel, .sentinel, .listed, .data, .pinned], laidTests := true, laidLooks := .later }
def SortSpareCardSaid : Prop := Claim7.holds Tryz.pinned (.plain (OpenSpec.ofChange sortSpareSpec)) sortSpareCard

/-- THE TIED CARD OF 'binnaclelaw18.SortTypes'. -/
def sortTypesCard : Claim7 := { stood := { row := sortTypesRow, standIns := [], harness := (true, "77b9ccebbdb4aef2f09ed85708f4374c34ebe0bc2763323b20f69ef6ff250b1e"), looks := true }, kinds := [], alts := [], laidByText := true, laidKinds := [.data, .data, .data, .data, .sentinel, .sentinel, .listed, .data, .pinned], laidTests := true, laidLooks := .later }
def SortTypesCardSaid : Prop := Claim7.holds Tryz.pinned (.plain (OpenSpec.ofChange sortTypesSpec)) sortTypesCard

/-- THE TIED CARD OF 'binnaclelaw19.MeanRuns'. -/
def meanRunsCard : Claim7 := { stood := { row := meanRunsRow, standIns := [], harness := (true, "77b9ccebbdb4aef2f09ed85708f4374c34ebe0bc2763323b20f69ef6ff250b1e"), looks := true }, kinds := [], alts := [], laidByText := true, laidKinds := [.data, .data, .data, .data, .sentinel, .sentinel, .listed, .data, .pinned], laidTests := true, laidLooks := .later }
def MeanRunsCardSaid : Prop := Claim7.holds Tryz.pinned (.plain (OpenSpec.ofChange meanRunsSpec)) meanRunsCard

/-- THE TIED CARD OF 'binnaclelaw19.MeanFuel'. -/
def meanFuelCard : Claim7 := { stood := { row := meanFuelRow, standIns := [], harness := (true, "77b9ccebbdb4aef2f09ed85708f4374c34ebe0bc2763323b20f69ef6ff250b1e"), looks := true }, kinds := [], alts := [], laidByText := true, laidKinds := [.data, .data, .data, .data, .sentinel, .sentinel, .listed, .data, .pinned], laidTests := true, laidLooks := .later }
def MeanFuelCardSaid : Prop := Claim7.holds Tryz.pinned (.plain (OpenSpec.ofChange meanFuelSpec)) meanFuelCard

/-- THE TIED CARD OF 'binnaclelaw19.MeanFrames'. -/
def meanFramesCard : Claim7 := { stood := { row := meanFramesRow, standIns := [], harness := (true, "77b9ccebbdb4aef2f09ed85708f4374c34ebe0bc2763323b20f69ef6ff250b1e"), looks := true }, kinds := [], alts := [], laidByText := true, laidKinds := [.data, .data, .data, .data, .sentinel, .sentinel, .listed, .data, .pinned], laidTests := true, laidLooks := .later }
def MeanFramesCardSaid : Prop := Claim7.holds Tryz.pinned (.plain (OpenSpec.ofChange meanFramesSpec)) meanFramesCard

/-- THE TIED CARD OF 'binnaclelaw19.MeanCounts'. -/
def meanCountsCard : Claim7 := { stood := { row := meanCountsRow, standIns := [], harness := (true, "77b9ccebbdb4aef2f09ed85708f4374c34ebe0bc2763323b20f69ef6ff250b1e"), looks := true }, kinds := [], alts := [], laidByText := true, laidKinds := [.data, .data, .data, .data, .sentinel, .sentinel, .listed, .data, .pinned], laidTests := true, laidLooks := .later }
def MeanCountsCardSaid : Prop := Claim7.holds Tryz.pinned (.plain (OpenSpec.ofChange meanCountsSpec)) meanCountsCard

/-- THE TIED CARD OF 'binnaclelaw19.MeanEcho'. -/
def meanEchoCard : Claim7 := { stood := { row := meanEchoRow, standIns := [], harness := (true, "77b9ccebbdb4aef2f09ed85708f4374c34ebe0bc2763323b20f69ef6ff250b1e"), looks := true }, kinds := [], alts := [], laidByText := true, laidKinds := [.data, .data, .data, .data, .sentinel, .sentinel, .listed, .data, .pinned], laidTests := true, laidLooks := .later }
def MeanEchoCardSaid : Prop := Claim7.holds Tryz.pinned (.plain (OpenSpec.ofChange meanEchoSpec)) meanEchoCard

/-- THE SECOND FORM's CARD OF 'binnaclelaw17.FrontBack'. -/
def frontBackUptoCard : Claim7 := { stood := { row := frontBackUptoRow, standIns := [], harness := (true, "77b9ccebbdb4aef2f09ed85708f4374c34ebe0bc2763323b20f69ef6ff250b1e"), looks := true }, kinds := [], alts := [], laidByText := true, laidKinds := [.data, .data, .data, .data, .sentinel, .sentinel, .listed, .data, .pinned], laidTests := true, laidLooks := .later }
def FrontBackUptoCardSaid : Prop := Claim7.holds Tryz.pinned (.plain (OpenSpec.upto frontBackSpec)) frontBackUptoCard

/-- THE SECOND FORM's CARD OF 'binnaclelaw18.SortSources'. -/
def sortSourcesUptoCard : Claim7 := { stood := { row := sortSourcesUptoRow, standIns := [], harness := (true, "77b9ccebbdb4aef2f09ed85708f4374c34ebe0bc2763323b20f69ef6ff250b1e"), looks := true }, kinds := [], alts := [], laidByText := true, laidKinds := [.data, .data, .data, .data, .sentinel, .sentinel, .listed, .data, .pinned], laidTests := true, laidLooks := .later }
def SortSourcesUptoCardSaid : Prop := Claim7.holds Tryz.pinned (.plain (OpenSpec.upto sortSourcesSpec)) sortSourcesUptoCard

/-- THE SECOND FORM's CARD OF 'binnaclelaw18.SortNames'. -/
def sortNamesUptoCard : Claim7 := { stood := { row := sortNamesUptoRow, standIns := [], harness := (true, "77b9ccebbdb4aef2f09ed85708f4374c34ebe0bc2763323b20f69ef6ff250b1e"), looks := true }, kinds := [], alts := [], laidByText := true, laidKinds := [.data, .data, .data, .data, .sentinel, .sentinel, .listed, .data, .pinned], laidTests := true, laidLooks := .later }
def SortNamesUptoCardSaid : Prop := Claim7.holds Tryz.pinned (.plain (OpenSpec.upto sortNamesSpec)) sortNamesUptoCard

/-- THE SECOND FORM's CARD OF 'binnaclelaw18.SortRenamed'. -/
def sortRenamedUptoCard : Claim7 := { stood := { row := sortRenamedUptoRow, standIns := [], harness := (true, "77b9ccebbdb4aef2f09ed85708f4374c34ebe0bc2763323b20f69ef6ff250b1e"), looks := true }, kinds := [], alts := [], laidByText := true, laidKinds := [.data, .data, .data, .data, .sentinel, .sentinel, .listed, .data, .pinned], laidTests := true, laidLooks := .later }
def SortRenamedUptoCardSaid : Prop := Claim7.holds Tryz.pinned (.plain (OpenSpec.upto sortRenamedSpec)) sortRenamedUptoCard

/-- THE SECOND FORM's CARD OF 'binnaclelaw18.SortSpare'. -/
def sortSpareUptoCard : Claim7 := { stood := { row := sortSpareUptoRow, standIns := [], harness := (true, "77b9ccebbdb4aef2f09ed85708f4374c34ebe0bc2763323b20f69ef6ff250b1e"), looks := true }, kinds := [], alts := [], laidByText := true, laidKinds := [.data, .data, .data, .data, .sentinel, .sentinel, .listed, .data, .pinned], laidTests := true, laidLooks := .later }
def SortSpareUptoCardSaid : Prop := Claim7.holds Tryz.pinned (.plain (OpenSpec.upto sortSpareSpec)) sortSpareUptoCard

/-- THE SECOND FORM's CARD OF 'binnaclelaw18.SortTypes'. -/
def sortTypesUptoCard : Claim7 := { stood := { row := sortTypesUptoRow, standIns := [], harness := (true, "77b9ccebbdb4aef2f09ed85708f4374c34ebe0bc2763323b20f69ef6ff250b1e"), looks := true }, kinds := [], alts := [], laidByText := true, laidKinds := [.data, .data, .data, .data, .sentinel, .sentinel, .listed, .data, .pinned], laidTests := true, laidLooks := .later }
def SortTypesUptoCardSaid : Prop := Claim7.holds Tryz.pinned (.plain (OpenSpec.upto sortTypesSpec)) sortTypesUptoCard

/-- THE SECOND FORM's CARD OF 'binnaclelaw19.MeanRuns'. -/
def meanRunsUptoCard : Claim7 := { stood := { row := meanRunsUptoRow, standIns := [], harness := (true, "77b9ccebbdb4aef2f09ed85708f4374c34ebe0bc2763323b20f69ef6ff250b1e"), looks := true }, kinds := [], alts := [], laidByText := true, laidKinds := [.data, .data, .data, .data, .sentinel, .sentinel, .listed, .data, .pinned], laidTests := true, laidLooks := .later }
def MeanRunsUptoCardSaid : Prop := Claim7.holds Tryz.pinned (.plain (OpenSpec.upto meanRunsSpec)) meanRunsUptoCard

/-- THE SECOND FORM's CARD OF 'binnaclelaw19.MeanFuel'. -/
def meanFuelUptoCard : Claim7 := { stood := { row := meanFuelUptoRow, standIns := [], harness := (true, "77b9ccebbdb4aef2f09ed85708f4374c34ebe0bc2763323b20f69ef6ff250b1e"), looks := true }, kinds := [], alts := [], laidByText := true, laidKinds := [.data, .data, .data, .data, .sentinel, .sentinel, .listed, .data, .pinned], laidTests := true, laidLooks := .later }
def MeanFuelUptoCardSaid : Prop := Claim7.holds Tryz.pinned (.plain (OpenSpec.upto meanFuelSpec)) meanFuelUptoCard

/-- THE SECOND FORM's CARD OF 'binnaclelaw19.MeanFrames'. -/
def meanFramesUptoCard : Claim7 := { stood := { row := meanFramesUptoRow, standIns := [], harness := (true, "77b9ccebbdb4aef2f09ed85708f4374c34ebe0bc2763323b20f69ef6ff250b1e"), looks := true }, kinds := [], alts := [], laidByText := true, laidKinds := [.data, .data, .data, .data, .sentinel, .sentinel, .listed, .data, .pinned], laidTests := true, laidLooks := .later }
def MeanFramesUptoCardSaid : Prop := Claim7.holds Tryz.pinned (.plain (OpenSpec.upto meanFramesSpec)) meanFramesUptoCard

/-- THE SECOND FORM's CARD OF 'binnaclelaw19.MeanCounts'. -/
def meanCountsUptoCard : Claim7 := { stood := { row := meanCountsUptoRow, standIns := [], harness := (true, "77b9ccebbdb4aef2f09ed85708f4374c34ebe0bc2763323b20f69ef6ff250b1e"), looks := true }, kinds := [], alts := [], laidByText := true, laidKinds := [.data, .data, .data, .data, .sentinel, .sentinel, .listed, .data, .pinned], laidTests := true, laidLooks := .later }
def MeanCountsUptoCardSaid : Prop := Claim7.holds Tryz.pinned (.plain (OpenSpec.upto meanCountsSpec)) meanCountsUptoCard

/-- THE SECOND FORM's CARD OF 'binnaclelaw19.MeanEcho'. -/
def meanEchoUptoCard : Claim7 := { stood := { row := meanEchoUptoRow, standIns := [], harness := (true, "77b9ccebbdb4aef2f09ed85708f4374c34ebe0bc2763323b20f69ef6ff250b1e"), looks := true }, kinds := [], alts := [], laidByText := true, laidKinds := [.data, .data, .data, .data, .sentinel, .sentinel, .listed, .data, .pinned], laidTests := true, laidLooks := .later }
def MeanEchoUptoCardSaid : Prop := Claim7.holds Tryz.pinned (.plain (OpenSpec.upto meanEchoSpec)) meanEchoUptoCard
end Rows
end Go.Proofs.YthgemggkogfhaaaGreatDoor
