/-
  DERIVED. GIVEN WITH THE SEED: THE CARDS: each row of YthkcdkldpbndnaaDoorRows.lean that lists a variable, with what it lists TIED to the program's text (the seventh form; the later family's looks); each row that meets fmt, with fmt's text TOLD by the authors' own Lean function (tested against real Go, not proved from fmt's source: count such statements apart). THE CARD IS WHAT COUNTS. Prove the row's statement (the work); the ties are given (YthkcdkldpbndnaaDoorTie.lean); close each card by the builder's one call (the guide's Derived/Test/ToyasCard.lean, 'card_holds'). Laid BY PROGRAM, IN A SANDBOX (cutbox-door.mjs). By AI agents, Wed Nov 11 2026. No macro, syntax, notation, axiom, sorry.
-/
import Derived.Test.YthkcdkldpbndnaaDoorRows
import GoSem.ClaimSeven
namespace Go.Proofs.YthkcdkldpbndnaaDoor
namespace Rows

/-- THE TIED CARD OF 'hartixlaw9.TreeSplits'. -/
def treeSplitsCard : Claim7 := { stood := { row := treeSplitsRow, standIns := [], harness := (true, "2a5dc558d3499f8a9e4120dc99600dc9085bdae164366207caac4333aedb5e3e"), looks := false }, kinds := [], alts := [], laidByText := true, laidKinds := [.data, .pinned], laidTests := true, laidLooks := .later }
def TreeSplitsCardSaid : Prop := Claim7.holds Tryd.pinned (.plain (OpenSpec.ofChange treeSplitsSpec)) treeSplitsCard

/-- THE TIED CARD OF 'hartixlaw9.TreeBytes'. -/
def treeBytesCard : Claim7 := { stood := { row := treeBytesRow, standIns := [], harness := (true, "2a5dc558d3499f8a9e4120dc99600dc9085bdae164366207caac4333aedb5e3e"), looks := false }, kinds := [], alts := [], laidByText := true, laidKinds := [.data, .pinned], laidTests := true, laidLooks := .later }
def TreeBytesCardSaid : Prop := Claim7.holds Tryd.pinned (.plain (OpenSpec.ofChange treeBytesSpec)) treeBytesCard

/-- THE TIED CARD OF 'hartixlaw12.FileThrough'. -/
def fileThroughCard : Claim7 := { stood := { row := fileThroughRow, standIns := [], harness := (true, "2a5dc558d3499f8a9e4120dc99600dc9085bdae164366207caac4333aedb5e3e"), looks := false }, kinds := [], alts := [], laidByText := true, laidKinds := [.data], laidTests := true, laidLooks := .later }
def FileThroughCardSaid : Prop := Claim7.holds Tryd.pinned (.plain (OpenSpec.ofChange fileThroughSpec)) fileThroughCard

/-- THE TIED CARD OF 'hartixlaw12.FileNobody'. -/
def fileNobodyCard : Claim7 := { stood := { row := fileNobodyRow, standIns := [], harness := (true, "2a5dc558d3499f8a9e4120dc99600dc9085bdae164366207caac4333aedb5e3e"), looks := false }, kinds := [], alts := [], laidByText := true, laidKinds := [.data], laidTests := true, laidLooks := .later }
def FileNobodyCardSaid : Prop := Claim7.holds Tryd.pinned (.plain (OpenSpec.ofChange fileNobodySpec)) fileNobodyCard

/-- THE TIED CARD OF 'hartixlaw9.TreeNobody'. -/
def treeNobodyCard : Claim7 := { stood := { row := treeNobodyRow, standIns := [], harness := (true, "2a5dc558d3499f8a9e4120dc99600dc9085bdae164366207caac4333aedb5e3e"), looks := false }, kinds := [], alts := [], laidByText := true, laidKinds := [.data, .pinned], laidTests := true, laidLooks := .later }
def TreeNobodyCardSaid : Prop := Claim7.holds Tryd.pinned (.plain (OpenSpec.ofChange treeNobodySpec)) treeNobodyCard

/-- THE TIED CARD OF 'hartixlaw9.TreeOne'. -/
def treeOneCard : Claim7 := { stood := { row := treeOneRow, standIns := [], harness := (true, "2a5dc558d3499f8a9e4120dc99600dc9085bdae164366207caac4333aedb5e3e"), looks := false }, kinds := [], alts := [], laidByText := true, laidKinds := [.data, .pinned], laidTests := true, laidLooks := .later }
def TreeOneCardSaid : Prop := Claim7.holds Tryd.pinned (.plain (OpenSpec.ofChange treeOneSpec)) treeOneCard

/-- THE TIED CARD OF 'hartixlaw9.TreeFinds'. -/
def treeFindsCard : Claim7 := { stood := { row := treeFindsRow, standIns := [], harness := (true, "2a5dc558d3499f8a9e4120dc99600dc9085bdae164366207caac4333aedb5e3e"), looks := false }, kinds := [], alts := [], laidByText := true, laidKinds := [.data, .pinned], laidTests := true, laidLooks := .later }
def TreeFindsCardSaid : Prop := Claim7.holds Tryd.pinned (.plain (OpenSpec.ofChange treeFindsSpec)) treeFindsCard

/-- THE TIED CARD OF 'hartixlaw9.TreeFresh'. -/
def treeFreshCard : Claim7 := { stood := { row := treeFreshRow, standIns := [], harness := (true, "2a5dc558d3499f8a9e4120dc99600dc9085bdae164366207caac4333aedb5e3e"), looks := false }, kinds := [], alts := [], laidByText := true, laidKinds := [.data, .pinned], laidTests := true, laidLooks := .later }
def TreeFreshCardSaid : Prop := Claim7.holds Tryd.pinned (.plain (OpenSpec.ofChange treeFreshSpec)) treeFreshCard

/-- THE TIED CARD OF 'hartixlaw9.TreeRoom'. -/
def treeRoomCard : Claim7 := { stood := { row := treeRoomRow, standIns := [], harness := (true, "2a5dc558d3499f8a9e4120dc99600dc9085bdae164366207caac4333aedb5e3e"), looks := false }, kinds := [], alts := [], laidByText := true, laidKinds := [.data, .pinned], laidTests := true, laidLooks := .later }
def TreeRoomCardSaid : Prop := Claim7.holds Tryd.pinned (.plain (OpenSpec.ofChange treeRoomSpec)) treeRoomCard

/-- THE SECOND FORM's CARD OF 'hartixlaw9.TreeSplits'. -/
def treeSplitsUptoCard : Claim7 := { stood := { row := treeSplitsUptoRow, standIns := [], harness := (true, "2a5dc558d3499f8a9e4120dc99600dc9085bdae164366207caac4333aedb5e3e"), looks := false }, kinds := [], alts := [], laidByText := true, laidKinds := [.data, .pinned], laidTests := true, laidLooks := .later }
def TreeSplitsUptoCardSaid : Prop := Claim7.holds Tryd.pinned (.plain (OpenSpec.upto treeSplitsSpec)) treeSplitsUptoCard

/-- THE SECOND FORM's CARD OF 'hartixlaw9.TreeBytes'. -/
def treeBytesUptoCard : Claim7 := { stood := { row := treeBytesUptoRow, standIns := [], harness := (true, "2a5dc558d3499f8a9e4120dc99600dc9085bdae164366207caac4333aedb5e3e"), looks := false }, kinds := [], alts := [], laidByText := true, laidKinds := [.data, .pinned], laidTests := true, laidLooks := .later }
def TreeBytesUptoCardSaid : Prop := Claim7.holds Tryd.pinned (.plain (OpenSpec.upto treeBytesSpec)) treeBytesUptoCard

/-- THE SECOND FORM's CARD OF 'hartixlaw12.FileThrough'. -/
def fileThroughUptoCard : Claim7 := { stood := { row := fileThroughUptoRow, standIns := [], harness := (true, "2a5dc558d3499f8a9e4120dc99600dc9085bdae164366207caac4333aedb5e3e"), looks := false }, kinds := [], alts := [], laidByText := true, laidKinds := [.data], laidTests := true, laidLooks := .later }
def FileThroughUptoCardSaid : Prop := Claim7.holds Tryd.pinned (.plain (OpenSpec.upto fileThroughSpec)) fileThroughUptoCard

/-- THE SECOND FORM's CARD OF 'hartixlaw12.FileNobody'. -/
def fileNobodyUptoCard : Claim7 := { stood := { row := fileNobodyUptoRow, standIns := [], harness := (true, "2a5dc558d3499f8a9e4120dc99600dc9085bdae164366207caac4333aedb5e3e"), looks := false }, kinds := [], alts := [], laidByText := true, laidKinds := [.data], laidTests := true, laidLooks := .later }
def FileNobodyUptoCardSaid : Prop := Claim7.holds Tryd.pinned (.plain (OpenSpec.upto fileNobodySpec)) fileNobodyUptoCard

/-- THE SECOND FORM's CARD OF 'hartixlaw9.TreeNobody'. -/
def treeNobodyUptoCard : Claim7 := { stood := { row := treeNobodyUptoRow, standIns := [], harness := (true, "2a5dc558d3499f8a9e4120dc99600dc9085bdae164366207caac4333aedb5e3e"), looks := false }, kinds := [], alts := [], laidByText := true, laidKinds := [.data, .pinned], laidTests := true, laidLooks := .later }
def TreeNobodyUptoCardSaid : Prop := Claim7.holds Tryd.pinned (.plain (OpenSpec.upto treeNobodySpec)) treeNobodyUptoCard

/-- THE SECOND FORM's CARD OF 'hartixlaw9.TreeOne'. -/
def treeOneUptoCard : Claim7 := { stood := { row := treeOneUptoRow, standIns := [], harness := (true, "2a5dc558d3499f8a9e4120dc99600dc9085bdae164366207caac4333aedb5e3e"), looks := false }, kinds := [], alts := [], laidByText := true, laidKinds := [.data, .pinned], laidTests := true, laidLooks := .later }
def TreeOneUptoCardSaid : Prop := Claim7.holds Tryd.pinned (.plain (OpenSpec.upto treeOneSpec)) treeOneUptoCard

/-- THE SECOND FORM's CARD OF 'hartixlaw9.TreeFinds'. -/
def treeFindsUptoCard : Claim7 := { stood := { row := treeFindsUptoRow, standIns := [], harness := (true, "2a5dc558d3499f8a9e4120dc99600dc9085bdae164366207caac4333aedb5e3e"), looks := false }, kinds := [], alts := [], laidByText := true, laidKinds := [.data, .pinned], laidTests := true, laidLooks := .later }
def TreeFindsUptoCardSaid : Prop := Claim7.holds Tryd.pinned (.plain (OpenSpec.upto treeFindsSpec)) treeFindsUptoCard

/-- THE SECOND FORM's CARD OF 'hartixlaw9.TreeFresh'. -/
def treeFreshUptoCard : Claim7 := { stood := { row := treeFreshUptoRow, standIns := [], harness := (true, "2a5dc558d3499f8a9e4120dc99600dc9085bdae164366207caac4333aedb5e3e"), looks := false }, kinds := [], alts := [], laidByText := true, laidKinds := [.data, .pinned], laidTests := true, laidLooks := .later }
def TreeFreshUptoCardSaid : Prop := Claim7.holds Tryd.pinned (.plain (OpenSpec.upto treeFreshSpec)) treeFreshUptoCard

/-- THE SECOND FORM's CARD OF 'hartixlaw9.TreeRoom'. -/
def treeRoomUptoCard : Claim7 := { stood := { row := treeRoomUptoRow, standIns := [], harness := (true, "2a5dc558d3499f8a9e4120dc99600dc9085bdae164366207caac4333aedb5e3e"), looks := false }, kinds := [], alts := [], laidByText := true, laidKinds := [.data, .pinned], laidTests := true, laidLooks := .later }
def TreeRoomUptoCardSaid : Prop := Claim7.holds Tryd.pinned (.plain (OpenSpec.upto treeRoomSpec)) treeRoomUptoCard
end Rows
end Go.Proofs.YthkcdkldpbndnaaDoor
