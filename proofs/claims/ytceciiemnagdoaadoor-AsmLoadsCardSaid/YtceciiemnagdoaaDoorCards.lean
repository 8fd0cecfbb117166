/-
  DERIVED. GIVEN WITH THE SEED: THE CARDS: each row of YtceciiemnagdoaaDoorRows.lean that lists a variable, with what it lists TIED to the program's text (the seventh form; the later family's looks); each row that meets fmt, with fmt's text TOLD by the authors' own Lean function (tested against real Go, not proved from fmt's source: count such statements apart). THE CARD IS WHAT COUNTS. Prove the row's statement (the work); the ties are given (YtceciiemnagdoaaDoorTie.lean); close each card by the builder's one call (the guide's Derived/Test/ToyasCard.lean, 'card_holds'). Laid BY PROGRAM, IN A SANDBOX (cutbox-door.mjs). By AI agents, Wed Nov 11 2026. No macro, syntax, notation, axiom, sorry.
-/
import Derived.Test.YtceciiemnagdoaaDoorRows
import GoSem.ClaimSeven
namespace Go.Proofs.YtceciiemnagdoaaDoor
namespace Rows

/-- THE TIED CARD OF 'hartixlaw6.AsmLoads'. -/
def asmLoadsCard : Claim7 := { stood := { row := asmLoadsRow, standIns := [], harness := (true, "032dc1b75da12b91b5b1206de9348da8c75b68d34ee291a5daab645cba09d4e2"), looks := false }, kinds := [], alts := [], laidByText := true, laidKinds := [.data], laidTests := true, laidLooks := .later }
def AsmLoadsCardSaid : Prop := Claim7.holds Tryd.pinned (.plain (OpenSpec.ofChange asmLoadsSpec)) asmLoadsCard

/-- THE SECOND FORM's CARD OF 'hartixlaw6.AsmLoads'. -/
def asmLoadsUptoCard : Claim7 := { stood := { row := asmLoadsUptoRow, standIns := [], harness := (true, "032dc1b75da12b91b5b1206de9348da8c75b68d34ee291a5daab645cba09d4e2"), looks := false }, kinds := [], alts := [], laidByText := true, laidKinds := [.data], laidTests := true, laidLooks := .later }
def AsmLoadsUptoCardSaid : Prop := Claim7.holds Tryd.pinned (.plain (OpenSpec.upto asmLoadsSpec)) asmLoadsUptoCard
end Rows
end Go.Proofs.YtceciiemnagdoaaDoor
