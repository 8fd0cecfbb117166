/-
  No cell of these rows narrows 'for every input' (looked for: loops, veiled, ifaces, maps, wideKeys, modest, calm, conditions, laid).
  DERIVED. THE GIVEN ROWS OF THIS SEAT. 8 by the template 'for every input the law returns true; each argument reads behind the call as it read before'; 0 by the template 'total and deterministic' (their statements: YtceciiemnagdoaaTotals.lean).
  GIVEN WITH THE SEED: the statements are not yours to turn. If you find one false, say at which input.
  Laid BY PROGRAM, IN A SANDBOX (cutbox-rows.mjs): the forced cells as the released guide's own fill.sh prints them over the translation 6f91be8daffe62f7… (all of the seat's roots in one cut). By AI agents, Wed Nov 11 2026. No macro, syntax, notation, axiom, sorry.
-/
import Derived.Test.YtceciiemnagdoaaChecked
import GoSem.Claim
import GoSem.ClaimJoined
import GoSem.ClaimMapViews
import Derived.JoinedTies
import Derived.KernelRfl
namespace Go.Proofs.Ytceciiemnagdoaa
/- THE CELL 'sum', in the pinned program and in every row, IS THE sha256 OF THE DUMP (.gsa) THAT YtceciiemnagdoaaProg.lean LOADS. Nothing in Lean hashes anything: it is a label: what it is worth is what the hold of that sum in a sandbox is worth. -/
noncomputable def Try.pinned : Pinned := { name := "ytceciiemnagdoaa", sum := "6f91be8daffe62f7bada5dcdaeb937b4750bc5a1e08e57048b7d8ee4ebd93a6f", checked := Try.checked }
namespace Rows
def none {H : Type} : Left H := { results := [], args := [] }

/-- 'hartixlaw6.AsmNames': WHATEVER THE INPUT: true; the input reads as it did. -/
def asmNamesSpec : ChangeSpec := { name := "asmNames", fn := fun _ => fun
  | [] => { results := [.lit (.bool true)], args := [] }
  | _ => none }
def asmNamesRow : OpenClaim := { program := "ytceciiemnagdoaa", sum := "6f91be8daffe62f7bada5dcdaeb937b4750bc5a1e08e57048b7d8ee4ebd93a6f", func := "hartix/hartixlaw6.AsmNames", spec := "asmNames", apart := false }
def AsmNamesSaid : Prop := asmNamesRow.holds Try.pinned (OpenSpec.ofChange asmNamesSpec)

/-- ITS FALSE NEIGHBOUR: 'it returns false'. Refute it at one input. -/
def asmNamesWrong : ChangeSpec := { name := "asmNames", fn := fun _ => fun
  | [] => { results := [.lit (.bool false)], args := [] }
  | _ => none }
def AsmNamesWrongFalsely : Prop := asmNamesRow.holds Try.pinned (OpenSpec.ofChange asmNamesWrong)

/-- 'hartixlaw15.CallNames': WHATEVER THE INPUT: true; the input reads as it did. -/
def callNamesSpec : ChangeSpec := { name := "callNames", fn := fun _ => fun
  | [] => { results := [.lit (.bool true)], args := [] }
  | _ => none }
def callNamesRow : OpenClaim := { program := "ytceciiemnagdoaa", sum := "6f91be8daffe62f7bada5dcdaeb937b4750bc5a1e08e57048b7d8ee4ebd93a6f", func := "hartix/hartixlaw15.CallNames", spec := "callNames", apart := false }
def CallNamesSaid : Prop := callNamesRow.holds Try.pinned (OpenSpec.ofChange callNamesSpec)

/-- ITS FALSE NEIGHBOUR: 'it returns false'. Refute it at one input. -/
def callNamesWrong : ChangeSpec := { name := "callNames", fn := fun _ => fun
  | [] => { results := [.lit (.bool false)], args := [] }
  | _ => none }
def CallNamesWrongFalsely : Prop := callNamesRow.holds Try.pinned (OpenSpec.ofChange callNamesWrong)

/-- 'hartixlaw16.KernelNames': WHATEVER THE INPUT: true; the input reads as it did. -/
def kernelNamesSpec : ChangeSpec := { name := "kernelNames", fn := fun _ => fun
  | [] => { results := [.lit (.bool true)], args := [] }
  | _ => none }
def kernelNamesRow : OpenClaim := { program := "ytceciiemnagdoaa", sum := "6f91be8daffe62f7bada5dcdaeb937b4750bc5a1e08e57048b7d8ee4ebd93a6f", func := "hartix/hartixlaw16.KernelNames", spec := "kernelNames", apart := false }
def KernelNamesSaid : Prop := kernelNamesRow.holds Try.pinned (OpenSpec.ofChange kernelNamesSpec)

/-- ITS FALSE NEIGHBOUR: 'it returns false'. Refute it at one input. -/
def kernelNamesWrong : ChangeSpec := { name := "kernelNames", fn := fun _ => fun
  | [] => { results := [.lit (.bool false)], args := [] }
  | _ => none }
def KernelNamesWrongFalsely : Prop := kernelNamesRow.holds Try.pinned (OpenSpec.ofChange kernelNamesWrong)

/-- 'hartixlaw18.EngineNames': WHATEVER THE INPUT: true; the input reads as it did. -/
def engineNamesSpec : ChangeSpec := { name := "engineNames", fn := fun _ => fun
  | [] => { results := [.lit (.bool true)], args := [] }
  | _ => none }
def engineNamesRow : OpenClaim := { program := "ytceciiemnagdoaa", sum := "6f91be8daffe62f7bada5dcdaeb937b4750bc5a1e08e57048b7d8ee4ebd93a6f", func := "hartix/hartixlaw18.EngineNames", spec := "engineNames", apart := false }
def EngineNamesSaid : Prop := engineNamesRow.holds Try.pinned (OpenSpec.ofChange engineNamesSpec)

/-- ITS FALSE NEIGHBOUR: 'it returns false'. Refute it at one input. -/
def engineNamesWrong : ChangeSpec := { name := "engineNames", fn := fun _ => fun
  | [] => { results := [.lit (.bool false)], args := [] }
  | _ => none }
def EngineNamesWrongFalsely : Prop := engineNamesRow.holds Try.pinned (OpenSpec.ofChange engineNamesWrong)

/-- 'hartixlaw9.TreeNames': WHATEVER THE INPUT: true; the input reads as it did. -/
def treeNamesSpec : ChangeSpec := { name := "treeNames", fn := fun _ => fun
  | [] => { results := [.lit (.bool true)], args := [] }
  | _ => none }
def treeNamesRow : OpenClaim := { program := "ytceciiemnagdoaa", sum := "6f91be8daffe62f7bada5dcdaeb937b4750bc5a1e08e57048b7d8ee4ebd93a6f", func := "hartix/hartixlaw9.TreeNames", spec := "treeNames", apart := false }
def TreeNamesSaid : Prop := treeNamesRow.holds Try.pinned (OpenSpec.ofChange treeNamesSpec)

/-- ITS FALSE NEIGHBOUR: 'it returns false'. Refute it at one input. -/
def treeNamesWrong : ChangeSpec := { name := "treeNames", fn := fun _ => fun
  | [] => { results := [.lit (.bool false)], args := [] }
  | _ => none }
def TreeNamesWrongFalsely : Prop := treeNamesRow.holds Try.pinned (OpenSpec.ofChange treeNamesWrong)

/-- 'hartixlaw12.FileNames': WHATEVER THE INPUT: true; the input reads as it did. -/
def fileNamesSpec : ChangeSpec := { name := "fileNames", fn := fun _ => fun
  | [] => { results := [.lit (.bool true)], args := [] }
  | _ => none }
def fileNamesRow : OpenClaim := { program := "ytceciiemnagdoaa", sum := "6f91be8daffe62f7bada5dcdaeb937b4750bc5a1e08e57048b7d8ee4ebd93a6f", func := "hartix/hartixlaw12.FileNames", spec := "fileNames", apart := false }
def FileNamesSaid : Prop := fileNamesRow.holds Try.pinned (OpenSpec.ofChange fileNamesSpec)

/-- ITS FALSE NEIGHBOUR: 'it returns false'. Refute it at one input. -/
def fileNamesWrong : ChangeSpec := { name := "fileNames", fn := fun _ => fun
  | [] => { results := [.lit (.bool false)], args := [] }
  | _ => none }
def FileNamesWrongFalsely : Prop := fileNamesRow.holds Try.pinned (OpenSpec.ofChange fileNamesWrong)

/-- 'hartixlaw13.ProcNames': WHATEVER THE INPUT: true; the input reads as it did. -/
def procNamesSpec : ChangeSpec := { name := "procNames", fn := fun _ => fun
  | [] => { results := [.lit (.bool true)], args := [] }
  | _ => none }
def procNamesRow : OpenClaim := { program := "ytceciiemnagdoaa", sum := "6f91be8daffe62f7bada5dcdaeb937b4750bc5a1e08e57048b7d8ee4ebd93a6f", func := "hartix/hartixlaw13.ProcNames", spec := "procNames", apart := false }
def ProcNamesSaid : Prop := procNamesRow.holds Try.pinned (OpenSpec.ofChange procNamesSpec)

/-- ITS FALSE NEIGHBOUR: 'it returns false'. Refute it at one input. -/
def procNamesWrong : ChangeSpec := { name := "procNames", fn := fun _ => fun
  | [] => { results := [.lit (.bool false)], args := [] }
  | _ => none }
def ProcNamesWrongFalsely : Prop := procNamesRow.holds Try.pinned (OpenSpec.ofChange procNamesWrong)

/-- 'hartixlaw6.AsmPrograms': WHATEVER THE INPUT: true; the input reads as it did. -/
def asmProgramsSpec : ChangeSpec := { name := "asmPrograms", fn := fun _ => fun
  | [d] => { results := [.lit (.bool true)], args := [d] }
  | _ => none }
def asmProgramsRow : OpenClaim := { program := "ytceciiemnagdoaa", sum := "6f91be8daffe62f7bada5dcdaeb937b4750bc5a1e08e57048b7d8ee4ebd93a6f", func := "hartix/hartixlaw6.AsmPrograms", spec := "asmPrograms", apart := false }
def AsmProgramsSaid : Prop := asmProgramsRow.holds Try.pinned (OpenSpec.ofChange asmProgramsSpec)

/-- ITS FALSE NEIGHBOUR: 'it returns false'. Refute it at one input. -/
def asmProgramsWrong : ChangeSpec := { name := "asmPrograms", fn := fun _ => fun
  | [d] => { results := [.lit (.bool false)], args := [d] }
  | _ => none }
def AsmProgramsWrongFalsely : Prop := asmProgramsRow.holds Try.pinned (OpenSpec.ofChange asmProgramsWrong)

/- THE SECOND FORM. 'bulk': how many values and letters a reading holds, each counted each time it is reached (what is shared counts as often as it is met; a slice's spare places count too). A statement '..UptoSaid' is the law's where the arguments, and the package variables that the reading takes, are together of bulk at most 1048576: NARROWER than '..Said'. Prove '..Said' where nothing that the law and all that it calls make is longer than what came in: it says more and counts as full. Else prove '..UptoSaid'. A law counts once. -/
mutual
def uptoBulk {H : Type} : DataW H → Nat
  | .lit (.string bytes) => bytes.length + 1
  | .lit _ => 1
  | .nil => 1
  | .ptr d => uptoBulk d + 1
  | .slice elems spare => uptoBulkAll elems + uptoBulkAll spare + 1
  | .agg parts => uptoBulkAll parts + 1
  | .iface _ d => uptoBulk d + 1
  | .map entries => uptoBulkEntries entries + 1
  | .held _ => 1
def uptoBulkAll {H : Type} : List (DataW H) → Nat
  | [] => 0
  | d :: r => uptoBulk d + uptoBulkAll r
def uptoBulkEntries {H : Type} : List (Lit × DataW H) → Nat
  | [] => 0
  | x :: r => uptoBulkEntry x + uptoBulkEntries r
def uptoBulkEntry {H : Type} : Lit × DataW H → Nat
  | (.string bytes, d) => bytes.length + uptoBulk d + 1
  | (_, d) => uptoBulk d + 1
 end
def uptoSmall : (H : Type) → List (DataW H) → Bool := fun _ ds => decide (uptoBulkAll ds ≤ 1048576)
def OpenSpec.upto (s : _root_.Go.ChangeSpec) : _root_.Go.OpenSpec := { _root_.Go.OpenSpec.ofChange s with cond := some uptoSmall }

/-- 'hartixlaw6.AsmNames', WHERE WHAT IT READS IS OF BULK AT MOST 1048576: true; the input reads as it did. -/
def asmNamesUptoRow : OpenClaim := { program := "ytceciiemnagdoaa", sum := "6f91be8daffe62f7bada5dcdaeb937b4750bc5a1e08e57048b7d8ee4ebd93a6f", func := "hartix/hartixlaw6.AsmNames", spec := "asmNames", apart := false, narrowed := true }
def AsmNamesUptoSaid : Prop := asmNamesUptoRow.holds Try.pinned (OpenSpec.upto asmNamesSpec)

/-- 'hartixlaw15.CallNames', WHERE WHAT IT READS IS OF BULK AT MOST 1048576: true; the input reads as it did. -/
def callNamesUptoRow : OpenClaim := { program := "ytceciiemnagdoaa", sum := "6f91be8daffe62f7bada5dcdaeb937b4750bc5a1e08e57048b7d8ee4ebd93a6f", func := "hartix/hartixlaw15.CallNames", spec := "callNames", apart := false, narrowed := true }
def CallNamesUptoSaid : Prop := callNamesUptoRow.holds Try.pinned (OpenSpec.upto callNamesSpec)

/-- 'hartixlaw16.KernelNames', WHERE WHAT IT READS IS OF BULK AT MOST 1048576: true; the input reads as it did. -/
def kernelNamesUptoRow : OpenClaim := { program := "ytceciiemnagdoaa", sum := "6f91be8daffe62f7bada5dcdaeb937b4750bc5a1e08e57048b7d8ee4ebd93a6f", func := "hartix/hartixlaw16.KernelNames", spec := "kernelNames", apart := false, narrowed := true }
def KernelNamesUptoSaid : Prop := kernelNamesUptoRow.holds Try.pinned (OpenSpec.upto kernelNamesSpec)

/-- 'hartixlaw18.EngineNames', WHERE WHAT IT READS IS OF BULK AT MOST 1048576: true; the input reads as it did. -/
def engineNamesUptoRow : OpenClaim := { program := "ytceciiemnagdoaa", sum := "6f91be8daffe62f7bada5dcdaeb937b4750bc5a1e08e57048b7d8ee4ebd93a6f", func := "hartix/hartixlaw18.EngineNames", spec := "engineNames", apart := false, narrowed := true }
def EngineNamesUptoSaid : Prop := engineNamesUptoRow.holds Try.pinned (OpenSpec.upto engineNamesSpec)

/-- 'hartixlaw9.TreeNames', WHERE WHAT IT READS IS OF BULK AT MOST 1048576: true; the input reads as it did. -/
def treeNamesUptoRow : OpenClaim := { program := "ytceciiemnagdoaa", sum := "6f91be8daffe62f7bada5dcdaeb937b4750bc5a1e08e57048b7d8ee4ebd93a6f", func := "hartix/hartixlaw9.TreeNames", spec := "treeNames", apart := false, narrowed := true }
def TreeNamesUptoSaid : Prop := treeNamesUptoRow.holds Try.pinned (OpenSpec.upto treeNamesSpec)

/-- 'hartixlaw12.FileNames', WHERE WHAT IT READS IS OF BULK AT MOST 1048576: true; the input reads as it did. -/
def fileNamesUptoRow : OpenClaim := { program := "ytceciiemnagdoaa", sum := "6f91be8daffe62f7bada5dcdaeb937b4750bc5a1e08e57048b7d8ee4ebd93a6f", func := "hartix/hartixlaw12.FileNames", spec := "fileNames", apart := false, narrowed := true }
def FileNamesUptoSaid : Prop := fileNamesUptoRow.holds Try.pinned (OpenSpec.upto fileNamesSpec)

/-- 'hartixlaw13.ProcNames', WHERE WHAT IT READS IS OF BULK AT MOST 1048576: true; the input reads as it did. -/
def procNamesUptoRow : OpenClaim := { program := "ytceciiemnagdoaa", sum := "6f91be8daffe62f7bada5dcdaeb937b4750bc5a1e08e57048b7d8ee4ebd93a6f", func := "hartix/hartixlaw13.ProcNames", spec := "procNames", apart := false, narrowed := true }
def ProcNamesUptoSaid : Prop := procNamesUptoRow.holds Try.pinned (OpenSpec.upto procNamesSpec)

/-- 'hartixlaw6.AsmPrograms', WHERE WHAT IT READS IS OF BULK AT MOST 1048576: true; the input reads as it did. -/
def asmProgramsUptoRow : OpenClaim := { program := "ytceciiemnagdoaa", sum := "6f91be8daffe62f7bada5dcdaeb937b4750bc5a1e08e57048b7d8ee4ebd93a6f", func := "hartix/hartixlaw6.AsmPrograms", spec := "asmPrograms", apart := false, narrowed := true }
def AsmProgramsUptoSaid : Prop := asmProgramsUptoRow.holds Try.pinned (OpenSpec.upto asmProgramsSpec)

end Rows
end Go.Proofs.Ytceciiemnagdoaa
