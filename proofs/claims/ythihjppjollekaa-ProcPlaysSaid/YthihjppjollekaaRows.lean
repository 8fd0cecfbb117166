/-
  No cell of these rows narrows 'for every input' (looked for: loops, veiled, ifaces, maps, wideKeys, modest, calm, conditions, laid).
  DERIVED. THE GIVEN ROWS OF THIS SEAT. 8 by the template 'for every input the law returns true; each argument reads behind the call as it read before'; 0 by the template 'total and deterministic' (their statements: YthihjppjollekaaTotals.lean).
  GIVEN WITH THE SEED: the statements are not yours to turn. If you find one false, say at which input.
  Laid BY PROGRAM, IN A SANDBOX (cutbox-rows.mjs): the forced cells as the released guide's own fill.sh prints them over the translation 1be7152a369f01bf… (all of the seat's roots in one cut). By AI agents, Wed Nov 11 2026. No macro, syntax, notation, axiom, sorry.
-/
import Derived.Test.YthihjppjollekaaChecked
import GoSem.Claim
import GoSem.ClaimJoined
import GoSem.ClaimMapViews
import Derived.JoinedTies
import Derived.KernelRfl
namespace Go.Proofs.Ythihjppjollekaa
/- THE CELL 'sum', in the pinned program and in every row, IS THE sha256 OF THE DUMP (.gsa) THAT YthihjppjollekaaProg.lean LOADS. Nothing in Lean hashes anything: it is a label: what it is worth is what the hold of that sum in a sandbox is worth. -/
noncomputable def Try.pinned : Pinned := { name := "ythihjppjollekaa", sum := "1be7152a369f01bf12735b85ad57f3a5021cc61f467593b3530714061bc056c9", checked := Try.checked }
namespace Rows
def none {H : Type} : Left H := { results := [], args := [] }

/-- 'hartixlaw13.ProcFroms': WHATEVER THE INPUT: true; the input reads as it did. -/
def procFromsSpec : ChangeSpec := { name := "procFroms", fn := fun _ => fun
  | [d] => { results := [.lit (.bool true)], args := [d] }
  | _ => none }
def procFromsRow : OpenClaim := { program := "ythihjppjollekaa", sum := "1be7152a369f01bf12735b85ad57f3a5021cc61f467593b3530714061bc056c9", func := "hartix/hartixlaw13.ProcFroms", spec := "procFroms", unfollowed := true, recurses := true, apart := false }
def ProcFromsSaid : Prop := procFromsRow.holds Try.pinned (OpenSpec.ofChange procFromsSpec)

/-- ITS FALSE NEIGHBOUR: 'it returns false'. Refute it at one input. -/
def procFromsWrong : ChangeSpec := { name := "procFroms", fn := fun _ => fun
  | [d] => { results := [.lit (.bool false)], args := [d] }
  | _ => none }
def ProcFromsWrongFalsely : Prop := procFromsRow.holds Try.pinned (OpenSpec.ofChange procFromsWrong)

/-- 'hartixlaw13.ProcWakes': WHATEVER THE INPUT: true; the input reads as it did. -/
def procWakesSpec : ChangeSpec := { name := "procWakes", fn := fun _ => fun
  | [d1, d2] => { results := [.lit (.bool true)], args := [d1, d2] }
  | _ => none }
def procWakesRow : OpenClaim := { program := "ythihjppjollekaa", sum := "1be7152a369f01bf12735b85ad57f3a5021cc61f467593b3530714061bc056c9", func := "hartix/hartixlaw13.ProcWakes", spec := "procWakes", unfollowed := true, recurses := true, apart := false }
def ProcWakesSaid : Prop := procWakesRow.holds Try.pinned (OpenSpec.ofChange procWakesSpec)

/-- ITS FALSE NEIGHBOUR: 'it returns false'. Refute it at one input. -/
def procWakesWrong : ChangeSpec := { name := "procWakes", fn := fun _ => fun
  | [d1, d2] => { results := [.lit (.bool false)], args := [d1, d2] }
  | _ => none }
def ProcWakesWrongFalsely : Prop := procWakesRow.holds Try.pinned (OpenSpec.ofChange procWakesWrong)

/-- 'hartixlaw13.ProcTree': WHATEVER THE INPUT: true; the input reads as it did. -/
def procTreeSpec : ChangeSpec := { name := "procTree", fn := fun _ => fun
  | [d] => { results := [.lit (.bool true)], args := [d] }
  | _ => none }
def procTreeRow : OpenClaim := { program := "ythihjppjollekaa", sum := "1be7152a369f01bf12735b85ad57f3a5021cc61f467593b3530714061bc056c9", func := "hartix/hartixlaw13.ProcTree", spec := "procTree", unfollowed := true, recurses := true, apart := false }
def ProcTreeSaid : Prop := procTreeRow.holds Try.pinned (OpenSpec.ofChange procTreeSpec)

/-- ITS FALSE NEIGHBOUR: 'it returns false'. Refute it at one input. -/
def procTreeWrong : ChangeSpec := { name := "procTree", fn := fun _ => fun
  | [d] => { results := [.lit (.bool false)], args := [d] }
  | _ => none }
def ProcTreeWrongFalsely : Prop := procTreeRow.holds Try.pinned (OpenSpec.ofChange procTreeWrong)

/-- 'hartixlaw13.ProcTurns': WHATEVER THE INPUT: true; the input reads as it did. -/
def procTurnsSpec : ChangeSpec := { name := "procTurns", fn := fun _ => fun
  | [d1, d2] => { results := [.lit (.bool true)], args := [d1, d2] }
  | _ => none }
def procTurnsRow : OpenClaim := { program := "ythihjppjollekaa", sum := "1be7152a369f01bf12735b85ad57f3a5021cc61f467593b3530714061bc056c9", func := "hartix/hartixlaw13.ProcTurns", spec := "procTurns", unfollowed := true, recurses := true, apart := false }
def ProcTurnsSaid : Prop := procTurnsRow.holds Try.pinned (OpenSpec.ofChange procTurnsSpec)

/-- ITS FALSE NEIGHBOUR: 'it returns false'. Refute it at one input. -/
def procTurnsWrong : ChangeSpec := { name := "procTurns", fn := fun _ => fun
  | [d1, d2] => { results := [.lit (.bool false)], args := [d1, d2] }
  | _ => none }
def ProcTurnsWrongFalsely : Prop := procTurnsRow.holds Try.pinned (OpenSpec.ofChange procTurnsWrong)

/-- 'hartixlaw13.ProcEnds': WHATEVER THE INPUT: true; the input reads as it did. -/
def procEndsSpec : ChangeSpec := { name := "procEnds", fn := fun _ => fun
  | [d1, d2, d3] => { results := [.lit (.bool true)], args := [d1, d2, d3] }
  | _ => none }
def procEndsRow : OpenClaim := { program := "ythihjppjollekaa", sum := "1be7152a369f01bf12735b85ad57f3a5021cc61f467593b3530714061bc056c9", func := "hartix/hartixlaw13.ProcEnds", spec := "procEnds", unfollowed := true, recurses := true, apart := false }
def ProcEndsSaid : Prop := procEndsRow.holds Try.pinned (OpenSpec.ofChange procEndsSpec)

/-- ITS FALSE NEIGHBOUR: 'it returns false'. Refute it at one input. -/
def procEndsWrong : ChangeSpec := { name := "procEnds", fn := fun _ => fun
  | [d1, d2, d3] => { results := [.lit (.bool false)], args := [d1, d2, d3] }
  | _ => none }
def ProcEndsWrongFalsely : Prop := procEndsRow.holds Try.pinned (OpenSpec.ofChange procEndsWrong)

/-- 'hartixlaw13.ProcNobody': WHATEVER THE INPUT: true; the input reads as it did. -/
def procNobodySpec : ChangeSpec := { name := "procNobody", fn := fun _ => fun
  | [d1, d2, d3] => { results := [.lit (.bool true)], args := [d1, d2, d3] }
  | _ => none }
def procNobodyRow : OpenClaim := { program := "ythihjppjollekaa", sum := "1be7152a369f01bf12735b85ad57f3a5021cc61f467593b3530714061bc056c9", func := "hartix/hartixlaw13.ProcNobody", spec := "procNobody", unfollowed := true, recurses := true, apart := false }
def ProcNobodySaid : Prop := procNobodyRow.holds Try.pinned (OpenSpec.ofChange procNobodySpec)

/-- ITS FALSE NEIGHBOUR: 'it returns false'. Refute it at one input. -/
def procNobodyWrong : ChangeSpec := { name := "procNobody", fn := fun _ => fun
  | [d1, d2, d3] => { results := [.lit (.bool false)], args := [d1, d2, d3] }
  | _ => none }
def ProcNobodyWrongFalsely : Prop := procNobodyRow.holds Try.pinned (OpenSpec.ofChange procNobodyWrong)

/-- 'hartixlaw13.ProcPlays': WHATEVER THE INPUT: true; the input reads as it did. -/
def procPlaysSpec : ChangeSpec := { name := "procPlays", fn := fun _ => fun
  | [d1, d2] => { results := [.lit (.bool true)], args := [d1, d2] }
  | _ => none }
def procPlaysRow : OpenClaim := { program := "ythihjppjollekaa", sum := "1be7152a369f01bf12735b85ad57f3a5021cc61f467593b3530714061bc056c9", func := "hartix/hartixlaw13.ProcPlays", spec := "procPlays", unfollowed := true, recurses := true, apart := false }
def ProcPlaysSaid : Prop := procPlaysRow.holds Try.pinned (OpenSpec.ofChange procPlaysSpec)

/-- ITS FALSE NEIGHBOUR: 'it returns false'. Refute it at one input. -/
def procPlaysWrong : ChangeSpec := { name := "procPlays", fn := fun _ => fun
  | [d1, d2] => { results := [.lit (.bool false)], args := [d1, d2] }
  | _ => none }
def ProcPlaysWrongFalsely : Prop := procPlaysRow.holds Try.pinned (OpenSpec.ofChange procPlaysWrong)

/-- 'hartixlaw13.ProcBegins': WHATEVER THE INPUT: true; the input reads as it did. -/
def procBeginsSpec : ChangeSpec := { name := "procBegins", fn := fun _ => fun
  | [d] => { results := [.lit (.bool true)], args := [d] }
  | _ => none }
def procBeginsRow : OpenClaim := { program := "ythihjppjollekaa", sum := "1be7152a369f01bf12735b85ad57f3a5021cc61f467593b3530714061bc056c9", func := "hartix/hartixlaw13.ProcBegins", spec := "procBegins", unfollowed := true, recurses := true, apart := false }
def ProcBeginsSaid : Prop := procBeginsRow.holds Try.pinned (OpenSpec.ofChange procBeginsSpec)

/-- ITS FALSE NEIGHBOUR: 'it returns false'. Refute it at one input. -/
def procBeginsWrong : ChangeSpec := { name := "procBegins", fn := fun _ => fun
  | [d] => { results := [.lit (.bool false)], args := [d] }
  | _ => none }
def ProcBeginsWrongFalsely : Prop := procBeginsRow.holds Try.pinned (OpenSpec.ofChange procBeginsWrong)

/- THE SECOND FORM. 'bulk': how many values and letters a reading holds, each counted each time it is reached (what is shared counts as often as it is met; a slice's spare places count too). A statement '..UptoSaid' is the law's where the arguments, and the package variables that the reading takes, are together of bulk at most 1048576: NARROWER than '..Said'. Prove '..Said' where nothing that the law and all that it calls make is longer than what came in: it says more and counts as full. Else prove '..UptoSaid'. A law counts once. -/
mutual
def uptoBulk {H : Type} : DataW H → Nat
  | .lit (.string bytes) => bytes.length + 1
  | .lit _ => 1
  | .nil => 1
  | .ptr d => uptoBulk d + 1
  | .slice elems spare => uptoBulkAll elems + uptoBulkAll spare + 1
  | .agg parts => uptoBulkAll parts + 1
  | .iface _ d => uptoBulk d + 1
  | .map entries => uptoBulkEntries entries + 1
  | .held _ => 1
def uptoBulkAll {H : Type} : List (DataW H) → Nat
  | [] => 0
  | d :: r => uptoBulk d + uptoBulkAll r
def uptoBulkEntries {H : Type} : List (Lit × DataW H) → Nat
  | [] => 0
  | x :: r => uptoBulkEntry x + uptoBulkEntries r
def uptoBulkEntry {H : Type} : Lit × DataW H → Nat
  | (.string bytes, d) => bytes.length + uptoBulk d + 1
  | (_, d) => uptoBulk d + 1
 end
def uptoSmall : (H : Type) → List (DataW H) → Bool := fun _ ds => decide (uptoBulkAll ds ≤ 1048576)
def OpenSpec.upto (s : _root_.Go.ChangeSpec) : _root_.Go.OpenSpec := { _root_.Go.OpenSpec.ofChange s with cond := some uptoSmall }

/-- 'hartixlaw13.ProcFroms', WHERE WHAT IT READS IS OF BULK AT MOST 1048576: true; the input reads as it did. -/
def procFromsUptoRow : OpenClaim := { program := "ythihjppjollekaa", sum := "1be7152a369f01bf12735b85ad57f3a5021cc61f467593b3530714061bc056c9", func := "hartix/hartixlaw13.ProcFroms", spec := "procFroms", unfollowed := true, recurses := true, apart := false, narrowed := true }
def ProcFromsUptoSaid : Prop := procFromsUptoRow.holds Try.pinned (OpenSpec.upto procFromsSpec)

/-- 'hartixlaw13.ProcWakes', WHERE WHAT IT READS IS OF BULK AT MOST 1048576: true; the input reads as it did. -/
def procWakesUptoRow : OpenClaim := { program := "ythihjppjollekaa", sum := "1be7152a369f01bf12735b85ad57f3a5021cc61f467593b3530714061bc056c9", func := "hartix/hartixlaw13.ProcWakes", spec := "procWakes", unfollowed := true, recurses := true, apart := false, narrowed := true }
def ProcWakesUptoSaid : Prop := procWakesUptoRow.holds Try.pinned (OpenSpec.upto procWakesSpec)

/-- 'hartixlaw13.ProcTree', WHERE WHAT IT READS IS OF BULK AT MOST 1048576: true; the input reads as it did. -/
def procTreeUptoRow : OpenClaim := { program := "ythihjppjollekaa", sum := "1be7152a369f01bf12735b85ad57f3a5021cc61f467593b3530714061bc056c9", func := "hartix/hartixlaw13.ProcTree", spec := "procTree", unfollowed := true, recurses := true, apart := false, narrowed := true }
def ProcTreeUptoSaid : Prop := procTreeUptoRow.holds Try.pinned (OpenSpec.upto procTreeSpec)

/-- 'hartixlaw13.ProcTurns', WHERE WHAT IT READS IS OF BULK AT MOST 1048576: true; the input reads as it did. -/
def procTurnsUptoRow : OpenClaim := { program := "ythihjppjollekaa", sum := "1be7152a369f01bf12735b85ad57f3a5021cc61f467593b3530714061bc056c9", func := "hartix/hartixlaw13.ProcTurns", spec := "procTurns", unfollowed := true, recurses := true, apart := false, narrowed := true }
def ProcTurnsUptoSaid : Prop := procTurnsUptoRow.holds Try.pinned (OpenSpec.upto procTurnsSpec)

/-- 'hartixlaw13.ProcEnds', WHERE WHAT IT READS IS OF BULK AT MOST 1048576: true; the input reads as it did. -/
def procEndsUptoRow : OpenClaim := { program := "ythihjppjollekaa", sum := "1be7152a369f01bf12735b85ad57f3a5021cc61f467593b3530714061bc056c9", func := "hartix/hartixlaw13.ProcEnds", spec := "procEnds", unfollowed := true, recurses := true, apart := false, narrowed := true }
def ProcEndsUptoSaid : Prop := procEndsUptoRow.holds Try.pinned (OpenSpec.upto procEndsSpec)

/-- 'hartixlaw13.ProcNobody', WHERE WHAT IT READS IS OF BULK AT MOST 1048576: true; the input reads as it did. -/
def procNobodyUptoRow : OpenClaim := { program := "ythihjppjollekaa", sum := "1be7152a369f01bf12735b85ad57f3a5021cc61f467593b3530714061bc056c9", func := "hartix/hartixlaw13.ProcNobody", spec := "procNobody", unfollowed := true, recurses := true, apart := false, narrowed := true }
def ProcNobodyUptoSaid : Prop := procNobodyUptoRow.holds Try.pinned (OpenSpec.upto procNobodySpec)

/-- 'hartixlaw13.ProcPlays', WHERE WHAT IT READS IS OF BULK AT MOST 1048576: true; the input reads as it did. -/
def procPlaysUptoRow : OpenClaim := { program := "ythihjppjollekaa", sum := "1be7152a369f01bf12735b85ad57f3a5021cc61f467593b3530714061bc056c9", func := "hartix/hartixlaw13.ProcPlays", spec := "procPlays", unfollowed := true, recurses := true, apart := false, narrowed := true }
def ProcPlaysUptoSaid : Prop := procPlaysUptoRow.holds Try.pinned (OpenSpec.upto procPlaysSpec)

/-- 'hartixlaw13.ProcBegins', WHERE WHAT IT READS IS OF BULK AT MOST 1048576: true; the input reads as it did. -/
def procBeginsUptoRow : OpenClaim := { program := "ythihjppjollekaa", sum := "1be7152a369f01bf12735b85ad57f3a5021cc61f467593b3530714061bc056c9", func := "hartix/hartixlaw13.ProcBegins", spec := "procBegins", unfollowed := true, recurses := true, apart := false, narrowed := true }
def ProcBeginsUptoSaid : Prop := procBeginsUptoRow.holds Try.pinned (OpenSpec.upto procBeginsSpec)

end Rows
end Go.Proofs.Ythihjppjollekaa
