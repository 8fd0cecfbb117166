/-
  NARROWER THAN 'FOR EVERY INPUT', by the rows' own cells (each row's printed sentence says how): TreeSplits: laid · TreeBytes: laid · FileThrough: laid · FileNobody: laid · TreeNobody: laid · TreeOne: laid · TreeFinds: laid · TreeFresh: laid · TreeRoom: laid.
  DERIVED. THE GIVEN ROWS OF THIS SEAT. 9 by the template 'for every input the law returns true; each argument reads behind the call as it read before'; 0 by the template 'total and deterministic' (their statements: YthkcdkldpbndnaaDoorTotals.lean).
  GIVEN WITH THE SEED: the statements are not yours to turn. If you find one false, say at which input.
  Laid BY PROGRAM, IN A SANDBOX (cutbox-rows.mjs): the forced cells as the released guide's own fill.sh prints them over the translation b6296f36b75c3c2a… (all of the seat's roots in one cut). By AI agents, Wed Nov 11 2026. No macro, syntax, notation, axiom, sorry.
-/
import Derived.Test.YthkcdkldpbndnaaDoorChecked
import GoSem.PinnedTables
import GoSem.Claim
import GoSem.ClaimJoined
import GoSem.ClaimMapViews
import Derived.JoinedTies
import Derived.KernelRfl
namespace Go.Proofs.YthkcdkldpbndnaaDoor
/- THE CELL 'sum', in the pinned program and in every row, IS THE sha256 OF THE DUMP (.gsa) THAT YthkcdkldpbndnaaDoorProg.lean LOADS. Nothing in Lean hashes anything: it is a label: what it is worth is what the hold of that sum in a sandbox is worth. -/
noncomputable def Tryd.pinned : Pinned := { name := "ythkcdkldpbndnaadoor", sum := "b6296f36b75c3c2a516bafc6488070eccaa133bc437f08800b00d785a90963ab", checked := Tryd.checked }
namespace Rows
def none {H : Type} : Left H := { results := [], args := [] }

/- WHAT THE LISTED PACKAGE-LEVEL VARIABLES READ AS WHEN THE CALL BEGINS. Each datum BY PROGRAM (the guide's laid-datum.mjs) off the statement by which the dump's own 'gosem.cut.vars' lays the variable. In a bare row this is a premise. The card (YthkcdkldpbndnaaDoorCards.lean) ties it to the program's text. -/
def laid_unicode_utf8_acceptRanges {H : Type} : DataW H := .agg [.agg [.lit (.int .u8 128), .lit (.int .u8 191)], .agg [.lit (.int .u8 160), .lit (.int .u8 191)], .agg [.lit (.int .u8 128), .lit (.int .u8 159)], .agg [.lit (.int .u8 144), .lit (.int .u8 191)], .agg [.lit (.int .u8 128), .lit (.int .u8 143)], .agg [.lit (.int .u8 0), .lit (.int .u8 0)], .agg [.lit (.int .u8 0), .lit (.int .u8 0)], .agg [.lit (.int .u8 0), .lit (.int .u8 0)], .agg [.lit (.int .u8 0), .lit (.int .u8 0)], .agg [.lit (.int .u8 0), .lit (.int .u8 0)], .agg [.lit (.int .u8 0), .lit (.int .u8 0)], .agg [.lit (.int .u8 0), .lit (.int .u8 0)], .agg [.lit (.int .u8 0), .lit (.int .u8 0)], .agg [.lit (.int .u8 0), .lit (.int .u8 0)], .agg [.lit (.int .u8 0), .lit (.int .u8 0)], .agg [.lit (.int .u8 0), .lit (.int .u8 0)]]
/-- One of Go's own tables, pinned by name: the form's constant. -/
def laid_unicode_utf8_first : DataW Unit := Go.Pinned.utf8First
def laid_hartix_console_keys {H : Type} : DataW H := .agg [.agg [.lit (.int .i64 0), .lit (.int .i64 1)], .agg [.lit (.int .i64 21), .lit (.int .i64 2)], .agg [.lit (.int .i64 8), .lit (.int .i64 3)], .agg [.lit (.int .i64 127), .lit (.int .i64 4)], .agg [.lit (.int .i64 4), .lit (.int .i64 5)], .agg [.lit (.int .i64 10), .lit (.int .i64 0)]]

/-- 'hartixlaw9.TreeSplits': WHATEVER THE INPUT: true; the input reads as it did. -/
def treeSplitsSpec : ChangeSpec := { name := "treeSplits", fn := fun _ => fun
  | [d1, d2, d3] => { results := [.lit (.bool true)], args := [d1, d2, d3] }
  | _ => none }
def treeSplitsRow : OpenClaim := { program := "ythkcdkldpbndnaadoor", sum := "b6296f36b75c3c2a516bafc6488070eccaa133bc437f08800b00d785a90963ab", func := "hartix/hartixlaw9.TreeSplits", spec := "treeSplits", inPlace := ["internal/bytealg.IndexByteString", "internal/bytealg.CountString", "internal/bytealg.IndexString"], named := ["unicode/utf8.first", "unicode/utf8.acceptRanges", "internal/bytealg.MaxLen"], apart := false, laid := [("unicode/utf8.acceptRanges", laid_unicode_utf8_acceptRanges), ("unicode/utf8.first", laid_unicode_utf8_first)] }
def TreeSplitsSaid : Prop := treeSplitsRow.holds Tryd.pinned (OpenSpec.ofChange treeSplitsSpec)

/-- ITS FALSE NEIGHBOUR: 'it returns false'. Refute it at one input. -/
def treeSplitsWrong : ChangeSpec := { name := "treeSplits", fn := fun _ => fun
  | [d1, d2, d3] => { results := [.lit (.bool false)], args := [d1, d2, d3] }
  | _ => none }
def TreeSplitsWrongFalsely : Prop := treeSplitsRow.holds Tryd.pinned (OpenSpec.ofChange treeSplitsWrong)

/-- 'hartixlaw9.TreeBytes': WHATEVER THE INPUT: true; the input reads as it did. -/
def treeBytesSpec : ChangeSpec := { name := "treeBytes", fn := fun _ => fun
  | [d1, d2, d3, d4] => { results := [.lit (.bool true)], args := [d1, d2, d3, d4] }
  | _ => none }
def treeBytesRow : OpenClaim := { program := "ythkcdkldpbndnaadoor", sum := "b6296f36b75c3c2a516bafc6488070eccaa133bc437f08800b00d785a90963ab", func := "hartix/hartixlaw9.TreeBytes", spec := "treeBytes", inPlace := ["internal/bytealg.IndexByteString", "internal/bytealg.CountString", "internal/bytealg.IndexString"], unfollowed := true, recurses := true, named := ["unicode/utf8.first", "unicode/utf8.acceptRanges", "internal/bytealg.MaxLen"], apart := false, laid := [("unicode/utf8.acceptRanges", laid_unicode_utf8_acceptRanges), ("unicode/utf8.first", laid_unicode_utf8_first)] }
def TreeBytesSaid : Prop := treeBytesRow.holds Tryd.pinned (OpenSpec.ofChange treeBytesSpec)

/-- ITS FALSE NEIGHBOUR: 'it returns false'. Refute it at one input. -/
def treeBytesWrong : ChangeSpec := { name := "treeBytes", fn := fun _ => fun
  | [d1, d2, d3, d4] => { results := [.lit (.bool false)], args := [d1, d2, d3, d4] }
  | _ => none }
def TreeBytesWrongFalsely : Prop := treeBytesRow.holds Tryd.pinned (OpenSpec.ofChange treeBytesWrong)

/-- 'hartixlaw12.FileThrough': WHATEVER THE INPUT: true; the input reads as it did. -/
def fileThroughSpec : ChangeSpec := { name := "fileThrough", fn := fun _ => fun
  | [d1, d2, d3] => { results := [.lit (.bool true)], args := [d1, d2, d3] }
  | _ => none }
def fileThroughRow : OpenClaim := { program := "ythkcdkldpbndnaadoor", sum := "b6296f36b75c3c2a516bafc6488070eccaa133bc437f08800b00d785a90963ab", func := "hartix/hartixlaw12.FileThrough", spec := "fileThrough", unfollowed := true, recurses := true, named := ["hartix/console.keys"], apart := false, laid := [("hartix/console.keys", laid_hartix_console_keys)] }
def FileThroughSaid : Prop := fileThroughRow.holds Tryd.pinned (OpenSpec.ofChange fileThroughSpec)

/-- ITS FALSE NEIGHBOUR: 'it returns false'. Refute it at one input. -/
def fileThroughWrong : ChangeSpec := { name := "fileThrough", fn := fun _ => fun
  | [d1, d2, d3] => { results := [.lit (.bool false)], args := [d1, d2, d3] }
  | _ => none }
def FileThroughWrongFalsely : Prop := fileThroughRow.holds Tryd.pinned (OpenSpec.ofChange fileThroughWrong)

/-- 'hartixlaw12.FileNobody': WHATEVER THE INPUT: true; the input reads as it did. -/
def fileNobodySpec : ChangeSpec := { name := "fileNobody", fn := fun _ => fun
  | [d1, d2, d3] => { results := [.lit (.bool true)], args := [d1, d2, d3] }
  | _ => none }
def fileNobodyRow : OpenClaim := { program := "ythkcdkldpbndnaadoor", sum := "b6296f36b75c3c2a516bafc6488070eccaa133bc437f08800b00d785a90963ab", func := "hartix/hartixlaw12.FileNobody", spec := "fileNobody", unfollowed := true, recurses := true, named := ["hartix/console.keys"], apart := false, laid := [("hartix/console.keys", laid_hartix_console_keys)] }
def FileNobodySaid : Prop := fileNobodyRow.holds Tryd.pinned (OpenSpec.ofChange fileNobodySpec)

/-- ITS FALSE NEIGHBOUR: 'it returns false'. Refute it at one input. -/
def fileNobodyWrong : ChangeSpec := { name := "fileNobody", fn := fun _ => fun
  | [d1, d2, d3] => { results := [.lit (.bool false)], args := [d1, d2, d3] }
  | _ => none }
def FileNobodyWrongFalsely : Prop := fileNobodyRow.holds Tryd.pinned (OpenSpec.ofChange fileNobodyWrong)

/-- 'hartixlaw9.TreeNobody': WHATEVER THE INPUT: true; the input reads as it did. -/
def treeNobodySpec : ChangeSpec := { name := "treeNobody", fn := fun _ => fun
  | [d] => { results := [.lit (.bool true)], args := [d] }
  | _ => none }
def treeNobodyRow : OpenClaim := { program := "ythkcdkldpbndnaadoor", sum := "b6296f36b75c3c2a516bafc6488070eccaa133bc437f08800b00d785a90963ab", func := "hartix/hartixlaw9.TreeNobody", spec := "treeNobody", inPlace := ["internal/bytealg.IndexByteString", "internal/bytealg.CountString", "internal/bytealg.IndexString"], unfollowed := true, recurses := true, named := ["unicode/utf8.first", "unicode/utf8.acceptRanges", "internal/bytealg.MaxLen"], apart := false, laid := [("unicode/utf8.acceptRanges", laid_unicode_utf8_acceptRanges), ("unicode/utf8.first", laid_unicode_utf8_first)] }
def TreeNobodySaid : Prop := treeNobodyRow.holds Tryd.pinned (OpenSpec.ofChange treeNobodySpec)

/-- ITS FALSE NEIGHBOUR: 'it returns false'. Refute it at one input. -/
def treeNobodyWrong : ChangeSpec := { name := "treeNobody", fn := fun _ => fun
  | [d] => { results := [.lit (.bool false)], args := [d] }
  | _ => none }
def TreeNobodyWrongFalsely : Prop := treeNobodyRow.holds Tryd.pinned (OpenSpec.ofChange treeNobodyWrong)

/-- 'hartixlaw9.TreeOne': WHATEVER THE INPUT: true; the input reads as it did. -/
def treeOneSpec : ChangeSpec := { name := "treeOne", fn := fun _ => fun
  | [d1, d2] => { results := [.lit (.bool true)], args := [d1, d2] }
  | _ => none }
def treeOneRow : OpenClaim := { program := "ythkcdkldpbndnaadoor", sum := "b6296f36b75c3c2a516bafc6488070eccaa133bc437f08800b00d785a90963ab", func := "hartix/hartixlaw9.TreeOne", spec := "treeOne", inPlace := ["internal/bytealg.IndexByteString", "internal/bytealg.CountString", "internal/bytealg.IndexString"], unfollowed := true, recurses := true, named := ["unicode/utf8.first", "unicode/utf8.acceptRanges", "internal/bytealg.MaxLen"], apart := false, laid := [("unicode/utf8.acceptRanges", laid_unicode_utf8_acceptRanges), ("unicode/utf8.first", laid_unicode_utf8_first)] }
def TreeOneSaid : Prop := treeOneRow.holds Tryd.pinned (OpenSpec.ofChange treeOneSpec)

/-- ITS FALSE NEIGHBOUR: 'it returns false'. Refute it at one input. -/
def treeOneWrong : ChangeSpec := { name := "treeOne", fn := fun _ => fun
  | [d1, d2] => { results := [.lit (.bool false)], args := [d1, d2] }
  | _ => none }
def TreeOneWrongFalsely : Prop := treeOneRow.holds Tryd.pinned (OpenSpec.ofChange treeOneWrong)

/-- 'hartixlaw9.TreeFinds': WHATEVER THE INPUT: true; the input reads as it did. -/
def treeFindsSpec : ChangeSpec := { name := "treeFinds", fn := fun _ => fun
  | [d1, d2, d3] => { results := [.lit (.bool true)], args := [d1, d2, d3] }
  | _ => none }
def treeFindsRow : OpenClaim := { program := "ythkcdkldpbndnaadoor", sum := "b6296f36b75c3c2a516bafc6488070eccaa133bc437f08800b00d785a90963ab", func := "hartix/hartixlaw9.TreeFinds", spec := "treeFinds", inPlace := ["internal/bytealg.IndexByteString", "internal/bytealg.CountString", "internal/bytealg.IndexString"], unfollowed := true, recurses := true, named := ["unicode/utf8.first", "unicode/utf8.acceptRanges", "internal/bytealg.MaxLen"], apart := false, laid := [("unicode/utf8.acceptRanges", laid_unicode_utf8_acceptRanges), ("unicode/utf8.first", laid_unicode_utf8_first)] }
def TreeFindsSaid : Prop := treeFindsRow.holds Tryd.pinned (OpenSpec.ofChange treeFindsSpec)

/-- ITS FALSE NEIGHBOUR: 'it returns false'. Refute it at one input. -/
def treeFindsWrong : ChangeSpec := { name := "treeFinds", fn := fun _ => fun
  | [d1, d2, d3] => { results := [.lit (.bool false)], args := [d1, d2, d3] }
  | _ => none }
def TreeFindsWrongFalsely : Prop := treeFindsRow.holds Tryd.pinned (OpenSpec.ofChange treeFindsWrong)

/-- 'hartixlaw9.TreeFresh': WHATEVER THE INPUT: true; the input reads as it did. -/
def treeFreshSpec : ChangeSpec := { name := "treeFresh", fn := fun _ => fun
  | [d1, d2, d3] => { results := [.lit (.bool true)], args := [d1, d2, d3] }
  | _ => none }
def treeFreshRow : OpenClaim := { program := "ythkcdkldpbndnaadoor", sum := "b6296f36b75c3c2a516bafc6488070eccaa133bc437f08800b00d785a90963ab", func := "hartix/hartixlaw9.TreeFresh", spec := "treeFresh", inPlace := ["internal/bytealg.IndexByteString", "internal/bytealg.CountString", "internal/bytealg.IndexString"], unfollowed := true, recurses := true, named := ["unicode/utf8.first", "unicode/utf8.acceptRanges", "internal/bytealg.MaxLen"], apart := false, laid := [("unicode/utf8.acceptRanges", laid_unicode_utf8_acceptRanges), ("unicode/utf8.first", laid_unicode_utf8_first)] }
def TreeFreshSaid : Prop := treeFreshRow.holds Tryd.pinned (OpenSpec.ofChange treeFreshSpec)

/-- ITS FALSE NEIGHBOUR: 'it returns false'. Refute it at one input. -/
def treeFreshWrong : ChangeSpec := { name := "treeFresh", fn := fun _ => fun
  | [d1, d2, d3] => { results := [.lit (.bool false)], args := [d1, d2, d3] }
  | _ => none }
def TreeFreshWrongFalsely : Prop := treeFreshRow.holds Tryd.pinned (OpenSpec.ofChange treeFreshWrong)

/-- 'hartixlaw9.TreeRoom': WHATEVER THE INPUT: true; the input reads as it did. -/
def treeRoomSpec : ChangeSpec := { name := "treeRoom", fn := fun _ => fun
  | [d1, d2] => { results := [.lit (.bool true)], args := [d1, d2] }
  | _ => none }
def treeRoomRow : OpenClaim := { program := "ythkcdkldpbndnaadoor", sum := "b6296f36b75c3c2a516bafc6488070eccaa133bc437f08800b00d785a90963ab", func := "hartix/hartixlaw9.TreeRoom", spec := "treeRoom", inPlace := ["internal/bytealg.IndexByteString", "internal/bytealg.CountString", "internal/bytealg.IndexString"], unfollowed := true, recurses := true, named := ["unicode/utf8.first", "unicode/utf8.acceptRanges", "internal/bytealg.MaxLen"], apart := false, laid := [("unicode/utf8.acceptRanges", laid_unicode_utf8_acceptRanges), ("unicode/utf8.first", laid_unicode_utf8_first)] }
def TreeRoomSaid : Prop := treeRoomRow.holds Tryd.pinned (OpenSpec.ofChange treeRoomSpec)

/-- ITS FALSE NEIGHBOUR: 'it returns false'. Refute it at one input. -/
def treeRoomWrong : ChangeSpec := { name := "treeRoom", fn := fun _ => fun
  | [d1, d2] => { results := [.lit (.bool false)], args := [d1, d2] }
  | _ => none }
def TreeRoomWrongFalsely : Prop := treeRoomRow.holds Tryd.pinned (OpenSpec.ofChange treeRoomWrong)

/- THE SECOND FORM. 'bulk': how many values and letters a reading holds, each counted each time it is reached (what is shared counts as often as it is met; a slice's spare places count too). A statement '..UptoSaid' is the law's where the arguments, and the package variables that the reading takes, are together of bulk at most 1048576: NARROWER than '..Said'. Prove '..Said' where nothing that the law and all that it calls make is longer than what came in: it says more and counts as full. Else prove '..UptoSaid'. A law counts once. -/
mutual
def uptoBulk {H : Type} : DataW H → Nat
  | .lit (.string bytes) => bytes.length + 1
  | .lit _ => 1
  | .nil => 1
  | .ptr d => uptoBulk d + 1
  | .slice elems spare => uptoBulkAll elems + uptoBulkAll spare + 1
  | .agg parts => uptoBulkAll parts + 1
  | .iface _ d => uptoBulk d + 1
  | .map entries => uptoBulkEntries entries + 1
  | .held _ => 1
def uptoBulkAll {H : Type} : List (DataW H) → Nat
  | [] => 0
  | d :: r => uptoBulk d + uptoBulkAll r
def uptoBulkEntries {H : Type} : List (Lit × DataW H) → Nat
  | [] => 0
  | x :: r => uptoBulkEntry x + uptoBulkEntries r
def uptoBulkEntry {H : Type} : Lit × DataW H → Nat
  | (.string bytes, d) => bytes.length + uptoBulk d + 1
  | (_, d) => uptoBulk d + 1
 end
def uptoSmall : (H : Type) → List (DataW H) → Bool := fun _ ds => decide (uptoBulkAll ds ≤ 1048576)
def OpenSpec.upto (s : _root_.Go.ChangeSpec) : _root_.Go.OpenSpec := { _root_.Go.OpenSpec.ofChange s with cond := some uptoSmall }

/-- 'hartixlaw9.TreeSplits', WHERE WHAT IT READS IS OF BULK AT MOST 1048576: true; the input reads as it did. -/
def treeSplitsUptoRow : OpenClaim := { program := "ythkcdkldpbndnaadoor", sum := "b6296f36b75c3c2a516bafc6488070eccaa133bc437f08800b00d785a90963ab", func := "hartix/hartixlaw9.TreeSplits", spec := "treeSplits", inPlace := ["internal/bytealg.IndexByteString", "internal/bytealg.CountString", "internal/bytealg.IndexString"], named := ["unicode/utf8.first", "unicode/utf8.acceptRanges", "internal/bytealg.MaxLen"], apart := false, laid := [("unicode/utf8.acceptRanges", laid_unicode_utf8_acceptRanges), ("unicode/utf8.first", laid_unicode_utf8_first)], narrowed := true }
def TreeSplitsUptoSaid : Prop := treeSplitsUptoRow.holds Tryd.pinned (OpenSpec.upto treeSplitsSpec)

/-- 'hartixlaw9.TreeBytes', WHERE WHAT IT READS IS OF BULK AT MOST 1048576: true; the input reads as it did. -/
def treeBytesUptoRow : OpenClaim := { program := "ythkcdkldpbndnaadoor", sum := "b6296f36b75c3c2a516bafc6488070eccaa133bc437f08800b00d785a90963ab", func := "hartix/hartixlaw9.TreeBytes", spec := "treeBytes", inPlace := ["internal/bytealg.IndexByteString", "internal/bytealg.CountString", "internal/bytealg.IndexString"], unfollowed := true, recurses := true, named := ["unicode/utf8.first", "unicode/utf8.acceptRanges", "internal/bytealg.MaxLen"], apart := false, laid := [("unicode/utf8.acceptRanges", laid_unicode_utf8_acceptRanges), ("unicode/utf8.first", laid_unicode_utf8_first)], narrowed := true }
def TreeBytesUptoSaid : Prop := treeBytesUptoRow.holds Tryd.pinned (OpenSpec.upto treeBytesSpec)

/-- 'hartixlaw12.FileThrough', WHERE WHAT IT READS IS OF BULK AT MOST 1048576: true; the input reads as it did. -/
def fileThroughUptoRow : OpenClaim := { program := "ythkcdkldpbndnaadoor", sum := "b6296f36b75c3c2a516bafc6488070eccaa133bc437f08800b00d785a90963ab", func := "hartix/hartixlaw12.FileThrough", spec := "fileThrough", unfollowed := true, recurses := true, named := ["hartix/console.keys"], apart := false, laid := [("hartix/console.keys", laid_hartix_console_keys)], narrowed := true }
def FileThroughUptoSaid : Prop := fileThroughUptoRow.holds Tryd.pinned (OpenSpec.upto fileThroughSpec)

/-- 'hartixlaw12.FileNobody', WHERE WHAT IT READS IS OF BULK AT MOST 1048576: true; the input reads as it did. -/
def fileNobodyUptoRow : OpenClaim := { program := "ythkcdkldpbndnaadoor", sum := "b6296f36b75c3c2a516bafc6488070eccaa133bc437f08800b00d785a90963ab", func := "hartix/hartixlaw12.FileNobody", spec := "fileNobody", unfollowed := true, recurses := true, named := ["hartix/console.keys"], apart := false, laid := [("hartix/console.keys", laid_hartix_console_keys)], narrowed := true }
def FileNobodyUptoSaid : Prop := fileNobodyUptoRow.holds Tryd.pinned (OpenSpec.upto fileNobodySpec)

/-- 'hartixlaw9.TreeNobody', WHERE WHAT IT READS IS OF BULK AT MOST 1048576: true; the input reads as it did. -/
def treeNobodyUptoRow : OpenClaim := { program := "ythkcdkldpbndnaadoor", sum := "b6296f36b75c3c2a516bafc6488070eccaa133bc437f08800b00d785a90963ab", func := "hartix/hartixlaw9.TreeNobody", spec := "treeNobody", inPlace := ["internal/bytealg.IndexByteString", "internal/bytealg.CountString", "internal/bytealg.IndexString"], unfollowed := true, recurses := true, named := ["unicode/utf8.first", "unicode/utf8.acceptRanges", "internal/bytealg.MaxLen"], apart := false, laid := [("unicode/utf8.acceptRanges", laid_unicode_utf8_acceptRanges), ("unicode/utf8.first", laid_unicode_utf8_first)], narrowed := true }
def TreeNobodyUptoSaid : Prop := treeNobodyUptoRow.holds Tryd.pinned (OpenSpec.upto treeNobodySpec)

/-- 'hartixlaw9.TreeOne', WHERE WHAT IT READS IS OF BULK AT MOST 1048576: true; the input reads as it did. -/
def treeOneUptoRow : OpenClaim := { program := "ythkcdkldpbndnaadoor", sum := "b6296f36b75c3c2a516bafc6488070eccaa133bc437f08800b00d785a90963ab", func := "hartix/hartixlaw9.TreeOne", spec := "treeOne", inPlace := ["internal/bytealg.IndexByteString", "internal/bytealg.CountString", "internal/bytealg.IndexString"], unfollowed := true, recurses := true, named := ["unicode/utf8.first", "unicode/utf8.acceptRanges", "internal/bytealg.MaxLen"], apart := false, laid := [("unicode/utf8.acceptRanges", laid_unicode_utf8_acceptRanges), ("unicode/utf8.first", laid_unicode_utf8_first)], narrowed := true }
def TreeOneUptoSaid : Prop := treeOneUptoRow.holds Tryd.pinned (OpenSpec.upto treeOneSpec)

/-- 'hartixlaw9.TreeFinds', WHERE WHAT IT READS IS OF BULK AT MOST 1048576: true; the input reads as it did. -/
def treeFindsUptoRow : OpenClaim := { program := "ythkcdkldpbndnaadoor", sum := "b6296f36b75c3c2a516bafc6488070eccaa133bc437f08800b00d785a90963ab", func := "hartix/hartixlaw9.TreeFinds", spec := "treeFinds", inPlace := ["internal/bytealg.IndexByteString", "internal/bytealg.CountString", "internal/bytealg.IndexString"], unfollowed := true, recurses := true, named := ["unicode/utf8.first", "unicode/utf8.acceptRanges", "internal/bytealg.MaxLen"], apart := false, laid := [("unicode/utf8.acceptRanges", laid_unicode_utf8_acceptRanges), ("unicode/utf8.first", laid_unicode_utf8_first)], narrowed := true }
def TreeFindsUptoSaid : Prop := treeFindsUptoRow.holds Tryd.pinned (OpenSpec.upto treeFindsSpec)

/-- 'hartixlaw9.TreeFresh', WHERE WHAT IT READS IS OF BULK AT MOST 1048576: true; the input reads as it did. -/
def treeFreshUptoRow : OpenClaim := { program := "ythkcdkldpbndnaadoor", sum := "b6296f36b75c3c2a516bafc6488070eccaa133bc437f08800b00d785a90963ab", func := "hartix/hartixlaw9.TreeFresh", spec := "treeFresh", inPlace := ["internal/bytealg.IndexByteString", "internal/bytealg.CountString", "internal/bytealg.IndexString"], unfollowed := true, recurses := true, named := ["unicode/utf8.first", "unicode/utf8.acceptRanges", "internal/bytealg.MaxLen"], apart := false, laid := [("unicode/utf8.acceptRanges", laid_unicode_utf8_acceptRanges), ("unicode/utf8.first", laid_unicode_utf8_first)], narrowed := true }
def TreeFreshUptoSaid : Prop := treeFreshUptoRow.holds Tryd.pinned (OpenSpec.upto treeFreshSpec)

/-- 'hartixlaw9.TreeRoom', WHERE WHAT IT READS IS OF BULK AT MOST 1048576: true; the input reads as it did. -/
def treeRoomUptoRow : OpenClaim := { program := "ythkcdkldpbndnaadoor", sum := "b6296f36b75c3c2a516bafc6488070eccaa133bc437f08800b00d785a90963ab", func := "hartix/hartixlaw9.TreeRoom", spec := "treeRoom", inPlace := ["internal/bytealg.IndexByteString", "internal/bytealg.CountString", "internal/bytealg.IndexString"], unfollowed := true, recurses := true, named := ["unicode/utf8.first", "unicode/utf8.acceptRanges", "internal/bytealg.MaxLen"], apart := false, laid := [("unicode/utf8.acceptRanges", laid_unicode_utf8_acceptRanges), ("unicode/utf8.first", laid_unicode_utf8_first)], narrowed := true }
def TreeRoomUptoSaid : Prop := treeRoomUptoRow.holds Tryd.pinned (OpenSpec.upto treeRoomSpec)

end Rows
end Go.Proofs.YthkcdkldpbndnaaDoor
