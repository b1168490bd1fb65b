/-
  NARROWER THAN 'FOR EVERY INPUT', by the rows' own cells (each row's printed sentence says how): FnExactRefutingFrame: laid · FnAxioms: laid · FnRefutingFrames: laid.
  DERIVED. THE GIVEN ROWS OF THIS SEAT. 3 by the template 'for every input the law returns true; each argument reads behind the call as it read before'; 0 by the template 'total and deterministic' (their statements: YtpfncncohnhanaaGreatDoorTotals.lean).
  GIVEN WITH THE SEED: the statements are not yours to turn. If you find one false, say at which input.
  Laid BY PROGRAM, IN A SANDBOX (cutbox-rows.mjs): the forced cells as the released guide's own fill.sh prints them over the translation 299612ee94e55373… (all of the seat's roots in one cut). By AI agents, Wed Nov 11 2026. No macro, syntax, notation, axiom, sorry.
-/
import Derived.Test.YtpfncncohnhanaaGreatDoorChecked
import GoSem.PinnedTables
import GoSem.Claim
import GoSem.ClaimJoined
import GoSem.ClaimMapViews
import Derived.JoinedTies
import Derived.KernelRfl
namespace Go.Proofs.YtpfncncohnhanaaGreatDoor
/- THE CELL 'sum', in the pinned program and in every row, IS THE sha256 OF THE DUMP (.gsa) THAT YtpfncncohnhanaaGreatDoorProg.lean LOADS. Nothing in Lean hashes anything: it is a label: what it is worth is what the hold of that sum in a sandbox is worth. -/
noncomputable def Tryz.pinned : Pinned := { name := "ytpfncncohnhanaagreatdoor", sum := "299612ee94e5537379ac2424168050217c61ad9c9a97a0b8bfe06ae14a12d9f5", checked := Tryz.checked }
namespace Rows
def none {H : Type} : Left H := { results := [], args := [] }

/- WHAT THE LISTED PACKAGE-LEVEL VARIABLES READ AS WHEN THE CALL BEGINS. Each datum BY PROGRAM (the guide's laid-datum.mjs) off the statement by which the dump's own 'gosem.cut.vars' lays the variable. In a bare row this is a premise. The card (YtpfncncohnhanaaGreatDoorCards.lean) ties it to the program's text. -/
def laid_unicode_utf8_acceptRanges {H : Type} : DataW H := .agg [.agg [.lit (.int .u8 128), .lit (.int .u8 191)], .agg [.lit (.int .u8 160), .lit (.int .u8 191)], .agg [.lit (.int .u8 128), .lit (.int .u8 159)], .agg [.lit (.int .u8 144), .lit (.int .u8 191)], .agg [.lit (.int .u8 128), .lit (.int .u8 143)], .agg [.lit (.int .u8 0), .lit (.int .u8 0)], .agg [.lit (.int .u8 0), .lit (.int .u8 0)], .agg [.lit (.int .u8 0), .lit (.int .u8 0)], .agg [.lit (.int .u8 0), .lit (.int .u8 0)], .agg [.lit (.int .u8 0), .lit (.int .u8 0)], .agg [.lit (.int .u8 0), .lit (.int .u8 0)], .agg [.lit (.int .u8 0), .lit (.int .u8 0)], .agg [.lit (.int .u8 0), .lit (.int .u8 0)], .agg [.lit (.int .u8 0), .lit (.int .u8 0)], .agg [.lit (.int .u8 0), .lit (.int .u8 0)], .agg [.lit (.int .u8 0), .lit (.int .u8 0)]]
def laid_loop_example_g01089_impl_axiomNames {H : Type} : DataW H := .agg [.lit (.string [52]), .lit (.string [53]), .lit (.string [66]), .lit (.string [67]), .lit (.string [68]), .lit (.string [70]), .lit (.string [71]), .lit (.string [72]), .lit (.string [76]), .lit (.string [84]), .lit (.string [86]), .lit (.string [88]), .lit (.string [90])]
def laid_loop_example_g01089_impl_logicTable {H : Type} : DataW H := .agg [.lit (.string [68, 32, 68]), .lit (.string [68, 52, 32, 52, 32, 68]), .lit (.string [71, 76, 32, 76]), .lit (.string [71, 114, 122, 32, 90]), .lit (.string [75]), .lit (.string [75, 52, 32, 52]), .lit (.string [75, 52, 53, 32, 52, 32, 53]), .lit (.string [75, 66, 32, 66]), .lit (.string [75, 68, 52, 53, 32, 52, 32, 53, 32, 68]), .lit (.string [83, 52, 32, 52, 32, 84]), .lit (.string [83, 52, 50, 32, 52, 32, 71, 32, 84]), .lit (.string [83, 52, 51, 32, 52, 32, 72, 32, 84]), .lit (.string [83, 53, 32, 53, 32, 84]), .lit (.string [84, 32, 84]), .lit (.string [84, 114, 105, 118, 32, 84, 32, 88]), .lit (.string [86, 101, 114, 32, 86])]
/-- One of Go's own tables, pinned by name: the form's constant. -/
def laid_unicode_utf8_first : DataW Unit := Go.Pinned.utf8First
def laid_loop_example_g01089_impl_axiomTexts {H : Type} : DataW H := .agg [.lit (.string [91, 93, 112, 62, 91, 93, 91, 93, 112]), .lit (.string [60, 62, 112, 62, 91, 93, 60, 62, 112]), .lit (.string [112, 62, 91, 93, 60, 62, 112]), .lit (.string [91, 93, 91, 93, 112, 62, 91, 93, 112]), .lit (.string [91, 93, 112, 62, 60, 62, 112]), .lit (.string [60, 62, 112, 62, 91, 93, 112]), .lit (.string [60, 62, 91, 93, 112, 62, 91, 93, 60, 62, 112]), .lit (.string [91, 93, 40, 91, 93, 112, 62, 113, 41, 124, 91, 93, 40, 91, 93, 113, 62, 112, 41]), .lit (.string [91, 93, 40, 91, 93, 112, 62, 112, 41, 62, 91, 93, 112]), .lit (.string [91, 93, 112, 62, 112]), .lit (.string [91, 93, 70]), .lit (.string [112, 62, 91, 93, 112]), .lit (.string [91, 93, 40, 91, 93, 40, 112, 62, 91, 93, 112, 41, 62, 112, 41, 62, 112])]

/-- 'laws.FnExactRefutingFrame': WHATEVER THE INPUT: true; the input reads as it did. -/
def fnExactRefutingFrameSpec : ChangeSpec := { name := "fnExactRefutingFrame", vars := ["loop.example/g01089/impl.logicTable", "loop.example/g01089/impl.axiomNames"], fn := fun _ => fun
  | [d1, d2, g1, g2] => { results := [.lit (.bool true)], args := [d1, d2], vars := [g1, g2] }
  | _ => none }
def fnExactRefutingFrameRow : OpenClaim := { program := "ytpfncncohnhanaagreatdoor", sum := "299612ee94e5537379ac2424168050217c61ad9c9a97a0b8bfe06ae14a12d9f5", func := "loop.example/g01089/laws.FnExactRefutingFrame", spec := "fnExactRefutingFrame", inPlace := ["internal/bytealg.CountString", "internal/bytealg.IndexByteString", "internal/bytealg.IndexString"], unfollowed := true, recurses := true, named := ["loop.example/g01089/impl.logicTable", "unicode/utf8.first", "unicode/utf8.acceptRanges", "internal/bytealg.MaxLen", "loop.example/g01089/impl.axiomNames"], apart := false, laid := [("unicode/utf8.acceptRanges", laid_unicode_utf8_acceptRanges), ("loop.example/g01089/impl.axiomNames", laid_loop_example_g01089_impl_axiomNames), ("loop.example/g01089/impl.logicTable", laid_loop_example_g01089_impl_logicTable), ("unicode/utf8.first", laid_unicode_utf8_first)] }
def FnExactRefutingFrameSaid : Prop := fnExactRefutingFrameRow.holds Tryz.pinned (OpenSpec.ofChange fnExactRefutingFrameSpec)

/-- ITS FALSE NEIGHBOUR: 'it returns false'. Refute it at one input. -/
def fnExactRefutingFrameWrong : ChangeSpec := { name := "fnExactRefutingFrame", vars := ["loop.example/g01089/impl.logicTable", "loop.example/g01089/impl.axiomNames"], fn := fun _ => fun
  | [d1, d2, g1, g2] => { results := [.lit (.bool false)], args := [d1, d2], vars := [g1, g2] }
  | _ => none }
def FnExactRefutingFrameWrongFalsely : Prop := fnExactRefutingFrameRow.holds Tryz.pinned (OpenSpec.ofChange fnExactRefutingFrameWrong)

/-- 'laws.FnAxioms': WHATEVER THE INPUT: true; the input reads as it did. -/
def fnAxiomsSpec : ChangeSpec := { name := "fnAxioms", vars := ["loop.example/g01089/impl.axiomNames", "loop.example/g01089/impl.axiomTexts"], fn := fun _ => fun
  | [d, g1, g2] => { results := [.lit (.bool true)], args := [d], vars := [g1, g2] }
  | _ => none }
def fnAxiomsRow : OpenClaim := { program := "ytpfncncohnhanaagreatdoor", sum := "299612ee94e5537379ac2424168050217c61ad9c9a97a0b8bfe06ae14a12d9f5", func := "loop.example/g01089/laws.FnAxioms", spec := "fnAxioms", unfollowed := true, recurses := true, named := ["loop.example/g01089/impl.axiomNames", "loop.example/g01089/impl.axiomTexts"], apart := false, laid := [("loop.example/g01089/impl.axiomNames", laid_loop_example_g01089_impl_axiomNames), ("loop.example/g01089/impl.axiomTexts", laid_loop_example_g01089_impl_axiomTexts)] }
def FnAxiomsSaid : Prop := fnAxiomsRow.holds Tryz.pinned (OpenSpec.ofChange fnAxiomsSpec)

/-- ITS FALSE NEIGHBOUR: 'it returns false'. Refute it at one input. -/
def fnAxiomsWrong : ChangeSpec := { name := "fnAxioms", vars := ["loop.example/g01089/impl.axiomNames", "loop.example/g01089/impl.axiomTexts"], fn := fun _ => fun
  | [d, g1, g2] => { results := [.lit (.bool false)], args := [d], vars := [g1, g2] }
  | _ => none }
def FnAxiomsWrongFalsely : Prop := fnAxiomsRow.holds Tryz.pinned (OpenSpec.ofChange fnAxiomsWrong)

/-- 'laws.FnRefutingFrames': WHATEVER THE INPUT: true; the input reads as it did. -/
def fnRefutingFramesSpec : ChangeSpec := { name := "fnRefutingFrames", vars := ["loop.example/g01089/impl.logicTable", "loop.example/g01089/impl.axiomNames"], fn := fun _ => fun
  | [d, g1, g2] => { results := [.lit (.bool true)], args := [d], vars := [g1, g2] }
  | _ => none }
def fnRefutingFramesRow : OpenClaim := { program := "ytpfncncohnhanaagreatdoor", sum := "299612ee94e5537379ac2424168050217c61ad9c9a97a0b8bfe06ae14a12d9f5", func := "loop.example/g01089/laws.FnRefutingFrames", spec := "fnRefutingFrames", inPlace := ["internal/bytealg.CountString", "internal/bytealg.IndexByteString", "internal/bytealg.IndexString"], unfollowed := true, recurses := true, named := ["loop.example/g01089/impl.logicTable", "unicode/utf8.first", "unicode/utf8.acceptRanges", "internal/bytealg.MaxLen", "loop.example/g01089/impl.axiomNames"], apart := false, laid := [("unicode/utf8.acceptRanges", laid_unicode_utf8_acceptRanges), ("loop.example/g01089/impl.axiomNames", laid_loop_example_g01089_impl_axiomNames), ("loop.example/g01089/impl.logicTable", laid_loop_example_g01089_impl_logicTable), ("unicode/utf8.first", laid_unicode_utf8_first)] }
def FnRefutingFramesSaid : Prop := fnRefutingFramesRow.holds Tryz.pinned (OpenSpec.ofChange fnRefutingFramesSpec)

/-- ITS FALSE NEIGHBOUR: 'it returns false'. Refute it at one input. -/
def fnRefutingFramesWrong : ChangeSpec := { name := "fnRefutingFrames", vars := ["loop.example/g01089/impl.logicTable", "loop.example/g01089/impl.axiomNames"], fn := fun _ => fun
  | [d, g1, g2] => { results := [.lit (.bool false)], args := [d], vars := [g1, g2] }
  | _ => none }
def FnRefutingFramesWrongFalsely : Prop := fnRefutingFramesRow.holds Tryz.pinned (OpenSpec.ofChange fnRefutingFramesWrong)

/- THE SECOND FORM. 'bulk': how many values and letters a reading holds, each counted each time it is reached (what is shared counts as often as it is met; a slice's spare places count too). A statement '..UptoSaid' is the law's where the arguments, and the package variables that the reading takes, are together of bulk at most 1048576: NARROWER than '..Said'. Prove '..Said' where nothing that the law and all that it calls make is longer than what came in: it says more and counts as full. Else prove '..UptoSaid'. A law counts once. -/
mutual
def uptoBulk {H : Type} : DataW H → Nat
  | .lit (.string bytes) => bytes.length + 1
  | .lit _ => 1
  | .nil => 1
  | .ptr d => uptoBulk d + 1
  | .slice elems spare => uptoBulkAll elems + uptoBulkAll spare + 1
  | .agg parts => uptoBulkAll parts + 1
  | .iface _ d => uptoBulk d + 1
  | .map entries => uptoBulkEntries entries + 1
  | .held _ => 1
def uptoBulkAll {H : Type} : List (DataW H) → Nat
  | [] => 0
  | d :: r => uptoBulk d + uptoBulkAll r
def uptoBulkEntries {H : Type} : List (Lit × DataW H) → Nat
  | [] => 0
  | x :: r => uptoBulkEntry x + uptoBulkEntries r
def uptoBulkEntry {H : Type} : Lit × DataW H → Nat
  | (.string bytes, d) => bytes.length + uptoBulk d + 1
  | (_, d) => uptoBulk d + 1
 end
def uptoSmall : (H : Type) → List (DataW H) → Bool := fun _ ds => decide (uptoBulkAll ds ≤ 1048576)
def OpenSpec.upto (s : _root_.Go.ChangeSpec) : _root_.Go.OpenSpec := { _root_.Go.OpenSpec.ofChange s with cond := some uptoSmall }

/-- 'laws.FnExactRefutingFrame', WHERE WHAT IT READS IS OF BULK AT MOST 1048576: true; the input reads as it did. -/
def fnExactRefutingFrameUptoRow : OpenClaim := { program := "ytpfncncohnhanaagreatdoor", sum := "299612ee94e5537379ac2424168050217c61ad9c9a97a0b8bfe06ae14a12d9f5", func := "loop.example/g01089/laws.FnExactRefutingFrame", spec := "fnExactRefutingFrame", inPlace := ["internal/bytealg.CountString", "internal/bytealg.IndexByteString", "internal/bytealg.IndexString"], unfollowed := true, recurses := true, named := ["loop.example/g01089/impl.logicTable", "unicode/utf8.first", "unicode/utf8.acceptRanges", "internal/bytealg.MaxLen", "loop.example/g01089/impl.axiomNames"], apart := false, laid := [("unicode/utf8.acceptRanges", laid_unicode_utf8_acceptRanges), ("loop.example/g01089/impl.axiomNames", laid_loop_example_g01089_impl_axiomNames), ("loop.example/g01089/impl.logicTable", laid_loop_example_g01089_impl_logicTable), ("unicode/utf8.first", laid_unicode_utf8_first)], narrowed := true }
def FnExactRefutingFrameUptoSaid : Prop := fnExactRefutingFrameUptoRow.holds Tryz.pinned (OpenSpec.upto fnExactRefutingFrameSpec)

/-- 'laws.FnAxioms', WHERE WHAT IT READS IS OF BULK AT MOST 1048576: true; the input reads as it did. -/
def fnAxiomsUptoRow : OpenClaim := { program := "ytpfncncohnhanaagreatdoor", sum := "299612ee94e5537379ac2424168050217c61ad9c9a97a0b8bfe06ae14a12d9f5", func := "loop.example/g01089/laws.FnAxioms", spec := "fnAxioms", unfollowed := true, recurses := true, named := ["loop.example/g01089/impl.axiomNames", "loop.example/g01089/impl.axiomTexts"], apart := false, laid := [("loop.example/g01089/impl.axiomNames", laid_loop_example_g01089_impl_axiomNames), ("loop.example/g01089/impl.axiomTexts", laid_loop_example_g01089_impl_axiomTexts)], narrowed := true }
def FnAxiomsUptoSaid : Prop := fnAxiomsUptoRow.holds Tryz.pinned (OpenSpec.upto fnAxiomsSpec)

/-- 'laws.FnRefutingFrames', WHERE WHAT IT READS IS OF BULK AT MOST 1048576: true; the input reads as it did. -/
def fnRefutingFramesUptoRow : OpenClaim := { program := "ytpfncncohnhanaagreatdoor", sum := "299612ee94e5537379ac2424168050217c61ad9c9a97a0b8bfe06ae14a12d9f5", func := "loop.example/g01089/laws.FnRefutingFrames", spec := "fnRefutingFrames", inPlace := ["internal/bytealg.CountString", "internal/bytealg.IndexByteString", "internal/bytealg.IndexString"], unfollowed := true, recurses := true, named := ["loop.example/g01089/impl.logicTable", "unicode/utf8.first", "unicode/utf8.acceptRanges", "internal/bytealg.MaxLen", "loop.example/g01089/impl.axiomNames"], apart := false, laid := [("unicode/utf8.acceptRanges", laid_unicode_utf8_acceptRanges), ("loop.example/g01089/impl.axiomNames", laid_loop_example_g01089_impl_axiomNames), ("loop.example/g01089/impl.logicTable", laid_loop_example_g01089_impl_logicTable), ("unicode/utf8.first", laid_unicode_utf8_first)], narrowed := true }
def FnRefutingFramesUptoSaid : Prop := fnRefutingFramesUptoRow.holds Tryz.pinned (OpenSpec.upto fnRefutingFramesSpec)

end Rows
end Go.Proofs.YtpfncncohnhanaaGreatDoor
