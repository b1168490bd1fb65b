/-
  NARROWER THAN 'FOR EVERY INPUT', by the rows' own cells (each row's printed sentence says how): FnExactAxiomFormula: laid · FnExactSchemeFormula: laid · FnExactIsInstance: laid.
  DERIVED. THE GIVEN ROWS OF THIS SEAT. 3 by the template 'for every input the law returns true; each argument reads behind the call as it read before'; 0 by the template 'total and deterministic' (their statements: YtpbaiadaanpllaaDoorTotals.lean).
  GIVEN WITH THE SEED: the statements are not yours to turn. If you find one false, say at which input.
  Laid BY PROGRAM, IN A SANDBOX (cutbox-rows.mjs): the forced cells as the released guide's own fill.sh prints them over the translation d18116dd7742f203… (all of the seat's roots in one cut). By AI agents, Wed Nov 11 2026. No macro, syntax, notation, axiom, sorry.
-/
import Derived.Test.YtpbaiadaanpllaaDoorChecked
import GoSem.Claim
import GoSem.ClaimJoined
import GoSem.ClaimMapViews
import Derived.JoinedTies
import Derived.KernelRfl
namespace Go.Proofs.YtpbaiadaanpllaaDoor
/- THE CELL 'sum', in the pinned program and in every row, IS THE sha256 OF THE DUMP (.gsa) THAT YtpbaiadaanpllaaDoorProg.lean LOADS. Nothing in Lean hashes anything: it is a label: what it is worth is what the hold of that sum in a sandbox is worth. -/
noncomputable def Tryd.pinned : Pinned := { name := "ytpbaiadaanpllaadoor", sum := "d18116dd7742f203f579d554bf5d758ad09f59e778d676ef3f7c4d4dd86778d8", checked := Tryd.checked }
namespace Rows
def none {H : Type} : Left H := { results := [], args := [] }

/- WHAT THE LISTED PACKAGE-LEVEL VARIABLES READ AS WHEN THE CALL BEGINS. Each datum BY PROGRAM (the guide's laid-datum.mjs) off the statement by which the dump's own 'gosem.cut.vars' lays the variable. In a bare row this is a premise. The card (YtpbaiadaanpllaaDoorCards.lean) ties it to the program's text. -/
def laid_loop_example_g01089_impl_axiomNames {H : Type} : DataW H := .agg [.lit (.string [52]), .lit (.string [53]), .lit (.string [66]), .lit (.string [67]), .lit (.string [68]), .lit (.string [70]), .lit (.string [71]), .lit (.string [72]), .lit (.string [76]), .lit (.string [84]), .lit (.string [86]), .lit (.string [88]), .lit (.string [90])]
def laid_loop_example_g01089_impl_axiomTexts {H : Type} : DataW H := .agg [.lit (.string [91, 93, 112, 62, 91, 93, 91, 93, 112]), .lit (.string [60, 62, 112, 62, 91, 93, 60, 62, 112]), .lit (.string [112, 62, 91, 93, 60, 62, 112]), .lit (.string [91, 93, 91, 93, 112, 62, 91, 93, 112]), .lit (.string [91, 93, 112, 62, 60, 62, 112]), .lit (.string [60, 62, 112, 62, 91, 93, 112]), .lit (.string [60, 62, 91, 93, 112, 62, 91, 93, 60, 62, 112]), .lit (.string [91, 93, 40, 91, 93, 112, 62, 113, 41, 124, 91, 93, 40, 91, 93, 113, 62, 112, 41]), .lit (.string [91, 93, 40, 91, 93, 112, 62, 112, 41, 62, 91, 93, 112]), .lit (.string [91, 93, 112, 62, 112]), .lit (.string [91, 93, 70]), .lit (.string [112, 62, 91, 93, 112]), .lit (.string [91, 93, 40, 91, 93, 40, 112, 62, 91, 93, 112, 41, 62, 112, 41, 62, 112])]
def laid_loop_example_g01089_impl_schemeTexts {H : Type} : DataW H := .agg [.lit (.string [112, 62, 113, 62, 112]), .lit (.string [40, 112, 62, 113, 62, 114, 41, 62, 40, 112, 62, 113, 41, 62, 112, 62, 114]), .lit (.string [112, 38, 113, 62, 112]), .lit (.string [112, 38, 113, 62, 113]), .lit (.string [112, 62, 113, 62, 112, 38, 113]), .lit (.string [112, 62, 112, 124, 113]), .lit (.string [113, 62, 112, 124, 113]), .lit (.string [40, 112, 62, 114, 41, 62, 40, 113, 62, 114, 41, 62, 112, 124, 113, 62, 114]), .lit (.string [70, 62, 112]), .lit (.string [126, 126, 112, 62, 112]), .lit (.string [91, 93, 40, 112, 62, 113, 41, 62, 91, 93, 112, 62, 91, 93, 113]), .lit (.string [60, 62, 112, 62, 126, 91, 93, 126, 112]), .lit (.string [126, 91, 93, 126, 112, 62, 60, 62, 112]), .lit (.string [91, 93, 112, 62, 112]), .lit (.string [91, 93, 112, 62, 91, 93, 91, 93, 112]), .lit (.string [60, 62, 112, 62, 91, 93, 60, 62, 112]), .lit (.string [112, 62, 91, 93, 60, 62, 112]), .lit (.string [91, 93, 112, 62, 60, 62, 112]), .lit (.string [91, 93, 40, 91, 93, 112, 62, 112, 41, 62, 91, 93, 112])]

/-- 'laws.FnExactAxiomFormula': WHATEVER THE INPUT: true; the input reads as it did. -/
def fnExactAxiomFormulaSpec : ChangeSpec := { name := "fnExactAxiomFormula", vars := ["loop.example/g01089/impl.axiomTexts", "loop.example/g01089/impl.axiomNames"], fn := fun _ => fun
  | [d, g1, g2] => { results := [.lit (.bool true)], args := [d], vars := [g1, g2] }
  | _ => none }
def fnExactAxiomFormulaRow : OpenClaim := { program := "ytpbaiadaanpllaadoor", sum := "d18116dd7742f203f579d554bf5d758ad09f59e778d676ef3f7c4d4dd86778d8", func := "loop.example/g01089/laws.FnExactAxiomFormula", spec := "fnExactAxiomFormula", recurses := true, named := ["loop.example/g01089/impl.axiomTexts", "loop.example/g01089/impl.axiomNames"], apart := false, laid := [("loop.example/g01089/impl.axiomNames", laid_loop_example_g01089_impl_axiomNames), ("loop.example/g01089/impl.axiomTexts", laid_loop_example_g01089_impl_axiomTexts)] }
def FnExactAxiomFormulaSaid : Prop := fnExactAxiomFormulaRow.holds Tryd.pinned (OpenSpec.ofChange fnExactAxiomFormulaSpec)

/-- ITS FALSE NEIGHBOUR: 'it returns false'. Refute it at one input. -/
def fnExactAxiomFormulaWrong : ChangeSpec := { name := "fnExactAxiomFormula", vars := ["loop.example/g01089/impl.axiomTexts", "loop.example/g01089/impl.axiomNames"], fn := fun _ => fun
  | [d, g1, g2] => { results := [.lit (.bool false)], args := [d], vars := [g1, g2] }
  | _ => none }
def FnExactAxiomFormulaWrongFalsely : Prop := fnExactAxiomFormulaRow.holds Tryd.pinned (OpenSpec.ofChange fnExactAxiomFormulaWrong)

/-- 'laws.FnExactSchemeFormula': WHATEVER THE INPUT: true; the input reads as it did. -/
def fnExactSchemeFormulaSpec : ChangeSpec := { name := "fnExactSchemeFormula", vars := ["loop.example/g01089/impl.schemeTexts"], fn := fun _ => fun
  | [d, g1] => { results := [.lit (.bool true)], args := [d], vars := [g1] }
  | _ => none }
def fnExactSchemeFormulaRow : OpenClaim := { program := "ytpbaiadaanpllaadoor", sum := "d18116dd7742f203f579d554bf5d758ad09f59e778d676ef3f7c4d4dd86778d8", func := "loop.example/g01089/laws.FnExactSchemeFormula", spec := "fnExactSchemeFormula", recurses := true, named := ["loop.example/g01089/impl.schemeTexts"], apart := false, laid := [("loop.example/g01089/impl.schemeTexts", laid_loop_example_g01089_impl_schemeTexts)] }
def FnExactSchemeFormulaSaid : Prop := fnExactSchemeFormulaRow.holds Tryd.pinned (OpenSpec.ofChange fnExactSchemeFormulaSpec)

/-- ITS FALSE NEIGHBOUR: 'it returns false'. Refute it at one input. -/
def fnExactSchemeFormulaWrong : ChangeSpec := { name := "fnExactSchemeFormula", vars := ["loop.example/g01089/impl.schemeTexts"], fn := fun _ => fun
  | [d, g1] => { results := [.lit (.bool false)], args := [d], vars := [g1] }
  | _ => none }
def FnExactSchemeFormulaWrongFalsely : Prop := fnExactSchemeFormulaRow.holds Tryd.pinned (OpenSpec.ofChange fnExactSchemeFormulaWrong)

/-- 'laws.FnExactIsInstance': WHATEVER THE INPUT: true; the input reads as it did. -/
def fnExactIsInstanceSpec : ChangeSpec := { name := "fnExactIsInstance", vars := ["loop.example/g01089/impl.schemeTexts"], fn := fun _ => fun
  | [d1, d2, g1] => { results := [.lit (.bool true)], args := [d1, d2], vars := [g1] }
  | _ => none }
def fnExactIsInstanceRow : OpenClaim := { program := "ytpbaiadaanpllaadoor", sum := "d18116dd7742f203f579d554bf5d758ad09f59e778d676ef3f7c4d4dd86778d8", func := "loop.example/g01089/laws.FnExactIsInstance", spec := "fnExactIsInstance", unfollowed := true, recurses := true, named := ["loop.example/g01089/impl.schemeTexts"], apart := false, laid := [("loop.example/g01089/impl.schemeTexts", laid_loop_example_g01089_impl_schemeTexts)] }
def FnExactIsInstanceSaid : Prop := fnExactIsInstanceRow.holds Tryd.pinned (OpenSpec.ofChange fnExactIsInstanceSpec)

/-- ITS FALSE NEIGHBOUR: 'it returns false'. Refute it at one input. -/
def fnExactIsInstanceWrong : ChangeSpec := { name := "fnExactIsInstance", vars := ["loop.example/g01089/impl.schemeTexts"], fn := fun _ => fun
  | [d1, d2, g1] => { results := [.lit (.bool false)], args := [d1, d2], vars := [g1] }
  | _ => none }
def FnExactIsInstanceWrongFalsely : Prop := fnExactIsInstanceRow.holds Tryd.pinned (OpenSpec.ofChange fnExactIsInstanceWrong)

/- THE SECOND FORM. 'bulk': how many values and letters a reading holds, each counted each time it is reached (what is shared counts as often as it is met; a slice's spare places count too). A statement '..UptoSaid' is the law's where the arguments, and the package variables that the reading takes, are together of bulk at most 1048576: NARROWER than '..Said'. Prove '..Said' where nothing that the law and all that it calls make is longer than what came in: it says more and counts as full. Else prove '..UptoSaid'. A law counts once. -/
mutual
def uptoBulk {H : Type} : DataW H → Nat
  | .lit (.string bytes) => bytes.length + 1
  | .lit _ => 1
  | .nil => 1
  | .ptr d => uptoBulk d + 1
  | .slice elems spare => uptoBulkAll elems + uptoBulkAll spare + 1
  | .agg parts => uptoBulkAll parts + 1
  | .iface _ d => uptoBulk d + 1
  | .map entries => uptoBulkEntries entries + 1
  | .held _ => 1
def uptoBulkAll {H : Type} : List (DataW H) → Nat
  | [] => 0
  | d :: r => uptoBulk d + uptoBulkAll r
def uptoBulkEntries {H : Type} : List (Lit × DataW H) → Nat
  | [] => 0
  | x :: r => uptoBulkEntry x + uptoBulkEntries r
def uptoBulkEntry {H : Type} : Lit × DataW H → Nat
  | (.string bytes, d) => bytes.length + uptoBulk d + 1
  | (_, d) => uptoBulk d + 1
 end
def uptoSmall : (H : Type) → List (DataW H) → Bool := fun _ ds => decide (uptoBulkAll ds ≤ 1048576)
def OpenSpec.upto (s : _root_.Go.ChangeSpec) : _root_.Go.OpenSpec := { _root_.Go.OpenSpec.ofChange s with cond := some uptoSmall }

/-- 'laws.FnExactAxiomFormula', WHERE WHAT IT READS IS OF BULK AT MOST 1048576: true; the input reads as it did. -/
def fnExactAxiomFormulaUptoRow : OpenClaim := { program := "ytpbaiadaanpllaadoor", sum := "d18116dd7742f203f579d554bf5d758ad09f59e778d676ef3f7c4d4dd86778d8", func := "loop.example/g01089/laws.FnExactAxiomFormula", spec := "fnExactAxiomFormula", recurses := true, named := ["loop.example/g01089/impl.axiomTexts", "loop.example/g01089/impl.axiomNames"], apart := false, laid := [("loop.example/g01089/impl.axiomNames", laid_loop_example_g01089_impl_axiomNames), ("loop.example/g01089/impl.axiomTexts", laid_loop_example_g01089_impl_axiomTexts)], narrowed := true }
def FnExactAxiomFormulaUptoSaid : Prop := fnExactAxiomFormulaUptoRow.holds Tryd.pinned (OpenSpec.upto fnExactAxiomFormulaSpec)

/-- 'laws.FnExactSchemeFormula', WHERE WHAT IT READS IS OF BULK AT MOST 1048576: true; the input reads as it did. -/
def fnExactSchemeFormulaUptoRow : OpenClaim := { program := "ytpbaiadaanpllaadoor", sum := "d18116dd7742f203f579d554bf5d758ad09f59e778d676ef3f7c4d4dd86778d8", func := "loop.example/g01089/laws.FnExactSchemeFormula", spec := "fnExactSchemeFormula", recurses := true, named := ["loop.example/g01089/impl.schemeTexts"], apart := false, laid := [("loop.example/g01089/impl.schemeTexts", laid_loop_example_g01089_impl_schemeTexts)], narrowed := true }
def FnExactSchemeFormulaUptoSaid : Prop := fnExactSchemeFormulaUptoRow.holds Tryd.pinned (OpenSpec.upto fnExactSchemeFormulaSpec)

/-- 'laws.FnExactIsInstance', WHERE WHAT IT READS IS OF BULK AT MOST 1048576: true; the input reads as it did. -/
def fnExactIsInstanceUptoRow : OpenClaim := { program := "ytpbaiadaanpllaadoor", sum := "d18116dd7742f203f579d554bf5d758ad09f59e778d676ef3f7c4d4dd86778d8", func := "loop.example/g01089/laws.FnExactIsInstance", spec := "fnExactIsInstance", unfollowed := true, recurses := true, named := ["loop.example/g01089/impl.schemeTexts"], apart := false, laid := [("loop.example/g01089/impl.schemeTexts", laid_loop_example_g01089_impl_schemeTexts)], narrowed := true }
def FnExactIsInstanceUptoSaid : Prop := fnExactIsInstanceUptoRow.holds Tryd.pinned (OpenSpec.upto fnExactIsInstanceSpec)

end Rows
end Go.Proofs.YtpbaiadaanpllaaDoor
