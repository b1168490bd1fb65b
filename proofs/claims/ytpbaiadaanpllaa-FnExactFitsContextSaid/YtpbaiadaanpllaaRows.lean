/-
  No cell of these rows narrows 'for every input' (looked for: loops, veiled, ifaces, maps, wideKeys, modest, calm, conditions, laid).
  DERIVED. THE GIVEN ROWS OF THIS SEAT. 9 by the template 'for every input the law returns true; each argument reads behind the call as it read before'; 0 by the template 'total and deterministic' (their statements: YtpbaiadaanpllaaTotals.lean).
  GIVEN WITH THE SEED: the statements are not yours to turn. If you find one false, say at which input.
  Laid BY PROGRAM, IN A SANDBOX (cutbox-rows.mjs): the forced cells as the released guide's own fill.sh prints them over the translation 7c710373401a701d… (all of the seat's roots in one cut). By AI agents, Wed Nov 11 2026. No macro, syntax, notation, axiom, sorry.
-/
import Derived.Test.YtpbaiadaanpllaaChecked
import GoSem.Claim
import GoSem.ClaimJoined
import GoSem.ClaimMapViews
import Derived.JoinedTies
import Derived.KernelRfl
namespace Go.Proofs.Ytpbaiadaanpllaa
/- THE CELL 'sum', in the pinned program and in every row, IS THE sha256 OF THE DUMP (.gsa) THAT YtpbaiadaanpllaaProg.lean LOADS. Nothing in Lean hashes anything: it is a label: what it is worth is what the hold of that sum in a sandbox is worth. -/
noncomputable def Try.pinned : Pinned := { name := "ytpbaiadaanpllaa", sum := "7c710373401a701d0d4da37bc626aa000577b75fd985e6475b0b55121f60882c", checked := Try.checked }
namespace Rows
def none {H : Type} : Left H := { results := [], args := [] }

/-- 'laws.FnExactParseFormula': WHATEVER THE INPUT: true; the input reads as it did. -/
def fnExactParseFormulaSpec : ChangeSpec := { name := "fnExactParseFormula", fn := fun _ => fun
  | [d] => { results := [.lit (.bool true)], args := [d] }
  | _ => none }
def fnExactParseFormulaRow : OpenClaim := { program := "ytpbaiadaanpllaa", sum := "7c710373401a701d0d4da37bc626aa000577b75fd985e6475b0b55121f60882c", func := "loop.example/g01089/laws.FnExactParseFormula", spec := "fnExactParseFormula", recurses := true, apart := false }
def FnExactParseFormulaSaid : Prop := fnExactParseFormulaRow.holds Try.pinned (OpenSpec.ofChange fnExactParseFormulaSpec)

/-- ITS FALSE NEIGHBOUR: 'it returns false'. Refute it at one input. -/
def fnExactParseFormulaWrong : ChangeSpec := { name := "fnExactParseFormula", fn := fun _ => fun
  | [d] => { results := [.lit (.bool false)], args := [d] }
  | _ => none }
def FnExactParseFormulaWrongFalsely : Prop := fnExactParseFormulaRow.holds Try.pinned (OpenSpec.ofChange fnExactParseFormulaWrong)

/-- 'laws.FnExactIsModalSequent': WHATEVER THE INPUT: true; the input reads as it did. -/
def fnExactIsModalSequentSpec : ChangeSpec := { name := "fnExactIsModalSequent", fn := fun _ => fun
  | [d] => { results := [.lit (.bool true)], args := [d] }
  | _ => none }
def fnExactIsModalSequentRow : OpenClaim := { program := "ytpbaiadaanpllaa", sum := "7c710373401a701d0d4da37bc626aa000577b75fd985e6475b0b55121f60882c", func := "loop.example/g01089/laws.FnExactIsModalSequent", spec := "fnExactIsModalSequent", recurses := true, apart := false }
def FnExactIsModalSequentSaid : Prop := fnExactIsModalSequentRow.holds Try.pinned (OpenSpec.ofChange fnExactIsModalSequentSpec)

/-- ITS FALSE NEIGHBOUR: 'it returns false'. Refute it at one input. -/
def fnExactIsModalSequentWrong : ChangeSpec := { name := "fnExactIsModalSequent", fn := fun _ => fun
  | [d] => { results := [.lit (.bool false)], args := [d] }
  | _ => none }
def FnExactIsModalSequentWrongFalsely : Prop := fnExactIsModalSequentRow.holds Try.pinned (OpenSpec.ofChange fnExactIsModalSequentWrong)

/-- 'laws.FnExactIsSequent': WHATEVER THE INPUT: true; the input reads as it did. -/
def fnExactIsSequentSpec : ChangeSpec := { name := "fnExactIsSequent", fn := fun _ => fun
  | [d1, d2] => { results := [.lit (.bool true)], args := [d1, d2] }
  | _ => none }
def fnExactIsSequentRow : OpenClaim := { program := "ytpbaiadaanpllaa", sum := "7c710373401a701d0d4da37bc626aa000577b75fd985e6475b0b55121f60882c", func := "loop.example/g01089/laws.FnExactIsSequent", spec := "fnExactIsSequent", unfollowed := true, recurses := true, apart := false }
def FnExactIsSequentSaid : Prop := fnExactIsSequentRow.holds Try.pinned (OpenSpec.ofChange fnExactIsSequentSpec)

/-- ITS FALSE NEIGHBOUR: 'it returns false'. Refute it at one input. -/
def fnExactIsSequentWrong : ChangeSpec := { name := "fnExactIsSequent", fn := fun _ => fun
  | [d1, d2] => { results := [.lit (.bool false)], args := [d1, d2] }
  | _ => none }
def FnExactIsSequentWrongFalsely : Prop := fnExactIsSequentRow.holds Try.pinned (OpenSpec.ofChange fnExactIsSequentWrong)

/-- 'laws.FnParsing': WHATEVER THE INPUT: true; the input reads as it did. -/
def fnParsingSpec : ChangeSpec := { name := "fnParsing", fn := fun _ => fun
  | [d] => { results := [.lit (.bool true)], args := [d] }
  | _ => none }
def fnParsingRow : OpenClaim := { program := "ytpbaiadaanpllaa", sum := "7c710373401a701d0d4da37bc626aa000577b75fd985e6475b0b55121f60882c", func := "loop.example/g01089/laws.FnParsing", spec := "fnParsing", unfollowed := true, recurses := true, apart := false }
def FnParsingSaid : Prop := fnParsingRow.holds Try.pinned (OpenSpec.ofChange fnParsingSpec)

/-- ITS FALSE NEIGHBOUR: 'it returns false'. Refute it at one input. -/
def fnParsingWrong : ChangeSpec := { name := "fnParsing", fn := fun _ => fun
  | [d] => { results := [.lit (.bool false)], args := [d] }
  | _ => none }
def FnParsingWrongFalsely : Prop := fnParsingRow.holds Try.pinned (OpenSpec.ofChange fnParsingWrong)

/-- 'laws.FnExactCutDown': WHATEVER THE INPUT: true; the input reads as it did. -/
def fnExactCutDownSpec : ChangeSpec := { name := "fnExactCutDown", fn := fun _ => fun
  | [d1, d2, d3] => { results := [.lit (.bool true)], args := [d1, d2, d3] }
  | _ => none }
def fnExactCutDownRow : OpenClaim := { program := "ytpbaiadaanpllaa", sum := "7c710373401a701d0d4da37bc626aa000577b75fd985e6475b0b55121f60882c", func := "loop.example/g01089/laws.FnExactCutDown", spec := "fnExactCutDown", unfollowed := true, recurses := true, apart := false }
def FnExactCutDownSaid : Prop := fnExactCutDownRow.holds Try.pinned (OpenSpec.ofChange fnExactCutDownSpec)

/-- ITS FALSE NEIGHBOUR: 'it returns false'. Refute it at one input. -/
def fnExactCutDownWrong : ChangeSpec := { name := "fnExactCutDown", fn := fun _ => fun
  | [d1, d2, d3] => { results := [.lit (.bool false)], args := [d1, d2, d3] }
  | _ => none }
def FnExactCutDownWrongFalsely : Prop := fnExactCutDownRow.holds Try.pinned (OpenSpec.ofChange fnExactCutDownWrong)

/-- 'laws.FnExactIsTerm': WHATEVER THE INPUT: true; the input reads as it did. -/
def fnExactIsTermSpec : ChangeSpec := { name := "fnExactIsTerm", fn := fun _ => fun
  | [d] => { results := [.lit (.bool true)], args := [d] }
  | _ => none }
def fnExactIsTermRow : OpenClaim := { program := "ytpbaiadaanpllaa", sum := "7c710373401a701d0d4da37bc626aa000577b75fd985e6475b0b55121f60882c", func := "loop.example/g01089/laws.FnExactIsTerm", spec := "fnExactIsTerm", unfollowed := true, recurses := true, apart := false }
def FnExactIsTermSaid : Prop := fnExactIsTermRow.holds Try.pinned (OpenSpec.ofChange fnExactIsTermSpec)

/-- ITS FALSE NEIGHBOUR: 'it returns false'. Refute it at one input. -/
def fnExactIsTermWrong : ChangeSpec := { name := "fnExactIsTerm", fn := fun _ => fun
  | [d] => { results := [.lit (.bool false)], args := [d] }
  | _ => none }
def FnExactIsTermWrongFalsely : Prop := fnExactIsTermRow.holds Try.pinned (OpenSpec.ofChange fnExactIsTermWrong)

/-- 'laws.FnExactSequentFormula': WHATEVER THE INPUT: true; the input reads as it did. -/
def fnExactSequentFormulaSpec : ChangeSpec := { name := "fnExactSequentFormula", fn := fun _ => fun
  | [d] => { results := [.lit (.bool true)], args := [d] }
  | _ => none }
def fnExactSequentFormulaRow : OpenClaim := { program := "ytpbaiadaanpllaa", sum := "7c710373401a701d0d4da37bc626aa000577b75fd985e6475b0b55121f60882c", func := "loop.example/g01089/laws.FnExactSequentFormula", spec := "fnExactSequentFormula", recurses := true, apart := false }
def FnExactSequentFormulaSaid : Prop := fnExactSequentFormulaRow.holds Try.pinned (OpenSpec.ofChange fnExactSequentFormulaSpec)

/-- ITS FALSE NEIGHBOUR: 'it returns false'. Refute it at one input. -/
def fnExactSequentFormulaWrong : ChangeSpec := { name := "fnExactSequentFormula", fn := fun _ => fun
  | [d] => { results := [.lit (.bool false)], args := [d] }
  | _ => none }
def FnExactSequentFormulaWrongFalsely : Prop := fnExactSequentFormulaRow.holds Try.pinned (OpenSpec.ofChange fnExactSequentFormulaWrong)

/-- 'laws.FnExactMeaningOf': WHATEVER THE INPUT: true; the input reads as it did. -/
def fnExactMeaningOfSpec : ChangeSpec := { name := "fnExactMeaningOf", fn := fun _ => fun
  | [d1, d2] => { results := [.lit (.bool true)], args := [d1, d2] }
  | _ => none }
def fnExactMeaningOfRow : OpenClaim := { program := "ytpbaiadaanpllaa", sum := "7c710373401a701d0d4da37bc626aa000577b75fd985e6475b0b55121f60882c", func := "loop.example/g01089/laws.FnExactMeaningOf", spec := "fnExactMeaningOf", unfollowed := true, recurses := true, apart := false }
def FnExactMeaningOfSaid : Prop := fnExactMeaningOfRow.holds Try.pinned (OpenSpec.ofChange fnExactMeaningOfSpec)

/-- ITS FALSE NEIGHBOUR: 'it returns false'. Refute it at one input. -/
def fnExactMeaningOfWrong : ChangeSpec := { name := "fnExactMeaningOf", fn := fun _ => fun
  | [d1, d2] => { results := [.lit (.bool false)], args := [d1, d2] }
  | _ => none }
def FnExactMeaningOfWrongFalsely : Prop := fnExactMeaningOfRow.holds Try.pinned (OpenSpec.ofChange fnExactMeaningOfWrong)

/-- 'laws.FnExactFitsContext': WHATEVER THE INPUT: true; the input reads as it did. -/
def fnExactFitsContextSpec : ChangeSpec := { name := "fnExactFitsContext", fn := fun _ => fun
  | [d1, d2] => { results := [.lit (.bool true)], args := [d1, d2] }
  | _ => none }
def fnExactFitsContextRow : OpenClaim := { program := "ytpbaiadaanpllaa", sum := "7c710373401a701d0d4da37bc626aa000577b75fd985e6475b0b55121f60882c", func := "loop.example/g01089/laws.FnExactFitsContext", spec := "fnExactFitsContext", unfollowed := true, recurses := true, apart := false }
def FnExactFitsContextSaid : Prop := fnExactFitsContextRow.holds Try.pinned (OpenSpec.ofChange fnExactFitsContextSpec)

/-- ITS FALSE NEIGHBOUR: 'it returns false'. Refute it at one input. -/
def fnExactFitsContextWrong : ChangeSpec := { name := "fnExactFitsContext", fn := fun _ => fun
  | [d1, d2] => { results := [.lit (.bool false)], args := [d1, d2] }
  | _ => none }
def FnExactFitsContextWrongFalsely : Prop := fnExactFitsContextRow.holds Try.pinned (OpenSpec.ofChange fnExactFitsContextWrong)

/- THE SECOND FORM. 'bulk': how many values and letters a reading holds, each counted each time it is reached (what is shared counts as often as it is met; a slice's spare places count too). A statement '..UptoSaid' is the law's where the arguments, and the package variables that the reading takes, are together of bulk at most 1048576: NARROWER than '..Said'. Prove '..Said' where nothing that the law and all that it calls make is longer than what came in: it says more and counts as full. Else prove '..UptoSaid'. A law counts once. -/
mutual
def uptoBulk {H : Type} : DataW H → Nat
  | .lit (.string bytes) => bytes.length + 1
  | .lit _ => 1
  | .nil => 1
  | .ptr d => uptoBulk d + 1
  | .slice elems spare => uptoBulkAll elems + uptoBulkAll spare + 1
  | .agg parts => uptoBulkAll parts + 1
  | .iface _ d => uptoBulk d + 1
  | .map entries => uptoBulkEntries entries + 1
  | .held _ => 1
def uptoBulkAll {H : Type} : List (DataW H) → Nat
  | [] => 0
  | d :: r => uptoBulk d + uptoBulkAll r
def uptoBulkEntries {H : Type} : List (Lit × DataW H) → Nat
  | [] => 0
  | x :: r => uptoBulkEntry x + uptoBulkEntries r
def uptoBulkEntry {H : Type} : Lit × DataW H → Nat
  | (.string bytes, d) => bytes.length + uptoBulk d + 1
  | (_, d) => uptoBulk d + 1
 end
def uptoSmall : (H : Type) → List (DataW H) → Bool := fun _ ds => decide (uptoBulkAll ds ≤ 1048576)
def OpenSpec.upto (s : _root_.Go.ChangeSpec) : _root_.Go.OpenSpec := { _root_.Go.OpenSpec.ofChange s with cond := some uptoSmall }

/-- 'laws.FnExactParseFormula', WHERE WHAT IT READS IS OF BULK AT MOST 1048576: true; the input reads as it did. -/
def fnExactParseFormulaUptoRow : OpenClaim := { program := "ytpbaiadaanpllaa", sum := "7c710373401a701d0d4da37bc626aa000577b75fd985e6475b0b55121f60882c", func := "loop.example/g01089/laws.FnExactParseFormula", spec := "fnExactParseFormula", recurses := true, apart := false, narrowed := true }
def FnExactParseFormulaUptoSaid : Prop := fnExactParseFormulaUptoRow.holds Try.pinned (OpenSpec.upto fnExactParseFormulaSpec)

/-- 'laws.FnExactIsModalSequent', WHERE WHAT IT READS IS OF BULK AT MOST 1048576: true; the input reads as it did. -/
def fnExactIsModalSequentUptoRow : OpenClaim := { program := "ytpbaiadaanpllaa", sum := "7c710373401a701d0d4da37bc626aa000577b75fd985e6475b0b55121f60882c", func := "loop.example/g01089/laws.FnExactIsModalSequent", spec := "fnExactIsModalSequent", recurses := true, apart := false, narrowed := true }
def FnExactIsModalSequentUptoSaid : Prop := fnExactIsModalSequentUptoRow.holds Try.pinned (OpenSpec.upto fnExactIsModalSequentSpec)

/-- 'laws.FnExactIsSequent', WHERE WHAT IT READS IS OF BULK AT MOST 1048576: true; the input reads as it did. -/
def fnExactIsSequentUptoRow : OpenClaim := { program := "ytpbaiadaanpllaa", sum := "7c710373401a701d0d4da37bc626aa000577b75fd985e6475b0b55121f60882c", func := "loop.example/g01089/laws.FnExactIsSequent", spec := "fnExactIsSequent", unfollowed := true, recurses := true, apart := false, narrowed := true }
def FnExactIsSequentUptoSaid : Prop := fnExactIsSequentUptoRow.holds Try.pinned (OpenSpec.upto fnExactIsSequentSpec)

/-- 'laws.FnParsing', WHERE WHAT IT READS IS OF BULK AT MOST 1048576: true; the input reads as it did. -/
def fnParsingUptoRow : OpenClaim := { program := "ytpbaiadaanpllaa", sum := "7c710373401a701d0d4da37bc626aa000577b75fd985e6475b0b55121f60882c", func := "loop.example/g01089/laws.FnParsing", spec := "fnParsing", unfollowed := true, recurses := true, apart := false, narrowed := true }
def FnParsingUptoSaid : Prop := fnParsingUptoRow.holds Try.pinned (OpenSpec.upto fnParsingSpec)

/-- 'laws.FnExactCutDown', WHERE WHAT IT READS IS OF BULK AT MOST 1048576: true; the input reads as it did. -/
def fnExactCutDownUptoRow : OpenClaim := { program := "ytpbaiadaanpllaa", sum := "7c710373401a701d0d4da37bc626aa000577b75fd985e6475b0b55121f60882c", func := "loop.example/g01089/laws.FnExactCutDown", spec := "fnExactCutDown", unfollowed := true, recurses := true, apart := false, narrowed := true }
def FnExactCutDownUptoSaid : Prop := fnExactCutDownUptoRow.holds Try.pinned (OpenSpec.upto fnExactCutDownSpec)

/-- 'laws.FnExactIsTerm', WHERE WHAT IT READS IS OF BULK AT MOST 1048576: true; the input reads as it did. -/
def fnExactIsTermUptoRow : OpenClaim := { program := "ytpbaiadaanpllaa", sum := "7c710373401a701d0d4da37bc626aa000577b75fd985e6475b0b55121f60882c", func := "loop.example/g01089/laws.FnExactIsTerm", spec := "fnExactIsTerm", unfollowed := true, recurses := true, apart := false, narrowed := true }
def FnExactIsTermUptoSaid : Prop := fnExactIsTermUptoRow.holds Try.pinned (OpenSpec.upto fnExactIsTermSpec)

/-- 'laws.FnExactSequentFormula', WHERE WHAT IT READS IS OF BULK AT MOST 1048576: true; the input reads as it did. -/
def fnExactSequentFormulaUptoRow : OpenClaim := { program := "ytpbaiadaanpllaa", sum := "7c710373401a701d0d4da37bc626aa000577b75fd985e6475b0b55121f60882c", func := "loop.example/g01089/laws.FnExactSequentFormula", spec := "fnExactSequentFormula", recurses := true, apart := false, narrowed := true }
def FnExactSequentFormulaUptoSaid : Prop := fnExactSequentFormulaUptoRow.holds Try.pinned (OpenSpec.upto fnExactSequentFormulaSpec)

/-- 'laws.FnExactMeaningOf', WHERE WHAT IT READS IS OF BULK AT MOST 1048576: true; the input reads as it did. -/
def fnExactMeaningOfUptoRow : OpenClaim := { program := "ytpbaiadaanpllaa", sum := "7c710373401a701d0d4da37bc626aa000577b75fd985e6475b0b55121f60882c", func := "loop.example/g01089/laws.FnExactMeaningOf", spec := "fnExactMeaningOf", unfollowed := true, recurses := true, apart := false, narrowed := true }
def FnExactMeaningOfUptoSaid : Prop := fnExactMeaningOfUptoRow.holds Try.pinned (OpenSpec.upto fnExactMeaningOfSpec)

/-- 'laws.FnExactFitsContext', WHERE WHAT IT READS IS OF BULK AT MOST 1048576: true; the input reads as it did. -/
def fnExactFitsContextUptoRow : OpenClaim := { program := "ytpbaiadaanpllaa", sum := "7c710373401a701d0d4da37bc626aa000577b75fd985e6475b0b55121f60882c", func := "loop.example/g01089/laws.FnExactFitsContext", spec := "fnExactFitsContext", unfollowed := true, recurses := true, apart := false, narrowed := true }
def FnExactFitsContextUptoSaid : Prop := fnExactFitsContextUptoRow.holds Try.pinned (OpenSpec.upto fnExactFitsContextSpec)

end Rows
end Go.Proofs.Ytpbaiadaanpllaa
