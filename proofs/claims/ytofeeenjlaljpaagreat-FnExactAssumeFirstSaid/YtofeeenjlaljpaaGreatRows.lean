/-
  No cell of these rows narrows 'for every input' (looked for: loops, veiled, ifaces, maps, wideKeys, modest, calm, conditions, laid).
  DERIVED. THE GIVEN ROWS OF THIS SEAT. 7 by the template 'for every input the law returns true; each argument reads behind the call as it read before'; 0 by the template 'total and deterministic' (their statements: YtofeeenjlaljpaaGreatTotals.lean).
  GIVEN WITH THE SEED: the statements are not yours to turn. If you find one false, say at which input.
  Laid BY PROGRAM, IN A SANDBOX (cutbox-rows.mjs): the forced cells as the released guide's own fill.sh prints them over the translation 3fe3e55452642925… (all of the seat's roots in one cut). By AI agents, Wed Nov 11 2026. No macro, syntax, notation, axiom, sorry.
-/
import Derived.Test.YtofeeenjlaljpaaGreatChecked
import GoSem.Claim
import GoSem.ClaimJoined
import GoSem.ClaimMapViews
import Derived.JoinedTies
import Derived.KernelRfl
namespace Go.Proofs.YtofeeenjlaljpaaGreat
/- THE CELL 'sum', in the pinned program and in every row, IS THE sha256 OF THE DUMP (.gsa) THAT YtofeeenjlaljpaaGreatProg.lean LOADS. Nothing in Lean hashes anything: it is a label: what it is worth is what the hold of that sum in a sandbox is worth. -/
noncomputable def Tryz.pinned : Pinned := { name := "ytofeeenjlaljpaagreat", sum := "3fe3e55452642925141ce1a97ea4703fe86cc441395af9dd364e5ff4f63a8eb2", checked := Tryz.checked }
namespace Rows
def none {H : Type} : Left H := { results := [], args := [] }

/-- 'laws.FnExactDeductionResult': WHATEVER THE INPUT: true; the input reads as it did. -/
def fnExactDeductionResultSpec : ChangeSpec := { name := "fnExactDeductionResult", fn := fun _ => fun
  | [d] => { results := [.lit (.bool true)], args := [d] }
  | _ => none }
def fnExactDeductionResultRow : OpenClaim := { program := "ytofeeenjlaljpaagreat", sum := "3fe3e55452642925141ce1a97ea4703fe86cc441395af9dd364e5ff4f63a8eb2", func := "loop.example/g01089/laws.FnExactDeductionResult", spec := "fnExactDeductionResult", unfollowed := true, recurses := true, apart := false }
def FnExactDeductionResultSaid : Prop := fnExactDeductionResultRow.holds Tryz.pinned (OpenSpec.ofChange fnExactDeductionResultSpec)

/-- ITS FALSE NEIGHBOUR: 'it returns false'. Refute it at one input. -/
def fnExactDeductionResultWrong : ChangeSpec := { name := "fnExactDeductionResult", fn := fun _ => fun
  | [d] => { results := [.lit (.bool false)], args := [d] }
  | _ => none }
def FnExactDeductionResultWrongFalsely : Prop := fnExactDeductionResultRow.holds Tryz.pinned (OpenSpec.ofChange fnExactDeductionResultWrong)

/-- 'laws.FnExactDetoursOf': WHATEVER THE INPUT: true; the input reads as it did. -/
def fnExactDetoursOfSpec : ChangeSpec := { name := "fnExactDetoursOf", fn := fun _ => fun
  | [d] => { results := [.lit (.bool true)], args := [d] }
  | _ => none }
def fnExactDetoursOfRow : OpenClaim := { program := "ytofeeenjlaljpaagreat", sum := "3fe3e55452642925141ce1a97ea4703fe86cc441395af9dd364e5ff4f63a8eb2", func := "loop.example/g01089/laws.FnExactDetoursOf", spec := "fnExactDetoursOf", unfollowed := true, recurses := true, apart := false }
def FnExactDetoursOfSaid : Prop := fnExactDetoursOfRow.holds Tryz.pinned (OpenSpec.ofChange fnExactDetoursOfSpec)

/-- ITS FALSE NEIGHBOUR: 'it returns false'. Refute it at one input. -/
def fnExactDetoursOfWrong : ChangeSpec := { name := "fnExactDetoursOf", fn := fun _ => fun
  | [d] => { results := [.lit (.bool false)], args := [d] }
  | _ => none }
def FnExactDetoursOfWrongFalsely : Prop := fnExactDetoursOfRow.holds Tryz.pinned (OpenSpec.ofChange fnExactDetoursOfWrong)

/-- 'laws.FnExactDischargeLast': WHATEVER THE INPUT: true; the input reads as it did. -/
def fnExactDischargeLastSpec : ChangeSpec := { name := "fnExactDischargeLast", fn := fun _ => fun
  | [d] => { results := [.lit (.bool true)], args := [d] }
  | _ => none }
def fnExactDischargeLastRow : OpenClaim := { program := "ytofeeenjlaljpaagreat", sum := "3fe3e55452642925141ce1a97ea4703fe86cc441395af9dd364e5ff4f63a8eb2", func := "loop.example/g01089/laws.FnExactDischargeLast", spec := "fnExactDischargeLast", unfollowed := true, recurses := true, apart := false }
def FnExactDischargeLastSaid : Prop := fnExactDischargeLastRow.holds Tryz.pinned (OpenSpec.ofChange fnExactDischargeLastSpec)

/-- ITS FALSE NEIGHBOUR: 'it returns false'. Refute it at one input. -/
def fnExactDischargeLastWrong : ChangeSpec := { name := "fnExactDischargeLast", fn := fun _ => fun
  | [d] => { results := [.lit (.bool false)], args := [d] }
  | _ => none }
def FnExactDischargeLastWrongFalsely : Prop := fnExactDischargeLastRow.holds Tryz.pinned (OpenSpec.ofChange fnExactDischargeLastWrong)

/-- 'laws.FnExactDetachDeductions': WHATEVER THE INPUT: true; the input reads as it did. -/
def fnExactDetachDeductionsSpec : ChangeSpec := { name := "fnExactDetachDeductions", fn := fun _ => fun
  | [d1, d2] => { results := [.lit (.bool true)], args := [d1, d2] }
  | _ => none }
def fnExactDetachDeductionsRow : OpenClaim := { program := "ytofeeenjlaljpaagreat", sum := "3fe3e55452642925141ce1a97ea4703fe86cc441395af9dd364e5ff4f63a8eb2", func := "loop.example/g01089/laws.FnExactDetachDeductions", spec := "fnExactDetachDeductions", unfollowed := true, recurses := true, apart := false }
def FnExactDetachDeductionsSaid : Prop := fnExactDetachDeductionsRow.holds Tryz.pinned (OpenSpec.ofChange fnExactDetachDeductionsSpec)

/-- ITS FALSE NEIGHBOUR: 'it returns false'. Refute it at one input. -/
def fnExactDetachDeductionsWrong : ChangeSpec := { name := "fnExactDetachDeductions", fn := fun _ => fun
  | [d1, d2] => { results := [.lit (.bool false)], args := [d1, d2] }
  | _ => none }
def FnExactDetachDeductionsWrongFalsely : Prop := fnExactDetachDeductionsRow.holds Tryz.pinned (OpenSpec.ofChange fnExactDetachDeductionsWrong)

/-- 'laws.FnExactPruneDeduction': WHATEVER THE INPUT: true; the input reads as it did. -/
def fnExactPruneDeductionSpec : ChangeSpec := { name := "fnExactPruneDeduction", fn := fun _ => fun
  | [d] => { results := [.lit (.bool true)], args := [d] }
  | _ => none }
def fnExactPruneDeductionRow : OpenClaim := { program := "ytofeeenjlaljpaagreat", sum := "3fe3e55452642925141ce1a97ea4703fe86cc441395af9dd364e5ff4f63a8eb2", func := "loop.example/g01089/laws.FnExactPruneDeduction", spec := "fnExactPruneDeduction", unfollowed := true, recurses := true, apart := false }
def FnExactPruneDeductionSaid : Prop := fnExactPruneDeductionRow.holds Tryz.pinned (OpenSpec.ofChange fnExactPruneDeductionSpec)

/-- ITS FALSE NEIGHBOUR: 'it returns false'. Refute it at one input. -/
def fnExactPruneDeductionWrong : ChangeSpec := { name := "fnExactPruneDeduction", fn := fun _ => fun
  | [d] => { results := [.lit (.bool false)], args := [d] }
  | _ => none }
def FnExactPruneDeductionWrongFalsely : Prop := fnExactPruneDeductionRow.holds Tryz.pinned (OpenSpec.ofChange fnExactPruneDeductionWrong)

/-- 'laws.FnExactAssumeFirst': WHATEVER THE INPUT: true; the input reads as it did. -/
def fnExactAssumeFirstSpec : ChangeSpec := { name := "fnExactAssumeFirst", fn := fun _ => fun
  | [d1, d2] => { results := [.lit (.bool true)], args := [d1, d2] }
  | _ => none }
def fnExactAssumeFirstRow : OpenClaim := { program := "ytofeeenjlaljpaagreat", sum := "3fe3e55452642925141ce1a97ea4703fe86cc441395af9dd364e5ff4f63a8eb2", func := "loop.example/g01089/laws.FnExactAssumeFirst", spec := "fnExactAssumeFirst", inPlace := ["slices.overlaps[string]"], unfollowed := true, recurses := true, apart := false }
def FnExactAssumeFirstSaid : Prop := fnExactAssumeFirstRow.holds Tryz.pinned (OpenSpec.ofChange fnExactAssumeFirstSpec)

/-- ITS FALSE NEIGHBOUR: 'it returns false'. Refute it at one input. -/
def fnExactAssumeFirstWrong : ChangeSpec := { name := "fnExactAssumeFirst", fn := fun _ => fun
  | [d1, d2] => { results := [.lit (.bool false)], args := [d1, d2] }
  | _ => none }
def FnExactAssumeFirstWrongFalsely : Prop := fnExactAssumeFirstRow.holds Tryz.pinned (OpenSpec.ofChange fnExactAssumeFirstWrong)

/-- 'laws.FnExactUsedAssumptions': WHATEVER THE INPUT: true; the input reads as it did. -/
def fnExactUsedAssumptionsSpec : ChangeSpec := { name := "fnExactUsedAssumptions", fn := fun _ => fun
  | [d] => { results := [.lit (.bool true)], args := [d] }
  | _ => none }
def fnExactUsedAssumptionsRow : OpenClaim := { program := "ytofeeenjlaljpaagreat", sum := "3fe3e55452642925141ce1a97ea4703fe86cc441395af9dd364e5ff4f63a8eb2", func := "loop.example/g01089/laws.FnExactUsedAssumptions", spec := "fnExactUsedAssumptions", unfollowed := true, recurses := true, apart := false }
def FnExactUsedAssumptionsSaid : Prop := fnExactUsedAssumptionsRow.holds Tryz.pinned (OpenSpec.ofChange fnExactUsedAssumptionsSpec)

/-- ITS FALSE NEIGHBOUR: 'it returns false'. Refute it at one input. -/
def fnExactUsedAssumptionsWrong : ChangeSpec := { name := "fnExactUsedAssumptions", fn := fun _ => fun
  | [d] => { results := [.lit (.bool false)], args := [d] }
  | _ => none }
def FnExactUsedAssumptionsWrongFalsely : Prop := fnExactUsedAssumptionsRow.holds Tryz.pinned (OpenSpec.ofChange fnExactUsedAssumptionsWrong)

/- THE SECOND FORM. 'bulk': how many values and letters a reading holds, each counted each time it is reached (what is shared counts as often as it is met; a slice's spare places count too). A statement '..UptoSaid' is the law's where the arguments, and the package variables that the reading takes, are together of bulk at most 1048576: NARROWER than '..Said'. Prove '..Said' where nothing that the law and all that it calls make is longer than what came in: it says more and counts as full. Else prove '..UptoSaid'. A law counts once. -/
mutual
def uptoBulk {H : Type} : DataW H → Nat
  | .lit (.string bytes) => bytes.length + 1
  | .lit _ => 1
  | .nil => 1
  | .ptr d => uptoBulk d + 1
  | .slice elems spare => uptoBulkAll elems + uptoBulkAll spare + 1
  | .agg parts => uptoBulkAll parts + 1
  | .iface _ d => uptoBulk d + 1
  | .map entries => uptoBulkEntries entries + 1
  | .held _ => 1
def uptoBulkAll {H : Type} : List (DataW H) → Nat
  | [] => 0
  | d :: r => uptoBulk d + uptoBulkAll r
def uptoBulkEntries {H : Type} : List (Lit × DataW H) → Nat
  | [] => 0
  | x :: r => uptoBulkEntry x + uptoBulkEntries r
def uptoBulkEntry {H : Type} : Lit × DataW H → Nat
  | (.string bytes, d) => bytes.length + uptoBulk d + 1
  | (_, d) => uptoBulk d + 1
 end
def uptoSmall : (H : Type) → List (DataW H) → Bool := fun _ ds => decide (uptoBulkAll ds ≤ 1048576)
def OpenSpec.upto (s : _root_.Go.ChangeSpec) : _root_.Go.OpenSpec := { _root_.Go.OpenSpec.ofChange s with cond := some uptoSmall }

/-- 'laws.FnExactDeductionResult', WHERE WHAT IT READS IS OF BULK AT MOST 1048576: true; the input reads as it did. -/
def fnExactDeductionResultUptoRow : OpenClaim := { program := "ytofeeenjlaljpaagreat", sum := "3fe3e55452642925141ce1a97ea4703fe86cc441395af9dd364e5ff4f63a8eb2", func := "loop.example/g01089/laws.FnExactDeductionResult", spec := "fnExactDeductionResult", unfollowed := true, recurses := true, apart := false, narrowed := true }
def FnExactDeductionResultUptoSaid : Prop := fnExactDeductionResultUptoRow.holds Tryz.pinned (OpenSpec.upto fnExactDeductionResultSpec)

/-- 'laws.FnExactDetoursOf', WHERE WHAT IT READS IS OF BULK AT MOST 1048576: true; the input reads as it did. -/
def fnExactDetoursOfUptoRow : OpenClaim := { program := "ytofeeenjlaljpaagreat", sum := "3fe3e55452642925141ce1a97ea4703fe86cc441395af9dd364e5ff4f63a8eb2", func := "loop.example/g01089/laws.FnExactDetoursOf", spec := "fnExactDetoursOf", unfollowed := true, recurses := true, apart := false, narrowed := true }
def FnExactDetoursOfUptoSaid : Prop := fnExactDetoursOfUptoRow.holds Tryz.pinned (OpenSpec.upto fnExactDetoursOfSpec)

/-- 'laws.FnExactDischargeLast', WHERE WHAT IT READS IS OF BULK AT MOST 1048576: true; the input reads as it did. -/
def fnExactDischargeLastUptoRow : OpenClaim := { program := "ytofeeenjlaljpaagreat", sum := "3fe3e55452642925141ce1a97ea4703fe86cc441395af9dd364e5ff4f63a8eb2", func := "loop.example/g01089/laws.FnExactDischargeLast", spec := "fnExactDischargeLast", unfollowed := true, recurses := true, apart := false, narrowed := true }
def FnExactDischargeLastUptoSaid : Prop := fnExactDischargeLastUptoRow.holds Tryz.pinned (OpenSpec.upto fnExactDischargeLastSpec)

/-- 'laws.FnExactDetachDeductions', WHERE WHAT IT READS IS OF BULK AT MOST 1048576: true; the input reads as it did. -/
def fnExactDetachDeductionsUptoRow : OpenClaim := { program := "ytofeeenjlaljpaagreat", sum := "3fe3e55452642925141ce1a97ea4703fe86cc441395af9dd364e5ff4f63a8eb2", func := "loop.example/g01089/laws.FnExactDetachDeductions", spec := "fnExactDetachDeductions", unfollowed := true, recurses := true, apart := false, narrowed := true }
def FnExactDetachDeductionsUptoSaid : Prop := fnExactDetachDeductionsUptoRow.holds Tryz.pinned (OpenSpec.upto fnExactDetachDeductionsSpec)

/-- 'laws.FnExactPruneDeduction', WHERE WHAT IT READS IS OF BULK AT MOST 1048576: true; the input reads as it did. -/
def fnExactPruneDeductionUptoRow : OpenClaim := { program := "ytofeeenjlaljpaagreat", sum := "3fe3e55452642925141ce1a97ea4703fe86cc441395af9dd364e5ff4f63a8eb2", func := "loop.example/g01089/laws.FnExactPruneDeduction", spec := "fnExactPruneDeduction", unfollowed := true, recurses := true, apart := false, narrowed := true }
def FnExactPruneDeductionUptoSaid : Prop := fnExactPruneDeductionUptoRow.holds Tryz.pinned (OpenSpec.upto fnExactPruneDeductionSpec)

/-- 'laws.FnExactAssumeFirst', WHERE WHAT IT READS IS OF BULK AT MOST 1048576: true; the input reads as it did. -/
def fnExactAssumeFirstUptoRow : OpenClaim := { program := "ytofeeenjlaljpaagreat", sum := "3fe3e55452642925141ce1a97ea4703fe86cc441395af9dd364e5ff4f63a8eb2", func := "loop.example/g01089/laws.FnExactAssumeFirst", spec := "fnExactAssumeFirst", inPlace := ["slices.overlaps[string]"], unfollowed := true, recurses := true, apart := false, narrowed := true }
def FnExactAssumeFirstUptoSaid : Prop := fnExactAssumeFirstUptoRow.holds Tryz.pinned (OpenSpec.upto fnExactAssumeFirstSpec)

/-- 'laws.FnExactUsedAssumptions', WHERE WHAT IT READS IS OF BULK AT MOST 1048576: true; the input reads as it did. -/
def fnExactUsedAssumptionsUptoRow : OpenClaim := { program := "ytofeeenjlaljpaagreat", sum := "3fe3e55452642925141ce1a97ea4703fe86cc441395af9dd364e5ff4f63a8eb2", func := "loop.example/g01089/laws.FnExactUsedAssumptions", spec := "fnExactUsedAssumptions", unfollowed := true, recurses := true, apart := false, narrowed := true }
def FnExactUsedAssumptionsUptoSaid : Prop := fnExactUsedAssumptionsUptoRow.holds Tryz.pinned (OpenSpec.upto fnExactUsedAssumptionsSpec)

end Rows
end Go.Proofs.YtofeeenjlaljpaaGreat
