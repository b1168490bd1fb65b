/-
  No cell of these rows narrows 'for every input' (looked for: loops, veiled, ifaces, maps, wideKeys, modest, calm, conditions, laid).
  DERIVED. THE GIVEN ROWS OF THIS SEAT. 8 by the template 'for every input the law returns true; each argument reads behind the call as it read before'; 0 by the template 'total and deterministic' (their statements: YthofkdpmgjkgkaaGreatTotals.lean).
  GIVEN WITH THE SEED: the statements are not yours to turn. If you find one false, say at which input.
  Laid BY PROGRAM, IN A SANDBOX (cutbox-rows.mjs): the forced cells as the released guide's own fill.sh prints them over the translation 0d502c3cb1ecc550… (all of the seat's roots in one cut). By AI agents, Wed Nov 11 2026. No macro, syntax, notation, axiom, sorry.
-/
import Derived.Test.YthofkdpmgjkgkaaGreatChecked
import GoSem.Claim
import GoSem.ClaimJoined
import GoSem.ClaimMapViews
import Derived.JoinedTies
import Derived.KernelRfl
namespace Go.Proofs.YthofkdpmgjkgkaaGreat
/- THE CELL 'sum', in the pinned program and in every row, IS THE sha256 OF THE DUMP (.gsa) THAT YthofkdpmgjkgkaaGreatProg.lean LOADS. Nothing in Lean hashes anything: it is a label: what it is worth is what the hold of that sum in a sandbox is worth. -/
noncomputable def Tryz.pinned : Pinned := { name := "ythofkdpmgjkgkaagreat", sum := "0d502c3cb1ecc550079d55fb9f0de83e3f6f9b318eef871c2ccebcd6ba19356f", checked := Tryz.checked }
namespace Rows
def none {H : Type} : Left H := { results := [], args := [] }

/-- 'laws.FnExactPutTerm': WHATEVER THE INPUT: true; the input reads as it did. -/
def fnExactPutTermSpec : ChangeSpec := { name := "fnExactPutTerm", fn := fun _ => fun
  | [d1, d2, d3] => { results := [.lit (.bool true)], args := [d1, d2, d3] }
  | _ => none }
def fnExactPutTermRow : OpenClaim := { program := "ythofkdpmgjkgkaagreat", sum := "0d502c3cb1ecc550079d55fb9f0de83e3f6f9b318eef871c2ccebcd6ba19356f", func := "loop.example/g01089/laws.FnExactPutTerm", spec := "fnExactPutTerm", unfollowed := true, recurses := true, apart := false }
def FnExactPutTermSaid : Prop := fnExactPutTermRow.holds Tryz.pinned (OpenSpec.ofChange fnExactPutTermSpec)

/-- ITS FALSE NEIGHBOUR: 'it returns false'. Refute it at one input. -/
def fnExactPutTermWrong : ChangeSpec := { name := "fnExactPutTerm", fn := fun _ => fun
  | [d1, d2, d3] => { results := [.lit (.bool false)], args := [d1, d2, d3] }
  | _ => none }
def FnExactPutTermWrongFalsely : Prop := fnExactPutTermRow.holds Tryz.pinned (OpenSpec.ofChange fnExactPutTermWrong)

/-- 'laws.FnExactTypeOfTerm': WHATEVER THE INPUT: true; the input reads as it did. -/
def fnExactTypeOfTermSpec : ChangeSpec := { name := "fnExactTypeOfTerm", fn := fun _ => fun
  | [d1, d2] => { results := [.lit (.bool true)], args := [d1, d2] }
  | _ => none }
def fnExactTypeOfTermRow : OpenClaim := { program := "ythofkdpmgjkgkaagreat", sum := "0d502c3cb1ecc550079d55fb9f0de83e3f6f9b318eef871c2ccebcd6ba19356f", func := "loop.example/g01089/laws.FnExactTypeOfTerm", spec := "fnExactTypeOfTerm", unfollowed := true, recurses := true, apart := false }
def FnExactTypeOfTermSaid : Prop := fnExactTypeOfTermRow.holds Tryz.pinned (OpenSpec.ofChange fnExactTypeOfTermSpec)

/-- ITS FALSE NEIGHBOUR: 'it returns false'. Refute it at one input. -/
def fnExactTypeOfTermWrong : ChangeSpec := { name := "fnExactTypeOfTerm", fn := fun _ => fun
  | [d1, d2] => { results := [.lit (.bool false)], args := [d1, d2] }
  | _ => none }
def FnExactTypeOfTermWrongFalsely : Prop := fnExactTypeOfTermRow.holds Tryz.pinned (OpenSpec.ofChange fnExactTypeOfTermWrong)

/-- 'laws.FnExactContractAt': WHATEVER THE INPUT: true; the input reads as it did. -/
def fnExactContractAtSpec : ChangeSpec := { name := "fnExactContractAt", fn := fun _ => fun
  | [d1, d2, d3] => { results := [.lit (.bool true)], args := [d1, d2, d3] }
  | _ => none }
def fnExactContractAtRow : OpenClaim := { program := "ythofkdpmgjkgkaagreat", sum := "0d502c3cb1ecc550079d55fb9f0de83e3f6f9b318eef871c2ccebcd6ba19356f", func := "loop.example/g01089/laws.FnExactContractAt", spec := "fnExactContractAt", unfollowed := true, recurses := true, apart := false }
def FnExactContractAtSaid : Prop := fnExactContractAtRow.holds Tryz.pinned (OpenSpec.ofChange fnExactContractAtSpec)

/-- ITS FALSE NEIGHBOUR: 'it returns false'. Refute it at one input. -/
def fnExactContractAtWrong : ChangeSpec := { name := "fnExactContractAt", fn := fun _ => fun
  | [d1, d2, d3] => { results := [.lit (.bool false)], args := [d1, d2, d3] }
  | _ => none }
def FnExactContractAtWrongFalsely : Prop := fnExactContractAtRow.holds Tryz.pinned (OpenSpec.ofChange fnExactContractAtWrong)

/-- 'laws.FnExactUsedNumbers': WHATEVER THE INPUT: true; the input reads as it did. -/
def fnExactUsedNumbersSpec : ChangeSpec := { name := "fnExactUsedNumbers", fn := fun _ => fun
  | [d1, d2] => { results := [.lit (.bool true)], args := [d1, d2] }
  | _ => none }
def fnExactUsedNumbersRow : OpenClaim := { program := "ythofkdpmgjkgkaagreat", sum := "0d502c3cb1ecc550079d55fb9f0de83e3f6f9b318eef871c2ccebcd6ba19356f", func := "loop.example/g01089/laws.FnExactUsedNumbers", spec := "fnExactUsedNumbers", unfollowed := true, recurses := true, apart := false }
def FnExactUsedNumbersSaid : Prop := fnExactUsedNumbersRow.holds Tryz.pinned (OpenSpec.ofChange fnExactUsedNumbersSpec)

/-- ITS FALSE NEIGHBOUR: 'it returns false'. Refute it at one input. -/
def fnExactUsedNumbersWrong : ChangeSpec := { name := "fnExactUsedNumbers", fn := fun _ => fun
  | [d1, d2] => { results := [.lit (.bool false)], args := [d1, d2] }
  | _ => none }
def FnExactUsedNumbersWrongFalsely : Prop := fnExactUsedNumbersRow.holds Tryz.pinned (OpenSpec.ofChange fnExactUsedNumbersWrong)

/-- 'laws.FnExactCountReductions': WHATEVER THE INPUT: true; the input reads as it did. -/
def fnExactCountReductionsSpec : ChangeSpec := { name := "fnExactCountReductions", fn := fun _ => fun
  | [d1, d2] => { results := [.lit (.bool true)], args := [d1, d2] }
  | _ => none }
def fnExactCountReductionsRow : OpenClaim := { program := "ythofkdpmgjkgkaagreat", sum := "0d502c3cb1ecc550079d55fb9f0de83e3f6f9b318eef871c2ccebcd6ba19356f", func := "loop.example/g01089/laws.FnExactCountReductions", spec := "fnExactCountReductions", unfollowed := true, recurses := true, apart := false }
def FnExactCountReductionsSaid : Prop := fnExactCountReductionsRow.holds Tryz.pinned (OpenSpec.ofChange fnExactCountReductionsSpec)

/-- ITS FALSE NEIGHBOUR: 'it returns false'. Refute it at one input. -/
def fnExactCountReductionsWrong : ChangeSpec := { name := "fnExactCountReductions", fn := fun _ => fun
  | [d1, d2] => { results := [.lit (.bool false)], args := [d1, d2] }
  | _ => none }
def FnExactCountReductionsWrongFalsely : Prop := fnExactCountReductionsRow.holds Tryz.pinned (OpenSpec.ofChange fnExactCountReductionsWrong)

/-- 'laws.FnExactNormalTerm': WHATEVER THE INPUT: true; the input reads as it did. -/
def fnExactNormalTermSpec : ChangeSpec := { name := "fnExactNormalTerm", fn := fun _ => fun
  | [d1, d2] => { results := [.lit (.bool true)], args := [d1, d2] }
  | _ => none }
def fnExactNormalTermRow : OpenClaim := { program := "ythofkdpmgjkgkaagreat", sum := "0d502c3cb1ecc550079d55fb9f0de83e3f6f9b318eef871c2ccebcd6ba19356f", func := "loop.example/g01089/laws.FnExactNormalTerm", spec := "fnExactNormalTerm", unfollowed := true, recurses := true, apart := false }
def FnExactNormalTermSaid : Prop := fnExactNormalTermRow.holds Tryz.pinned (OpenSpec.ofChange fnExactNormalTermSpec)

/-- ITS FALSE NEIGHBOUR: 'it returns false'. Refute it at one input. -/
def fnExactNormalTermWrong : ChangeSpec := { name := "fnExactNormalTerm", fn := fun _ => fun
  | [d1, d2] => { results := [.lit (.bool false)], args := [d1, d2] }
  | _ => none }
def FnExactNormalTermWrongFalsely : Prop := fnExactNormalTermRow.holds Tryz.pinned (OpenSpec.ofChange fnExactNormalTermWrong)

/-- 'laws.FnExactSameNormal': WHATEVER THE INPUT: true; the input reads as it did. -/
def fnExactSameNormalSpec : ChangeSpec := { name := "fnExactSameNormal", fn := fun _ => fun
  | [d1, d2, d3] => { results := [.lit (.bool true)], args := [d1, d2, d3] }
  | _ => none }
def fnExactSameNormalRow : OpenClaim := { program := "ythofkdpmgjkgkaagreat", sum := "0d502c3cb1ecc550079d55fb9f0de83e3f6f9b318eef871c2ccebcd6ba19356f", func := "loop.example/g01089/laws.FnExactSameNormal", spec := "fnExactSameNormal", unfollowed := true, recurses := true, apart := false }
def FnExactSameNormalSaid : Prop := fnExactSameNormalRow.holds Tryz.pinned (OpenSpec.ofChange fnExactSameNormalSpec)

/-- ITS FALSE NEIGHBOUR: 'it returns false'. Refute it at one input. -/
def fnExactSameNormalWrong : ChangeSpec := { name := "fnExactSameNormal", fn := fun _ => fun
  | [d1, d2, d3] => { results := [.lit (.bool false)], args := [d1, d2, d3] }
  | _ => none }
def FnExactSameNormalWrongFalsely : Prop := fnExactSameNormalRow.holds Tryz.pinned (OpenSpec.ofChange fnExactSameNormalWrong)

/-- 'laws.FnSubjectReduction': WHATEVER THE INPUT: true; the input reads as it did. -/
def fnSubjectReductionSpec : ChangeSpec := { name := "fnSubjectReduction", fn := fun _ => fun
  | [d] => { results := [.lit (.bool true)], args := [d] }
  | _ => none }
def fnSubjectReductionRow : OpenClaim := { program := "ythofkdpmgjkgkaagreat", sum := "0d502c3cb1ecc550079d55fb9f0de83e3f6f9b318eef871c2ccebcd6ba19356f", func := "loop.example/g01089/laws.FnSubjectReduction", spec := "fnSubjectReduction", unfollowed := true, recurses := true, apart := false }
def FnSubjectReductionSaid : Prop := fnSubjectReductionRow.holds Tryz.pinned (OpenSpec.ofChange fnSubjectReductionSpec)

/-- ITS FALSE NEIGHBOUR: 'it returns false'. Refute it at one input. -/
def fnSubjectReductionWrong : ChangeSpec := { name := "fnSubjectReduction", fn := fun _ => fun
  | [d] => { results := [.lit (.bool false)], args := [d] }
  | _ => none }
def FnSubjectReductionWrongFalsely : Prop := fnSubjectReductionRow.holds Tryz.pinned (OpenSpec.ofChange fnSubjectReductionWrong)

/- THE SECOND FORM. 'bulk': how many values and letters a reading holds, each counted each time it is reached (what is shared counts as often as it is met; a slice's spare places count too). A statement '..UptoSaid' is the law's where the arguments, and the package variables that the reading takes, are together of bulk at most 1048576: NARROWER than '..Said'. Prove '..Said' where nothing that the law and all that it calls make is longer than what came in: it says more and counts as full. Else prove '..UptoSaid'. A law counts once. -/
mutual
def uptoBulk {H : Type} : DataW H → Nat
  | .lit (.string bytes) => bytes.length + 1
  | .lit _ => 1
  | .nil => 1
  | .ptr d => uptoBulk d + 1
  | .slice elems spare => uptoBulkAll elems + uptoBulkAll spare + 1
  | .agg parts => uptoBulkAll parts + 1
  | .iface _ d => uptoBulk d + 1
  | .map entries => uptoBulkEntries entries + 1
  | .held _ => 1
def uptoBulkAll {H : Type} : List (DataW H) → Nat
  | [] => 0
  | d :: r => uptoBulk d + uptoBulkAll r
def uptoBulkEntries {H : Type} : List (Lit × DataW H) → Nat
  | [] => 0
  | x :: r => uptoBulkEntry x + uptoBulkEntries r
def uptoBulkEntry {H : Type} : Lit × DataW H → Nat
  | (.string bytes, d) => bytes.length + uptoBulk d + 1
  | (_, d) => uptoBulk d + 1
 end
def uptoSmall : (H : Type) → List (DataW H) → Bool := fun _ ds => decide (uptoBulkAll ds ≤ 1048576)
def OpenSpec.upto (s : _root_.Go.ChangeSpec) : _root_.Go.OpenSpec := { _root_.Go.OpenSpec.ofChange s with cond := some uptoSmall }

/-- 'laws.FnExactPutTerm', WHERE WHAT IT READS IS OF BULK AT MOST 1048576: true; the input reads as it did. -/
def fnExactPutTermUptoRow : OpenClaim := { program := "ythofkdpmgjkgkaagreat", sum := "0d502c3cb1ecc550079d55fb9f0de83e3f6f9b318eef871c2ccebcd6ba19356f", func := "loop.example/g01089/laws.FnExactPutTerm", spec := "fnExactPutTerm", unfollowed := true, recurses := true, apart := false, narrowed := true }
def FnExactPutTermUptoSaid : Prop := fnExactPutTermUptoRow.holds Tryz.pinned (OpenSpec.upto fnExactPutTermSpec)

/-- 'laws.FnExactTypeOfTerm', WHERE WHAT IT READS IS OF BULK AT MOST 1048576: true; the input reads as it did. -/
def fnExactTypeOfTermUptoRow : OpenClaim := { program := "ythofkdpmgjkgkaagreat", sum := "0d502c3cb1ecc550079d55fb9f0de83e3f6f9b318eef871c2ccebcd6ba19356f", func := "loop.example/g01089/laws.FnExactTypeOfTerm", spec := "fnExactTypeOfTerm", unfollowed := true, recurses := true, apart := false, narrowed := true }
def FnExactTypeOfTermUptoSaid : Prop := fnExactTypeOfTermUptoRow.holds Tryz.pinned (OpenSpec.upto fnExactTypeOfTermSpec)

/-- 'laws.FnExactContractAt', WHERE WHAT IT READS IS OF BULK AT MOST 1048576: true; the input reads as it did. -/
def fnExactContractAtUptoRow : OpenClaim := { program := "ythofkdpmgjkgkaagreat", sum := "0d502c3cb1ecc550079d55fb9f0de83e3f6f9b318eef871c2ccebcd6ba19356f", func := "loop.example/g01089/laws.FnExactContractAt", spec := "fnExactContractAt", unfollowed := true, recurses := true, apart := false, narrowed := true }
def FnExactContractAtUptoSaid : Prop := fnExactContractAtUptoRow.holds Tryz.pinned (OpenSpec.upto fnExactContractAtSpec)

/-- 'laws.FnExactUsedNumbers', WHERE WHAT IT READS IS OF BULK AT MOST 1048576: true; the input reads as it did. -/
def fnExactUsedNumbersUptoRow : OpenClaim := { program := "ythofkdpmgjkgkaagreat", sum := "0d502c3cb1ecc550079d55fb9f0de83e3f6f9b318eef871c2ccebcd6ba19356f", func := "loop.example/g01089/laws.FnExactUsedNumbers", spec := "fnExactUsedNumbers", unfollowed := true, recurses := true, apart := false, narrowed := true }
def FnExactUsedNumbersUptoSaid : Prop := fnExactUsedNumbersUptoRow.holds Tryz.pinned (OpenSpec.upto fnExactUsedNumbersSpec)

/-- 'laws.FnExactCountReductions', WHERE WHAT IT READS IS OF BULK AT MOST 1048576: true; the input reads as it did. -/
def fnExactCountReductionsUptoRow : OpenClaim := { program := "ythofkdpmgjkgkaagreat", sum := "0d502c3cb1ecc550079d55fb9f0de83e3f6f9b318eef871c2ccebcd6ba19356f", func := "loop.example/g01089/laws.FnExactCountReductions", spec := "fnExactCountReductions", unfollowed := true, recurses := true, apart := false, narrowed := true }
def FnExactCountReductionsUptoSaid : Prop := fnExactCountReductionsUptoRow.holds Tryz.pinned (OpenSpec.upto fnExactCountReductionsSpec)

/-- 'laws.FnExactNormalTerm', WHERE WHAT IT READS IS OF BULK AT MOST 1048576: true; the input reads as it did. -/
def fnExactNormalTermUptoRow : OpenClaim := { program := "ythofkdpmgjkgkaagreat", sum := "0d502c3cb1ecc550079d55fb9f0de83e3f6f9b318eef871c2ccebcd6ba19356f", func := "loop.example/g01089/laws.FnExactNormalTerm", spec := "fnExactNormalTerm", unfollowed := true, recurses := true, apart := false, narrowed := true }
def FnExactNormalTermUptoSaid : Prop := fnExactNormalTermUptoRow.holds Tryz.pinned (OpenSpec.upto fnExactNormalTermSpec)

/-- 'laws.FnExactSameNormal', WHERE WHAT IT READS IS OF BULK AT MOST 1048576: true; the input reads as it did. -/
def fnExactSameNormalUptoRow : OpenClaim := { program := "ythofkdpmgjkgkaagreat", sum := "0d502c3cb1ecc550079d55fb9f0de83e3f6f9b318eef871c2ccebcd6ba19356f", func := "loop.example/g01089/laws.FnExactSameNormal", spec := "fnExactSameNormal", unfollowed := true, recurses := true, apart := false, narrowed := true }
def FnExactSameNormalUptoSaid : Prop := fnExactSameNormalUptoRow.holds Tryz.pinned (OpenSpec.upto fnExactSameNormalSpec)

/-- 'laws.FnSubjectReduction', WHERE WHAT IT READS IS OF BULK AT MOST 1048576: true; the input reads as it did. -/
def fnSubjectReductionUptoRow : OpenClaim := { program := "ythofkdpmgjkgkaagreat", sum := "0d502c3cb1ecc550079d55fb9f0de83e3f6f9b318eef871c2ccebcd6ba19356f", func := "loop.example/g01089/laws.FnSubjectReduction", spec := "fnSubjectReduction", unfollowed := true, recurses := true, apart := false, narrowed := true }
def FnSubjectReductionUptoSaid : Prop := fnSubjectReductionUptoRow.holds Tryz.pinned (OpenSpec.upto fnSubjectReductionSpec)

end Rows
end Go.Proofs.YthofkdpmgjkgkaaGreat
