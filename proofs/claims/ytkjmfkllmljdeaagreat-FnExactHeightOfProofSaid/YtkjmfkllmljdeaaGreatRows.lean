/-
  No cell of these rows narrows 'for every input' (looked for: loops, veiled, ifaces, maps, wideKeys, modest, calm, conditions, laid).
  DERIVED. THE GIVEN ROWS OF THIS SEAT. 3 by the template 'for every input the law returns true; each argument reads behind the call as it read before'; 0 by the template 'total and deterministic' (their statements: YtkjmfkllmljdeaaGreatTotals.lean).
  GIVEN WITH THE SEED: the statements are not yours to turn. If you find one false, say at which input.
  Laid BY PROGRAM, IN A SANDBOX (cutbox-rows.mjs): the forced cells as the released guide's own fill.sh prints them over the translation d8e2a0f4175706e0… (all of the seat's roots in one cut). By AI agents, Wed Nov 11 2026. No macro, syntax, notation, axiom, sorry.
-/
import Derived.Test.YtkjmfkllmljdeaaGreatChecked
import GoSem.Claim
import GoSem.ClaimJoined
import GoSem.ClaimMapViews
import Derived.JoinedTies
import Derived.KernelRfl
namespace Go.Proofs.YtkjmfkllmljdeaaGreat
/- THE CELL 'sum', in the pinned program and in every row, IS THE sha256 OF THE DUMP (.gsa) THAT YtkjmfkllmljdeaaGreatProg.lean LOADS. Nothing in Lean hashes anything: it is a label: what it is worth is what the hold of that sum in a sandbox is worth. -/
noncomputable def Tryz.pinned : Pinned := { name := "ytkjmfkllmljdeaagreat", sum := "d8e2a0f4175706e0ece470b19cfe81578c4b78eac184efdb657a4e5ba31fca30", checked := Tryz.checked }
namespace Rows
def none {H : Type} : Left H := { results := [], args := [] }

/-- 'laws.FnExactFirstBadInference': WHATEVER THE INPUT: true; the input reads as it did. -/
def fnExactFirstBadInferenceSpec : ChangeSpec := { name := "fnExactFirstBadInference", fn := fun _ => fun
  | [d] => { results := [.lit (.bool true)], args := [d] }
  | _ => none }
def fnExactFirstBadInferenceRow : OpenClaim := { program := "ytkjmfkllmljdeaagreat", sum := "d8e2a0f4175706e0ece470b19cfe81578c4b78eac184efdb657a4e5ba31fca30", func := "loop.example/g01089/laws.FnExactFirstBadInference", spec := "fnExactFirstBadInference", unfollowed := true, recurses := true, apart := false }
def FnExactFirstBadInferenceSaid : Prop := fnExactFirstBadInferenceRow.holds Tryz.pinned (OpenSpec.ofChange fnExactFirstBadInferenceSpec)

/-- ITS FALSE NEIGHBOUR: 'it returns false'. Refute it at one input. -/
def fnExactFirstBadInferenceWrong : ChangeSpec := { name := "fnExactFirstBadInference", fn := fun _ => fun
  | [d] => { results := [.lit (.bool false)], args := [d] }
  | _ => none }
def FnExactFirstBadInferenceWrongFalsely : Prop := fnExactFirstBadInferenceRow.holds Tryz.pinned (OpenSpec.ofChange fnExactFirstBadInferenceWrong)

/-- 'laws.FnExactHeightOfProof': WHATEVER THE INPUT: true; the input reads as it did. -/
def fnExactHeightOfProofSpec : ChangeSpec := { name := "fnExactHeightOfProof", fn := fun _ => fun
  | [d] => { results := [.lit (.bool true)], args := [d] }
  | _ => none }
def fnExactHeightOfProofRow : OpenClaim := { program := "ytkjmfkllmljdeaagreat", sum := "d8e2a0f4175706e0ece470b19cfe81578c4b78eac184efdb657a4e5ba31fca30", func := "loop.example/g01089/laws.FnExactHeightOfProof", spec := "fnExactHeightOfProof", unfollowed := true, recurses := true, apart := false }
def FnExactHeightOfProofSaid : Prop := fnExactHeightOfProofRow.holds Tryz.pinned (OpenSpec.ofChange fnExactHeightOfProofSpec)

/-- ITS FALSE NEIGHBOUR: 'it returns false'. Refute it at one input. -/
def fnExactHeightOfProofWrong : ChangeSpec := { name := "fnExactHeightOfProof", fn := fun _ => fun
  | [d] => { results := [.lit (.bool false)], args := [d] }
  | _ => none }
def FnExactHeightOfProofWrongFalsely : Prop := fnExactHeightOfProofRow.holds Tryz.pinned (OpenSpec.ofChange fnExactHeightOfProofWrong)

/-- 'laws.FnExactRuleCounts': WHATEVER THE INPUT: true; the input reads as it did. -/
def fnExactRuleCountsSpec : ChangeSpec := { name := "fnExactRuleCounts", fn := fun _ => fun
  | [d] => { results := [.lit (.bool true)], args := [d] }
  | _ => none }
def fnExactRuleCountsRow : OpenClaim := { program := "ytkjmfkllmljdeaagreat", sum := "d8e2a0f4175706e0ece470b19cfe81578c4b78eac184efdb657a4e5ba31fca30", func := "loop.example/g01089/laws.FnExactRuleCounts", spec := "fnExactRuleCounts", unfollowed := true, recurses := true, apart := false }
def FnExactRuleCountsSaid : Prop := fnExactRuleCountsRow.holds Tryz.pinned (OpenSpec.ofChange fnExactRuleCountsSpec)

/-- ITS FALSE NEIGHBOUR: 'it returns false'. Refute it at one input. -/
def fnExactRuleCountsWrong : ChangeSpec := { name := "fnExactRuleCounts", fn := fun _ => fun
  | [d] => { results := [.lit (.bool false)], args := [d] }
  | _ => none }
def FnExactRuleCountsWrongFalsely : Prop := fnExactRuleCountsRow.holds Tryz.pinned (OpenSpec.ofChange fnExactRuleCountsWrong)

/- THE SECOND FORM. 'bulk': how many values and letters a reading holds, each counted each time it is reached (what is shared counts as often as it is met; a slice's spare places count too). A statement '..UptoSaid' is the law's where the arguments, and the package variables that the reading takes, are together of bulk at most 1048576: NARROWER than '..Said'. Prove '..Said' where nothing that the law and all that it calls make is longer than what came in: it says more and counts as full. Else prove '..UptoSaid'. A law counts once. -/
mutual
def uptoBulk {H : Type} : DataW H → Nat
  | .lit (.string bytes) => bytes.length + 1
  | .lit _ => 1
  | .nil => 1
  | .ptr d => uptoBulk d + 1
  | .slice elems spare => uptoBulkAll elems + uptoBulkAll spare + 1
  | .agg parts => uptoBulkAll parts + 1
  | .iface _ d => uptoBulk d + 1
  | .map entries => uptoBulkEntries entries + 1
  | .held _ => 1
def uptoBulkAll {H : Type} : List (DataW H) → Nat
  | [] => 0
  | d :: r => uptoBulk d + uptoBulkAll r
def uptoBulkEntries {H : Type} : List (Lit × DataW H) → Nat
  | [] => 0
  | x :: r => uptoBulkEntry x + uptoBulkEntries r
def uptoBulkEntry {H : Type} : Lit × DataW H → Nat
  | (.string bytes, d) => bytes.length + uptoBulk d + 1
  | (_, d) => uptoBulk d + 1
 end
def uptoSmall : (H : Type) → List (DataW H) → Bool := fun _ ds => decide (uptoBulkAll ds ≤ 1048576)
def OpenSpec.upto (s : _root_.Go.ChangeSpec) : _root_.Go.OpenSpec := { _root_.Go.OpenSpec.ofChange s with cond := some uptoSmall }

/-- 'laws.FnExactFirstBadInference', WHERE WHAT IT READS IS OF BULK AT MOST 1048576: true; the input reads as it did. -/
def fnExactFirstBadInferenceUptoRow : OpenClaim := { program := "ytkjmfkllmljdeaagreat", sum := "d8e2a0f4175706e0ece470b19cfe81578c4b78eac184efdb657a4e5ba31fca30", func := "loop.example/g01089/laws.FnExactFirstBadInference", spec := "fnExactFirstBadInference", unfollowed := true, recurses := true, apart := false, narrowed := true }
def FnExactFirstBadInferenceUptoSaid : Prop := fnExactFirstBadInferenceUptoRow.holds Tryz.pinned (OpenSpec.upto fnExactFirstBadInferenceSpec)

/-- 'laws.FnExactHeightOfProof', WHERE WHAT IT READS IS OF BULK AT MOST 1048576: true; the input reads as it did. -/
def fnExactHeightOfProofUptoRow : OpenClaim := { program := "ytkjmfkllmljdeaagreat", sum := "d8e2a0f4175706e0ece470b19cfe81578c4b78eac184efdb657a4e5ba31fca30", func := "loop.example/g01089/laws.FnExactHeightOfProof", spec := "fnExactHeightOfProof", unfollowed := true, recurses := true, apart := false, narrowed := true }
def FnExactHeightOfProofUptoSaid : Prop := fnExactHeightOfProofUptoRow.holds Tryz.pinned (OpenSpec.upto fnExactHeightOfProofSpec)

/-- 'laws.FnExactRuleCounts', WHERE WHAT IT READS IS OF BULK AT MOST 1048576: true; the input reads as it did. -/
def fnExactRuleCountsUptoRow : OpenClaim := { program := "ytkjmfkllmljdeaagreat", sum := "d8e2a0f4175706e0ece470b19cfe81578c4b78eac184efdb657a4e5ba31fca30", func := "loop.example/g01089/laws.FnExactRuleCounts", spec := "fnExactRuleCounts", unfollowed := true, recurses := true, apart := false, narrowed := true }
def FnExactRuleCountsUptoSaid : Prop := fnExactRuleCountsUptoRow.holds Tryz.pinned (OpenSpec.upto fnExactRuleCountsSpec)

end Rows
end Go.Proofs.YtkjmfkllmljdeaaGreat
