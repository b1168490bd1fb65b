/-
  No cell of these rows narrows 'for every input' (looked for: loops, veiled, ifaces, maps, wideKeys, modest, calm, conditions, laid).
  DERIVED. THE GIVEN ROWS OF THIS SEAT. 2 by the template 'for every input the law returns true; each argument reads behind the call as it read before'; 0 by the template 'total and deterministic' (their statements: YtfpkfgimhanekaaGreatTotals.lean).
  GIVEN WITH THE SEED: the statements are not yours to turn. If you find one false, say at which input.
  Laid BY PROGRAM, IN A SANDBOX (cutbox-rows.mjs): the forced cells as the released guide's own fill.sh prints them over the translation e43c25c931e4c5da… (all of the seat's roots in one cut). By AI agents, Wed Nov 11 2026. No macro, syntax, notation, axiom, sorry.
-/
import Derived.Test.YtfpkfgimhanekaaGreatChecked
import GoSem.Claim
import GoSem.ClaimJoined
import GoSem.ClaimMapViews
import Derived.JoinedTies
import Derived.KernelRfl
namespace Go.Proofs.YtfpkfgimhanekaaGreat
/- THE CELL 'sum', in the pinned program and in every row, IS THE sha256 OF THE DUMP (.gsa) THAT YtfpkfgimhanekaaGreatProg.lean LOADS. Nothing in Lean hashes anything: it is a label: what it is worth is what the hold of that sum in a sandbox is worth. -/
noncomputable def Tryz.pinned : Pinned := { name := "ytfpkfgimhanekaagreat", sum := "e43c25c931e4c5da62c0530a9483b7669e7c65196bb25206052c10e8ceca6dc1", checked := Tryz.checked }
namespace Rows
def none {H : Type} : Left H := { results := [], args := [] }

/-- 'laws.FnExactUsedNumbers': WHATEVER THE INPUT: true; the input reads as it did. -/
def fnExactUsedNumbersSpec : ChangeSpec := { name := "fnExactUsedNumbers", fn := fun _ => fun
  | [d1, d2] => { results := [.lit (.bool true)], args := [d1, d2] }
  | _ => none }
def fnExactUsedNumbersRow : OpenClaim := { program := "ytfpkfgimhanekaagreat", sum := "e43c25c931e4c5da62c0530a9483b7669e7c65196bb25206052c10e8ceca6dc1", func := "loop.example/g01089/laws.FnExactUsedNumbers", spec := "fnExactUsedNumbers", unfollowed := true, recurses := true, apart := false }
def FnExactUsedNumbersSaid : Prop := fnExactUsedNumbersRow.holds Tryz.pinned (OpenSpec.ofChange fnExactUsedNumbersSpec)

/-- ITS FALSE NEIGHBOUR: 'it returns false'. Refute it at one input. -/
def fnExactUsedNumbersWrong : ChangeSpec := { name := "fnExactUsedNumbers", fn := fun _ => fun
  | [d1, d2] => { results := [.lit (.bool false)], args := [d1, d2] }
  | _ => none }
def FnExactUsedNumbersWrongFalsely : Prop := fnExactUsedNumbersRow.holds Tryz.pinned (OpenSpec.ofChange fnExactUsedNumbersWrong)

/-- 'laws.FnExactSameNormal': WHATEVER THE INPUT: true; the input reads as it did. -/
def fnExactSameNormalSpec : ChangeSpec := { name := "fnExactSameNormal", fn := fun _ => fun
  | [d1, d2, d3] => { results := [.lit (.bool true)], args := [d1, d2, d3] }
  | _ => none }
def fnExactSameNormalRow : OpenClaim := { program := "ytfpkfgimhanekaagreat", sum := "e43c25c931e4c5da62c0530a9483b7669e7c65196bb25206052c10e8ceca6dc1", func := "loop.example/g01089/laws.FnExactSameNormal", spec := "fnExactSameNormal", unfollowed := true, recurses := true, apart := false }
def FnExactSameNormalSaid : Prop := fnExactSameNormalRow.holds Tryz.pinned (OpenSpec.ofChange fnExactSameNormalSpec)

/-- ITS FALSE NEIGHBOUR: 'it returns false'. Refute it at one input. -/
def fnExactSameNormalWrong : ChangeSpec := { name := "fnExactSameNormal", fn := fun _ => fun
  | [d1, d2, d3] => { results := [.lit (.bool false)], args := [d1, d2, d3] }
  | _ => none }
def FnExactSameNormalWrongFalsely : Prop := fnExactSameNormalRow.holds Tryz.pinned (OpenSpec.ofChange fnExactSameNormalWrong)

/- THE SECOND FORM. 'bulk': how many values and letters a reading holds, each counted each time it is reached (what is shared counts as often as it is met; a slice's spare places count too). A statement '..UptoSaid' is the law's where the arguments, and the package variables that the reading takes, are together of bulk at most 1048576: NARROWER than '..Said'. Prove '..Said' where nothing that the law and all that it calls make is longer than what came in: it says more and counts as full. Else prove '..UptoSaid'. A law counts once. -/
mutual
def uptoBulk {H : Type} : DataW H → Nat
  | .lit (.string bytes) => bytes.length + 1
  | .lit _ => 1
  | .nil => 1
  | .ptr d => uptoBulk d + 1
  | .slice elems spare => uptoBulkAll elems + uptoBulkAll spare + 1
  | .agg parts => uptoBulkAll parts + 1
  | .iface _ d => uptoBulk d + 1
  | .map entries => uptoBulkEntries entries + 1
  | .held _ => 1
def uptoBulkAll {H : Type} : List (DataW H) → Nat
  | [] => 0
  | d :: r => uptoBulk d + uptoBulkAll r
def uptoBulkEntries {H : Type} : List (Lit × DataW H) → Nat
  | [] => 0
  | x :: r => uptoBulkEntry x + uptoBulkEntries r
def uptoBulkEntry {H : Type} : Lit × DataW H → Nat
  | (.string bytes, d) => bytes.length + uptoBulk d + 1
  | (_, d) => uptoBulk d + 1
 end
def uptoSmall : (H : Type) → List (DataW H) → Bool := fun _ ds => decide (uptoBulkAll ds ≤ 1048576)
def OpenSpec.upto (s : _root_.Go.ChangeSpec) : _root_.Go.OpenSpec := { _root_.Go.OpenSpec.ofChange s with cond := some uptoSmall }

/-- 'laws.FnExactUsedNumbers', WHERE WHAT IT READS IS OF BULK AT MOST 1048576: true; the input reads as it did. -/
def fnExactUsedNumbersUptoRow : OpenClaim := { program := "ytfpkfgimhanekaagreat", sum := "e43c25c931e4c5da62c0530a9483b7669e7c65196bb25206052c10e8ceca6dc1", func := "loop.example/g01089/laws.FnExactUsedNumbers", spec := "fnExactUsedNumbers", unfollowed := true, recurses := true, apart := false, narrowed := true }
def FnExactUsedNumbersUptoSaid : Prop := fnExactUsedNumbersUptoRow.holds Tryz.pinned (OpenSpec.upto fnExactUsedNumbersSpec)

/-- 'laws.FnExactSameNormal', WHERE WHAT IT READS IS OF BULK AT MOST 1048576: true; the input reads as it did. -/
def fnExactSameNormalUptoRow : OpenClaim := { program := "ytfpkfgimhanekaagreat", sum := "e43c25c931e4c5da62c0530a9483b7669e7c65196bb25206052c10e8ceca6dc1", func := "loop.example/g01089/laws.FnExactSameNormal", spec := "fnExactSameNormal", unfollowed := true, recurses := true, apart := false, narrowed := true }
def FnExactSameNormalUptoSaid : Prop := fnExactSameNormalUptoRow.holds Tryz.pinned (OpenSpec.upto fnExactSameNormalSpec)

end Rows
end Go.Proofs.YtfpkfgimhanekaaGreat
