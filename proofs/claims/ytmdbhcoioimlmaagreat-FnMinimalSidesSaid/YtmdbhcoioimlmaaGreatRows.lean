/-
  No cell of these rows narrows 'for every input' (looked for: loops, veiled, ifaces, maps, wideKeys, modest, calm, conditions, laid).
  DERIVED. THE GIVEN ROWS OF THIS SEAT. 7 by the template 'for every input the law returns true; each argument reads behind the call as it read before'; 0 by the template 'total and deterministic' (their statements: YtmdbhcoioimlmaaGreatTotals.lean).
  GIVEN WITH THE SEED: the statements are not yours to turn. If you find one false, say at which input.
  Laid BY PROGRAM, IN A SANDBOX (cutbox-rows.mjs): the forced cells as the released guide's own fill.sh prints them over the translation 7fc32dfef4d160d4… (all of the seat's roots in one cut). By AI agents, Wed Nov 11 2026. No macro, syntax, notation, axiom, sorry.
-/
import Derived.Test.YtmdbhcoioimlmaaGreatChecked
import GoSem.Claim
import GoSem.ClaimJoined
import GoSem.ClaimMapViews
import Derived.JoinedTies
import Derived.KernelRfl
namespace Go.Proofs.YtmdbhcoioimlmaaGreat
/- THE CELL 'sum', in the pinned program and in every row, IS THE sha256 OF THE DUMP (.gsa) THAT YtmdbhcoioimlmaaGreatProg.lean LOADS. Nothing in Lean hashes anything: it is a label: what it is worth is what the hold of that sum in a sandbox is worth. -/
noncomputable def Tryz.pinned : Pinned := { name := "ytmdbhcoioimlmaagreat", sum := "7fc32dfef4d160d47474321f3973e16b0d010aecc8807ebd4a8ec1bed210ae9a", checked := Tryz.checked }
namespace Rows
def none {H : Type} : Left H := { results := [], args := [] }

/-- 'laws.FnExactProves': WHATEVER THE INPUT: true; the input reads as it did. -/
def fnExactProvesSpec : ChangeSpec := { name := "fnExactProves", fn := fun _ => fun
  | [d1, d2] => { results := [.lit (.bool true)], args := [d1, d2] }
  | _ => none }
def fnExactProvesRow : OpenClaim := { program := "ytmdbhcoioimlmaagreat", sum := "7fc32dfef4d160d47474321f3973e16b0d010aecc8807ebd4a8ec1bed210ae9a", func := "loop.example/g01089/laws.FnExactProves", spec := "fnExactProves", unfollowed := true, recurses := true, apart := false }
def FnExactProvesSaid : Prop := fnExactProvesRow.holds Tryz.pinned (OpenSpec.ofChange fnExactProvesSpec)

/-- ITS FALSE NEIGHBOUR: 'it returns false'. Refute it at one input. -/
def fnExactProvesWrong : ChangeSpec := { name := "fnExactProves", fn := fun _ => fun
  | [d1, d2] => { results := [.lit (.bool false)], args := [d1, d2] }
  | _ => none }
def FnExactProvesWrongFalsely : Prop := fnExactProvesRow.holds Tryz.pinned (OpenSpec.ofChange fnExactProvesWrong)

/-- 'laws.FnExactIsDirect': WHATEVER THE INPUT: true; the input reads as it did. -/
def fnExactIsDirectSpec : ChangeSpec := { name := "fnExactIsDirect", fn := fun _ => fun
  | [d1, d2] => { results := [.lit (.bool true)], args := [d1, d2] }
  | _ => none }
def fnExactIsDirectRow : OpenClaim := { program := "ytmdbhcoioimlmaagreat", sum := "7fc32dfef4d160d47474321f3973e16b0d010aecc8807ebd4a8ec1bed210ae9a", func := "loop.example/g01089/laws.FnExactIsDirect", spec := "fnExactIsDirect", unfollowed := true, recurses := true, apart := false }
def FnExactIsDirectSaid : Prop := fnExactIsDirectRow.holds Tryz.pinned (OpenSpec.ofChange fnExactIsDirectSpec)

/-- ITS FALSE NEIGHBOUR: 'it returns false'. Refute it at one input. -/
def fnExactIsDirectWrong : ChangeSpec := { name := "fnExactIsDirect", fn := fun _ => fun
  | [d1, d2] => { results := [.lit (.bool false)], args := [d1, d2] }
  | _ => none }
def FnExactIsDirectWrongFalsely : Prop := fnExactIsDirectRow.holds Tryz.pinned (OpenSpec.ofChange fnExactIsDirectWrong)

/-- 'laws.FnExactProvedDisjunct': WHATEVER THE INPUT: true; the input reads as it did. -/
def fnExactProvedDisjunctSpec : ChangeSpec := { name := "fnExactProvedDisjunct", fn := fun _ => fun
  | [d1, d2, d3] => { results := [.lit (.bool true)], args := [d1, d2, d3] }
  | _ => none }
def fnExactProvedDisjunctRow : OpenClaim := { program := "ytmdbhcoioimlmaagreat", sum := "7fc32dfef4d160d47474321f3973e16b0d010aecc8807ebd4a8ec1bed210ae9a", func := "loop.example/g01089/laws.FnExactProvedDisjunct", spec := "fnExactProvedDisjunct", unfollowed := true, recurses := true, apart := false }
def FnExactProvedDisjunctSaid : Prop := fnExactProvedDisjunctRow.holds Tryz.pinned (OpenSpec.ofChange fnExactProvedDisjunctSpec)

/-- ITS FALSE NEIGHBOUR: 'it returns false'. Refute it at one input. -/
def fnExactProvedDisjunctWrong : ChangeSpec := { name := "fnExactProvedDisjunct", fn := fun _ => fun
  | [d1, d2, d3] => { results := [.lit (.bool false)], args := [d1, d2, d3] }
  | _ => none }
def FnExactProvedDisjunctWrongFalsely : Prop := fnExactProvedDisjunctRow.holds Tryz.pinned (OpenSpec.ofChange fnExactProvedDisjunctWrong)

/-- 'laws.FnExactConsequencesOf': WHATEVER THE INPUT: true; the input reads as it did. -/
def fnExactConsequencesOfSpec : ChangeSpec := { name := "fnExactConsequencesOf", fn := fun _ => fun
  | [d1, d2] => { results := [.lit (.bool true)], args := [d1, d2] }
  | _ => none }
def fnExactConsequencesOfRow : OpenClaim := { program := "ytmdbhcoioimlmaagreat", sum := "7fc32dfef4d160d47474321f3973e16b0d010aecc8807ebd4a8ec1bed210ae9a", func := "loop.example/g01089/laws.FnExactConsequencesOf", spec := "fnExactConsequencesOf", unfollowed := true, recurses := true, apart := false }
def FnExactConsequencesOfSaid : Prop := fnExactConsequencesOfRow.holds Tryz.pinned (OpenSpec.ofChange fnExactConsequencesOfSpec)

/-- ITS FALSE NEIGHBOUR: 'it returns false'. Refute it at one input. -/
def fnExactConsequencesOfWrong : ChangeSpec := { name := "fnExactConsequencesOf", fn := fun _ => fun
  | [d1, d2] => { results := [.lit (.bool false)], args := [d1, d2] }
  | _ => none }
def FnExactConsequencesOfWrongFalsely : Prop := fnExactConsequencesOfRow.holds Tryz.pinned (OpenSpec.ofChange fnExactConsequencesOfWrong)

/-- 'laws.FnExactMinimalLeft': WHATEVER THE INPUT: true; the input reads as it did. -/
def fnExactMinimalLeftSpec : ChangeSpec := { name := "fnExactMinimalLeft", fn := fun _ => fun
  | [d1, d2] => { results := [.lit (.bool true)], args := [d1, d2] }
  | _ => none }
def fnExactMinimalLeftRow : OpenClaim := { program := "ytmdbhcoioimlmaagreat", sum := "7fc32dfef4d160d47474321f3973e16b0d010aecc8807ebd4a8ec1bed210ae9a", func := "loop.example/g01089/laws.FnExactMinimalLeft", spec := "fnExactMinimalLeft", unfollowed := true, recurses := true, apart := false }
def FnExactMinimalLeftSaid : Prop := fnExactMinimalLeftRow.holds Tryz.pinned (OpenSpec.ofChange fnExactMinimalLeftSpec)

/-- ITS FALSE NEIGHBOUR: 'it returns false'. Refute it at one input. -/
def fnExactMinimalLeftWrong : ChangeSpec := { name := "fnExactMinimalLeft", fn := fun _ => fun
  | [d1, d2] => { results := [.lit (.bool false)], args := [d1, d2] }
  | _ => none }
def FnExactMinimalLeftWrongFalsely : Prop := fnExactMinimalLeftRow.holds Tryz.pinned (OpenSpec.ofChange fnExactMinimalLeftWrong)

/-- 'laws.FnDisjunctions': WHATEVER THE INPUT: true; the input reads as it did. -/
def fnDisjunctionsSpec : ChangeSpec := { name := "fnDisjunctions", fn := fun _ => fun
  | [d] => { results := [.lit (.bool true)], args := [d] }
  | _ => none }
def fnDisjunctionsRow : OpenClaim := { program := "ytmdbhcoioimlmaagreat", sum := "7fc32dfef4d160d47474321f3973e16b0d010aecc8807ebd4a8ec1bed210ae9a", func := "loop.example/g01089/laws.FnDisjunctions", spec := "fnDisjunctions", unfollowed := true, recurses := true, apart := false }
def FnDisjunctionsSaid : Prop := fnDisjunctionsRow.holds Tryz.pinned (OpenSpec.ofChange fnDisjunctionsSpec)

/-- ITS FALSE NEIGHBOUR: 'it returns false'. Refute it at one input. -/
def fnDisjunctionsWrong : ChangeSpec := { name := "fnDisjunctions", fn := fun _ => fun
  | [d] => { results := [.lit (.bool false)], args := [d] }
  | _ => none }
def FnDisjunctionsWrongFalsely : Prop := fnDisjunctionsRow.holds Tryz.pinned (OpenSpec.ofChange fnDisjunctionsWrong)

/-- 'laws.FnMinimalSides': WHATEVER THE INPUT: true; the input reads as it did. -/
def fnMinimalSidesSpec : ChangeSpec := { name := "fnMinimalSides", fn := fun _ => fun
  | [d] => { results := [.lit (.bool true)], args := [d] }
  | _ => none }
def fnMinimalSidesRow : OpenClaim := { program := "ytmdbhcoioimlmaagreat", sum := "7fc32dfef4d160d47474321f3973e16b0d010aecc8807ebd4a8ec1bed210ae9a", func := "loop.example/g01089/laws.FnMinimalSides", spec := "fnMinimalSides", unfollowed := true, recurses := true, apart := false }
def FnMinimalSidesSaid : Prop := fnMinimalSidesRow.holds Tryz.pinned (OpenSpec.ofChange fnMinimalSidesSpec)

/-- ITS FALSE NEIGHBOUR: 'it returns false'. Refute it at one input. -/
def fnMinimalSidesWrong : ChangeSpec := { name := "fnMinimalSides", fn := fun _ => fun
  | [d] => { results := [.lit (.bool false)], args := [d] }
  | _ => none }
def FnMinimalSidesWrongFalsely : Prop := fnMinimalSidesRow.holds Tryz.pinned (OpenSpec.ofChange fnMinimalSidesWrong)

/- THE SECOND FORM. 'bulk': how many values and letters a reading holds, each counted each time it is reached (what is shared counts as often as it is met; a slice's spare places count too). A statement '..UptoSaid' is the law's where the arguments, and the package variables that the reading takes, are together of bulk at most 1048576: NARROWER than '..Said'. Prove '..Said' where nothing that the law and all that it calls make is longer than what came in: it says more and counts as full. Else prove '..UptoSaid'. A law counts once. -/
mutual
def uptoBulk {H : Type} : DataW H → Nat
  | .lit (.string bytes) => bytes.length + 1
  | .lit _ => 1
  | .nil => 1
  | .ptr d => uptoBulk d + 1
  | .slice elems spare => uptoBulkAll elems + uptoBulkAll spare + 1
  | .agg parts => uptoBulkAll parts + 1
  | .iface _ d => uptoBulk d + 1
  | .map entries => uptoBulkEntries entries + 1
  | .held _ => 1
def uptoBulkAll {H : Type} : List (DataW H) → Nat
  | [] => 0
  | d :: r => uptoBulk d + uptoBulkAll r
def uptoBulkEntries {H : Type} : List (Lit × DataW H) → Nat
  | [] => 0
  | x :: r => uptoBulkEntry x + uptoBulkEntries r
def uptoBulkEntry {H : Type} : Lit × DataW H → Nat
  | (.string bytes, d) => bytes.length + uptoBulk d + 1
  | (_, d) => uptoBulk d + 1
 end
def uptoSmall : (H : Type) → List (DataW H) → Bool := fun _ ds => decide (uptoBulkAll ds ≤ 1048576)
def OpenSpec.upto (s : _root_.Go.ChangeSpec) : _root_.Go.OpenSpec := { _root_.Go.OpenSpec.ofChange s with cond := some uptoSmall }

/-- 'laws.FnExactProves', WHERE WHAT IT READS IS OF BULK AT MOST 1048576: true; the input reads as it did. -/
def fnExactProvesUptoRow : OpenClaim := { program := "ytmdbhcoioimlmaagreat", sum := "7fc32dfef4d160d47474321f3973e16b0d010aecc8807ebd4a8ec1bed210ae9a", func := "loop.example/g01089/laws.FnExactProves", spec := "fnExactProves", unfollowed := true, recurses := true, apart := false, narrowed := true }
def FnExactProvesUptoSaid : Prop := fnExactProvesUptoRow.holds Tryz.pinned (OpenSpec.upto fnExactProvesSpec)

/-- 'laws.FnExactIsDirect', WHERE WHAT IT READS IS OF BULK AT MOST 1048576: true; the input reads as it did. -/
def fnExactIsDirectUptoRow : OpenClaim := { program := "ytmdbhcoioimlmaagreat", sum := "7fc32dfef4d160d47474321f3973e16b0d010aecc8807ebd4a8ec1bed210ae9a", func := "loop.example/g01089/laws.FnExactIsDirect", spec := "fnExactIsDirect", unfollowed := true, recurses := true, apart := false, narrowed := true }
def FnExactIsDirectUptoSaid : Prop := fnExactIsDirectUptoRow.holds Tryz.pinned (OpenSpec.upto fnExactIsDirectSpec)

/-- 'laws.FnExactProvedDisjunct', WHERE WHAT IT READS IS OF BULK AT MOST 1048576: true; the input reads as it did. -/
def fnExactProvedDisjunctUptoRow : OpenClaim := { program := "ytmdbhcoioimlmaagreat", sum := "7fc32dfef4d160d47474321f3973e16b0d010aecc8807ebd4a8ec1bed210ae9a", func := "loop.example/g01089/laws.FnExactProvedDisjunct", spec := "fnExactProvedDisjunct", unfollowed := true, recurses := true, apart := false, narrowed := true }
def FnExactProvedDisjunctUptoSaid : Prop := fnExactProvedDisjunctUptoRow.holds Tryz.pinned (OpenSpec.upto fnExactProvedDisjunctSpec)

/-- 'laws.FnExactConsequencesOf', WHERE WHAT IT READS IS OF BULK AT MOST 1048576: true; the input reads as it did. -/
def fnExactConsequencesOfUptoRow : OpenClaim := { program := "ytmdbhcoioimlmaagreat", sum := "7fc32dfef4d160d47474321f3973e16b0d010aecc8807ebd4a8ec1bed210ae9a", func := "loop.example/g01089/laws.FnExactConsequencesOf", spec := "fnExactConsequencesOf", unfollowed := true, recurses := true, apart := false, narrowed := true }
def FnExactConsequencesOfUptoSaid : Prop := fnExactConsequencesOfUptoRow.holds Tryz.pinned (OpenSpec.upto fnExactConsequencesOfSpec)

/-- 'laws.FnExactMinimalLeft', WHERE WHAT IT READS IS OF BULK AT MOST 1048576: true; the input reads as it did. -/
def fnExactMinimalLeftUptoRow : OpenClaim := { program := "ytmdbhcoioimlmaagreat", sum := "7fc32dfef4d160d47474321f3973e16b0d010aecc8807ebd4a8ec1bed210ae9a", func := "loop.example/g01089/laws.FnExactMinimalLeft", spec := "fnExactMinimalLeft", unfollowed := true, recurses := true, apart := false, narrowed := true }
def FnExactMinimalLeftUptoSaid : Prop := fnExactMinimalLeftUptoRow.holds Tryz.pinned (OpenSpec.upto fnExactMinimalLeftSpec)

/-- 'laws.FnDisjunctions', WHERE WHAT IT READS IS OF BULK AT MOST 1048576: true; the input reads as it did. -/
def fnDisjunctionsUptoRow : OpenClaim := { program := "ytmdbhcoioimlmaagreat", sum := "7fc32dfef4d160d47474321f3973e16b0d010aecc8807ebd4a8ec1bed210ae9a", func := "loop.example/g01089/laws.FnDisjunctions", spec := "fnDisjunctions", unfollowed := true, recurses := true, apart := false, narrowed := true }
def FnDisjunctionsUptoSaid : Prop := fnDisjunctionsUptoRow.holds Tryz.pinned (OpenSpec.upto fnDisjunctionsSpec)

/-- 'laws.FnMinimalSides', WHERE WHAT IT READS IS OF BULK AT MOST 1048576: true; the input reads as it did. -/
def fnMinimalSidesUptoRow : OpenClaim := { program := "ytmdbhcoioimlmaagreat", sum := "7fc32dfef4d160d47474321f3973e16b0d010aecc8807ebd4a8ec1bed210ae9a", func := "loop.example/g01089/laws.FnMinimalSides", spec := "fnMinimalSides", unfollowed := true, recurses := true, apart := false, narrowed := true }
def FnMinimalSidesUptoSaid : Prop := fnMinimalSidesUptoRow.holds Tryz.pinned (OpenSpec.upto fnMinimalSidesSpec)

end Rows
end Go.Proofs.YtmdbhcoioimlmaaGreat
