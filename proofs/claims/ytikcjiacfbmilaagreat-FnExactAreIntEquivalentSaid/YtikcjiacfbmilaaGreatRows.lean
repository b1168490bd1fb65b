/-
  No cell of these rows narrows 'for every input' (looked for: loops, veiled, ifaces, maps, wideKeys, modest, calm, conditions, laid).
  DERIVED. THE GIVEN ROWS OF THIS SEAT. 5 by the template 'for every input the law returns true; each argument reads behind the call as it read before'; 0 by the template 'total and deterministic' (their statements: YtikcjiacfbmilaaGreatTotals.lean).
  GIVEN WITH THE SEED: the statements are not yours to turn. If you find one false, say at which input.
  Laid BY PROGRAM, IN A SANDBOX (cutbox-rows.mjs): the forced cells as the released guide's own fill.sh prints them over the translation 90b864ecd5fb2c90… (all of the seat's roots in one cut). By AI agents, Wed Nov 11 2026. No macro, syntax, notation, axiom, sorry.
-/
import Derived.Test.YtikcjiacfbmilaaGreatChecked
import GoSem.Claim
import GoSem.ClaimJoined
import GoSem.ClaimMapViews
import Derived.JoinedTies
import Derived.KernelRfl
namespace Go.Proofs.YtikcjiacfbmilaaGreat
/- THE CELL 'sum', in the pinned program and in every row, IS THE sha256 OF THE DUMP (.gsa) THAT YtikcjiacfbmilaaGreatProg.lean LOADS. Nothing in Lean hashes anything: it is a label: what it is worth is what the hold of that sum in a sandbox is worth. -/
noncomputable def Tryz.pinned : Pinned := { name := "ytikcjiacfbmilaagreat", sum := "90b864ecd5fb2c90369e2c12fe80578ffdf85aad0b04f6f33d5cc863162c390f", checked := Tryz.checked }
namespace Rows
def none {H : Type} : Left H := { results := [], args := [] }

/-- 'laws.FnExactIsIntTheorem': WHATEVER THE INPUT: true; the input reads as it did. -/
def fnExactIsIntTheoremSpec : ChangeSpec := { name := "fnExactIsIntTheorem", fn := fun _ => fun
  | [d] => { results := [.lit (.bool true)], args := [d] }
  | _ => none }
def fnExactIsIntTheoremRow : OpenClaim := { program := "ytikcjiacfbmilaagreat", sum := "90b864ecd5fb2c90369e2c12fe80578ffdf85aad0b04f6f33d5cc863162c390f", func := "loop.example/g01089/laws.FnExactIsIntTheorem", spec := "fnExactIsIntTheorem", unfollowed := true, recurses := true, apart := false }
def FnExactIsIntTheoremSaid : Prop := fnExactIsIntTheoremRow.holds Tryz.pinned (OpenSpec.ofChange fnExactIsIntTheoremSpec)

/-- ITS FALSE NEIGHBOUR: 'it returns false'. Refute it at one input. -/
def fnExactIsIntTheoremWrong : ChangeSpec := { name := "fnExactIsIntTheorem", fn := fun _ => fun
  | [d] => { results := [.lit (.bool false)], args := [d] }
  | _ => none }
def FnExactIsIntTheoremWrongFalsely : Prop := fnExactIsIntTheoremRow.holds Tryz.pinned (OpenSpec.ofChange fnExactIsIntTheoremWrong)

/-- 'laws.FnExactAreIntEquivalent': WHATEVER THE INPUT: true; the input reads as it did. -/
def fnExactAreIntEquivalentSpec : ChangeSpec := { name := "fnExactAreIntEquivalent", fn := fun _ => fun
  | [d1, d2] => { results := [.lit (.bool true)], args := [d1, d2] }
  | _ => none }
def fnExactAreIntEquivalentRow : OpenClaim := { program := "ytikcjiacfbmilaagreat", sum := "90b864ecd5fb2c90369e2c12fe80578ffdf85aad0b04f6f33d5cc863162c390f", func := "loop.example/g01089/laws.FnExactAreIntEquivalent", spec := "fnExactAreIntEquivalent", unfollowed := true, recurses := true, apart := false }
def FnExactAreIntEquivalentSaid : Prop := fnExactAreIntEquivalentRow.holds Tryz.pinned (OpenSpec.ofChange fnExactAreIntEquivalentSpec)

/-- ITS FALSE NEIGHBOUR: 'it returns false'. Refute it at one input. -/
def fnExactAreIntEquivalentWrong : ChangeSpec := { name := "fnExactAreIntEquivalent", fn := fun _ => fun
  | [d1, d2] => { results := [.lit (.bool false)], args := [d1, d2] }
  | _ => none }
def FnExactAreIntEquivalentWrongFalsely : Prop := fnExactAreIntEquivalentRow.holds Tryz.pinned (OpenSpec.ofChange fnExactAreIntEquivalentWrong)

/-- 'laws.FnExactIntOrder': WHATEVER THE INPUT: true; the input reads as it did. -/
def fnExactIntOrderSpec : ChangeSpec := { name := "fnExactIntOrder", fn := fun _ => fun
  | [d1, d2] => { results := [.lit (.bool true)], args := [d1, d2] }
  | _ => none }
def fnExactIntOrderRow : OpenClaim := { program := "ytikcjiacfbmilaagreat", sum := "90b864ecd5fb2c90369e2c12fe80578ffdf85aad0b04f6f33d5cc863162c390f", func := "loop.example/g01089/laws.FnExactIntOrder", spec := "fnExactIntOrder", unfollowed := true, recurses := true, apart := false }
def FnExactIntOrderSaid : Prop := fnExactIntOrderRow.holds Tryz.pinned (OpenSpec.ofChange fnExactIntOrderSpec)

/-- ITS FALSE NEIGHBOUR: 'it returns false'. Refute it at one input. -/
def fnExactIntOrderWrong : ChangeSpec := { name := "fnExactIntOrder", fn := fun _ => fun
  | [d1, d2] => { results := [.lit (.bool false)], args := [d1, d2] }
  | _ => none }
def FnExactIntOrderWrongFalsely : Prop := fnExactIntOrderRow.holds Tryz.pinned (OpenSpec.ofChange fnExactIntOrderWrong)

/-- 'laws.FnExactProves': WHATEVER THE INPUT: true; the input reads as it did. -/
def fnExactProvesSpec : ChangeSpec := { name := "fnExactProves", fn := fun _ => fun
  | [d1, d2] => { results := [.lit (.bool true)], args := [d1, d2] }
  | _ => none }
def fnExactProvesRow : OpenClaim := { program := "ytikcjiacfbmilaagreat", sum := "90b864ecd5fb2c90369e2c12fe80578ffdf85aad0b04f6f33d5cc863162c390f", func := "loop.example/g01089/laws.FnExactProves", spec := "fnExactProves", unfollowed := true, recurses := true, apart := false }
def FnExactProvesSaid : Prop := fnExactProvesRow.holds Tryz.pinned (OpenSpec.ofChange fnExactProvesSpec)

/-- ITS FALSE NEIGHBOUR: 'it returns false'. Refute it at one input. -/
def fnExactProvesWrong : ChangeSpec := { name := "fnExactProves", fn := fun _ => fun
  | [d1, d2] => { results := [.lit (.bool false)], args := [d1, d2] }
  | _ => none }
def FnExactProvesWrongFalsely : Prop := fnExactProvesRow.holds Tryz.pinned (OpenSpec.ofChange fnExactProvesWrong)

/-- 'laws.FnExactIsDirect': WHATEVER THE INPUT: true; the input reads as it did. -/
def fnExactIsDirectSpec : ChangeSpec := { name := "fnExactIsDirect", fn := fun _ => fun
  | [d1, d2] => { results := [.lit (.bool true)], args := [d1, d2] }
  | _ => none }
def fnExactIsDirectRow : OpenClaim := { program := "ytikcjiacfbmilaagreat", sum := "90b864ecd5fb2c90369e2c12fe80578ffdf85aad0b04f6f33d5cc863162c390f", func := "loop.example/g01089/laws.FnExactIsDirect", spec := "fnExactIsDirect", unfollowed := true, recurses := true, apart := false }
def FnExactIsDirectSaid : Prop := fnExactIsDirectRow.holds Tryz.pinned (OpenSpec.ofChange fnExactIsDirectSpec)

/-- ITS FALSE NEIGHBOUR: 'it returns false'. Refute it at one input. -/
def fnExactIsDirectWrong : ChangeSpec := { name := "fnExactIsDirect", fn := fun _ => fun
  | [d1, d2] => { results := [.lit (.bool false)], args := [d1, d2] }
  | _ => none }
def FnExactIsDirectWrongFalsely : Prop := fnExactIsDirectRow.holds Tryz.pinned (OpenSpec.ofChange fnExactIsDirectWrong)

/- THE SECOND FORM. 'bulk': how many values and letters a reading holds, each counted each time it is reached (what is shared counts as often as it is met; a slice's spare places count too). A statement '..UptoSaid' is the law's where the arguments, and the package variables that the reading takes, are together of bulk at most 1048576: NARROWER than '..Said'. Prove '..Said' where nothing that the law and all that it calls make is longer than what came in: it says more and counts as full. Else prove '..UptoSaid'. A law counts once. -/
mutual
def uptoBulk {H : Type} : DataW H → Nat
  | .lit (.string bytes) => bytes.length + 1
  | .lit _ => 1
  | .nil => 1
  | .ptr d => uptoBulk d + 1
  | .slice elems spare => uptoBulkAll elems + uptoBulkAll spare + 1
  | .agg parts => uptoBulkAll parts + 1
  | .iface _ d => uptoBulk d + 1
  | .map entries => uptoBulkEntries entries + 1
  | .held _ => 1
def uptoBulkAll {H : Type} : List (DataW H) → Nat
  | [] => 0
  | d :: r => uptoBulk d + uptoBulkAll r
def uptoBulkEntries {H : Type} : List (Lit × DataW H) → Nat
  | [] => 0
  | x :: r => uptoBulkEntry x + uptoBulkEntries r
def uptoBulkEntry {H : Type} : Lit × DataW H → Nat
  | (.string bytes, d) => bytes.length + uptoBulk d + 1
  | (_, d) => uptoBulk d + 1
 end
def uptoSmall : (H : Type) → List (DataW H) → Bool := fun _ ds => decide (uptoBulkAll ds ≤ 1048576)
def OpenSpec.upto (s : _root_.Go.ChangeSpec) : _root_.Go.OpenSpec := { _root_.Go.OpenSpec.ofChange s with cond := some uptoSmall }

/-- 'laws.FnExactIsIntTheorem', WHERE WHAT IT READS IS OF BULK AT MOST 1048576: true; the input reads as it did. -/
def fnExactIsIntTheoremUptoRow : OpenClaim := { program := "ytikcjiacfbmilaagreat", sum := "90b864ecd5fb2c90369e2c12fe80578ffdf85aad0b04f6f33d5cc863162c390f", func := "loop.example/g01089/laws.FnExactIsIntTheorem", spec := "fnExactIsIntTheorem", unfollowed := true, recurses := true, apart := false, narrowed := true }
def FnExactIsIntTheoremUptoSaid : Prop := fnExactIsIntTheoremUptoRow.holds Tryz.pinned (OpenSpec.upto fnExactIsIntTheoremSpec)

/-- 'laws.FnExactAreIntEquivalent', WHERE WHAT IT READS IS OF BULK AT MOST 1048576: true; the input reads as it did. -/
def fnExactAreIntEquivalentUptoRow : OpenClaim := { program := "ytikcjiacfbmilaagreat", sum := "90b864ecd5fb2c90369e2c12fe80578ffdf85aad0b04f6f33d5cc863162c390f", func := "loop.example/g01089/laws.FnExactAreIntEquivalent", spec := "fnExactAreIntEquivalent", unfollowed := true, recurses := true, apart := false, narrowed := true }
def FnExactAreIntEquivalentUptoSaid : Prop := fnExactAreIntEquivalentUptoRow.holds Tryz.pinned (OpenSpec.upto fnExactAreIntEquivalentSpec)

/-- 'laws.FnExactIntOrder', WHERE WHAT IT READS IS OF BULK AT MOST 1048576: true; the input reads as it did. -/
def fnExactIntOrderUptoRow : OpenClaim := { program := "ytikcjiacfbmilaagreat", sum := "90b864ecd5fb2c90369e2c12fe80578ffdf85aad0b04f6f33d5cc863162c390f", func := "loop.example/g01089/laws.FnExactIntOrder", spec := "fnExactIntOrder", unfollowed := true, recurses := true, apart := false, narrowed := true }
def FnExactIntOrderUptoSaid : Prop := fnExactIntOrderUptoRow.holds Tryz.pinned (OpenSpec.upto fnExactIntOrderSpec)

/-- 'laws.FnExactProves', WHERE WHAT IT READS IS OF BULK AT MOST 1048576: true; the input reads as it did. -/
def fnExactProvesUptoRow : OpenClaim := { program := "ytikcjiacfbmilaagreat", sum := "90b864ecd5fb2c90369e2c12fe80578ffdf85aad0b04f6f33d5cc863162c390f", func := "loop.example/g01089/laws.FnExactProves", spec := "fnExactProves", unfollowed := true, recurses := true, apart := false, narrowed := true }
def FnExactProvesUptoSaid : Prop := fnExactProvesUptoRow.holds Tryz.pinned (OpenSpec.upto fnExactProvesSpec)

/-- 'laws.FnExactIsDirect', WHERE WHAT IT READS IS OF BULK AT MOST 1048576: true; the input reads as it did. -/
def fnExactIsDirectUptoRow : OpenClaim := { program := "ytikcjiacfbmilaagreat", sum := "90b864ecd5fb2c90369e2c12fe80578ffdf85aad0b04f6f33d5cc863162c390f", func := "loop.example/g01089/laws.FnExactIsDirect", spec := "fnExactIsDirect", unfollowed := true, recurses := true, apart := false, narrowed := true }
def FnExactIsDirectUptoSaid : Prop := fnExactIsDirectUptoRow.holds Tryz.pinned (OpenSpec.upto fnExactIsDirectSpec)

end Rows
end Go.Proofs.YtikcjiacfbmilaaGreat
