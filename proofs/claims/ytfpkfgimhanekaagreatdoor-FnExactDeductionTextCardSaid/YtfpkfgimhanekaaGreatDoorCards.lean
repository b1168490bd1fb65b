/-
  DERIVED. GIVEN WITH THE SEED: THE CARDS: each row of YtfpkfgimhanekaaGreatDoorRows.lean that lists a variable, with what it lists TIED to the program's text (the seventh form; the later family's looks); each row that meets fmt, with fmt's text TOLD by the authors' own Lean function (tested against real Go, not proved from fmt's source: count such statements apart). THE CARD IS WHAT COUNTS. Prove the row's statement (the work); the ties are given (YtfpkfgimhanekaaGreatDoorTie.lean); close each card by the builder's one call (the guide's Derived/Test/ToyasCard.lean, 'card_holds'). Laid BY PROGRAM, IN A SANDBOX (cutbox-door.mjs). By AI agents, Wed Nov 11 2026. No macro, syntax, notation, axiom, sorry.
-/
import Derived.Test.YtfpkfgimhanekaaGreatDoorRows
import GoSem.ClaimSeven
namespace Go.Proofs.YtfpkfgimhanekaaGreatDoor
namespace Rows

/-- THE TIED CARD OF 'laws.FnExactTermText'. -/
def fnExactTermTextCard : Claim7 := { stood := { row := fnExactTermTextRow, standIns := [], harness := (true, "fd94d3a2e3ac051aad72aa028a7dc409691a306d023fb0a4443f99d8b172f0ef"), looks := false }, kinds := [], alts := [], laidByText := true, laidKinds := [.data, .data, .data], laidTests := true, laidLooks := .later }
def FnExactTermTextCardSaid : Prop := Claim7.holds Tryz.pinned (.plain (OpenSpec.ofChange fnExactTermTextSpec)) fnExactTermTextCard

/-- THE TIED CARD OF 'laws.FnExactDeductionText'. -/
def fnExactDeductionTextCard : Claim7 := { stood := { row := fnExactDeductionTextRow, standIns := [], harness := (true, "fd94d3a2e3ac051aad72aa028a7dc409691a306d023fb0a4443f99d8b172f0ef"), looks := false }, kinds := [], alts := [], laidByText := true, laidKinds := [.data, .data, .data], laidTests := true, laidLooks := .later }
def FnExactDeductionTextCardSaid : Prop := Claim7.holds Tryz.pinned (.plain (OpenSpec.ofChange fnExactDeductionTextSpec)) fnExactDeductionTextCard

/-- THE SECOND FORM's CARD OF 'laws.FnExactTermText'. -/
def fnExactTermTextUptoCard : Claim7 := { stood := { row := fnExactTermTextUptoRow, standIns := [], harness := (true, "fd94d3a2e3ac051aad72aa028a7dc409691a306d023fb0a4443f99d8b172f0ef"), looks := false }, kinds := [], alts := [], laidByText := true, laidKinds := [.data, .data, .data], laidTests := true, laidLooks := .later }
def FnExactTermTextUptoCardSaid : Prop := Claim7.holds Tryz.pinned (.plain (OpenSpec.upto fnExactTermTextSpec)) fnExactTermTextUptoCard

/-- THE SECOND FORM's CARD OF 'laws.FnExactDeductionText'. -/
def fnExactDeductionTextUptoCard : Claim7 := { stood := { row := fnExactDeductionTextUptoRow, standIns := [], harness := (true, "fd94d3a2e3ac051aad72aa028a7dc409691a306d023fb0a4443f99d8b172f0ef"), looks := false }, kinds := [], alts := [], laidByText := true, laidKinds := [.data, .data, .data], laidTests := true, laidLooks := .later }
def FnExactDeductionTextUptoCardSaid : Prop := Claim7.holds Tryz.pinned (.plain (OpenSpec.upto fnExactDeductionTextSpec)) fnExactDeductionTextUptoCard
end Rows
end Go.Proofs.YtfpkfgimhanekaaGreatDoor
