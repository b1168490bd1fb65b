/-
  DERIVED. GIVEN WITH THE SEED: THE CARDS: each row of YtnbnhapepcegpaaGreatDoorRows.lean that lists a variable, with what it lists TIED to the program's text (the seventh form; the later family's looks); each row that meets fmt, with fmt's text TOLD by the authors' own Lean function (tested against real Go, not proved from fmt's source: count such statements apart). THE CARD IS WHAT COUNTS. Prove the row's statement (the work); the ties are given (YtnbnhapepcegpaaGreatDoorTie.lean); close each card by the builder's one call (the guide's Derived/Test/ToyasCard.lean, 'card_holds'). Laid BY PROGRAM, IN A SANDBOX (cutbox-door.mjs). By AI agents, Wed Nov 11 2026. No macro, syntax, notation, axiom, sorry.
-/
import Derived.Test.YtnbnhapepcegpaaGreatDoorRows
import GoSem.ClaimSeven
namespace Go.Proofs.YtnbnhapepcegpaaGreatDoor
namespace Rows

/-- THE TIED CARD OF 'laws.FnExactFirstBadLine'. -/
def fnExactFirstBadLineCard : Claim7 := { stood := { row := fnExactFirstBadLineRow, standIns := [], harness := (true, "8ab16a9b73130daa62299f5fae201481728a6ed0162874348a61d537d0a77ecf"), looks := false }, kinds := [], alts := [], laidByText := true, laidKinds := [.data], laidTests := true, laidLooks := .later }
def FnExactFirstBadLineCardSaid : Prop := Claim7.holds Tryz.pinned (.plain (OpenSpec.ofChange fnExactFirstBadLineSpec)) fnExactFirstBadLineCard

/-- THE TIED CARD OF 'laws.FnExactHilbertConclusion'. -/
def fnExactHilbertConclusionCard : Claim7 := { stood := { row := fnExactHilbertConclusionRow, standIns := [], harness := (true, "8ab16a9b73130daa62299f5fae201481728a6ed0162874348a61d537d0a77ecf"), looks := false }, kinds := [], alts := [], laidByText := true, laidKinds := [.data], laidTests := true, laidLooks := .later }
def FnExactHilbertConclusionCardSaid : Prop := Claim7.holds Tryz.pinned (.plain (OpenSpec.ofChange fnExactHilbertConclusionSpec)) fnExactHilbertConclusionCard

/-- THE SECOND FORM's CARD OF 'laws.FnExactFirstBadLine'. -/
def fnExactFirstBadLineUptoCard : Claim7 := { stood := { row := fnExactFirstBadLineUptoRow, standIns := [], harness := (true, "8ab16a9b73130daa62299f5fae201481728a6ed0162874348a61d537d0a77ecf"), looks := false }, kinds := [], alts := [], laidByText := true, laidKinds := [.data], laidTests := true, laidLooks := .later }
def FnExactFirstBadLineUptoCardSaid : Prop := Claim7.holds Tryz.pinned (.plain (OpenSpec.upto fnExactFirstBadLineSpec)) fnExactFirstBadLineUptoCard

/-- THE SECOND FORM's CARD OF 'laws.FnExactHilbertConclusion'. -/
def fnExactHilbertConclusionUptoCard : Claim7 := { stood := { row := fnExactHilbertConclusionUptoRow, standIns := [], harness := (true, "8ab16a9b73130daa62299f5fae201481728a6ed0162874348a61d537d0a77ecf"), looks := false }, kinds := [], alts := [], laidByText := true, laidKinds := [.data], laidTests := true, laidLooks := .later }
def FnExactHilbertConclusionUptoCardSaid : Prop := Claim7.holds Tryz.pinned (.plain (OpenSpec.upto fnExactHilbertConclusionSpec)) fnExactHilbertConclusionUptoCard
end Rows
end Go.Proofs.YtnbnhapepcegpaaGreatDoor
