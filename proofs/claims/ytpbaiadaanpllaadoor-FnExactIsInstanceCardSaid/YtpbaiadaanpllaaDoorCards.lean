/-
  DERIVED. GIVEN WITH THE SEED: THE CARDS: each row of YtpbaiadaanpllaaDoorRows.lean that lists a variable, with what it lists TIED to the program's text (the seventh form; the later family's looks); each row that meets fmt, with fmt's text TOLD by the authors' own Lean function (tested against real Go, not proved from fmt's source: count such statements apart). THE CARD IS WHAT COUNTS. Prove the row's statement (the work); the ties are given (YtpbaiadaanpllaaDoorTie.lean); close each card by the builder's one call (the guide's Derived/Test/ToyasCard.lean, 'card_holds'). Laid BY PROGRAM, IN A SANDBOX (cutbox-door.mjs). By AI agents, Wed Nov 11 2026. No macro, syntax, notation, axiom, sorry.
-/
import Derived.Test.YtpbaiadaanpllaaDoorRows
import GoSem.ClaimSeven
namespace Go.Proofs.YtpbaiadaanpllaaDoor
namespace Rows

/-- THE TIED CARD OF 'laws.FnExactAxiomFormula'. -/
def fnExactAxiomFormulaCard : Claim7 := { stood := { row := fnExactAxiomFormulaRow, standIns := [], harness := (true, "d5462ae7ea287febfc7bb65170ce3007552d49002c780eb7c0140f0e8bf5411c"), looks := false }, kinds := [], alts := [], laidByText := true, laidKinds := [.data, .data], laidTests := true, laidLooks := .later }
def FnExactAxiomFormulaCardSaid : Prop := Claim7.holds Tryd.pinned (.plain (OpenSpec.ofChange fnExactAxiomFormulaSpec)) fnExactAxiomFormulaCard

/-- THE TIED CARD OF 'laws.FnExactSchemeFormula'. -/
def fnExactSchemeFormulaCard : Claim7 := { stood := { row := fnExactSchemeFormulaRow, standIns := [], harness := (true, "d5462ae7ea287febfc7bb65170ce3007552d49002c780eb7c0140f0e8bf5411c"), looks := false }, kinds := [], alts := [], laidByText := true, laidKinds := [.data], laidTests := true, laidLooks := .later }
def FnExactSchemeFormulaCardSaid : Prop := Claim7.holds Tryd.pinned (.plain (OpenSpec.ofChange fnExactSchemeFormulaSpec)) fnExactSchemeFormulaCard

/-- THE TIED CARD OF 'laws.FnExactIsInstance'. -/
def fnExactIsInstanceCard : Claim7 := { stood := { row := fnExactIsInstanceRow, standIns := [], harness := (true, "d5462ae7ea287febfc7bb65170ce3007552d49002c780eb7c0140f0e8bf5411c"), looks := false }, kinds := [], alts := [], laidByText := true, laidKinds := [.data], laidTests := true, laidLooks := .later }
def FnExactIsInstanceCardSaid : Prop := Claim7.holds Tryd.pinned (.plain (OpenSpec.ofChange fnExactIsInstanceSpec)) fnExactIsInstanceCard

/-- THE SECOND FORM's CARD OF 'laws.FnExactAxiomFormula'. -/
def fnExactAxiomFormulaUptoCard : Claim7 := { stood := { row := fnExactAxiomFormulaUptoRow, standIns := [], harness := (true, "d5462ae7ea287febfc7bb65170ce3007552d49002c780eb7c0140f0e8bf5411c"), looks := false }, kinds := [], alts := [], laidByText := true, laidKinds := [.data, .data], laidTests := true, laidLooks := .later }
def FnExactAxiomFormulaUptoCardSaid : Prop := Claim7.holds Tryd.pinned (.plain (OpenSpec.upto fnExactAxiomFormulaSpec)) fnExactAxiomFormulaUptoCard

/-- THE SECOND FORM's CARD OF 'laws.FnExactSchemeFormula'. -/
def fnExactSchemeFormulaUptoCard : Claim7 := { stood := { row := fnExactSchemeFormulaUptoRow, standIns := [], harness := (true, "d5462ae7ea287febfc7bb65170ce3007552d49002c780eb7c0140f0e8bf5411c"), looks := false }, kinds := [], alts := [], laidByText := true, laidKinds := [.data], laidTests := true, laidLooks := .later }
def FnExactSchemeFormulaUptoCardSaid : Prop := Claim7.holds Tryd.pinned (.plain (OpenSpec.upto fnExactSchemeFormulaSpec)) fnExactSchemeFormulaUptoCard

/-- THE SECOND FORM's CARD OF 'laws.FnExactIsInstance'. -/
def fnExactIsInstanceUptoCard : Claim7 := { stood := { row := fnExactIsInstanceUptoRow, standIns := [], harness := (true, "d5462ae7ea287febfc7bb65170ce3007552d49002c780eb7c0140f0e8bf5411c"), looks := false }, kinds := [], alts := [], laidByText := true, laidKinds := [.data], laidTests := true, laidLooks := .later }
def FnExactIsInstanceUptoCardSaid : Prop := Claim7.holds Tryd.pinned (.plain (OpenSpec.upto fnExactIsInstanceSpec)) fnExactIsInstanceUptoCard
end Rows
end Go.Proofs.YtpbaiadaanpllaaDoor
