/-
  DERIVED. GIVEN WITH THE SEED: THE PROGRAM's TIES (one call each: nine closed facts by the kernel) AND EACH ROW's TIE, after the 31st guide's Derived/Test/Toyas{Tie, Card}.lean. No idea stands in it: it is a product of the set-up. Laid BY PROGRAM, IN A SANDBOX (cutbox-door.mjs). By AI agents, Wed Nov 11 2026. No macro, syntax, notation, axiom, sorry.
-/
import Derived.Test.YtpbaiadaanpllaaDoorRows
import Derived.LaidByTextLater
import Derived.SevenTiedAt
import Derived.LaidSub
import Derived.LaidOnce
namespace Go.Proofs.YtpbaiadaanpllaaDoor
open Go
set_option maxRecDepth 100000
theorem seatTie1 : Tryd.prog.laidByTextLater [("loop.example/g01089/impl.axiomNames", Rows.laid_loop_example_g01089_impl_axiomNames), ("loop.example/g01089/impl.axiomTexts", Rows.laid_loop_example_g01089_impl_axiomTexts), ("loop.example/g01089/impl.schemeTexts", Rows.laid_loop_example_g01089_impl_schemeTexts)] [.data, .data, .data] true :=
  Program.laidByTextLater_by_one 24 8 20 (by kernel_rfl) (by kernel_rfl) (by kernel_rfl) (by kernel_rfl) (by kernel_rfl) (by kernel_rfl) (fun _ _ => by kernel_rfl)
theorem noOwnUnsafe : Tryd.pinned.checked.prog.headLifts.contains "ownunsafe" = false := by kernel_rfl
theorem tie : Tryd.prog.laidByTextLater [("loop.example/g01089/impl.axiomNames", Rows.laid_loop_example_g01089_impl_axiomNames), ("loop.example/g01089/impl.axiomTexts", Rows.laid_loop_example_g01089_impl_axiomTexts)] [.data, .data] true :=
  Program.laidByTextLater.sub seatTie1 ["loop.example/g01089/impl.axiomNames", "loop.example/g01089/impl.axiomTexts"] (by kernel_rfl) (by kernel_rfl)
theorem fnExactAxiomFormula_row_tie : Rows.fnExactAxiomFormulaRow.laidByTextAt .later Tryd.pinned [.data, .data] true :=
  OpenClaim.laidByTextAt_later rfl rfl tie noOwnUnsafe
theorem tie2 : Tryd.prog.laidByTextLater [("loop.example/g01089/impl.schemeTexts", Rows.laid_loop_example_g01089_impl_schemeTexts)] [.data] true :=
  Program.laidByTextLater.sub seatTie1 ["loop.example/g01089/impl.schemeTexts"] (by kernel_rfl) (by kernel_rfl)
theorem fnExactSchemeFormula_row_tie : Rows.fnExactSchemeFormulaRow.laidByTextAt .later Tryd.pinned [.data] true :=
  OpenClaim.laidByTextAt_later rfl rfl tie2 noOwnUnsafe
theorem fnExactIsInstance_row_tie : Rows.fnExactIsInstanceRow.laidByTextAt .later Tryd.pinned [.data] true :=
  OpenClaim.laidByTextAt_later rfl rfl tie2 noOwnUnsafe
theorem fnExactAxiomFormulaUpto_row_tie : Rows.fnExactAxiomFormulaUptoRow.laidByTextAt .later Tryd.pinned [.data, .data] true :=
  OpenClaim.laidByTextAt_later rfl rfl tie noOwnUnsafe
theorem fnExactSchemeFormulaUpto_row_tie : Rows.fnExactSchemeFormulaUptoRow.laidByTextAt .later Tryd.pinned [.data] true :=
  OpenClaim.laidByTextAt_later rfl rfl tie2 noOwnUnsafe
theorem fnExactIsInstanceUpto_row_tie : Rows.fnExactIsInstanceUptoRow.laidByTextAt .later Tryd.pinned [.data] true :=
  OpenClaim.laidByTextAt_later rfl rfl tie2 noOwnUnsafe
end Go.Proofs.YtpbaiadaanpllaaDoor
