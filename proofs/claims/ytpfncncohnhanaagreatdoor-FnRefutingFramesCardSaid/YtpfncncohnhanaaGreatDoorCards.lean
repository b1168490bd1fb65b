/-
  DERIVED. GIVEN WITH THE SEED: THE CARDS: each row of YtpfncncohnhanaaGreatDoorRows.lean that lists a variable, with what it lists TIED to the program's text (the seventh form; the later family's looks); each row that meets fmt, with fmt's text TOLD by the authors' own Lean function (tested against real Go, not proved from fmt's source: count such statements apart). THE CARD IS WHAT COUNTS. Prove the row's statement (the work); the ties are given (YtpfncncohnhanaaGreatDoorTie.lean); close each card by the builder's one call (the guide's Derived/Test/ToyasCard.lean, 'card_holds'). Laid BY PROGRAM, IN A SANDBOX (cutbox-door.mjs). By AI agents, Wed Nov 11 2026. No macro, syntax, notation, axiom, sorry.
-/
import Derived.Test.YtpfncncohnhanaaGreatDoorRows
import GoSem.ClaimSeven
namespace Go.Proofs.YtpfncncohnhanaaGreatDoor
namespace Rows

/-- THE TIED CARD OF 'laws.FnExactRefutingFrame'. -/
def fnExactRefutingFrameCard : Claim7 := { stood := { row := fnExactRefutingFrameRow, standIns := [], harness := (true, "1a4f2a02095bd518cf4caff4575e9453fccef3fed8340054c3dd6373d031c919"), looks := false }, kinds := [], alts := [], laidByText := true, laidKinds := [.data, .data, .data, .pinned], laidTests := true, laidLooks := .later }
def FnExactRefutingFrameCardSaid : Prop := Claim7.holds Tryz.pinned (.plain (OpenSpec.ofChange fnExactRefutingFrameSpec)) fnExactRefutingFrameCard

/-- THE TIED CARD OF 'laws.FnAxioms'. -/
def fnAxiomsCard : Claim7 := { stood := { row := fnAxiomsRow, standIns := [], harness := (true, "1a4f2a02095bd518cf4caff4575e9453fccef3fed8340054c3dd6373d031c919"), looks := false }, kinds := [], alts := [], laidByText := true, laidKinds := [.data, .data], laidTests := true, laidLooks := .later }
def FnAxiomsCardSaid : Prop := Claim7.holds Tryz.pinned (.plain (OpenSpec.ofChange fnAxiomsSpec)) fnAxiomsCard

/-- THE TIED CARD OF 'laws.FnRefutingFrames'. -/
def fnRefutingFramesCard : Claim7 := { stood := { row := fnRefutingFramesRow, standIns := [], harness := (true, "1a4f2a02095bd518cf4caff4575e9453fccef3fed8340054c3dd6373d031c919"), looks := false }, kinds := [], alts := [], laidByText := true, laidKinds := [.data, .data, .data, .pinned], laidTests := true, laidLooks := .later }
def FnRefutingFramesCardSaid : Prop := Claim7.holds Tryz.pinned (.plain (OpenSpec.ofChange fnRefutingFramesSpec)) fnRefutingFramesCard

/-- THE SECOND FORM's CARD OF 'laws.FnExactRefutingFrame'. -/
def fnExactRefutingFrameUptoCard : Claim7 := { stood := { row := fnExactRefutingFrameUptoRow, standIns := [], harness := (true, "1a4f2a02095bd518cf4caff4575e9453fccef3fed8340054c3dd6373d031c919"), looks := false }, kinds := [], alts := [], laidByText := true, laidKinds := [.data, .data, .data, .pinned], laidTests := true, laidLooks := .later }
def FnExactRefutingFrameUptoCardSaid : Prop := Claim7.holds Tryz.pinned (.plain (OpenSpec.upto fnExactRefutingFrameSpec)) fnExactRefutingFrameUptoCard

/-- THE SECOND FORM's CARD OF 'laws.FnAxioms'. -/
def fnAxiomsUptoCard : Claim7 := { stood := { row := fnAxiomsUptoRow, standIns := [], harness := (true, "1a4f2a02095bd518cf4caff4575e9453fccef3fed8340054c3dd6373d031c919"), looks := false }, kinds := [], alts := [], laidByText := true, laidKinds := [.data, .data], laidTests := true, laidLooks := .later }
def FnAxiomsUptoCardSaid : Prop := Claim7.holds Tryz.pinned (.plain (OpenSpec.upto fnAxiomsSpec)) fnAxiomsUptoCard

/-- THE SECOND FORM's CARD OF 'laws.FnRefutingFrames'. -/
def fnRefutingFramesUptoCard : Claim7 := { stood := { row := fnRefutingFramesUptoRow, standIns := [], harness := (true, "1a4f2a02095bd518cf4caff4575e9453fccef3fed8340054c3dd6373d031c919"), looks := false }, kinds := [], alts := [], laidByText := true, laidKinds := [.data, .data, .data, .pinned], laidTests := true, laidLooks := .later }
def FnRefutingFramesUptoCardSaid : Prop := Claim7.holds Tryz.pinned (.plain (OpenSpec.upto fnRefutingFramesSpec)) fnRefutingFramesUptoCard
end Rows
end Go.Proofs.YtpfncncohnhanaaGreatDoor
