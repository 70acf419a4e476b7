/-
  DERIVED. GIVEN WITH THE SEED: THE CARDS: each row of YtcbkbjpdfanjpaaGreatDoorRows.lean that lists a variable, with what it lists TIED to the program's text (the seventh form; the later family's looks); each row that meets fmt, with fmt's text TOLD by the authors' own Lean function (tested against real Go, not proved from fmt's source: count such statements apart). THE CARD IS WHAT COUNTS. Prove the row's statement (the work); the ties are given (YtcbkbjpdfanjpaaGreatDoorTie.lean); close each card by the builder's one call (the guide's Derived/Test/ToyasCard.lean, 'card_holds'). Laid BY PROGRAM, IN A SANDBOX (cutbox-door.mjs). By AI agents, Wed Nov 11 2026. No macro, syntax, notation, axiom, sorry.
-/
import Derived.Test.YtcbkbjpdfanjpaaGreatDoorRows
import GoSem.ClaimSeven
namespace Go.Proofs.YtcbkbjpdfanjpaaGreatDoor
namespace Rows

/-- THE TIED CARD OF 'speakeasytop.SpeakParts'. -/
def speakPartsCard : Claim7 := { stood := { row := speakPartsRow, standIns := [], harness := (true, "020acf6973ceb3bd4aa69e3725265c6171aee80f6afc4fef04df5edfed64457e"), looks := false }, kinds := [], alts := [], laidByText := true, laidKinds := [.widerDeep, .data, .data, .sentinel, .sentinel, .sentinel, .sentinel, .sentinel, .sentinel, .sentinel, .data, .pinned], laidTests := true, laidLooks := .later }
def SpeakPartsCardSaid : Prop := Claim7.holds Tryz.pinned (.plain (OpenSpec.ofChange speakPartsSpec)) speakPartsCard

/-- THE SECOND FORM's CARD OF 'speakeasytop.SpeakParts'. -/
def speakPartsUptoCard : Claim7 := { stood := { row := speakPartsUptoRow, standIns := [], harness := (true, "020acf6973ceb3bd4aa69e3725265c6171aee80f6afc4fef04df5edfed64457e"), looks := false }, kinds := [], alts := [], laidByText := true, laidKinds := [.widerDeep, .data, .data, .sentinel, .sentinel, .sentinel, .sentinel, .sentinel, .sentinel, .sentinel, .data, .pinned], laidTests := true, laidLooks := .later }
def SpeakPartsUptoCardSaid : Prop := Claim7.holds Tryz.pinned (.plain (OpenSpec.upto speakPartsSpec)) speakPartsUptoCard
end Rows
end Go.Proofs.YtcbkbjpdfanjpaaGreatDoor
