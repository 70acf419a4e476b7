/-
  DERIVED. GIVEN WITH THE SEED: THE CARDS: each row of YtkhdhiddhnmdkaaGreatDoorRows.lean that lists a variable, with what it lists TIED to the program's text (the seventh form; the later family's looks); each row that meets fmt, with fmt's text TOLD by the authors' own Lean function (tested against real Go, not proved from fmt's source: count such statements apart). THE CARD IS WHAT COUNTS. Prove the row's statement (the work); the ties are given (YtkhdhiddhnmdkaaGreatDoorTie.lean); close each card by the builder's one call (the guide's Derived/Test/ToyasCard.lean, 'card_holds'). Laid BY PROGRAM, IN A SANDBOX (cutbox-door.mjs). By AI agents, Wed Nov 11 2026. No macro, syntax, notation, axiom, sorry.
-/
import Derived.Test.YtkhdhiddhnmdkaaGreatDoorRows
import GoSem.ClaimSeven
namespace Go.Proofs.YtkhdhiddhnmdkaaGreatDoor
namespace Rows

/-- THE TIED CARD OF 'speakeasytop.SpeakValues'. -/
def speakValuesCard : Claim7 := { stood := { row := speakValuesRow, standIns := [], harness := (true, "9c315a0552b08acfc4f50f8284aeb6e574f2a5a510495dd0ad1dd7e8891c3857"), looks := false }, kinds := [], alts := [], laidByText := true, laidKinds := [.widerDeep, .data, .data, .sentinel, .sentinel, .data, .data], laidTests := true, laidLooks := .later }
def SpeakValuesCardSaid : Prop := Claim7.holds Tryz.pinned (.plain (OpenSpec.ofChange speakValuesSpec)) speakValuesCard

/-- THE SECOND FORM's CARD OF 'speakeasytop.SpeakValues'. -/
def speakValuesUptoCard : Claim7 := { stood := { row := speakValuesUptoRow, standIns := [], harness := (true, "9c315a0552b08acfc4f50f8284aeb6e574f2a5a510495dd0ad1dd7e8891c3857"), looks := false }, kinds := [], alts := [], laidByText := true, laidKinds := [.widerDeep, .data, .data, .sentinel, .sentinel, .data, .data], laidTests := true, laidLooks := .later }
def SpeakValuesUptoCardSaid : Prop := Claim7.holds Tryz.pinned (.plain (OpenSpec.upto speakValuesSpec)) speakValuesUptoCard
end Rows
end Go.Proofs.YtkhdhiddhnmdkaaGreatDoor
