/-
  DERIVED. GIVEN WITH THE SEED: THE CARDS: each row of YtppjniogblgdcaaDoorRows.lean that lists a variable, with what it lists TIED to the program's text (the seventh form; the later family's looks); each row that meets fmt, with fmt's text TOLD by the authors' own Lean function (tested against real Go, not proved from fmt's source: count such statements apart). THE CARD IS WHAT COUNTS. Prove the row's statement (the work); the ties are given (YtppjniogblgdcaaDoorTie.lean); close each card by the builder's one call (the guide's Derived/Test/ToyasCard.lean, 'card_holds'). Laid BY PROGRAM, IN A SANDBOX (cutbox-door.mjs). By AI agents, Wed Nov 11 2026. No macro, syntax, notation, axiom, sorry.
-/
import Derived.Test.YtppjniogblgdcaaDoorRows
import GoSem.ClaimSeven
namespace Go.Proofs.YtppjniogblgdcaaDoor
namespace Rows

/-- THE TIED CARD OF 'speakeasytop.SpeakSealed'. -/
def speakSealedCard : Claim7 := { stood := { row := speakSealedRow, standIns := [], harness := (true, "1093110e97ea394167cf0678316d5eb12d9dddf1544a4fda8af397a6fc7933d2"), looks := false }, kinds := [], alts := [], laidByText := true, laidKinds := [.widerDeep, .data, .sentinel, .sentinel, .data, .data], laidTests := true, laidLooks := .later }
def SpeakSealedCardSaid : Prop := Claim7.holds Tryd.pinned (.plain (OpenSpec.ofChange speakSealedSpec)) speakSealedCard

/-- THE SECOND FORM's CARD OF 'speakeasytop.SpeakSealed'. -/
def speakSealedUptoCard : Claim7 := { stood := { row := speakSealedUptoRow, standIns := [], harness := (true, "1093110e97ea394167cf0678316d5eb12d9dddf1544a4fda8af397a6fc7933d2"), looks := false }, kinds := [], alts := [], laidByText := true, laidKinds := [.widerDeep, .data, .sentinel, .sentinel, .data, .data], laidTests := true, laidLooks := .later }
def SpeakSealedUptoCardSaid : Prop := Claim7.holds Tryd.pinned (.plain (OpenSpec.upto speakSealedSpec)) speakSealedUptoCard
end Rows
end Go.Proofs.YtppjniogblgdcaaDoor
