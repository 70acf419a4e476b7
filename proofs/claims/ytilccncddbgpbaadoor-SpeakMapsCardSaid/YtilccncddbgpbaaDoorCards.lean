/-
  DERIVED. GIVEN WITH THE SEED: THE CARDS: each row of YtilccncddbgpbaaDoorRows.lean that lists a variable, with what it lists TIED to the program's text (the seventh form; the later family's looks); each row that meets fmt, with fmt's text TOLD by the authors' own Lean function (tested against real Go, not proved from fmt's source: count such statements apart). THE CARD IS WHAT COUNTS. Prove the row's statement (the work); the ties are given (YtilccncddbgpbaaDoorTie.lean); close each card by the builder's one call (the guide's Derived/Test/ToyasCard.lean, 'card_holds'). Laid BY PROGRAM, IN A SANDBOX (cutbox-door.mjs). By AI agents, Wed Nov 11 2026. No macro, syntax, notation, axiom, sorry.
-/
import Derived.Test.YtilccncddbgpbaaDoorRows
import GoSem.ClaimSeven
namespace Go.Proofs.YtilccncddbgpbaaDoor
namespace Rows

/-- THE TIED CARD OF 'speakeasytop.SpeakMaps'. -/
def speakMapsCard : Claim7 := { stood := { row := speakMapsRow, standIns := [], harness := (true, "a21582dfb3f84a37b8ca62f718ccecb419f0556ca0e36d63456d43a2c492956c"), looks := false }, kinds := [], alts := [], laidByText := true, laidKinds := [.data, .data], laidTests := true, laidLooks := .later }
def SpeakMapsCardSaid : Prop := Claim7.holds Tryd.pinned (.plain (OpenSpec.ofChange speakMapsSpec)) speakMapsCard

/-- THE SECOND FORM's CARD OF 'speakeasytop.SpeakMaps'. -/
def speakMapsUptoCard : Claim7 := { stood := { row := speakMapsUptoRow, standIns := [], harness := (true, "a21582dfb3f84a37b8ca62f718ccecb419f0556ca0e36d63456d43a2c492956c"), looks := false }, kinds := [], alts := [], laidByText := true, laidKinds := [.data, .data], laidTests := true, laidLooks := .later }
def SpeakMapsUptoCardSaid : Prop := Claim7.holds Tryd.pinned (.plain (OpenSpec.upto speakMapsSpec)) speakMapsUptoCard
end Rows
end Go.Proofs.YtilccncddbgpbaaDoor
