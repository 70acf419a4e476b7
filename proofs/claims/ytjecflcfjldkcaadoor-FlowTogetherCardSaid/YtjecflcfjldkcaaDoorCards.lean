/-
  DERIVED. GIVEN WITH THE SEED: THE CARDS: each row of YtjecflcfjldkcaaDoorRows.lean that lists a variable, with what it lists TIED to the program's text (the seventh form; the later family's looks); each row that meets fmt, with fmt's text TOLD by the authors' own Lean function (tested against real Go, not proved from fmt's source: count such statements apart). THE CARD IS WHAT COUNTS. Prove the row's statement (the work); the ties are given (YtjecflcfjldkcaaDoorTie.lean); close each card by the builder's one call (the guide's Derived/Test/ToyasCard.lean, 'card_holds'). Laid BY PROGRAM, IN A SANDBOX (cutbox-door.mjs). By AI agents, Wed Nov 11 2026. No macro, syntax, notation, axiom, sorry.
-/
import Derived.Test.YtjecflcfjldkcaaDoorRows
import GoSem.ClaimSeven
namespace Go.Proofs.YtjecflcfjldkcaaDoor
namespace Rows

/-- THE TIED CARD OF 'speakeasylaw18.FlowRecvs'. -/
def flowRecvsCard : Claim7 := { stood := { row := flowRecvsRow, standIns := [], harness := (true, "6044df74d7fe28562494daab80d1f6dd6fb1abeaec4fc1c0499f7bc929a99314"), looks := true }, kinds := [], alts := [], laidByText := true, laidKinds := [.sentinel, .sentinel, .sentinel, .sentinel, .sentinel, .sentinel, .sentinel, .sentinel, .sentinel, .sentinel, .sentinel, .sentinel, .sentinel, .sentinel, .sentinel, .sentinel, .sentinel, .sentinel, .sentinel, .sentinel], laidTests := true, laidLooks := .later }
def FlowRecvsCardSaid : Prop := Claim7.holds Tryd.pinned (.plain (OpenSpec.ofChange flowRecvsSpec)) flowRecvsCard

/-- THE TIED CARD OF 'speakeasylaw18.FlowBuffers'. -/
def flowBuffersCard : Claim7 := { stood := { row := flowBuffersRow, standIns := [], harness := (true, "6044df74d7fe28562494daab80d1f6dd6fb1abeaec4fc1c0499f7bc929a99314"), looks := true }, kinds := [], alts := [], laidByText := true, laidKinds := [.sentinel, .sentinel, .sentinel, .sentinel, .sentinel, .sentinel, .sentinel, .sentinel, .sentinel, .sentinel, .sentinel, .sentinel, .sentinel, .sentinel, .sentinel, .sentinel, .sentinel, .sentinel, .sentinel, .sentinel], laidTests := true, laidLooks := .later }
def FlowBuffersCardSaid : Prop := Claim7.holds Tryd.pinned (.plain (OpenSpec.ofChange flowBuffersSpec)) flowBuffersCard

/-- THE TIED CARD OF 'speakeasylaw18.FlowSends'. -/
def flowSendsCard : Claim7 := { stood := { row := flowSendsRow, standIns := [], harness := (true, "6044df74d7fe28562494daab80d1f6dd6fb1abeaec4fc1c0499f7bc929a99314"), looks := true }, kinds := [], alts := [], laidByText := true, laidKinds := [.sentinel, .sentinel, .sentinel, .sentinel, .sentinel, .sentinel, .sentinel, .sentinel, .sentinel, .sentinel, .sentinel, .sentinel, .sentinel, .sentinel, .sentinel, .sentinel, .sentinel, .sentinel, .sentinel, .sentinel], laidTests := true, laidLooks := .later }
def FlowSendsCardSaid : Prop := Claim7.holds Tryd.pinned (.plain (OpenSpec.ofChange flowSendsSpec)) flowSendsCard

/-- THE TIED CARD OF 'speakeasylaw18.FlowTogether'. -/
def flowTogetherCard : Claim7 := { stood := { row := flowTogetherRow, standIns := [], harness := (true, "6044df74d7fe28562494daab80d1f6dd6fb1abeaec4fc1c0499f7bc929a99314"), looks := true }, kinds := [], alts := [], laidByText := true, laidKinds := [.sentinel, .sentinel, .sentinel, .sentinel, .sentinel, .sentinel, .sentinel, .sentinel, .sentinel, .sentinel, .sentinel, .sentinel, .sentinel, .sentinel, .sentinel, .sentinel, .sentinel, .sentinel, .sentinel, .sentinel], laidTests := true, laidLooks := .later }
def FlowTogetherCardSaid : Prop := Claim7.holds Tryd.pinned (.plain (OpenSpec.ofChange flowTogetherSpec)) flowTogetherCard

/-- THE SECOND FORM's CARD OF 'speakeasylaw18.FlowRecvs'. -/
def flowRecvsUptoCard : Claim7 := { stood := { row := flowRecvsUptoRow, standIns := [], harness := (true, "6044df74d7fe28562494daab80d1f6dd6fb1abeaec4fc1c0499f7bc929a99314"), looks := true }, kinds := [], alts := [], laidByText := true, laidKinds := [.sentinel, .sentinel, .sentinel, .sentinel, .sentinel, .sentinel, .sentinel, .sentinel, .sentinel, .sentinel, .sentinel, .sentinel, .sentinel, .sentinel, .sentinel, .sentinel, .sentinel, .sentinel, .sentinel, .sentinel], laidTests := true, laidLooks := .later }
def FlowRecvsUptoCardSaid : Prop := Claim7.holds Tryd.pinned (.plain (OpenSpec.upto flowRecvsSpec)) flowRecvsUptoCard

/-- THE SECOND FORM's CARD OF 'speakeasylaw18.FlowBuffers'. -/
def flowBuffersUptoCard : Claim7 := { stood := { row := flowBuffersUptoRow, standIns := [], harness := (true, "6044df74d7fe28562494daab80d1f6dd6fb1abeaec4fc1c0499f7bc929a99314"), looks := true }, kinds := [], alts := [], laidByText := true, laidKinds := [.sentinel, .sentinel, .sentinel, .sentinel, .sentinel, .sentinel, .sentinel, .sentinel, .sentinel, .sentinel, .sentinel, .sentinel, .sentinel, .sentinel, .sentinel, .sentinel, .sentinel, .sentinel, .sentinel, .sentinel], laidTests := true, laidLooks := .later }
def FlowBuffersUptoCardSaid : Prop := Claim7.holds Tryd.pinned (.plain (OpenSpec.upto flowBuffersSpec)) flowBuffersUptoCard

/-- THE SECOND FORM's CARD OF 'speakeasylaw18.FlowSends'. -/
def flowSendsUptoCard : Claim7 := { stood := { row := flowSendsUptoRow, standIns := [], harness := (true, "6044df74d7fe28562494daab80d1f6dd6fb1abeaec4fc1c0499f7bc929a99314"), looks := true }, kinds := [], alts := [], laidByText := true, laidKinds := [.sentinel, .sentinel, .sentinel, .sentinel, .sentinel, .sentinel, .sentinel, .sentinel, .sentinel, .sentinel, .sentinel, .sentinel, .sentinel, .sentinel, .sentinel, .sentinel, .sentinel, .sentinel, .sentinel, .sentinel], laidTests := true, laidLooks := .later }
def FlowSendsUptoCardSaid : Prop := Claim7.holds Tryd.pinned (.plain (OpenSpec.upto flowSendsSpec)) flowSendsUptoCard

/-- THE SECOND FORM's CARD OF 'speakeasylaw18.FlowTogether'. -/
def flowTogetherUptoCard : Claim7 := { stood := { row := flowTogetherUptoRow, standIns := [], harness := (true, "6044df74d7fe28562494daab80d1f6dd6fb1abeaec4fc1c0499f7bc929a99314"), looks := true }, kinds := [], alts := [], laidByText := true, laidKinds := [.sentinel, .sentinel, .sentinel, .sentinel, .sentinel, .sentinel, .sentinel, .sentinel, .sentinel, .sentinel, .sentinel, .sentinel, .sentinel, .sentinel, .sentinel, .sentinel, .sentinel, .sentinel, .sentinel, .sentinel], laidTests := true, laidLooks := .later }
def FlowTogetherUptoCardSaid : Prop := Claim7.holds Tryd.pinned (.plain (OpenSpec.upto flowTogetherSpec)) flowTogetherUptoCard
end Rows
end Go.Proofs.YtjecflcfjldkcaaDoor
