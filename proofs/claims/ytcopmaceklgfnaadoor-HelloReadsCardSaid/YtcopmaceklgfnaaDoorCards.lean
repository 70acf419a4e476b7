/-
  DERIVED. GIVEN WITH THE SEED: THE CARDS: each row of YtcopmaceklgfnaaDoorRows.lean that lists a variable, with what it lists TIED to the program's text (the seventh form; the later family's looks); each row that meets fmt, with fmt's text TOLD by the authors' own Lean function (tested against real Go, not proved from fmt's source: count such statements apart). THE CARD IS WHAT COUNTS. Prove the row's statement (the work); the ties are given (YtcopmaceklgfnaaDoorTie.lean); close each card by the builder's one call (the guide's Derived/Test/ToyasCard.lean, 'card_holds'). Laid BY PROGRAM, IN A SANDBOX (cutbox-door.mjs). By AI agents, Wed Nov 11 2026. No macro, syntax, notation, axiom, sorry.
-/
import Derived.Test.YtcopmaceklgfnaaDoorRows
import GoSem.ClaimSeven
namespace Go.Proofs.YtcopmaceklgfnaaDoor
namespace Rows

/-- THE TIED CARD OF 'speakeasylaw11.HelloOthers'. -/
def helloOthersCard : Claim7 := { stood := { row := helloOthersRow, standIns := [], harness := (true, "c0ade91b5db2b74bd5fed2e56c722d3fd49b6e979acb20c300a7a4804373ba13"), looks := true }, kinds := [], alts := [], laidByText := true, laidKinds := [.sentinel, .sentinel, .sentinel, .sentinel], laidTests := true, laidLooks := .later }
def HelloOthersCardSaid : Prop := Claim7.holds Tryd.pinned (.plain (OpenSpec.ofChange helloOthersSpec)) helloOthersCard

/-- THE TIED CARD OF 'speakeasylaw11.HelloReads'. -/
def helloReadsCard : Claim7 := { stood := { row := helloReadsRow, standIns := [], harness := (true, "c0ade91b5db2b74bd5fed2e56c722d3fd49b6e979acb20c300a7a4804373ba13"), looks := true }, kinds := [], alts := [], laidByText := true, laidKinds := [.sentinel, .sentinel, .sentinel, .sentinel, .sentinel, .sentinel, .sentinel, .sentinel, .sentinel, .sentinel, .sentinel, .sentinel, .sentinel, .sentinel, .sentinel, .sentinel, .sentinel, .sentinel, .sentinel, .sentinel], laidTests := true, laidLooks := .later }
def HelloReadsCardSaid : Prop := Claim7.holds Tryd.pinned (.plain (OpenSpec.ofChange helloReadsSpec)) helloReadsCard

/-- THE TIED CARD OF 'speakeasylaw11.HelloLines'. -/
def helloLinesCard : Claim7 := { stood := { row := helloLinesRow, standIns := [], harness := (true, "c0ade91b5db2b74bd5fed2e56c722d3fd49b6e979acb20c300a7a4804373ba13"), looks := true }, kinds := [], alts := [], laidByText := true, laidKinds := [.sentinel, .sentinel, .sentinel, .sentinel, .sentinel, .sentinel, .sentinel, .sentinel, .sentinel, .sentinel, .sentinel, .sentinel, .sentinel, .sentinel, .sentinel, .sentinel, .sentinel, .sentinel, .sentinel, .sentinel], laidTests := true, laidLooks := .later }
def HelloLinesCardSaid : Prop := Claim7.holds Tryd.pinned (.plain (OpenSpec.ofChange helloLinesSpec)) helloLinesCard

/-- THE SECOND FORM's CARD OF 'speakeasylaw11.HelloOthers'. -/
def helloOthersUptoCard : Claim7 := { stood := { row := helloOthersUptoRow, standIns := [], harness := (true, "c0ade91b5db2b74bd5fed2e56c722d3fd49b6e979acb20c300a7a4804373ba13"), looks := true }, kinds := [], alts := [], laidByText := true, laidKinds := [.sentinel, .sentinel, .sentinel, .sentinel], laidTests := true, laidLooks := .later }
def HelloOthersUptoCardSaid : Prop := Claim7.holds Tryd.pinned (.plain (OpenSpec.upto helloOthersSpec)) helloOthersUptoCard

/-- THE SECOND FORM's CARD OF 'speakeasylaw11.HelloReads'. -/
def helloReadsUptoCard : Claim7 := { stood := { row := helloReadsUptoRow, standIns := [], harness := (true, "c0ade91b5db2b74bd5fed2e56c722d3fd49b6e979acb20c300a7a4804373ba13"), looks := true }, kinds := [], alts := [], laidByText := true, laidKinds := [.sentinel, .sentinel, .sentinel, .sentinel, .sentinel, .sentinel, .sentinel, .sentinel, .sentinel, .sentinel, .sentinel, .sentinel, .sentinel, .sentinel, .sentinel, .sentinel, .sentinel, .sentinel, .sentinel, .sentinel], laidTests := true, laidLooks := .later }
def HelloReadsUptoCardSaid : Prop := Claim7.holds Tryd.pinned (.plain (OpenSpec.upto helloReadsSpec)) helloReadsUptoCard

/-- THE SECOND FORM's CARD OF 'speakeasylaw11.HelloLines'. -/
def helloLinesUptoCard : Claim7 := { stood := { row := helloLinesUptoRow, standIns := [], harness := (true, "c0ade91b5db2b74bd5fed2e56c722d3fd49b6e979acb20c300a7a4804373ba13"), looks := true }, kinds := [], alts := [], laidByText := true, laidKinds := [.sentinel, .sentinel, .sentinel, .sentinel, .sentinel, .sentinel, .sentinel, .sentinel, .sentinel, .sentinel, .sentinel, .sentinel, .sentinel, .sentinel, .sentinel, .sentinel, .sentinel, .sentinel, .sentinel, .sentinel], laidTests := true, laidLooks := .later }
def HelloLinesUptoCardSaid : Prop := Claim7.holds Tryd.pinned (.plain (OpenSpec.upto helloLinesSpec)) helloLinesUptoCard
end Rows
end Go.Proofs.YtcopmaceklgfnaaDoor
