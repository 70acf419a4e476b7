/-
  DERIVED. GIVEN WITH THE SEED: THE CARDS: each row of YteleedcpepifjaaDoorRows.lean that lists a variable, with what it lists TIED to the program's text (the seventh form; the later family's looks); each row that meets fmt, with fmt's text TOLD by the authors' own Lean function (tested against real Go, not proved from fmt's source: count such statements apart). THE CARD IS WHAT COUNTS. Prove the row's statement (the work); the ties are given (YteleedcpepifjaaDoorTie.lean); close each card by the builder's one call (the guide's Derived/Test/ToyasCard.lean, 'card_holds'). Laid BY PROGRAM, IN A SANDBOX (cutbox-door.mjs). By AI agents, Wed Nov 11 2026. No macro, syntax, notation, axiom, sorry.
-/
import Derived.Test.YteleedcpepifjaaDoorRows
import GoSem.ClaimSeven
namespace Go.Proofs.YteleedcpepifjaaDoor
namespace Rows

/-- THE TIED CARD OF 'speakeasylaw27.AesBlocks'. -/
def aesBlocksCard : Claim7 := { stood := { row := aesBlocksRow, standIns := [], harness := (true, "6bed8d72d3e0558e6e3907f4287e91928cbca46a21dae59061194abf661fe0e4"), looks := true }, kinds := [], alts := [], laidByText := true, laidKinds := [.sentinel], laidTests := true, laidLooks := .later }
def AesBlocksCardSaid : Prop := Claim7.holds Tryd.pinned (.plain (OpenSpec.ofChange aesBlocksSpec)) aesBlocksCard

/-- THE TIED CARD OF 'speakeasylaw27.AesBack'. -/
def aesBackCard : Claim7 := { stood := { row := aesBackRow, standIns := [], harness := (true, "6bed8d72d3e0558e6e3907f4287e91928cbca46a21dae59061194abf661fe0e4"), looks := true }, kinds := [], alts := [], laidByText := true, laidKinds := [.sentinel], laidTests := true, laidLooks := .later }
def AesBackCardSaid : Prop := Claim7.holds Tryd.pinned (.plain (OpenSpec.ofChange aesBackSpec)) aesBackCard

/-- THE TIED CARD OF 'speakeasylaw27.AesXors'. -/
def aesXorsCard : Claim7 := { stood := { row := aesXorsRow, standIns := [], harness := (true, "6bed8d72d3e0558e6e3907f4287e91928cbca46a21dae59061194abf661fe0e4"), looks := true }, kinds := [], alts := [], laidByText := true, laidKinds := [.sentinel], laidTests := true, laidLooks := .later }
def AesXorsCardSaid : Prop := Claim7.holds Tryd.pinned (.plain (OpenSpec.ofChange aesXorsSpec)) aesXorsCard

/-- THE TIED CARD OF 'speakeasylaw27.AesParts'. -/
def aesPartsCard : Claim7 := { stood := { row := aesPartsRow, standIns := [], harness := (true, "6bed8d72d3e0558e6e3907f4287e91928cbca46a21dae59061194abf661fe0e4"), looks := true }, kinds := [], alts := [], laidByText := true, laidKinds := [.sentinel], laidTests := true, laidLooks := .later }
def AesPartsCardSaid : Prop := Claim7.holds Tryd.pinned (.plain (OpenSpec.ofChange aesPartsSpec)) aesPartsCard

/-- THE TIED CARD OF 'speakeasylaw27.AesKeys'. -/
def aesKeysCard : Claim7 := { stood := { row := aesKeysRow, standIns := [], harness := (true, "6bed8d72d3e0558e6e3907f4287e91928cbca46a21dae59061194abf661fe0e4"), looks := true }, kinds := [], alts := [], laidByText := true, laidKinds := [.sentinel, .sentinel, .sentinel, .sentinel, .sentinel, .sentinel, .sentinel, .sentinel, .sentinel, .sentinel, .sentinel, .sentinel, .sentinel, .sentinel, .sentinel, .sentinel, .sentinel, .sentinel, .sentinel, .sentinel], laidTests := true, laidLooks := .later }
def AesKeysCardSaid : Prop := Claim7.holds Tryd.pinned (.plain (OpenSpec.ofChange aesKeysSpec)) aesKeysCard

/-- THE SECOND FORM's CARD OF 'speakeasylaw27.AesBlocks'. -/
def aesBlocksUptoCard : Claim7 := { stood := { row := aesBlocksUptoRow, standIns := [], harness := (true, "6bed8d72d3e0558e6e3907f4287e91928cbca46a21dae59061194abf661fe0e4"), looks := true }, kinds := [], alts := [], laidByText := true, laidKinds := [.sentinel], laidTests := true, laidLooks := .later }
def AesBlocksUptoCardSaid : Prop := Claim7.holds Tryd.pinned (.plain (OpenSpec.upto aesBlocksSpec)) aesBlocksUptoCard

/-- THE SECOND FORM's CARD OF 'speakeasylaw27.AesBack'. -/
def aesBackUptoCard : Claim7 := { stood := { row := aesBackUptoRow, standIns := [], harness := (true, "6bed8d72d3e0558e6e3907f4287e91928cbca46a21dae59061194abf661fe0e4"), looks := true }, kinds := [], alts := [], laidByText := true, laidKinds := [.sentinel], laidTests := true, laidLooks := .later }
def AesBackUptoCardSaid : Prop := Claim7.holds Tryd.pinned (.plain (OpenSpec.upto aesBackSpec)) aesBackUptoCard

/-- THE SECOND FORM's CARD OF 'speakeasylaw27.AesXors'. -/
def aesXorsUptoCard : Claim7 := { stood := { row := aesXorsUptoRow, standIns := [], harness := (true, "6bed8d72d3e0558e6e3907f4287e91928cbca46a21dae59061194abf661fe0e4"), looks := true }, kinds := [], alts := [], laidByText := true, laidKinds := [.sentinel], laidTests := true, laidLooks := .later }
def AesXorsUptoCardSaid : Prop := Claim7.holds Tryd.pinned (.plain (OpenSpec.upto aesXorsSpec)) aesXorsUptoCard

/-- THE SECOND FORM's CARD OF 'speakeasylaw27.AesParts'. -/
def aesPartsUptoCard : Claim7 := { stood := { row := aesPartsUptoRow, standIns := [], harness := (true, "6bed8d72d3e0558e6e3907f4287e91928cbca46a21dae59061194abf661fe0e4"), looks := true }, kinds := [], alts := [], laidByText := true, laidKinds := [.sentinel], laidTests := true, laidLooks := .later }
def AesPartsUptoCardSaid : Prop := Claim7.holds Tryd.pinned (.plain (OpenSpec.upto aesPartsSpec)) aesPartsUptoCard

/-- THE SECOND FORM's CARD OF 'speakeasylaw27.AesKeys'. -/
def aesKeysUptoCard : Claim7 := { stood := { row := aesKeysUptoRow, standIns := [], harness := (true, "6bed8d72d3e0558e6e3907f4287e91928cbca46a21dae59061194abf661fe0e4"), looks := true }, kinds := [], alts := [], laidByText := true, laidKinds := [.sentinel, .sentinel, .sentinel, .sentinel, .sentinel, .sentinel, .sentinel, .sentinel, .sentinel, .sentinel, .sentinel, .sentinel, .sentinel, .sentinel, .sentinel, .sentinel, .sentinel, .sentinel, .sentinel, .sentinel], laidTests := true, laidLooks := .later }
def AesKeysUptoCardSaid : Prop := Claim7.holds Tryd.pinned (.plain (OpenSpec.upto aesKeysSpec)) aesKeysUptoCard
end Rows
end Go.Proofs.YteleedcpepifjaaDoor
