/-
  DERIVED. GIVEN WITH THE SEED: THE CARDS: each row of YtomdldjamdkhoaaDoorRows.lean that lists a variable, with what it lists TIED to the program's text (the seventh form; the later family's looks); each row that meets fmt, with fmt's text TOLD by the authors' own Lean function (tested against real Go, not proved from fmt's source: count such statements apart). THE CARD IS WHAT COUNTS. Prove the row's statement (the work); the ties are given (YtomdldjamdkhoaaDoorTie.lean); close each card by the builder's one call (the guide's Derived/Test/ToyasCard.lean, 'card_holds'). Laid BY PROGRAM, IN A SANDBOX (cutbox-door.mjs). By AI agents, Wed Nov 11 2026. No macro, syntax, notation, axiom, sorry.
-/
import Derived.Test.YtomdldjamdkhoaaDoorRows
import GoSem.ClaimSeven
namespace Go.Proofs.YtomdldjamdkhoaaDoor
namespace Rows

/-- THE TIED CARD OF 'speakeasylaw07.ScalarReduces'. -/
def scalarReducesCard : Claim7 := { stood := { row := scalarReducesRow, standIns := [], harness := (true, "23df93a6a4ba0517d1e47ec53f2bf2bfe463cda3448be7b16b9f7da2567224ef"), looks := false }, kinds := [], alts := [], laidByText := true, laidKinds := [.data], laidTests := true, laidLooks := .later }
def ScalarReducesCardSaid : Prop := Claim7.holds Tryd.pinned (.plain (OpenSpec.ofChange scalarReducesSpec)) scalarReducesCard

/-- THE TIED CARD OF 'speakeasylaw07.ScalarMulAdds'. -/
def scalarMulAddsCard : Claim7 := { stood := { row := scalarMulAddsRow, standIns := [], harness := (true, "23df93a6a4ba0517d1e47ec53f2bf2bfe463cda3448be7b16b9f7da2567224ef"), looks := false }, kinds := [], alts := [], laidByText := true, laidKinds := [.data], laidTests := true, laidLooks := .later }
def ScalarMulAddsCardSaid : Prop := Claim7.holds Tryd.pinned (.plain (OpenSpec.ofChange scalarMulAddsSpec)) scalarMulAddsCard

/-- THE TIED CARD OF 'speakeasylaw07.ScalarRing'. -/
def scalarRingCard : Claim7 := { stood := { row := scalarRingRow, standIns := [], harness := (true, "23df93a6a4ba0517d1e47ec53f2bf2bfe463cda3448be7b16b9f7da2567224ef"), looks := false }, kinds := [], alts := [], laidByText := true, laidKinds := [.data], laidTests := true, laidLooks := .later }
def ScalarRingCardSaid : Prop := Claim7.holds Tryd.pinned (.plain (OpenSpec.ofChange scalarRingSpec)) scalarRingCard

/-- THE TIED CARD OF 'speakeasylaw07.ScalarFits'. -/
def scalarFitsCard : Claim7 := { stood := { row := scalarFitsRow, standIns := [], harness := (true, "23df93a6a4ba0517d1e47ec53f2bf2bfe463cda3448be7b16b9f7da2567224ef"), looks := false }, kinds := [], alts := [], laidByText := true, laidKinds := [.data], laidTests := true, laidLooks := .later }
def ScalarFitsCardSaid : Prop := Claim7.holds Tryd.pinned (.plain (OpenSpec.ofChange scalarFitsSpec)) scalarFitsCard

/-- THE SECOND FORM's CARD OF 'speakeasylaw07.ScalarReduces'. -/
def scalarReducesUptoCard : Claim7 := { stood := { row := scalarReducesUptoRow, standIns := [], harness := (true, "23df93a6a4ba0517d1e47ec53f2bf2bfe463cda3448be7b16b9f7da2567224ef"), looks := false }, kinds := [], alts := [], laidByText := true, laidKinds := [.data], laidTests := true, laidLooks := .later }
def ScalarReducesUptoCardSaid : Prop := Claim7.holds Tryd.pinned (.plain (OpenSpec.upto scalarReducesSpec)) scalarReducesUptoCard

/-- THE SECOND FORM's CARD OF 'speakeasylaw07.ScalarMulAdds'. -/
def scalarMulAddsUptoCard : Claim7 := { stood := { row := scalarMulAddsUptoRow, standIns := [], harness := (true, "23df93a6a4ba0517d1e47ec53f2bf2bfe463cda3448be7b16b9f7da2567224ef"), looks := false }, kinds := [], alts := [], laidByText := true, laidKinds := [.data], laidTests := true, laidLooks := .later }
def ScalarMulAddsUptoCardSaid : Prop := Claim7.holds Tryd.pinned (.plain (OpenSpec.upto scalarMulAddsSpec)) scalarMulAddsUptoCard

/-- THE SECOND FORM's CARD OF 'speakeasylaw07.ScalarRing'. -/
def scalarRingUptoCard : Claim7 := { stood := { row := scalarRingUptoRow, standIns := [], harness := (true, "23df93a6a4ba0517d1e47ec53f2bf2bfe463cda3448be7b16b9f7da2567224ef"), looks := false }, kinds := [], alts := [], laidByText := true, laidKinds := [.data], laidTests := true, laidLooks := .later }
def ScalarRingUptoCardSaid : Prop := Claim7.holds Tryd.pinned (.plain (OpenSpec.upto scalarRingSpec)) scalarRingUptoCard

/-- THE SECOND FORM's CARD OF 'speakeasylaw07.ScalarFits'. -/
def scalarFitsUptoCard : Claim7 := { stood := { row := scalarFitsUptoRow, standIns := [], harness := (true, "23df93a6a4ba0517d1e47ec53f2bf2bfe463cda3448be7b16b9f7da2567224ef"), looks := false }, kinds := [], alts := [], laidByText := true, laidKinds := [.data], laidTests := true, laidLooks := .later }
def ScalarFitsUptoCardSaid : Prop := Claim7.holds Tryd.pinned (.plain (OpenSpec.upto scalarFitsSpec)) scalarFitsUptoCard
end Rows
end Go.Proofs.YtomdldjamdkhoaaDoor
