/-
  NARROWER THAN 'FOR EVERY INPUT', by the rows' own cells (each row's printed sentence says how): ScalarReduces: laid · ScalarMulAdds: laid · ScalarRing: laid · ScalarFits: laid.
  DERIVED. THE GIVEN ROWS OF THIS SEAT. 4 by the template 'for every input the law returns true; each argument reads behind the call as it read before'; 0 by the template 'total and deterministic' (their statements: YtomdldjamdkhoaaDoorTotals.lean).
  GIVEN WITH THE SEED: the statements are not yours to turn. If you find one false, say at which input.
  Laid BY PROGRAM, IN A SANDBOX (cutbox-rows.mjs): the forced cells as the released guide's own fill.sh prints them over the translation a19da95735fce341… (all of the seat's roots in one cut). By AI agents, Wed Nov 11 2026. No macro, syntax, notation, axiom, sorry.
-/
import Derived.Test.YtomdldjamdkhoaaDoorChecked
import GoSem.Claim
import GoSem.ClaimJoined
import GoSem.ClaimMapViews
import Derived.JoinedTies
import Derived.KernelRfl
namespace Go.Proofs.YtomdldjamdkhoaaDoor
/- THE CELL 'sum', in the pinned program and in every row, IS THE sha256 OF THE DUMP (.gsa) THAT YtomdldjamdkhoaaDoorProg.lean LOADS. Nothing in Lean hashes anything: it is a label: what it is worth is what the hold of that sum in a sandbox is worth. -/
noncomputable def Tryd.pinned : Pinned := { name := "ytomdldjamdkhoaadoor", sum := "a19da95735fce3414961c9cb59829db4228f6240a553be5218989aeaad0e8eba", checked := Tryd.checked }
namespace Rows
def none {H : Type} : Left H := { results := [], args := [] }

/- WHAT THE LISTED PACKAGE-LEVEL VARIABLES READ AS WHEN THE CALL BEGINS. Each datum BY PROGRAM (the guide's laid-datum.mjs) off the statement by which the dump's own 'gosem.cut.vars' lays the variable. In a bare row this is a premise. The card (YtomdldjamdkhoaaDoorCards.lean) ties it to the program's text. -/
def laid_speakeasy_scalar_order {H : Type} : DataW H := .agg [.lit (.int .u32 1559614445), .lit (.int .u32 1477600026), .lit (.int .u32 2734136534), .lit (.int .u32 350157278), .lit (.int .u32 0), .lit (.int .u32 0), .lit (.int .u32 0), .lit (.int .u32 268435456)]

/-- 'speakeasylaw07.ScalarReduces': WHATEVER THE INPUT: true; the input reads as it did. -/
def scalarReducesSpec : ChangeSpec := { name := "scalarReduces", fn := fun _ => fun
  | [d] => { results := [.lit (.bool true)], args := [d] }
  | _ => none }
def scalarReducesRow : OpenClaim := { program := "ytomdldjamdkhoaadoor", sum := "a19da95735fce3414961c9cb59829db4228f6240a553be5218989aeaad0e8eba", func := "speakeasy/speakeasylaw07.ScalarReduces", spec := "scalarReduces", named := ["speakeasy/scalar.order"], apart := false, laid := [("speakeasy/scalar.order", laid_speakeasy_scalar_order)] }
def ScalarReducesSaid : Prop := scalarReducesRow.holds Tryd.pinned (OpenSpec.ofChange scalarReducesSpec)

/-- ITS FALSE NEIGHBOUR: 'it returns false'. Refute it at one input. -/
def scalarReducesWrong : ChangeSpec := { name := "scalarReduces", fn := fun _ => fun
  | [d] => { results := [.lit (.bool false)], args := [d] }
  | _ => none }
def ScalarReducesWrongFalsely : Prop := scalarReducesRow.holds Tryd.pinned (OpenSpec.ofChange scalarReducesWrong)

/-- 'speakeasylaw07.ScalarMulAdds': WHATEVER THE INPUT: true; the input reads as it did. -/
def scalarMulAddsSpec : ChangeSpec := { name := "scalarMulAdds", fn := fun _ => fun
  | [d1, d2, d3] => { results := [.lit (.bool true)], args := [d1, d2, d3] }
  | _ => none }
def scalarMulAddsRow : OpenClaim := { program := "ytomdldjamdkhoaadoor", sum := "a19da95735fce3414961c9cb59829db4228f6240a553be5218989aeaad0e8eba", func := "speakeasy/speakeasylaw07.ScalarMulAdds", spec := "scalarMulAdds", named := ["speakeasy/scalar.order"], apart := false, laid := [("speakeasy/scalar.order", laid_speakeasy_scalar_order)] }
def ScalarMulAddsSaid : Prop := scalarMulAddsRow.holds Tryd.pinned (OpenSpec.ofChange scalarMulAddsSpec)

/-- ITS FALSE NEIGHBOUR: 'it returns false'. Refute it at one input. -/
def scalarMulAddsWrong : ChangeSpec := { name := "scalarMulAdds", fn := fun _ => fun
  | [d1, d2, d3] => { results := [.lit (.bool false)], args := [d1, d2, d3] }
  | _ => none }
def ScalarMulAddsWrongFalsely : Prop := scalarMulAddsRow.holds Tryd.pinned (OpenSpec.ofChange scalarMulAddsWrong)

/-- 'speakeasylaw07.ScalarRing': WHATEVER THE INPUT: true; the input reads as it did. -/
def scalarRingSpec : ChangeSpec := { name := "scalarRing", fn := fun _ => fun
  | [d1, d2, d3] => { results := [.lit (.bool true)], args := [d1, d2, d3] }
  | _ => none }
def scalarRingRow : OpenClaim := { program := "ytomdldjamdkhoaadoor", sum := "a19da95735fce3414961c9cb59829db4228f6240a553be5218989aeaad0e8eba", func := "speakeasy/speakeasylaw07.ScalarRing", spec := "scalarRing", named := ["speakeasy/scalar.order"], apart := false, laid := [("speakeasy/scalar.order", laid_speakeasy_scalar_order)] }
def ScalarRingSaid : Prop := scalarRingRow.holds Tryd.pinned (OpenSpec.ofChange scalarRingSpec)

/-- ITS FALSE NEIGHBOUR: 'it returns false'. Refute it at one input. -/
def scalarRingWrong : ChangeSpec := { name := "scalarRing", fn := fun _ => fun
  | [d1, d2, d3] => { results := [.lit (.bool false)], args := [d1, d2, d3] }
  | _ => none }
def ScalarRingWrongFalsely : Prop := scalarRingRow.holds Tryd.pinned (OpenSpec.ofChange scalarRingWrong)

/-- 'speakeasylaw07.ScalarFits': WHATEVER THE INPUT: true; the input reads as it did. -/
def scalarFitsSpec : ChangeSpec := { name := "scalarFits", fn := fun _ => fun
  | [d] => { results := [.lit (.bool true)], args := [d] }
  | _ => none }
def scalarFitsRow : OpenClaim := { program := "ytomdldjamdkhoaadoor", sum := "a19da95735fce3414961c9cb59829db4228f6240a553be5218989aeaad0e8eba", func := "speakeasy/speakeasylaw07.ScalarFits", spec := "scalarFits", named := ["speakeasy/scalar.order"], apart := false, laid := [("speakeasy/scalar.order", laid_speakeasy_scalar_order)] }
def ScalarFitsSaid : Prop := scalarFitsRow.holds Tryd.pinned (OpenSpec.ofChange scalarFitsSpec)

/-- ITS FALSE NEIGHBOUR: 'it returns false'. Refute it at one input. -/
def scalarFitsWrong : ChangeSpec := { name := "scalarFits", fn := fun _ => fun
  | [d] => { results := [.lit (.bool false)], args := [d] }
  | _ => none }
def ScalarFitsWrongFalsely : Prop := scalarFitsRow.holds Tryd.pinned (OpenSpec.ofChange scalarFitsWrong)

/- THE SECOND FORM. 'bulk': how many values and letters a reading holds, each counted each time it is reached (what is shared counts as often as it is met; a slice's spare places count too). A statement '..UptoSaid' is the law's where the arguments, and the package variables that the reading takes, are together of bulk at most 1048576: NARROWER than '..Said'. Prove '..Said' where nothing that the law and all that it calls make is longer than what came in: it says more and counts as full. Else prove '..UptoSaid'. A law counts once. -/
mutual
def uptoBulk {H : Type} : DataW H → Nat
  | .lit (.string bytes) => bytes.length + 1
  | .lit _ => 1
  | .nil => 1
  | .ptr d => uptoBulk d + 1
  | .slice elems spare => uptoBulkAll elems + uptoBulkAll spare + 1
  | .agg parts => uptoBulkAll parts + 1
  | .iface _ d => uptoBulk d + 1
  | .map entries => uptoBulkEntries entries + 1
  | .held _ => 1
def uptoBulkAll {H : Type} : List (DataW H) → Nat
  | [] => 0
  | d :: r => uptoBulk d + uptoBulkAll r
def uptoBulkEntries {H : Type} : List (Lit × DataW H) → Nat
  | [] => 0
  | x :: r => uptoBulkEntry x + uptoBulkEntries r
def uptoBulkEntry {H : Type} : Lit × DataW H → Nat
  | (.string bytes, d) => bytes.length + uptoBulk d + 1
  | (_, d) => uptoBulk d + 1
 end
def uptoSmall : (H : Type) → List (DataW H) → Bool := fun _ ds => decide (uptoBulkAll ds ≤ 1048576)
def OpenSpec.upto (s : _root_.Go.ChangeSpec) : _root_.Go.OpenSpec := { _root_.Go.OpenSpec.ofChange s with cond := some uptoSmall }

/-- 'speakeasylaw07.ScalarReduces', WHERE WHAT IT READS IS OF BULK AT MOST 1048576: true; the input reads as it did. -/
def scalarReducesUptoRow : OpenClaim := { program := "ytomdldjamdkhoaadoor", sum := "a19da95735fce3414961c9cb59829db4228f6240a553be5218989aeaad0e8eba", func := "speakeasy/speakeasylaw07.ScalarReduces", spec := "scalarReduces", named := ["speakeasy/scalar.order"], apart := false, laid := [("speakeasy/scalar.order", laid_speakeasy_scalar_order)], narrowed := true }
def ScalarReducesUptoSaid : Prop := scalarReducesUptoRow.holds Tryd.pinned (OpenSpec.upto scalarReducesSpec)

/-- 'speakeasylaw07.ScalarMulAdds', WHERE WHAT IT READS IS OF BULK AT MOST 1048576: true; the input reads as it did. -/
def scalarMulAddsUptoRow : OpenClaim := { program := "ytomdldjamdkhoaadoor", sum := "a19da95735fce3414961c9cb59829db4228f6240a553be5218989aeaad0e8eba", func := "speakeasy/speakeasylaw07.ScalarMulAdds", spec := "scalarMulAdds", named := ["speakeasy/scalar.order"], apart := false, laid := [("speakeasy/scalar.order", laid_speakeasy_scalar_order)], narrowed := true }
def ScalarMulAddsUptoSaid : Prop := scalarMulAddsUptoRow.holds Tryd.pinned (OpenSpec.upto scalarMulAddsSpec)

/-- 'speakeasylaw07.ScalarRing', WHERE WHAT IT READS IS OF BULK AT MOST 1048576: true; the input reads as it did. -/
def scalarRingUptoRow : OpenClaim := { program := "ytomdldjamdkhoaadoor", sum := "a19da95735fce3414961c9cb59829db4228f6240a553be5218989aeaad0e8eba", func := "speakeasy/speakeasylaw07.ScalarRing", spec := "scalarRing", named := ["speakeasy/scalar.order"], apart := false, laid := [("speakeasy/scalar.order", laid_speakeasy_scalar_order)], narrowed := true }
def ScalarRingUptoSaid : Prop := scalarRingUptoRow.holds Tryd.pinned (OpenSpec.upto scalarRingSpec)

/-- 'speakeasylaw07.ScalarFits', WHERE WHAT IT READS IS OF BULK AT MOST 1048576: true; the input reads as it did. -/
def scalarFitsUptoRow : OpenClaim := { program := "ytomdldjamdkhoaadoor", sum := "a19da95735fce3414961c9cb59829db4228f6240a553be5218989aeaad0e8eba", func := "speakeasy/speakeasylaw07.ScalarFits", spec := "scalarFits", named := ["speakeasy/scalar.order"], apart := false, laid := [("speakeasy/scalar.order", laid_speakeasy_scalar_order)], narrowed := true }
def ScalarFitsUptoSaid : Prop := scalarFitsUptoRow.holds Tryd.pinned (OpenSpec.upto scalarFitsSpec)

end Rows
end Go.Proofs.YtomdldjamdkhoaaDoor
