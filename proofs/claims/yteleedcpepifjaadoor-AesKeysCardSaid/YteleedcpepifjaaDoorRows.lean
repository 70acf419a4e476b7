/-
  NARROWER THAN 'FOR EVERY INPUT', by the rows' own cells (each row's printed sentence says how): AesBlocks: laid · AesBack: laid · AesXors: laid · AesParts: laid · AesKeys: laid.
  DERIVED. THE GIVEN ROWS OF THIS SEAT. 5 by the template 'for every input the law returns true; each argument reads behind the call as it read before'; 0 by the template 'total and deterministic' (their statements: YteleedcpepifjaaDoorTotals.lean).
  GIVEN WITH THE SEED: the statements are not yours to turn. If you find one false, say at which input.
  Laid BY PROGRAM, IN A SANDBOX (cutbox-rows.mjs): the forced cells as the released guide's own fill.sh prints them over the translation 979d8fa87f18663d… (all of the seat's roots in one cut). By AI agents, Wed Nov 11 2026. No macro, syntax, notation, axiom, sorry.
-/
import Derived.Test.YteleedcpepifjaaDoorChecked
import GoSem.Claim
import GoSem.ClaimJoined
import GoSem.ClaimMapViews
import Derived.JoinedTies
import Derived.KernelRfl
namespace Go.Proofs.YteleedcpepifjaaDoor
/- THE CELL 'sum', in the pinned program and in every row, IS THE sha256 OF THE DUMP (.gsa) THAT YteleedcpepifjaaDoorProg.lean LOADS. Nothing in Lean hashes anything: it is a label: what it is worth is what the hold of that sum in a sandbox is worth. -/
noncomputable def Tryd.pinned : Pinned := { name := "yteleedcpepifjaadoor", sum := "979d8fa87f18663daaa6cb3a5dcd9531c5ade98e5aa8fc5ee5533e41f04e8da8", checked := Tryd.checked }
namespace Rows
def none {H : Type} : Left H := { results := [], args := [] }

/- WHAT THE LISTED PACKAGE-LEVEL VARIABLES READ AS WHEN THE CALL BEGINS. Each datum BY PROGRAM (the guide's laid-datum.mjs) off the statement by which the dump's own 'gosem.cut.vars' lays the variable. In a bare row this is a premise. The card (YteleedcpepifjaaDoorCards.lean) ties it to the program's text. -/
def laid_speakeasy_api_ErrKey {H : Type} : DataW H := .iface "*errors.errorString" (.ptr (.agg [.lit (.string [97, 32, 107, 101, 121, 32, 116, 104, 97, 116, 32, 109, 97, 121, 32, 110, 111, 116, 32, 98, 101])]))
def laid_speakeasy_api_ErrArg {H : Type} : DataW H := .iface "*errors.errorString" (.ptr (.agg [.lit (.string [97, 110, 32, 97, 114, 103, 117, 109, 101, 110, 116, 32, 116, 104, 97, 116, 32, 109, 97, 121, 32, 110, 111, 116, 32, 98, 101])]))
def laid_speakeasy_api_ErrEnd {H : Type} : DataW H := .iface "*errors.errorString" (.ptr (.agg [.lit (.string [98, 121, 116, 101, 115, 32, 97, 114, 101, 32, 119, 97, 110, 116, 105, 110, 103])]))
def laid_speakeasy_api_ErrForm {H : Type} : DataW H := .iface "*errors.errorString" (.ptr (.agg [.lit (.string [98, 121, 116, 101, 115, 32, 116, 104, 97, 116, 32, 115, 97, 121, 32, 110, 111, 116, 104, 105, 110, 103])]))
def laid_speakeasy_api_ErrBig {H : Type} : DataW H := .iface "*errors.errorString" (.ptr (.agg [.lit (.string [109, 111, 114, 101, 32, 116, 104, 97, 110, 32, 116, 104, 101, 114, 101, 32, 109, 97, 121, 32, 98, 101])]))
def laid_speakeasy_api_ErrMac {H : Type} : DataW H := .iface "*errors.errorString" (.ptr (.agg [.lit (.string [97, 32, 115, 117, 109, 32, 116, 104, 97, 116, 32, 100, 111, 101, 115, 110, 39, 116, 32, 102, 105, 116])]))
def laid_speakeasy_api_ErrState {H : Type} : DataW H := .iface "*errors.errorString" (.ptr (.agg [.lit (.string [110, 111, 116, 32, 110, 111, 119])]))
def laid_speakeasy_api_ErrFull {H : Type} : DataW H := .iface "*errors.errorString" (.ptr (.agg [.lit (.string [116, 104, 101, 114, 101, 32, 105, 115, 32, 110, 111, 32, 114, 111, 111, 109])]))
def laid_speakeasy_api_ErrNone {H : Type} : DataW H := .iface "*errors.errorString" (.ptr (.agg [.lit (.string [116, 104, 101, 114, 101, 32, 105, 115, 32, 110, 111, 110, 101])]))
def laid_speakeasy_api_ErrHave {H : Type} : DataW H := .iface "*errors.errorString" (.ptr (.agg [.lit (.string [105, 116, 32, 105, 115, 32, 116, 104, 101, 114, 101, 32, 97, 108, 114, 101, 97, 100, 121])]))
def laid_speakeasy_api_ErrSign {H : Type} : DataW H := .iface "*errors.errorString" (.ptr (.agg [.lit (.string [97, 32, 115, 105, 103, 110, 97, 116, 117, 114, 101, 32, 116, 104, 97, 116, 32, 100, 111, 101, 115, 110, 39, 116, 32, 102, 105, 116])]))
def laid_speakeasy_api_ErrVersion {H : Type} : DataW H := .iface "*errors.errorString" (.ptr (.agg [.lit (.string [97, 110, 111, 116, 104, 101, 114, 32, 118, 101, 114, 115, 105, 111, 110])]))
def laid_speakeasy_api_ErrAlgo {H : Type} : DataW H := .iface "*errors.errorString" (.ptr (.agg [.lit (.string [110, 111, 116, 104, 105, 110, 103, 32, 105, 110, 32, 99, 111, 109, 109, 111, 110])]))
def laid_speakeasy_api_ErrHost {H : Type} : DataW H := .iface "*errors.errorString" (.ptr (.agg [.lit (.string [97, 110, 111, 116, 104, 101, 114, 32, 104, 111, 115, 116, 39, 115, 32, 107, 101, 121])]))
def laid_speakeasy_api_ErrAuth {H : Type} : DataW H := .iface "*errors.errorString" (.ptr (.agg [.lit (.string [105, 116, 32, 109, 97, 121, 32, 110, 111, 116, 32, 99, 111, 109, 101, 32, 105, 110])]))
def laid_speakeasy_api_ErrQuota {H : Type} : DataW H := .iface "*errors.errorString" (.ptr (.agg [.lit (.string [109, 111, 114, 101, 32, 116, 104, 97, 110, 32, 105, 116, 115, 32, 115, 104, 97, 114, 101])]))
def laid_speakeasy_api_ErrName {H : Type} : DataW H := .iface "*errors.errorString" (.ptr (.agg [.lit (.string [97, 32, 110, 97, 109, 101, 32, 116, 104, 97, 116, 32, 109, 97, 121, 32, 110, 111, 116, 32, 98, 101])]))
def laid_speakeasy_api_ErrGone {H : Type} : DataW H := .iface "*errors.errorString" (.ptr (.agg [.lit (.string [105, 116, 32, 105, 115, 32, 103, 111, 110, 101])]))
def laid_speakeasy_api_ErrWindow {H : Type} : DataW H := .iface "*errors.errorString" (.ptr (.agg [.lit (.string [98, 101, 121, 111, 110, 100, 32, 116, 104, 101, 32, 119, 105, 110, 100, 111, 119])]))
def laid_speakeasy_api_ErrKind {H : Type} : DataW H := .iface "*errors.errorString" (.ptr (.agg [.lit (.string [116, 104, 101, 114, 101, 32, 105, 115, 32, 110, 111, 32, 115, 117, 99, 104, 32, 107, 105, 110, 100])]))

/-- 'speakeasylaw27.AesBlocks': WHATEVER THE INPUT: true; the input reads as it did. -/
def aesBlocksSpec : ChangeSpec := { name := "aesBlocks", fn := fun _ => fun
  | [d1, d2] => { results := [.lit (.bool true)], args := [d1, d2] }
  | _ => none }
def aesBlocksRow : OpenClaim := { program := "yteleedcpepifjaadoor", sum := "979d8fa87f18663daaa6cb3a5dcd9531c5ade98e5aa8fc5ee5533e41f04e8da8", func := "speakeasy/speakeasylaw27.AesBlocks", spec := "aesBlocks", inPlace := ["internal/abi.NoEscape"], named := ["speakeasy/api.ErrKey"], apart := false, laid := [("speakeasy/api.ErrKey", laid_speakeasy_api_ErrKey)] }
def AesBlocksSaid : Prop := aesBlocksRow.holds Tryd.pinned (OpenSpec.ofChange aesBlocksSpec)

/-- ITS FALSE NEIGHBOUR: 'it returns false'. Refute it at one input. -/
def aesBlocksWrong : ChangeSpec := { name := "aesBlocks", fn := fun _ => fun
  | [d1, d2] => { results := [.lit (.bool false)], args := [d1, d2] }
  | _ => none }
def AesBlocksWrongFalsely : Prop := aesBlocksRow.holds Tryd.pinned (OpenSpec.ofChange aesBlocksWrong)

/-- 'speakeasylaw27.AesBack': WHATEVER THE INPUT: true; the input reads as it did. -/
def aesBackSpec : ChangeSpec := { name := "aesBack", fn := fun _ => fun
  | [d1, d2] => { results := [.lit (.bool true)], args := [d1, d2] }
  | _ => none }
def aesBackRow : OpenClaim := { program := "yteleedcpepifjaadoor", sum := "979d8fa87f18663daaa6cb3a5dcd9531c5ade98e5aa8fc5ee5533e41f04e8da8", func := "speakeasy/speakeasylaw27.AesBack", spec := "aesBack", inPlace := ["internal/abi.NoEscape"], named := ["speakeasy/api.ErrKey"], apart := false, laid := [("speakeasy/api.ErrKey", laid_speakeasy_api_ErrKey)] }
def AesBackSaid : Prop := aesBackRow.holds Tryd.pinned (OpenSpec.ofChange aesBackSpec)

/-- ITS FALSE NEIGHBOUR: 'it returns false'. Refute it at one input. -/
def aesBackWrong : ChangeSpec := { name := "aesBack", fn := fun _ => fun
  | [d1, d2] => { results := [.lit (.bool false)], args := [d1, d2] }
  | _ => none }
def AesBackWrongFalsely : Prop := aesBackRow.holds Tryd.pinned (OpenSpec.ofChange aesBackWrong)

/-- 'speakeasylaw27.AesXors': WHATEVER THE INPUT: true; the input reads as it did. -/
def aesXorsSpec : ChangeSpec := { name := "aesXors", fn := fun _ => fun
  | [d1, d2, d3] => { results := [.lit (.bool true)], args := [d1, d2, d3] }
  | _ => none }
def aesXorsRow : OpenClaim := { program := "yteleedcpepifjaadoor", sum := "979d8fa87f18663daaa6cb3a5dcd9531c5ade98e5aa8fc5ee5533e41f04e8da8", func := "speakeasy/speakeasylaw27.AesXors", spec := "aesXors", inPlace := ["internal/abi.NoEscape"], named := ["speakeasy/api.ErrKey"], apart := false, laid := [("speakeasy/api.ErrKey", laid_speakeasy_api_ErrKey)] }
def AesXorsSaid : Prop := aesXorsRow.holds Tryd.pinned (OpenSpec.ofChange aesXorsSpec)

/-- ITS FALSE NEIGHBOUR: 'it returns false'. Refute it at one input. -/
def aesXorsWrong : ChangeSpec := { name := "aesXors", fn := fun _ => fun
  | [d1, d2, d3] => { results := [.lit (.bool false)], args := [d1, d2, d3] }
  | _ => none }
def AesXorsWrongFalsely : Prop := aesXorsRow.holds Tryd.pinned (OpenSpec.ofChange aesXorsWrong)

/-- 'speakeasylaw27.AesParts': WHATEVER THE INPUT: true; the input reads as it did. -/
def aesPartsSpec : ChangeSpec := { name := "aesParts", fn := fun _ => fun
  | [d1, d2, d3] => { results := [.lit (.bool true)], args := [d1, d2, d3] }
  | _ => none }
def aesPartsRow : OpenClaim := { program := "yteleedcpepifjaadoor", sum := "979d8fa87f18663daaa6cb3a5dcd9531c5ade98e5aa8fc5ee5533e41f04e8da8", func := "speakeasy/speakeasylaw27.AesParts", spec := "aesParts", inPlace := ["internal/abi.NoEscape"], named := ["speakeasy/api.ErrKey"], apart := false, laid := [("speakeasy/api.ErrKey", laid_speakeasy_api_ErrKey)] }
def AesPartsSaid : Prop := aesPartsRow.holds Tryd.pinned (OpenSpec.ofChange aesPartsSpec)

/-- ITS FALSE NEIGHBOUR: 'it returns false'. Refute it at one input. -/
def aesPartsWrong : ChangeSpec := { name := "aesParts", fn := fun _ => fun
  | [d1, d2, d3] => { results := [.lit (.bool false)], args := [d1, d2, d3] }
  | _ => none }
def AesPartsWrongFalsely : Prop := aesPartsRow.holds Tryd.pinned (OpenSpec.ofChange aesPartsWrong)

/-- 'speakeasylaw27.AesKeys': WHATEVER THE INPUT: true; the input reads as it did. -/
def aesKeysSpec : ChangeSpec := { name := "aesKeys", fn := fun _ => fun
  | [d] => { results := [.lit (.bool true)], args := [d] }
  | _ => none }
def aesKeysRow : OpenClaim := { program := "yteleedcpepifjaadoor", sum := "979d8fa87f18663daaa6cb3a5dcd9531c5ade98e5aa8fc5ee5533e41f04e8da8", func := "speakeasy/speakeasylaw27.AesKeys", spec := "aesKeys", inPlace := ["internal/abi.NoEscape", "internal/reflectlite.TypeOf"], unfollowed := true, recurses := true, named := ["speakeasy/api.ErrKey", "speakeasy/api.ErrArg", "speakeasy/api.ErrEnd", "speakeasy/api.ErrForm", "speakeasy/api.ErrBig", "speakeasy/api.ErrMac", "speakeasy/api.ErrState", "speakeasy/api.ErrFull", "speakeasy/api.ErrNone", "speakeasy/api.ErrHave", "speakeasy/api.ErrSign", "speakeasy/api.ErrVersion", "speakeasy/api.ErrAlgo", "speakeasy/api.ErrHost", "speakeasy/api.ErrAuth", "speakeasy/api.ErrQuota", "speakeasy/api.ErrName", "speakeasy/api.ErrGone", "speakeasy/api.ErrWindow", "speakeasy/api.ErrKind"], apart := false, laid := [("speakeasy/api.ErrArg", laid_speakeasy_api_ErrArg), ("speakeasy/api.ErrEnd", laid_speakeasy_api_ErrEnd), ("speakeasy/api.ErrForm", laid_speakeasy_api_ErrForm), ("speakeasy/api.ErrBig", laid_speakeasy_api_ErrBig), ("speakeasy/api.ErrMac", laid_speakeasy_api_ErrMac), ("speakeasy/api.ErrState", laid_speakeasy_api_ErrState), ("speakeasy/api.ErrFull", laid_speakeasy_api_ErrFull), ("speakeasy/api.ErrNone", laid_speakeasy_api_ErrNone), ("speakeasy/api.ErrHave", laid_speakeasy_api_ErrHave), ("speakeasy/api.ErrKey", laid_speakeasy_api_ErrKey), ("speakeasy/api.ErrSign", laid_speakeasy_api_ErrSign), ("speakeasy/api.ErrVersion", laid_speakeasy_api_ErrVersion), ("speakeasy/api.ErrAlgo", laid_speakeasy_api_ErrAlgo), ("speakeasy/api.ErrHost", laid_speakeasy_api_ErrHost), ("speakeasy/api.ErrAuth", laid_speakeasy_api_ErrAuth), ("speakeasy/api.ErrQuota", laid_speakeasy_api_ErrQuota), ("speakeasy/api.ErrName", laid_speakeasy_api_ErrName), ("speakeasy/api.ErrGone", laid_speakeasy_api_ErrGone), ("speakeasy/api.ErrWindow", laid_speakeasy_api_ErrWindow), ("speakeasy/api.ErrKind", laid_speakeasy_api_ErrKind)] }
def AesKeysSaid : Prop := aesKeysRow.holds Tryd.pinned (OpenSpec.ofChange aesKeysSpec)

/-- ITS FALSE NEIGHBOUR: 'it returns false'. Refute it at one input. -/
def aesKeysWrong : ChangeSpec := { name := "aesKeys", fn := fun _ => fun
  | [d] => { results := [.lit (.bool false)], args := [d] }
  | _ => none }
def AesKeysWrongFalsely : Prop := aesKeysRow.holds Tryd.pinned (OpenSpec.ofChange aesKeysWrong)

/- THE SECOND FORM. 'bulk': how many values and letters a reading holds, each counted each time it is reached (what is shared counts as often as it is met; a slice's spare places count too). A statement '..UptoSaid' is the law's where the arguments, and the package variables that the reading takes, are together of bulk at most 1048576: NARROWER than '..Said'. Prove '..Said' where nothing that the law and all that it calls make is longer than what came in: it says more and counts as full. Else prove '..UptoSaid'. A law counts once. -/
mutual
def uptoBulk {H : Type} : DataW H → Nat
  | .lit (.string bytes) => bytes.length + 1
  | .lit _ => 1
  | .nil => 1
  | .ptr d => uptoBulk d + 1
  | .slice elems spare => uptoBulkAll elems + uptoBulkAll spare + 1
  | .agg parts => uptoBulkAll parts + 1
  | .iface _ d => uptoBulk d + 1
  | .map entries => uptoBulkEntries entries + 1
  | .held _ => 1
def uptoBulkAll {H : Type} : List (DataW H) → Nat
  | [] => 0
  | d :: r => uptoBulk d + uptoBulkAll r
def uptoBulkEntries {H : Type} : List (Lit × DataW H) → Nat
  | [] => 0
  | x :: r => uptoBulkEntry x + uptoBulkEntries r
def uptoBulkEntry {H : Type} : Lit × DataW H → Nat
  | (.string bytes, d) => bytes.length + uptoBulk d + 1
  | (_, d) => uptoBulk d + 1
 end
def uptoSmall : (H : Type) → List (DataW H) → Bool := fun _ ds => decide (uptoBulkAll ds ≤ 1048576)
def OpenSpec.upto (s : _root_.Go.ChangeSpec) : _root_.Go.OpenSpec := { _root_.Go.OpenSpec.ofChange s with cond := some uptoSmall }

/-- 'speakeasylaw27.AesBlocks', WHERE WHAT IT READS IS OF BULK AT MOST 1048576: true; the input reads as it did. -/
def aesBlocksUptoRow : OpenClaim := { program := "yteleedcpepifjaadoor", sum := "979d8fa87f18663daaa6cb3a5dcd9531c5ade98e5aa8fc5ee5533e41f04e8da8", func := "speakeasy/speakeasylaw27.AesBlocks", spec := "aesBlocks", inPlace := ["internal/abi.NoEscape"], named := ["speakeasy/api.ErrKey"], apart := false, laid := [("speakeasy/api.ErrKey", laid_speakeasy_api_ErrKey)], narrowed := true }
def AesBlocksUptoSaid : Prop := aesBlocksUptoRow.holds Tryd.pinned (OpenSpec.upto aesBlocksSpec)

/-- 'speakeasylaw27.AesBack', WHERE WHAT IT READS IS OF BULK AT MOST 1048576: true; the input reads as it did. -/
def aesBackUptoRow : OpenClaim := { program := "yteleedcpepifjaadoor", sum := "979d8fa87f18663daaa6cb3a5dcd9531c5ade98e5aa8fc5ee5533e41f04e8da8", func := "speakeasy/speakeasylaw27.AesBack", spec := "aesBack", inPlace := ["internal/abi.NoEscape"], named := ["speakeasy/api.ErrKey"], apart := false, laid := [("speakeasy/api.ErrKey", laid_speakeasy_api_ErrKey)], narrowed := true }
def AesBackUptoSaid : Prop := aesBackUptoRow.holds Tryd.pinned (OpenSpec.upto aesBackSpec)

/-- 'speakeasylaw27.AesXors', WHERE WHAT IT READS IS OF BULK AT MOST 1048576: true; the input reads as it did. -/
def aesXorsUptoRow : OpenClaim := { program := "yteleedcpepifjaadoor", sum := "979d8fa87f18663daaa6cb3a5dcd9531c5ade98e5aa8fc5ee5533e41f04e8da8", func := "speakeasy/speakeasylaw27.AesXors", spec := "aesXors", inPlace := ["internal/abi.NoEscape"], named := ["speakeasy/api.ErrKey"], apart := false, laid := [("speakeasy/api.ErrKey", laid_speakeasy_api_ErrKey)], narrowed := true }
def AesXorsUptoSaid : Prop := aesXorsUptoRow.holds Tryd.pinned (OpenSpec.upto aesXorsSpec)

/-- 'speakeasylaw27.AesParts', WHERE WHAT IT READS IS OF BULK AT MOST 1048576: true; the input reads as it did. -/
def aesPartsUptoRow : OpenClaim := { program := "yteleedcpepifjaadoor", sum := "979d8fa87f18663daaa6cb3a5dcd9531c5ade98e5aa8fc5ee5533e41f04e8da8", func := "speakeasy/speakeasylaw27.AesParts", spec := "aesParts", inPlace := ["internal/abi.NoEscape"], named := ["speakeasy/api.ErrKey"], apart := false, laid := [("speakeasy/api.ErrKey", laid_speakeasy_api_ErrKey)], narrowed := true }
def AesPartsUptoSaid : Prop := aesPartsUptoRow.holds Tryd.pinned (OpenSpec.upto aesPartsSpec)

/-- 'speakeasylaw27.AesKeys', WHERE WHAT IT READS IS OF BULK AT MOST 1048576: true; the input reads as it did. -/
def aesKeysUptoRow : OpenClaim := { program := "yteleedcpepifjaadoor", sum := "979d8fa87f18663daaa6cb3a5dcd9531c5ade98e5aa8fc5ee5533e41f04e8da8", func := "speakeasy/speakeasylaw27.AesKeys", spec := "aesKeys", inPlace := ["internal/abi.NoEscape", "internal/reflectlite.TypeOf"], unfollowed := true, recurses := true, named := ["speakeasy/api.ErrKey", "speakeasy/api.ErrArg", "speakeasy/api.ErrEnd", "speakeasy/api.ErrForm", "speakeasy/api.ErrBig", "speakeasy/api.ErrMac", "speakeasy/api.ErrState", "speakeasy/api.ErrFull", "speakeasy/api.ErrNone", "speakeasy/api.ErrHave", "speakeasy/api.ErrSign", "speakeasy/api.ErrVersion", "speakeasy/api.ErrAlgo", "speakeasy/api.ErrHost", "speakeasy/api.ErrAuth", "speakeasy/api.ErrQuota", "speakeasy/api.ErrName", "speakeasy/api.ErrGone", "speakeasy/api.ErrWindow", "speakeasy/api.ErrKind"], apart := false, laid := [("speakeasy/api.ErrArg", laid_speakeasy_api_ErrArg), ("speakeasy/api.ErrEnd", laid_speakeasy_api_ErrEnd), ("speakeasy/api.ErrForm", laid_speakeasy_api_ErrForm), ("speakeasy/api.ErrBig", laid_speakeasy_api_ErrBig), ("speakeasy/api.ErrMac", laid_speakeasy_api_ErrMac), ("speakeasy/api.ErrState", laid_speakeasy_api_ErrState), ("speakeasy/api.ErrFull", laid_speakeasy_api_ErrFull), ("speakeasy/api.ErrNone", laid_speakeasy_api_ErrNone), ("speakeasy/api.ErrHave", laid_speakeasy_api_ErrHave), ("speakeasy/api.ErrKey", laid_speakeasy_api_ErrKey), ("speakeasy/api.ErrSign", laid_speakeasy_api_ErrSign), ("speakeasy/api.ErrVersion", laid_speakeasy_api_ErrVersion), ("speakeasy/api.ErrAlgo", laid_speakeasy_api_ErrAlgo), ("speakeasy/api.ErrHost", laid_speakeasy_api_ErrHost), ("speakeasy/api.ErrAuth", laid_speakeasy_api_ErrAuth), ("speakeasy/api.ErrQuota", laid_speakeasy_api_ErrQuota), ("speakeasy/api.ErrName", laid_speakeasy_api_ErrName), ("speakeasy/api.ErrGone", laid_speakeasy_api_ErrGone), ("speakeasy/api.ErrWindow", laid_speakeasy_api_ErrWindow), ("speakeasy/api.ErrKind", laid_speakeasy_api_ErrKind)], narrowed := true }
def AesKeysUptoSaid : Prop := aesKeysUptoRow.holds Tryd.pinned (OpenSpec.upto aesKeysSpec)

end Rows
end Go.Proofs.YteleedcpepifjaaDoor
