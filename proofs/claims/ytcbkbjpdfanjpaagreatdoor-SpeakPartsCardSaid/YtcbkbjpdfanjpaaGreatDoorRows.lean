/-
  NARROWER THAN 'FOR EVERY INPUT', by the rows' own cells (each row's printed sentence says how): SpeakParts: laid.
  DERIVED. THE GIVEN ROWS OF THIS SEAT. 1 by the template 'for every input the law returns true; each argument reads behind the call as it read before'; 0 by the template 'total and deterministic' (their statements: YtcbkbjpdfanjpaaGreatDoorTotals.lean).
  GIVEN WITH THE SEED: the statements are not yours to turn. If you find one false, say at which input.
  Laid BY PROGRAM, IN A SANDBOX (cutbox-rows.mjs): the forced cells as the released guide's own fill.sh prints them over the translation 90165ff86c7cee9a… (all of the seat's roots in one cut). By AI agents, Wed Nov 11 2026. No macro, syntax, notation, axiom, sorry.
-/
import Derived.Test.YtcbkbjpdfanjpaaGreatDoorChecked
import GoSem.PinnedTables
import GoSem.Claim
import GoSem.ClaimJoined
import GoSem.ClaimMapViews
import Derived.JoinedTies
import Derived.KernelRfl
namespace Go.Proofs.YtcbkbjpdfanjpaaGreatDoor
/- THE CELL 'sum', in the pinned program and in every row, IS THE sha256 OF THE DUMP (.gsa) THAT YtcbkbjpdfanjpaaGreatDoorProg.lean LOADS. Nothing in Lean hashes anything: it is a label: what it is worth is what the hold of that sum in a sandbox is worth. -/
noncomputable def Tryz.pinned : Pinned := { name := "ytcbkbjpdfanjpaagreatdoor", sum := "90165ff86c7cee9a4afe42d7a11d2c35fb455ae996821c8e6d56f38f028efb6d", checked := Tryz.checked }
namespace Rows
def none {H : Type} : Left H := { results := [], args := [] }

/- WHAT THE LISTED PACKAGE-LEVEL VARIABLES READ AS WHEN THE CALL BEGINS. Each datum BY PROGRAM (the guide's laid-datum.mjs) off the statement by which the dump's own 'gosem.cut.vars' lays the variable. In a bare row this is a premise. The card (YtcbkbjpdfanjpaaGreatDoorCards.lean) ties it to the program's text. -/
def laid_speakeasy_chacha_begin {H : Type} : DataW H := .agg [.lit (.int .u32 1634760805), .lit (.int .u32 857760878), .lit (.int .u32 2036477234), .lit (.int .u32 1797285236)]
def laid_speakeasy_chacha_order {H : Type} : DataW H := .agg [.agg [.lit (.int .i64 0), .lit (.int .i64 4), .lit (.int .i64 8), .lit (.int .i64 12)], .agg [.lit (.int .i64 1), .lit (.int .i64 5), .lit (.int .i64 9), .lit (.int .i64 13)], .agg [.lit (.int .i64 2), .lit (.int .i64 6), .lit (.int .i64 10), .lit (.int .i64 14)], .agg [.lit (.int .i64 3), .lit (.int .i64 7), .lit (.int .i64 11), .lit (.int .i64 15)], .agg [.lit (.int .i64 0), .lit (.int .i64 5), .lit (.int .i64 10), .lit (.int .i64 15)], .agg [.lit (.int .i64 1), .lit (.int .i64 6), .lit (.int .i64 11), .lit (.int .i64 12)], .agg [.lit (.int .i64 2), .lit (.int .i64 7), .lit (.int .i64 8), .lit (.int .i64 13)], .agg [.lit (.int .i64 3), .lit (.int .i64 4), .lit (.int .i64 9), .lit (.int .i64 14)]]
def laid_unicode_utf8_acceptRanges {H : Type} : DataW H := .agg [.agg [.lit (.int .u8 128), .lit (.int .u8 191)], .agg [.lit (.int .u8 160), .lit (.int .u8 191)], .agg [.lit (.int .u8 128), .lit (.int .u8 159)], .agg [.lit (.int .u8 144), .lit (.int .u8 191)], .agg [.lit (.int .u8 128), .lit (.int .u8 143)], .agg [.lit (.int .u8 0), .lit (.int .u8 0)], .agg [.lit (.int .u8 0), .lit (.int .u8 0)], .agg [.lit (.int .u8 0), .lit (.int .u8 0)], .agg [.lit (.int .u8 0), .lit (.int .u8 0)], .agg [.lit (.int .u8 0), .lit (.int .u8 0)], .agg [.lit (.int .u8 0), .lit (.int .u8 0)], .agg [.lit (.int .u8 0), .lit (.int .u8 0)], .agg [.lit (.int .u8 0), .lit (.int .u8 0)], .agg [.lit (.int .u8 0), .lit (.int .u8 0)], .agg [.lit (.int .u8 0), .lit (.int .u8 0)], .agg [.lit (.int .u8 0), .lit (.int .u8 0)]]
def laid_speakeasy_api_ErrArg {H : Type} : DataW H := .iface "*errors.errorString" (.ptr (.agg [.lit (.string [97, 110, 32, 97, 114, 103, 117, 109, 101, 110, 116, 32, 116, 104, 97, 116, 32, 109, 97, 121, 32, 110, 111, 116, 32, 98, 101])]))
def laid_speakeasy_api_ErrEnd {H : Type} : DataW H := .iface "*errors.errorString" (.ptr (.agg [.lit (.string [98, 121, 116, 101, 115, 32, 97, 114, 101, 32, 119, 97, 110, 116, 105, 110, 103])]))
def laid_speakeasy_api_ErrForm {H : Type} : DataW H := .iface "*errors.errorString" (.ptr (.agg [.lit (.string [98, 121, 116, 101, 115, 32, 116, 104, 97, 116, 32, 115, 97, 121, 32, 110, 111, 116, 104, 105, 110, 103])]))
def laid_speakeasy_api_ErrBig {H : Type} : DataW H := .iface "*errors.errorString" (.ptr (.agg [.lit (.string [109, 111, 114, 101, 32, 116, 104, 97, 110, 32, 116, 104, 101, 114, 101, 32, 109, 97, 121, 32, 98, 101])]))
def laid_speakeasy_api_ErrMac {H : Type} : DataW H := .iface "*errors.errorString" (.ptr (.agg [.lit (.string [97, 32, 115, 117, 109, 32, 116, 104, 97, 116, 32, 100, 111, 101, 115, 110, 39, 116, 32, 102, 105, 116])]))
def laid_speakeasy_api_ErrVersion {H : Type} : DataW H := .iface "*errors.errorString" (.ptr (.agg [.lit (.string [97, 110, 111, 116, 104, 101, 114, 32, 118, 101, 114, 115, 105, 111, 110])]))
def laid_speakeasy_api_ErrKind {H : Type} : DataW H := .iface "*errors.errorString" (.ptr (.agg [.lit (.string [116, 104, 101, 114, 101, 32, 105, 115, 32, 110, 111, 32, 115, 117, 99, 104, 32, 107, 105, 110, 100])]))
def laid_speakeasy_message_rows {H : Type} : DataW H := .agg [.agg [.lit (.int .i64 1), .lit (.string [100, 105, 115, 99, 111, 110, 110, 101, 99, 116]), .lit (.string [117, 115, 115])], .agg [.lit (.int .i64 2), .lit (.string [105, 103, 110, 111, 114, 101]), .lit (.string [115])], .agg [.lit (.int .i64 3), .lit (.string [117, 110, 105, 109, 112, 108, 101, 109, 101, 110, 116, 101, 100]), .lit (.string [117])], .agg [.lit (.int .i64 4), .lit (.string [100, 101, 98, 117, 103]), .lit (.string [98, 115, 115])], .agg [.lit (.int .i64 5), .lit (.string [115, 101, 114, 118, 105, 99, 101, 45, 114, 101, 113, 117, 101, 115, 116]), .lit (.string [115])], .agg [.lit (.int .i64 6), .lit (.string [115, 101, 114, 118, 105, 99, 101, 45, 97, 99, 99, 101, 112, 116]), .lit (.string [115])], .agg [.lit (.int .i64 20), .lit (.string [107, 101, 120, 105, 110, 105, 116]), .lit (.string [99, 110, 110, 110, 110, 110, 110, 110, 110, 110, 110, 98, 117])], .agg [.lit (.int .i64 21), .lit (.string [110, 101, 119, 107, 101, 121, 115]), .lit (.string [])], .agg [.lit (.int .i64 30), .lit (.string [101, 99, 100, 104, 45, 105, 110, 105, 116]), .lit (.string [115])], .agg [.lit (.int .i64 31), .lit (.string [101, 99, 100, 104, 45, 114, 101, 112, 108, 121]), .lit (.string [115, 115, 115])], .agg [.lit (.int .i64 50), .lit (.string [97, 117, 116, 104, 45, 114, 101, 113, 117, 101, 115, 116]), .lit (.string [115, 115, 115, 114])], .agg [.lit (.int .i64 51), .lit (.string [97, 117, 116, 104, 45, 102, 97, 105, 108, 117, 114, 101]), .lit (.string [110, 98])], .agg [.lit (.int .i64 52), .lit (.string [97, 117, 116, 104, 45, 115, 117, 99, 99, 101, 115, 115]), .lit (.string [])], .agg [.lit (.int .i64 53), .lit (.string [98, 97, 110, 110, 101, 114]), .lit (.string [115, 115])], .agg [.lit (.int .i64 60), .lit (.string [112, 107, 45, 111, 107]), .lit (.string [115, 115])], .agg [.lit (.int .i64 80), .lit (.string [103, 108, 111, 98, 97, 108, 45, 114, 101, 113, 117, 101, 115, 116]), .lit (.string [115, 98, 114])], .agg [.lit (.int .i64 81), .lit (.string [114, 101, 113, 117, 101, 115, 116, 45, 115, 117, 99, 99, 101, 115, 115]), .lit (.string [114])], .agg [.lit (.int .i64 82), .lit (.string [114, 101, 113, 117, 101, 115, 116, 45, 102, 97, 105, 108, 117, 114, 101]), .lit (.string [])], .agg [.lit (.int .i64 90), .lit (.string [111, 112, 101, 110]), .lit (.string [115, 117, 117, 117, 114])], .agg [.lit (.int .i64 91), .lit (.string [99, 111, 110, 102, 105, 114, 109]), .lit (.string [117, 117, 117, 117, 114])], .agg [.lit (.int .i64 92), .lit (.string [111, 112, 101, 110, 45, 102, 97, 105, 108, 117, 114, 101]), .lit (.string [117, 117, 115, 115])], .agg [.lit (.int .i64 93), .lit (.string [97, 100, 106, 117, 115, 116]), .lit (.string [117, 117])], .agg [.lit (.int .i64 94), .lit (.string [100, 97, 116, 97]), .lit (.string [117, 115])], .agg [.lit (.int .i64 95), .lit (.string [101, 120, 116, 101, 110, 100, 101, 100]), .lit (.string [117, 117, 115])], .agg [.lit (.int .i64 96), .lit (.string [101, 111, 102]), .lit (.string [117])], .agg [.lit (.int .i64 97), .lit (.string [99, 108, 111, 115, 101]), .lit (.string [117])], .agg [.lit (.int .i64 98), .lit (.string [99, 104, 97, 110, 110, 101, 108, 45, 114, 101, 113, 117, 101, 115, 116]), .lit (.string [117, 115, 98, 114])], .agg [.lit (.int .i64 99), .lit (.string [99, 104, 97, 110, 110, 101, 108, 45, 115, 117, 99, 99, 101, 115, 115]), .lit (.string [117])], .agg [.lit (.int .i64 100), .lit (.string [99, 104, 97, 110, 110, 101, 108, 45, 102, 97, 105, 108, 117, 114, 101]), .lit (.string [117])]]
/-- One of Go's own tables, pinned by name: the form's constant. -/
def laid_unicode_utf8_first : DataW Unit := Go.Pinned.utf8First

/-- 'speakeasytop.SpeakParts': WHATEVER THE INPUT: true; the input reads as it did. -/
def speakPartsSpec : ChangeSpec := { name := "speakParts", fn := fun _ => fun
  | [d] => { results := [.lit (.bool true)], args := [d] }
  | _ => none }
def speakPartsRow : OpenClaim := { program := "ytcbkbjpdfanjpaagreatdoor", sum := "90165ff86c7cee9a4afe42d7a11d2c35fb455ae996821c8e6d56f38f028efb6d", func := "speakeasy/speakeasytop.SpeakParts", spec := "speakParts", inPlace := ["internal/bytealg.CountString", "internal/bytealg.IndexByteString", "internal/bytealg.IndexString", "internal/abi.NoEscape", "internal/bytealg.MakeNoZero", "math/bits.Add64", "math/bits.Sub64"], unfollowed := true, recurses := true, named := ["speakeasy/api.ErrArg", "speakeasy/api.ErrKind", "speakeasy/api.ErrBig", "speakeasy/message.rows", "internal/bytealg.MaxLen", "speakeasy/api.ErrEnd", "speakeasy/chacha.begin", "speakeasy/chacha.order", "speakeasy/api.ErrForm", "speakeasy/api.ErrVersion", "speakeasy/api.ErrMac", "unicode/utf8.first", "unicode/utf8.acceptRanges"], apart := false, laid := [("speakeasy/chacha.begin", laid_speakeasy_chacha_begin), ("speakeasy/chacha.order", laid_speakeasy_chacha_order), ("unicode/utf8.acceptRanges", laid_unicode_utf8_acceptRanges), ("speakeasy/api.ErrArg", laid_speakeasy_api_ErrArg), ("speakeasy/api.ErrEnd", laid_speakeasy_api_ErrEnd), ("speakeasy/api.ErrForm", laid_speakeasy_api_ErrForm), ("speakeasy/api.ErrBig", laid_speakeasy_api_ErrBig), ("speakeasy/api.ErrMac", laid_speakeasy_api_ErrMac), ("speakeasy/api.ErrVersion", laid_speakeasy_api_ErrVersion), ("speakeasy/api.ErrKind", laid_speakeasy_api_ErrKind), ("speakeasy/message.rows", laid_speakeasy_message_rows), ("unicode/utf8.first", laid_unicode_utf8_first)] }
def SpeakPartsSaid : Prop := speakPartsRow.holds Tryz.pinned (OpenSpec.ofChange speakPartsSpec)

/-- ITS FALSE NEIGHBOUR: 'it returns false'. Refute it at one input. -/
def speakPartsWrong : ChangeSpec := { name := "speakParts", fn := fun _ => fun
  | [d] => { results := [.lit (.bool false)], args := [d] }
  | _ => none }
def SpeakPartsWrongFalsely : Prop := speakPartsRow.holds Tryz.pinned (OpenSpec.ofChange speakPartsWrong)

/- THE SECOND FORM. 'bulk': how many values and letters a reading holds, each counted each time it is reached (what is shared counts as often as it is met; a slice's spare places count too). A statement '..UptoSaid' is the law's where the arguments, and the package variables that the reading takes, are together of bulk at most 1048576: NARROWER than '..Said'. Prove '..Said' where nothing that the law and all that it calls make is longer than what came in: it says more and counts as full. Else prove '..UptoSaid'. A law counts once. -/
mutual
def uptoBulk {H : Type} : DataW H → Nat
  | .lit (.string bytes) => bytes.length + 1
  | .lit _ => 1
  | .nil => 1
  | .ptr d => uptoBulk d + 1
  | .slice elems spare => uptoBulkAll elems + uptoBulkAll spare + 1
  | .agg parts => uptoBulkAll parts + 1
  | .iface _ d => uptoBulk d + 1
  | .map entries => uptoBulkEntries entries + 1
  | .held _ => 1
def uptoBulkAll {H : Type} : List (DataW H) → Nat
  | [] => 0
  | d :: r => uptoBulk d + uptoBulkAll r
def uptoBulkEntries {H : Type} : List (Lit × DataW H) → Nat
  | [] => 0
  | x :: r => uptoBulkEntry x + uptoBulkEntries r
def uptoBulkEntry {H : Type} : Lit × DataW H → Nat
  | (.string bytes, d) => bytes.length + uptoBulk d + 1
  | (_, d) => uptoBulk d + 1
 end
def uptoSmall : (H : Type) → List (DataW H) → Bool := fun _ ds => decide (uptoBulkAll ds ≤ 1048576)
def OpenSpec.upto (s : _root_.Go.ChangeSpec) : _root_.Go.OpenSpec := { _root_.Go.OpenSpec.ofChange s with cond := some uptoSmall }

/-- 'speakeasytop.SpeakParts', WHERE WHAT IT READS IS OF BULK AT MOST 1048576: true; the input reads as it did. -/
def speakPartsUptoRow : OpenClaim := { program := "ytcbkbjpdfanjpaagreatdoor", sum := "90165ff86c7cee9a4afe42d7a11d2c35fb455ae996821c8e6d56f38f028efb6d", func := "speakeasy/speakeasytop.SpeakParts", spec := "speakParts", inPlace := ["internal/bytealg.CountString", "internal/bytealg.IndexByteString", "internal/bytealg.IndexString", "internal/abi.NoEscape", "internal/bytealg.MakeNoZero", "math/bits.Add64", "math/bits.Sub64"], unfollowed := true, recurses := true, named := ["speakeasy/api.ErrArg", "speakeasy/api.ErrKind", "speakeasy/api.ErrBig", "speakeasy/message.rows", "internal/bytealg.MaxLen", "speakeasy/api.ErrEnd", "speakeasy/chacha.begin", "speakeasy/chacha.order", "speakeasy/api.ErrForm", "speakeasy/api.ErrVersion", "speakeasy/api.ErrMac", "unicode/utf8.first", "unicode/utf8.acceptRanges"], apart := false, laid := [("speakeasy/chacha.begin", laid_speakeasy_chacha_begin), ("speakeasy/chacha.order", laid_speakeasy_chacha_order), ("unicode/utf8.acceptRanges", laid_unicode_utf8_acceptRanges), ("speakeasy/api.ErrArg", laid_speakeasy_api_ErrArg), ("speakeasy/api.ErrEnd", laid_speakeasy_api_ErrEnd), ("speakeasy/api.ErrForm", laid_speakeasy_api_ErrForm), ("speakeasy/api.ErrBig", laid_speakeasy_api_ErrBig), ("speakeasy/api.ErrMac", laid_speakeasy_api_ErrMac), ("speakeasy/api.ErrVersion", laid_speakeasy_api_ErrVersion), ("speakeasy/api.ErrKind", laid_speakeasy_api_ErrKind), ("speakeasy/message.rows", laid_speakeasy_message_rows), ("unicode/utf8.first", laid_unicode_utf8_first)], narrowed := true }
def SpeakPartsUptoSaid : Prop := speakPartsUptoRow.holds Tryz.pinned (OpenSpec.upto speakPartsSpec)

end Rows
end Go.Proofs.YtcbkbjpdfanjpaaGreatDoor
