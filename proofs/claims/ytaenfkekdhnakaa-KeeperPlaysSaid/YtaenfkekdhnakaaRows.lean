/-
  No cell of these rows narrows 'for every input' (looked for: loops, veiled, ifaces, maps, wideKeys, modest, calm, conditions, laid).
  DERIVED. THE GIVEN ROWS OF THIS SEAT. 5 by the template 'for every input the law returns true; each argument reads behind the call as it read before'; 0 by the template 'total and deterministic' (their statements: YtaenfkekdhnakaaTotals.lean).
  GIVEN WITH THE SEED: the statements are not yours to turn. If you find one false, say at which input.
  Laid BY PROGRAM, IN A SANDBOX (cutbox-rows.mjs): the forced cells as the released guide's own fill.sh prints them over the translation 358ecc529e13debb… (all of the seat's roots in one cut). By AI agents, Wed Nov 11 2026. No macro, syntax, notation, axiom, sorry.
-/
import Derived.Test.YtaenfkekdhnakaaChecked
import GoSem.Claim
import GoSem.ClaimJoined
import GoSem.ClaimMapViews
import Derived.JoinedTies
import Derived.KernelRfl
namespace Go.Proofs.Ytaenfkekdhnakaa
/- THE CELL 'sum', in the pinned program and in every row, IS THE sha256 OF THE DUMP (.gsa) THAT YtaenfkekdhnakaaProg.lean LOADS. Nothing in Lean hashes anything: it is a label: what it is worth is what the hold of that sum in a sandbox is worth. -/
noncomputable def Try.pinned : Pinned := { name := "ytaenfkekdhnakaa", sum := "358ecc529e13debb866f0f1907e4cd49be7f27a9f7ddd5bcfd487fd0417c2b8d", checked := Try.checked }
namespace Rows
def none {H : Type} : Left H := { results := [], args := [] }

/-- 'speakeasylaw29.KeeperPlays': WHATEVER THE INPUT: true; the input reads as it did. -/
def keeperPlaysSpec : ChangeSpec := { name := "keeperPlays", fn := fun _ => fun
  | [d1, d2] => { results := [.lit (.bool true)], args := [d1, d2] }
  | _ => none }
def keeperPlaysRow : OpenClaim := { program := "ytaenfkekdhnakaa", sum := "358ecc529e13debb866f0f1907e4cd49be7f27a9f7ddd5bcfd487fd0417c2b8d", func := "speakeasy/speakeasylaw29.KeeperPlays", spec := "keeperPlays", unfollowed := true, recurses := true, apart := false }
def KeeperPlaysSaid : Prop := keeperPlaysRow.holds Try.pinned (OpenSpec.ofChange keeperPlaysSpec)

/-- ITS FALSE NEIGHBOUR: 'it returns false'. Refute it at one input. -/
def keeperPlaysWrong : ChangeSpec := { name := "keeperPlays", fn := fun _ => fun
  | [d1, d2] => { results := [.lit (.bool false)], args := [d1, d2] }
  | _ => none }
def KeeperPlaysWrongFalsely : Prop := keeperPlaysRow.holds Try.pinned (OpenSpec.ofChange keeperPlaysWrong)

/-- 'speakeasylaw29.KeeperBacksOff': WHATEVER THE INPUT: true; the input reads as it did. -/
def keeperBacksOffSpec : ChangeSpec := { name := "keeperBacksOff", fn := fun _ => fun
  | [d1, d2, d3] => { results := [.lit (.bool true)], args := [d1, d2, d3] }
  | _ => none }
def keeperBacksOffRow : OpenClaim := { program := "ytaenfkekdhnakaa", sum := "358ecc529e13debb866f0f1907e4cd49be7f27a9f7ddd5bcfd487fd0417c2b8d", func := "speakeasy/speakeasylaw29.KeeperBacksOff", spec := "keeperBacksOff", unfollowed := true, recurses := true, apart := false }
def KeeperBacksOffSaid : Prop := keeperBacksOffRow.holds Try.pinned (OpenSpec.ofChange keeperBacksOffSpec)

/-- ITS FALSE NEIGHBOUR: 'it returns false'. Refute it at one input. -/
def keeperBacksOffWrong : ChangeSpec := { name := "keeperBacksOff", fn := fun _ => fun
  | [d1, d2, d3] => { results := [.lit (.bool false)], args := [d1, d2, d3] }
  | _ => none }
def KeeperBacksOffWrongFalsely : Prop := keeperBacksOffRow.holds Try.pinned (OpenSpec.ofChange keeperBacksOffWrong)

/-- 'speakeasylaw29.KeeperBeats': WHATEVER THE INPUT: true; the input reads as it did. -/
def keeperBeatsSpec : ChangeSpec := { name := "keeperBeats", fn := fun _ => fun
  | [d1, d2, d3] => { results := [.lit (.bool true)], args := [d1, d2, d3] }
  | _ => none }
def keeperBeatsRow : OpenClaim := { program := "ytaenfkekdhnakaa", sum := "358ecc529e13debb866f0f1907e4cd49be7f27a9f7ddd5bcfd487fd0417c2b8d", func := "speakeasy/speakeasylaw29.KeeperBeats", spec := "keeperBeats", unfollowed := true, recurses := true, apart := false }
def KeeperBeatsSaid : Prop := keeperBeatsRow.holds Try.pinned (OpenSpec.ofChange keeperBeatsSpec)

/-- ITS FALSE NEIGHBOUR: 'it returns false'. Refute it at one input. -/
def keeperBeatsWrong : ChangeSpec := { name := "keeperBeats", fn := fun _ => fun
  | [d1, d2, d3] => { results := [.lit (.bool false)], args := [d1, d2, d3] }
  | _ => none }
def KeeperBeatsWrongFalsely : Prop := keeperBeatsRow.holds Try.pinned (OpenSpec.ofChange keeperBeatsWrong)

/-- 'speakeasylaw29.KeeperHolds': WHATEVER THE INPUT: true; the input reads as it did. -/
def keeperHoldsSpec : ChangeSpec := { name := "keeperHolds", fn := fun _ => fun
  | [d1, d2] => { results := [.lit (.bool true)], args := [d1, d2] }
  | _ => none }
def keeperHoldsRow : OpenClaim := { program := "ytaenfkekdhnakaa", sum := "358ecc529e13debb866f0f1907e4cd49be7f27a9f7ddd5bcfd487fd0417c2b8d", func := "speakeasy/speakeasylaw29.KeeperHolds", spec := "keeperHolds", unfollowed := true, recurses := true, apart := false }
def KeeperHoldsSaid : Prop := keeperHoldsRow.holds Try.pinned (OpenSpec.ofChange keeperHoldsSpec)

/-- ITS FALSE NEIGHBOUR: 'it returns false'. Refute it at one input. -/
def keeperHoldsWrong : ChangeSpec := { name := "keeperHolds", fn := fun _ => fun
  | [d1, d2] => { results := [.lit (.bool false)], args := [d1, d2] }
  | _ => none }
def KeeperHoldsWrongFalsely : Prop := keeperHoldsRow.holds Try.pinned (OpenSpec.ofChange keeperHoldsWrong)

/-- 'speakeasylaw29.KeeperTries': WHATEVER THE INPUT: true; the input reads as it did. -/
def keeperTriesSpec : ChangeSpec := { name := "keeperTries", fn := fun _ => fun
  | [d1, d2, d3] => { results := [.lit (.bool true)], args := [d1, d2, d3] }
  | _ => none }
def keeperTriesRow : OpenClaim := { program := "ytaenfkekdhnakaa", sum := "358ecc529e13debb866f0f1907e4cd49be7f27a9f7ddd5bcfd487fd0417c2b8d", func := "speakeasy/speakeasylaw29.KeeperTries", spec := "keeperTries", unfollowed := true, recurses := true, apart := false }
def KeeperTriesSaid : Prop := keeperTriesRow.holds Try.pinned (OpenSpec.ofChange keeperTriesSpec)

/-- ITS FALSE NEIGHBOUR: 'it returns false'. Refute it at one input. -/
def keeperTriesWrong : ChangeSpec := { name := "keeperTries", fn := fun _ => fun
  | [d1, d2, d3] => { results := [.lit (.bool false)], args := [d1, d2, d3] }
  | _ => none }
def KeeperTriesWrongFalsely : Prop := keeperTriesRow.holds Try.pinned (OpenSpec.ofChange keeperTriesWrong)

/- THE SECOND FORM. 'bulk': how many values and letters a reading holds, each counted each time it is reached (what is shared counts as often as it is met; a slice's spare places count too). A statement '..UptoSaid' is the law's where the arguments, and the package variables that the reading takes, are together of bulk at most 1048576: NARROWER than '..Said'. Prove '..Said' where nothing that the law and all that it calls make is longer than what came in: it says more and counts as full. Else prove '..UptoSaid'. A law counts once. -/
mutual
def uptoBulk {H : Type} : DataW H → Nat
  | .lit (.string bytes) => bytes.length + 1
  | .lit _ => 1
  | .nil => 1
  | .ptr d => uptoBulk d + 1
  | .slice elems spare => uptoBulkAll elems + uptoBulkAll spare + 1
  | .agg parts => uptoBulkAll parts + 1
  | .iface _ d => uptoBulk d + 1
  | .map entries => uptoBulkEntries entries + 1
  | .held _ => 1
def uptoBulkAll {H : Type} : List (DataW H) → Nat
  | [] => 0
  | d :: r => uptoBulk d + uptoBulkAll r
def uptoBulkEntries {H : Type} : List (Lit × DataW H) → Nat
  | [] => 0
  | x :: r => uptoBulkEntry x + uptoBulkEntries r
def uptoBulkEntry {H : Type} : Lit × DataW H → Nat
  | (.string bytes, d) => bytes.length + uptoBulk d + 1
  | (_, d) => uptoBulk d + 1
 end
def uptoSmall : (H : Type) → List (DataW H) → Bool := fun _ ds => decide (uptoBulkAll ds ≤ 1048576)
def OpenSpec.upto (s : _root_.Go.ChangeSpec) : _root_.Go.OpenSpec := { _root_.Go.OpenSpec.ofChange s with cond := some uptoSmall }

/-- 'speakeasylaw29.KeeperPlays', WHERE WHAT IT READS IS OF BULK AT MOST 1048576: true; the input reads as it did. -/
def keeperPlaysUptoRow : OpenClaim := { program := "ytaenfkekdhnakaa", sum := "358ecc529e13debb866f0f1907e4cd49be7f27a9f7ddd5bcfd487fd0417c2b8d", func := "speakeasy/speakeasylaw29.KeeperPlays", spec := "keeperPlays", unfollowed := true, recurses := true, apart := false, narrowed := true }
def KeeperPlaysUptoSaid : Prop := keeperPlaysUptoRow.holds Try.pinned (OpenSpec.upto keeperPlaysSpec)

/-- 'speakeasylaw29.KeeperBacksOff', WHERE WHAT IT READS IS OF BULK AT MOST 1048576: true; the input reads as it did. -/
def keeperBacksOffUptoRow : OpenClaim := { program := "ytaenfkekdhnakaa", sum := "358ecc529e13debb866f0f1907e4cd49be7f27a9f7ddd5bcfd487fd0417c2b8d", func := "speakeasy/speakeasylaw29.KeeperBacksOff", spec := "keeperBacksOff", unfollowed := true, recurses := true, apart := false, narrowed := true }
def KeeperBacksOffUptoSaid : Prop := keeperBacksOffUptoRow.holds Try.pinned (OpenSpec.upto keeperBacksOffSpec)

/-- 'speakeasylaw29.KeeperBeats', WHERE WHAT IT READS IS OF BULK AT MOST 1048576: true; the input reads as it did. -/
def keeperBeatsUptoRow : OpenClaim := { program := "ytaenfkekdhnakaa", sum := "358ecc529e13debb866f0f1907e4cd49be7f27a9f7ddd5bcfd487fd0417c2b8d", func := "speakeasy/speakeasylaw29.KeeperBeats", spec := "keeperBeats", unfollowed := true, recurses := true, apart := false, narrowed := true }
def KeeperBeatsUptoSaid : Prop := keeperBeatsUptoRow.holds Try.pinned (OpenSpec.upto keeperBeatsSpec)

/-- 'speakeasylaw29.KeeperHolds', WHERE WHAT IT READS IS OF BULK AT MOST 1048576: true; the input reads as it did. -/
def keeperHoldsUptoRow : OpenClaim := { program := "ytaenfkekdhnakaa", sum := "358ecc529e13debb866f0f1907e4cd49be7f27a9f7ddd5bcfd487fd0417c2b8d", func := "speakeasy/speakeasylaw29.KeeperHolds", spec := "keeperHolds", unfollowed := true, recurses := true, apart := false, narrowed := true }
def KeeperHoldsUptoSaid : Prop := keeperHoldsUptoRow.holds Try.pinned (OpenSpec.upto keeperHoldsSpec)

/-- 'speakeasylaw29.KeeperTries', WHERE WHAT IT READS IS OF BULK AT MOST 1048576: true; the input reads as it did. -/
def keeperTriesUptoRow : OpenClaim := { program := "ytaenfkekdhnakaa", sum := "358ecc529e13debb866f0f1907e4cd49be7f27a9f7ddd5bcfd487fd0417c2b8d", func := "speakeasy/speakeasylaw29.KeeperTries", spec := "keeperTries", unfollowed := true, recurses := true, apart := false, narrowed := true }
def KeeperTriesUptoSaid : Prop := keeperTriesUptoRow.holds Try.pinned (OpenSpec.upto keeperTriesSpec)

end Rows
end Go.Proofs.Ytaenfkekdhnakaa
