/-
A keeper: its plain state, and how it lies in memory.
-/
import Derived.Test.YtaenfkekdhnakaaRows
import Derived.Test.YtaenfkekdhnakaaSg
import Derived.Test.YtaenfkekdhnakaaTwo
import Derived.LoopTactic
import Derived.Deep.DeepCutAuto
import Derived.BigRegion
import Derived.Outline
namespace Go.Proofs.Ytaenfkekdhnakaa
open Go.RowKit

theorem val_int {k : IntKind} {a b : Int} (h : a = b) : Value.int k a = .int k b := by rw [h]
def nvals (l : List Nat) : List Value := l.map fun d => Value.int .i64 (d : Nat)
def zvals (l : List Int) : List Value := l.map fun d => Value.int .i64 d
def svals (l : List ByteArray) : List Value := l.map fun s => Value.string s
theorem nvals_get (l : List Nat) (i : Nat) (h : i < l.length) : (nvals l)[i]? = some (.int .i64 (l.getD i 0 : Nat)) := by simp [nvals, h]
theorem zvals_get (l : List Int) (i : Nat) (h : i < l.length) : (zvals l)[i]? = some (.int .i64 (l.getD i 0)) := by simp [zvals, h]
theorem svals_get (l : List ByteArray) (i : Nat) (h : i < l.length) : (svals l)[i]? = some (.string (l.getD i ⟨#[]⟩)) := by simp [svals, h]

structure KS where
  names : List ByteArray
  first : Nat
  most : Nat
  beat : Nat
  state : Nat
  clock : Nat
  since : Nat
  due : Nat
  fails : Nat
  wants : List Nat
  asked : List Int

/-- the numbers of a keeper are small -/
structure KS.Ok (s : KS) : Prop where
  first1 : 1 ≤ s.first
  most1 : s.first ≤ s.most
  most2 : s.most ≤ 1048576
  beat1 : 1 ≤ s.beat
  beat2 : s.beat ≤ 1048576
  state : s.state ≤ 2
  clock : s.clock ≤ 1000000000000
  since : s.since ≤ s.clock
  due : s.due ≤ 1000001048577
  fails : s.fails ≤ 1048576
  names : s.names.length = s.wants.length
  few : s.names.length ≤ 16
  asked : s.asked.length ≤ 17
  places : ∀ x ∈ s.asked, -1 ≤ x ∧ x < s.names.length
  wants : ∀ x ∈ s.wants, x ≤ 2
  trying : s.state ≠ 2 → s.asked = []

def kcells (s : KS) (vn vw va : Value) : List Value :=
  [vn, .int .i64 s.first, .int .i64 s.most, .int .i64 s.beat, .int .i64 s.state, .int .i64 s.clock, .int .i64 s.since, .int .i64 s.due, .int .i64 s.fails, vw, va]
/-- two slices do not lie in one block -/
def apt (v u : Value) : Prop := ∀ g, vblk v = some g → vblk u ≠ some g
/-- block b is a keeper; its names, wants and asked lie in blocks of their own, all from block B on -/
structure Kp (w : World) (B b : Nat) (vn vw va : Value) (s : KS) : Prop where
  blk : Blk w b 55 (kcells s vn vw va)
  names : Sg w 1 vn s.names.length (svals s.names)
  wants : Sg w 1 vw s.wants.length (nvals s.wants)
  asked : Sg w 1 va s.asked.length (zvals s.asked)
  nb : vblk vn ≠ some b
  wb : vblk vw ≠ some b
  ab : vblk va ≠ some b
  nw : apt vn vw
  na : apt vn va
  wa : apt vw va
  base : B ≤ b
  basew : ∀ g, vblk vw = some g → B ≤ g
  basea : ∀ g, vblk va = some g → B ≤ g
/-- what a keeper's own calls may turn -/
def Kf (b : Nat) (vw va : Value) (k : Nat) : Prop := k = b ∨ vblk vw = some k ∨ vblk va = some k
theorem Kp.keeps {w w' : World} {B b : Nat} {vn vw va : Value} {s : KS} {F : Nat → Prop} (h : Kp w B b vn vw va s) (hk : Keeps F w w') (h0 : ¬ F b) (hn : ∀ g, vblk vn = some g → ¬ F g) (hw : ∀ g, vblk vw = some g → ¬ F g) (ha : ∀ g, vblk va = some g → ¬ F g) : Kp w' B b vn vw va s :=
  { h with blk := hk.blk h.blk h0, names := h.names.keeps hk hn, wants := h.wants.keeps hk hw, asked := h.asked.keeps hk ha }
theorem Kp.below {w w' : World} {B b : Nat} {vn vw va : Value} {s : KS} (h : Kp w B b vn vw va s) (hb : Below w.heap.size w w') : Kp w' B b vn vw va s :=
  { h with blk := h.blk.below hb h.blk.lt, names := h.names.below hb, wants := h.wants.below hb, asked := h.asked.below hb }
theorem apt_nil (v : Value) : apt v (.slice none 0 0) := fun g _ h => by simp [vblk] at h
theorem apt_new {w : World} {v : Value} {size n : Nat} {xs : List Value} (h : Sg w size v n xs) {u : Value} (hu : ∀ g, vblk u = some g → w.heap.size ≤ g) : apt v u := fun g hg hug => by
  have := h.lt hg; have := hu g hug; omega

/-- how many ticks it waits, when it failed n times ahead -/
def waitF (most : Nat) : Nat → Nat → Nat
  | 0, w => w
  | n + 1, w => if most ≤ w then w else waitF most n (w * 2)
def KS.wait (s : KS) (n : Nat) : Nat := min (waitF s.most n s.first) s.most
def KS.fail (s : KS) : KS := { s with state := 0, due := s.clock + s.wait s.fails, fails := min (s.fails + 1) 1048576, asked := [], wants := List.replicate s.wants.length 0 }
end Go.Proofs.Ytaenfkekdhnakaa
