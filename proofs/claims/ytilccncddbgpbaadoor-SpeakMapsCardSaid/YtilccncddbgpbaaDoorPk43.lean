/-
The contracts of scalar's methods.
The contracts of scalar's functions.
The contracts of scalar's functions: Reduce.
A region that draws its order: a head that is quiet in a class of worlds (it reads, or calls what makes memory of its own), and a tail in one forced order that may write.
After the library's two theories, Derived/StillTail.lean (the tail) and Derived/Deep/Quiet.lean (the class): joined.
Laws of the quiet walk: a plain operation, a call, a whole array loaded.
The contracts of scalar's functions: Fits, MulAdd, Bits.
The contracts of scalar's functions: MulAdd.
Arrays of 32 bytes: when they are equal.
The fixed fact of scalar's laws.
What scalar's laws call beside: the document's Reduce of any string; Cut.
ScalarReduces answers true.
ScalarMulAdds answers true.
ScalarRing answers true.
-/
import Derived.BigQuiet
import Derived.Laws.BitsAllLaws
import Derived.StillTail
import Derived.Deep.Quiet
import Derived.ChangeKeysEq
import Derived.Test.YtilccncddbgpbaaDoorPk42
import Derived.Test.YtilccncddbgpbaaDoorPk28
namespace Go.Proofs.YtilccncddbgpbaaDoor
open Go.RowKit

def wvals (l : List Nat) : List Value := l.map fun d => Value.int .u32 (d : Nat)
theorem wvals_get (l : List Nat) (i : Nat) (h : i < l.length) : (wvals l)[i]? = some (.int .u32 (l.getD i 0 : Nat)) := by
  simp [wvals, h]
theorem wvals_set (l : List Nat) (i d : Nat) : wvals (l.set i d) = (wvals l).set i (.int .u32 (d : Nat)) := by simp [wvals, List.map_set]
theorem or_add (k a b : Nat) (h : a < 2 ^ k) : a ||| b * 2 ^ k = a + b * 2 ^ k := by
  rw [Nat.or_comm, Nat.mul_comm, ← Nat.two_pow_add_eq_or_of_lt h, Nat.add_comm]
theorem u64_or8 (a b : Nat) (ha : a < 256) (hb : b < 72057594037927936) : bits .or .u64 (a : Int) ((b : Int) * 256) = ((a + b * 256 : Nat) : Int) := by
  have h := u64_or_nat a (b * 256) (by omega) (by omega)
  rw [show (256 : Nat) = 2 ^ 8 from rfl, or_add 8 a b ha] at h
  simpa using h
theorem u64_or16 (a b : Nat) (ha : a < 65536) (hb : b < 281474976710656) : bits .or .u64 (a : Int) ((b : Int) * 65536) = ((a + b * 65536 : Nat) : Int) := by
  have h := u64_or_nat a (b * 65536) (by omega) (by omega)
  rw [show (65536 : Nat) = 2 ^ 16 from rfl, or_add 16 a b ha] at h
  simpa using h
theorem u64_or24 (a b : Nat) (ha : a < 16777216) (hb : b < 1099511627776) : bits .or .u64 (a : Int) ((b : Int) * 16777216) = ((a + b * 16777216 : Nat) : Int) := by
  have h := u64_or_nat a (b * 16777216) (by omega) (by omega)
  rw [show (16777216 : Nat) = 2 ^ 24 from rfl, or_add 24 a b ha] at h
  simpa using h

theorem wgetD_app (l : List Nat) (i : Nat) : (l ++ [0]).getD i 0 = l.getD i 0 := by
  rcases Nat.lt_or_ge i l.length with h | h
  · simp [List.getD_eq_getElem?_getD, List.getElem?_append_left h]
  · rw [List.getD_eq_getElem?_getD, List.getD_eq_getElem?_getD, List.getElem?_append_right h, List.getElem?_eq_none h]
    cases h2 : i - l.length <;> simp
theorem Lq_small : Lq < 4294967296 ^ 8 := by decide +kernel
theorem less_top {l : List Nat} (hl : l.length = 9) (h : l.getD 8 0 ≠ 0) : ¬ wv l < Lq := by
  have e := wv_take_next l 8
  rw [List.take_of_length_le (by omega)] at e
  have h2 : 4294967296 ^ 8 * 1 ≤ 4294967296 ^ 8 * l.getD 8 0 := Nat.mul_le_mul_left _ (by omega)
  have h3 := Lq_small
  omega
theorem less_run {l : List Nat} {k : Nat} (hw : Wd l) (hl : l.length = 9) (hk : k < 8) (h : l.drop (k + 1) = (orderL ++ [0]).drop (k + 1)) (hne : l.getD k 0 ≠ orderL.getD k 0) : decide (wv l < Lq) = decide (l.getD k 0 < orderL.getD k 0) := by
  have hO : wv (orderL ++ [0]) = Lq := by decide +kernel
  have hWO : Wd (orderL ++ [0]) := by unfold Wd; decide
  have hg := wgetD_app orderL k
  rcases Nat.lt_or_ge (l.getD k 0) (orderL.getD k 0) with hlt | hge
  · have := wv_split hw (m := orderL ++ [0]) (by rw [hl]; rfl) (by omega) h (by rw [hg]; exact hlt)
    rw [hO] at this
    rw [decide_eq_true this, decide_eq_true hlt]
  · have := wv_split hWO (m := l) (by rw [hl]; rfl) (by show k < 9; omega) h.symm (by rw [hg]; omega)
    rw [hO] at this
    rw [decide_eq_false (by omega), decide_eq_false (by omega)]
theorem drop_eq {l m : List Nat} {k : Nat} (hl : k < l.length) (hm : k < m.length) (h : l.drop (k + 1) = m.drop (k + 1)) (he : l.getD k 0 = m.getD k 0) : l.drop k = m.drop k := by
  rw [drop_getD hl, drop_getD hm, h, he]

theorem sub_bits {x y c : Nat} (hx : x < 4294967296) (hy : y < 4294967296) (hc : c ≤ 1) : ∃ x' c' : Nat, x' < 4294967296 ∧ c' ≤ 1 ∧ x' + y + c = x + 4294967296 * c' ∧ (y + c ≤ x → c' = 0 ∧ x' = x - y - c) ∧ (x < y + c → c' = 1 ∧ x' = x + 4294967296 - y - c) := by
  rcases Nat.lt_or_ge x (y + c) with h | h
  · exact ⟨x + 4294967296 - y - c, 1, by omega, by omega, by omega, by omega, by omega⟩
  · exact ⟨x - y - c, 0, by omega, by omega, by omega, by omega, by omega⟩
theorem sub_wrap {x y c x' c' : Nat} (hx' : x' < 4294967296) (hc' : c' ≤ 1) (hx : x < 4294967296) (hy : y < 4294967296) (hc : c ≤ 1) (he : x' + y + c = x + 4294967296 * c') :
    IntKind.u64.wrap (IntKind.u64.wrap ((x : Int) - y) - c) / 9223372036854775808 = (c' : Nat) ∧ IntKind.u64.wrap (IntKind.u64.wrap ((x : Int) - y) - c) % 4294967296 = (x' : Nat) := by
  have hw : ∀ z : Int, IntKind.u64.wrap z = z % 18446744073709551616 := fun z => rfl
  rw [hw, hw]
  omega
theorem sub_wrap0 {x y c x' c' : Nat} (hx' : x' < 4294967296) (hc' : c' ≤ 1) (hx : x < 4294967296) (hc : c ≤ 1) (he : x' + y + c = x + 4294967296 * c') (h0 : y = 0) :
    IntKind.u64.wrap ((x : Int) - c) / 9223372036854775808 = (c' : Nat) ∧ IntKind.u64.wrap ((x : Int) - c) % 4294967296 = (x' : Nat) := by
  have hw : ∀ z : Int, IntKind.u64.wrap z = z % 18446744073709551616 := fun z => rfl
  rw [hw]
  omega
theorem order9 (i : Nat) (h : 8 ≤ i) : orderL.getD i 0 = 0 := by
  rw [List.getD_eq_getElem?_getD, List.getElem?_eq_none (by exact h)]; rfl
theorem sub9_end {l l' : List Nat} {c : Nat} (hw : Wd l') (hl : l'.length = 9) (hge : ¬ wv l < Lq) (h : wv l' + wv (orderL.take 9) = wv l + c * 4294967296 ^ 9) (hb : wv l < Lq * 2) : wv l' = wv l - Lq := by
  rw [wv_take_ge orderL 9 (by decide), wv_order] at h
  have h1 := wv_lt hw
  rw [hl] at h1
  have hq : Lq * 2 < 4294967296 ^ 9 := by decide +kernel
  rcases Nat.eq_zero_or_pos c with rfl | hc
  · omega
  · have h2 : 4294967296 ^ 9 ≤ c * 4294967296 ^ 9 := Nat.le_mul_of_pos_left _ hc
    omega

theorem shift_end {l l' : List Nat} {b b0 : Nat} (hl : l.length = 9) (h : wv l' + b * 4294967296 ^ 9 = wv l + wv (l.take 9) + b0) (hlt : wv l < Lq) (hb0 : b0 ≤ 1) : wv l' = 2 * wv l + b0 ∧ wv l' < Lq * 2 := by
  rw [wv_take_ge l 9 (by omega)] at h
  have hq : Lq * 2 + 2 < 4294967296 ^ 9 := by decide +kernel
  rcases Nat.eq_zero_or_pos b with rfl | hc
  · omega
  · have h2 : 4294967296 ^ 9 ≤ b * 4294967296 ^ 9 := Nat.le_mul_of_pos_left _ hc
    omega
theorem u32_or1 (a b : Nat) (ha : a % 2 = 0) (ha2 : a < 4294967296) (hb : b ≤ 1) : bits .or .u32 (a : Int) (b : Int) = ((a + b : Nat) : Int) := by
  rw [u32_or_nat a b ha2 (by omega)]
  have h : 2 ^ 1 * (a / 2) = a := by omega
  have := Nat.two_pow_add_eq_or_of_lt (i := 1) (b := b) (by omega) (a / 2)
  rw [h] at this
  rw [this]

end Go.Proofs.YtilccncddbgpbaaDoor

namespace Go.Proofs.YtilccncddbgpbaaDoor
open Go.RowKit

theorem bvals_one (l : List UInt8) : ∀ v ∈ bvals l, v.oneCell' = true := by
  intro v hv
  obtain ⟨b, _, rfl⟩ := List.mem_map.1 hv
  rfl
theorem b32_size : (Tryd.prog.info? 22).map (·.size) = some 32 := by kernel_rfl

/-- a row of 32 bytes, filled as far as i -/
def part (N i : Nat) : List Value := bvals (leBytes N i ++ List.replicate (32 - i) 0)
theorem part_zero (N : Nat) : part N 0 = List.replicate 32 (.int .u8 0) := by simp [part, leBytes, bvals]
theorem part_end (N : Nat) : part N 32 = bvals (leBytes N 32) := by simp [part]
theorem part_length (N i : Nat) (h : i ≤ 32) : (part N i).length = 32 := by simp [part, bvals, leBytes]; omega
theorem part_set (N i : Nat) (h : i < 32) : (part N i).set i (.int .u8 ((N / 256 ^ i % 256 : Nat) : Nat)) = part N (i + 1) := by
  unfold part
  rw [leBytes_succ, show 32 - i = (32 - (i + 1)) + 1 from by omega, List.replicate_succ]
  simp only [bvals, List.map_append, List.map_cons, List.append_assoc, List.cons_append, List.nil_append]
  rw [List.set_append_right _ _ (by simp [leBytes])]
  simp [leBytes]

theorem part_get (N i : Nat) (h : i < 32) : (part N i)[i]? = some (.int .u8 0) := by
  unfold part bvals
  rw [show 32 - i = (32 - (i + 1)) + 1 from by omega, List.replicate_succ, List.map_append, List.getElem?_append_right (by simp [leBytes])]
  simp [leBytes]

end Go.Proofs.YtilccncddbgpbaaDoor

namespace Go.Proofs.YtilccncddbgpbaaDoor
open Go.RowKit

def cut64 (s : ByteArray) : ByteArray := if s.size ≤ 64 then s else s.extract 0 64
theorem reduce_zero (N n : Nat) (h : N < 2 ^ n) : 0 = N / 2 ^ n % Lq := by rw [Nat.div_eq_of_lt h]; rfl
theorem reduce_step {N k v : Nat} (h : v = N / 2 ^ (k + 1) % Lq) : (2 * v + N / 2 ^ k % 2) % Lq = N / 2 ^ k % Lq := by
  subst h
  conv => rhs; rw [bit_step N k]
  generalize N / 2 ^ (k + 1) = m
  generalize N / 2 ^ k % 2 = b
  rw [Nat.add_mod, Nat.mul_mod, Nat.mod_mod, ← Nat.mul_mod, ← Nat.add_mod]
theorem u8_and1 (a : Nat) (h : a < 256) : bits .and .u8 (a : Int) 1 = ((a % 2 : Nat) : Int) := by
  have := u8_and_nat a 1 h (by omega)
  rw [Nat.and_one_is_mod] at this
  exact this
theorem zero9 : Wd (List.replicate 9 0) := fun d h => by rw [(List.mem_replicate.1 h).2]; decide
theorem wv_zero9 : wv (List.replicate 9 0) = 0 := by decide

end Go.Proofs.YtilccncddbgpbaaDoor

namespace Go.Proofs.YtilccncddbgpbaaDoor
open Go.RowKit
variable {P : Program} {md : Region.Mode} {ops : Array Oper} {C : World → Prop}

end Go.Proofs.YtilccncddbgpbaaDoor

namespace Go.Proofs.YtilccncddbgpbaaDoor
open Go.RowKit

/-! ### regions that read, and call what makes memory of its own -/
/-! .. and with what follows kept apart, so that the frame may be written out before the walk goes on: 'wpQuiet_step' first -/
end Go.Proofs.YtilccncddbgpbaaDoor

namespace Go.Proofs.YtilccncddbgpbaaDoor
open Go.RowKit

theorem words_set (l : List UInt8) (i : Nat) (h : i < 9) : (words l i ++ List.replicate (9 - i) 0).set i (word4 l i) = words l (i + 1) ++ List.replicate (9 - (i + 1)) 0 := by
  rw [words_succ, show 9 - i = (9 - (i + 1)) + 1 from by omega, List.replicate_succ, List.set_append_right _ _ (by rw [words_length]; omega)]
  simp [words_length]
end Go.Proofs.YtilccncddbgpbaaDoor

namespace Go.Proofs.YtilccncddbgpbaaDoor
open Go.RowKit

theorem words_set16 (l : List UInt8) (i : Nat) (h : i < 16) : (words l i ++ List.replicate (16 - i) 0).set i (word4 l i) = words l (i + 1) ++ List.replicate (16 - (i + 1)) 0 := by
  rw [words_succ, show 16 - i = (16 - (i + 1)) + 1 from by omega, List.replicate_succ, List.set_append_right _ _ (by rw [words_length]; omega)]
  simp [words_length]
theorem words16_ok (l : List UInt8) (n k : Nat) : Wd (words l n ++ List.replicate k 0) := fun d h => by
  rcases List.mem_append.1 h with h | h
  · exact words_ok l n d h
  · rw [(List.mem_replicate.1 h).2]; decide

theorem wu64 (n : Nat) (h : n < 18446744073709551616) : IntKind.u64.wrap (n : Int) = n := by
  show (n : Int) % 18446744073709551616 = n
  omega
theorem u64_mask (r : Nat) (h : r < 18446744073709551616) : bits .and .u64 (r : Int) 4294967295 = ((r % 4294967296 : Nat) : Int) := by
  have e := u64_and_nat r 4294967295 h (by decide)
  rw [show (4294967295 : Nat) = 2 ^ 32 - 1 from rfl, Nat.and_two_pow_sub_one_eq_mod] at e
  exact e
def zero32 : List Value := List.replicate 32 (.int .u8 0)
theorem below5 (w : World) (a b c d e : Obj) : Below w.heap.size w (((((w.alloc a).alloc b).alloc c).alloc d).alloc e) :=
  (((((Below.refl _ _).alloc (Nat.le_refl _) _).alloc (by simp) _).alloc (by simp; omega) _).alloc (by simp; omega) _).alloc (by simp; omega) _

/-- a row of 64 bytes, filled as far as i -/
def part64 (N i : Nat) : List Value := bvals (leBytes N i ++ List.replicate (64 - i) 0)
theorem part64_zero (N : Nat) : part64 N 0 = List.replicate 64 (.int .u8 0) := by simp [part64, leBytes, bvals]
theorem part64_end (N : Nat) : part64 N 64 = bvals (leBytes N 64) := by simp [part64]
theorem part64_set (N i : Nat) (h : i < 64) : (part64 N i).set i (.int .u8 ((N / 256 ^ i % 256 : Nat) : Nat)) = part64 N (i + 1) := by
  unfold part64
  rw [leBytes_succ, show 64 - i = (64 - (i + 1)) + 1 from by omega, List.replicate_succ]
  simp only [bvals, List.map_append, List.map_cons, List.append_assoc, List.cons_append, List.nil_append]
  rw [List.set_append_right _ _ (by simp [leBytes])]
  simp [leBytes]
theorem part64_get (N i : Nat) (h : i < 64) : (part64 N i)[i]? = some (.int .u8 0) := by
  unfold part64 bvals
  rw [show 64 - i = (64 - (i + 1)) + 1 from by omega, List.replicate_succ, List.map_append, List.getElem?_append_right (by simp [leBytes])]
  simp [leBytes]
theorem cut_val {N : Nat} (h : N < 4294967296 ^ 16) : le8 (cut64 ⟨(leBytes N 64).toArray⟩).data.toList = N := by
  have hs : (⟨(leBytes N 64).toArray⟩ : ByteArray).size = 64 := by show (leBytes N 64).toArray.size = 64; simp [leBytes_length]
  unfold cut64
  rw [if_pos (by omega)]
  show le8 (leBytes N 64) = N
  rw [le8_leBytes, show 64 = 4 * 16 from rfl, wpow, Nat.mod_eq_of_lt h]
theorem mul_pow16 {a b c : Nat} (ha : a < 4294967296 ^ 8) (hb : b < 4294967296 ^ 8) (hc : c < 4294967296 ^ 8) : c + a * b < 4294967296 ^ 16 := by
  have h : a * b ≤ (4294967296 ^ 8 - 1) * (4294967296 ^ 8 - 1) := Nat.mul_le_mul (by omega) (by omega)
  have e : (4294967296 ^ 8 - 1) * (4294967296 ^ 8 - 1) + 4294967296 ^ 8 ≤ 4294967296 ^ 16 := by decide +kernel
  omega

end Go.Proofs.YtilccncddbgpbaaDoor

namespace Go.Proofs.YtilccncddbgpbaaDoor
open Go.RowKit

end Go.Proofs.YtilccncddbgpbaaDoor

namespace Go.Proofs.YtilccncddbgpbaaDoor
open Go.RowKit

theorem le8_L : leBytes Lq 32 = [237, 211, 245, 92, 26, 99, 18, 88, 214, 156, 247, 162, 222, 249, 222, 20, 0, 0, 0, 0, 0, 0, 0, 0, 0, 0, 0, 0, 0, 0, 0, 16] := by decide +kernel
end Go.Proofs.YtilccncddbgpbaaDoor

namespace Go.Proofs.YtilccncddbgpbaaDoor
open Go.RowKit

def cutN (s : ByteArray) (n : Nat) : ByteArray := if s.size ≤ n then s else s.extract 0 n
end Go.Proofs.YtilccncddbgpbaaDoor

namespace Go.Proofs.YtilccncddbgpbaaDoor
open Go.RowKit

/-! guarded operations of a quiet walk -/
end Go.Proofs.YtilccncddbgpbaaDoor

namespace Go.Proofs.YtilccncddbgpbaaDoor
open Go.RowKit

/-- three arrays of bytes -/
def M3 (w : World) (B : Nat) (la lb lc : List UInt8) : Prop := Blk w B 22 (bvals la) ∧ Blk w (B + 1) 22 (bvals lb) ∧ Blk w (B + 2) 22 (bvals lc)
theorem M3.below {w w' : World} {B : Nat} {la lb lc : List UInt8} (h : M3 w B la lb lc) (hb : Below w.heap.size w w') : M3 w' B la lb lc :=
  ⟨h.1.below hb h.1.lt, h.2.1.below hb h.2.1.lt, h.2.2.below hb h.2.2.lt⟩
theorem M3.start (w : World) (la lb lc : List UInt8) : M3 (((w.alloc (.cells (bvals la).toArray 22)).alloc (.cells (bvals lb).toArray 22)).alloc (.cells (bvals lc).toArray 22)) w.heap.size la lb lc := by
  have s1 : ∀ (w : World) (o : Obj), (w.alloc o).heap.size = w.heap.size + 1 := fun w o => by simp
  have n : ∀ (w : World) (t : TypeId) (cs : List Value) (k : Nat), k = w.heap.size → Blk (w.alloc (.cells cs.toArray t)) k t cs := fun w t cs k hk => by subst hk; exact Blk.new w t cs
  exact ⟨((n _ _ _ _ rfl).alloc _).alloc _, (n _ _ _ _ (by rw [s1])).alloc _, n _ _ _ _ (by rw [s1, s1])⟩
end Go.Proofs.YtilccncddbgpbaaDoor

namespace Go.Proofs.YtilccncddbgpbaaDoor
open Go.RowKit

def oneB : List UInt8 := 1 :: List.replicate 31 0
def zeroB : List UInt8 := List.replicate 32 0
theorem le8_one : le8 oneB = 1 := by decide +kernel
theorem le8_zero : le8 zeroB = 0 := by decide +kernel
/-- a new array, filled -/
theorem newRow (w : World) (X : List UInt8) : Blk ((w.alloc (.cells ([Value.int .u8 0, Value.int .u8 0, Value.int .u8 0, Value.int .u8 0, Value.int .u8 0, Value.int .u8 0, Value.int .u8 0, Value.int .u8 0, Value.int .u8 0, Value.int .u8 0, Value.int .u8 0, Value.int .u8 0, Value.int .u8 0, Value.int .u8 0, Value.int .u8 0, Value.int .u8 0, Value.int .u8 0, Value.int .u8 0, Value.int .u8 0, Value.int .u8 0, Value.int .u8 0, Value.int .u8 0, Value.int .u8 0, Value.int .u8 0, Value.int .u8 0, Value.int .u8 0, Value.int .u8 0, Value.int .u8 0, Value.int .u8 0, Value.int .u8 0, Value.int .u8 0, Value.int .u8 0]).toArray 22)).setRow w.heap.size (bvals X).toArray) w.heap.size 22 (bvals X) ∧
    Below w.heap.size w ((w.alloc (.cells ([Value.int .u8 0, Value.int .u8 0, Value.int .u8 0, Value.int .u8 0, Value.int .u8 0, Value.int .u8 0, Value.int .u8 0, Value.int .u8 0, Value.int .u8 0, Value.int .u8 0, Value.int .u8 0, Value.int .u8 0, Value.int .u8 0, Value.int .u8 0, Value.int .u8 0, Value.int .u8 0, Value.int .u8 0, Value.int .u8 0, Value.int .u8 0, Value.int .u8 0, Value.int .u8 0, Value.int .u8 0, Value.int .u8 0, Value.int .u8 0, Value.int .u8 0, Value.int .u8 0, Value.int .u8 0, Value.int .u8 0, Value.int .u8 0, Value.int .u8 0, Value.int .u8 0, Value.int .u8 0]).toArray 22)).setRow w.heap.size (bvals X).toArray) :=
  ⟨Blk.setRow (Blk.new w 22 [Value.int .u8 0, Value.int .u8 0, Value.int .u8 0, Value.int .u8 0, Value.int .u8 0, Value.int .u8 0, Value.int .u8 0, Value.int .u8 0, Value.int .u8 0, Value.int .u8 0, Value.int .u8 0, Value.int .u8 0, Value.int .u8 0, Value.int .u8 0, Value.int .u8 0, Value.int .u8 0, Value.int .u8 0, Value.int .u8 0, Value.int .u8 0, Value.int .u8 0, Value.int .u8 0, Value.int .u8 0, Value.int .u8 0, Value.int .u8 0, Value.int .u8 0, Value.int .u8 0, Value.int .u8 0, Value.int .u8 0, Value.int .u8 0, Value.int .u8 0, Value.int .u8 0, Value.int .u8 0]) (bvals X), below_row ((Below.refl _ w).alloc (Nat.le_refl _) _) _ _ (Nat.le_refl _)⟩
theorem le8_red (V : Nat) : le8 (leBytes (V % Lq) 32) = V % Lq := by
  rw [le8_leBytes, Nat.mod_eq_of_lt (Nat.lt_trans (Nat.mod_lt _ Lq_pos) (by decide +kernel))]
theorem ring_eq (a b c : Nat) : (a * ((b * 1 + c) % Lq) + 0) % Lq = (a * b + (a * c + 0) % Lq) % Lq := by
  rw [Nat.mul_one, Nat.add_zero, Nat.add_zero, Nat.mul_mod, Nat.mod_mod, ← Nat.mul_mod, Nat.mul_add]
  exact (Nat.add_mod_mod ..).symm
theorem cut32 {l : List UInt8} (h : l.length = 32) : cut64 ⟨l.toArray⟩ = ⟨l.toArray⟩ := if_pos (by show l.toArray.size ≤ 64; rw [List.size_toArray, h]; omega)

end Go.Proofs.YtilccncddbgpbaaDoor
