/-
Words of 64 bits: the library's products and sums, by the shelf's contracts.
-/
import Derived.Test.YtopelehfffjfeaaRows
import Derived.Test.YtopelehfffjfeaaCom
import Derived.Test.YtopelehfffjfeaaLimbMul
import Derived.Shelf.Bits.Mul64
import Derived.Shelf.Spec.BitsCarry
import Derived.Outline
import Derived.LoopTactic
namespace Go.Proofs.Ytopelehfffjfeaa
open Go.RowKit Go.Shelf

def ren264 : Go.Shelf.Ren := ⟨fun | 264 => 56 | n => n, fun | 53 => 22 | 46 => 34 | n => n, fun | n => n⟩
theorem lays264 : Go.Proofs.Lays.n264 Try.prog ren264 := {
  mixed := by kernel_rfl
  f264 := Try.func56.trans (congrArg some (by kernel_rfl))
  t46 := Try.underlying34
  a46 := Try.isAgg34
  z46 := Try.sizeOf34
  v46 := Try.zeroValue34
  t53 := Try.underlying22
  a53 := Try.isAgg22
  z53 := Try.sizeOf22
  v53 := Try.zeroValue22 }
def ren25 : Go.Shelf.Ren := ⟨fun | 25 => 55 | n => n, fun | 22 => 22 | n => n, fun | n => n⟩
theorem lays25 : Go.Proofs.Lays7.n25 Try.prog ren25 := {
  mixed := by kernel_rfl
  f25 := Try.func55.trans (congrArg some (by kernel_rfl))
  t22 := Try.underlying22
  a22 := Try.isAgg22
  z22 := Try.sizeOf22
  v22 := Try.zeroValue22
  i22 := by kernel_rfl }
def W64 : Nat := 18446744073709551616
/-- a product in two words -/
theorem mul64 (x y : Nat) (hx : x < 18446744073709551616) (hy : y < 18446744073709551616) (w : World) :
    Calls Try.prog 56 #[.int .u64 x, .int .u64 y] w fun e w' => ∃ hi lo : Nat, e = .returned (.tuple #[.int .u64 hi, .int .u64 lo]) ∧ Hid (lo + 18446744073709551616 * hi = x * y) ∧ lo < 18446744073709551616 ∧ hi < 18446744073709551616 ∧ w = w' := by
  refine (Any.bits_Mul64 lays264 x y hx hy w).mono ?_
  rintro e w' ⟨rfl, rfl⟩
  refine ⟨_, _, rfl, Nat.mod_add_div _ _, Nat.mod_lt _ (by omega), ?_, rfl⟩
  exact Nat.div_lt_of_lt_mul (Nat.mul_lt_mul'' hx hy)
/-- a sum with a carry -/
theorem add64 (x y c : Nat) (hx : x < 18446744073709551616) (hy : y < 18446744073709551616) (hc : c ≤ 1) : ∃ s d : Nat, s + 18446744073709551616 * d = x + y + c ∧ s < 18446744073709551616 ∧ d ≤ 1 ∧
    ∀ w, (callFunc 55 #[.int .u64 x, .int .u64 y, .int .u64 c]).run Try.prog w = .ok (.value (.tuple #[.int .u64 s, .int .u64 d])) w :=
  ⟨_, _, Nat.mod_add_div _ _, Nat.mod_lt _ (by omega), by omega, fun w => Any7.bits_Add64 lays25 x y c hc w⟩

set_option maxHeartbeats 400000 in
theorem sumAdd_ok (b o lo hi x y : Nat) (w : World) (hc0 : w.cell? ⟨b, o, none⟩ = some (.int .u64 lo)) (hc1 : w.cell? ⟨b, o + 1, none⟩ = some (.int .u64 hi)) (hf0 : w.frozen? ⟨b, o, none⟩ = false) (hf1 : w.frozen? ⟨b, o + 1, none⟩ = false)
    (hlo : lo < 18446744073709551616) (hhi : hi < 18446744073709551616) (hx : x < 18446744073709551616) (hy : y < 18446744073709551616) (ht : lo + 18446744073709551616 * hi + x * y < 2 ^ 128) :
    Calls Try.prog 54 #[.pointer (some ⟨b, o, none⟩), .int .u64 x, .int .u64 y] w fun e w' => e = .returned (.tuple #[]) ∧
      (w.setCell ⟨b, o, none⟩ (.int .u64 ((lo + 18446744073709551616 * hi + x * y) % 18446744073709551616 : Nat))).setCell ⟨b, o + 1, none⟩ (.int .u64 ((lo + 18446744073709551616 * hi + x * y) / 18446744073709551616 : Nat)) = w' := by
  have HT := Lib.hid ht
  clear ht
  go_enter Try.func54, Try.ntmps54
  go_wp2_with fail
  refine (mul64 x y hx hy _).mono ?_
  rintro e w' ⟨ph, pl, rfl, hp, h1, h2, rfl⟩
  obtain ⟨s, d, e1, hs, hd, hr⟩ := add64 lo pl 0 hlo h1 (by omega)
  have E1 := Lib.hid e1
  clear e1
  obtain ⟨s2, d2, e2, hs2, hd2, hr2⟩ := add64 hi ph d hhi h2 hd
  have E2 := Lib.hid e2
  clear e2
  have hr' : ∀ w, (callFunc 55 #[.int .u64 lo, .int .u64 pl, .int .u64 0]).run Try.prog w = .ok (.value (.tuple #[.int .u64 s, .int .u64 d])) w := hr
  clear hr
  go_wp2_with fail
  have hmul : x * y = pl + 18446744073709551616 * ph := hp.out.symm
  have a1 := E1.out
  have a2 := E2.out
  have a3 := HT.out
  rw [hmul] at a3
  have hd20 : d2 = 0 := by omega
  have q1 : (lo + 18446744073709551616 * hi + x * y) % 18446744073709551616 = s := by rw [hmul]; omega
  have q2 : (lo + 18446744073709551616 * hi + x * y) / 18446744073709551616 = s2 := by rw [hmul]; omega
  rw [q1, q2]
  go_end0
  exact ⟨rfl, rfl⟩
end Go.Proofs.Ytopelehfffjfeaa
