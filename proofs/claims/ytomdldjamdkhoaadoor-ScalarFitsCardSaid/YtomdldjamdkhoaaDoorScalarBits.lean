/-
The contracts of scalar's functions: Bits.
-/
import Derived.Test.YtomdldjamdkhoaaDoorScalarLaw3
import Derived.Test.YtomdldjamdkhoaaDoorOwn
namespace Go.Proofs.YtomdldjamdkhoaaDoor
open Go.RowKit

def bitv (l : List UInt8) (i : Nat) : Bool := (((l.getD (i / 8) 0).toNat / 2 ^ (i % 8) % 2 : Nat) : Int) == 1
def bitvals (l : List UInt8) (n : Nat) : List Value := (List.range n).map (fun i => Value.bool (bitv l i)) ++ List.replicate (256 - n) (.bool false)
theorem bitvals_length (l : List UInt8) (n : Nat) (h : n ≤ 256) : (bitvals l n).length = 256 := by
  simp only [bitvals, List.length_append, List.length_map, List.length_range, List.length_replicate]; omega
theorem bitvals_zero (l : List UInt8) : bitvals l 0 = List.replicate 256 (.bool false) := rfl
theorem bitvals_old (l : List UInt8) (n : Nat) (h : n < 256) : (bitvals l n)[n]? = some (.bool false) := by
  unfold bitvals
  rw [List.getElem?_append_right (by simp), show 256 - n = (256 - (n + 1)) + 1 from by omega, List.replicate_succ]
  simp
theorem bitvals_set (l : List UInt8) (n : Nat) (h : n < 256) : (bitvals l n).set n (.bool (bitv l n)) = bitvals l (n + 1) := by
  unfold bitvals
  rw [List.set_append_right _ _ (by simp), show 256 - n = (256 - (n + 1)) + 1 from by omega, List.replicate_succ, List.range_succ]
  simp
theorem bitvals_get (l : List UInt8) (i : Nat) (h : i < 256) : (bitvals l 256)[i]? = some (.bool (bitv l i)) := by
  unfold bitvals
  rw [List.getElem?_append_left (by simp [h])]
  simp [h]
theorem boolInfo : (Tryd.prog.info? 4).map (fun i => (i.zero, i.size, i.bytes)) = some (some (.bool false), 1, 1) := by kernel_rfl
theorem bit_and (x k : Nat) (hx : x < 256) : bits .and .u8 ((x : Int) / 2 ^ k) 1 = ((x / 2 ^ k % 2 : Nat) : Int) := by
  have h := u8_and1 (x / 2 ^ k) (Nat.lt_of_le_of_lt (Nat.div_le_self ..) hx)
  rw [Int.natCast_ediv, Int.natCast_pow, show ((2 : Nat) : Int) = 2 from rfl] at h
  exact h

set_option maxHeartbeats 4000000 in
set_option maxRecDepth 100000 in
theorem bits_ok (l : List UInt8) (w : World) (hl : l.length = 32) :
    Calls Tryd.prog 14 #[ag l] w fun e w' => ∃ b, e = .returned (.slice (some ⟨b, 0, none⟩) 256 256) ∧ Blk w' b 4 (bitvals l 256) ∧ Below w.heap.size w w' := by
  obtain ⟨i0, hi, hz0, hz1, hz2⟩ := info_parts boolInfo
  have I := Lib.hid hi
  have I0 := Lib.hid hz0
  have I1 := Lib.hid hz1
  have I2 := Lib.hid hz2
  have LL := Lib.hid hl
  clear hi hz0 hz1 hz2
  show Calls Tryd.prog _ #[.agg (bvals l).toArray] w _
  have HA := Lib.hid (Blk.new w 24 (bvals l))
  have HB0 := Lib.hid ((Below.refl _ w).alloc (Nat.le_refl _) (.cells (bvals l).toArray 24))
  go_enter Tryd.func14, Tryd.ntmps14
  go_wp2_with (at_make; refine wpList_make_full _ rfl _ _ 33 rfl w.heap.size 4 i0 (.bool false) 1 Tryd.underlying33 I.out I0.out I1.out _ _ _ _ 256 rfl rfl (by omega) (by omega) (by rw [I2.out]; omega) (by unfold maxLen; omega) (by simp) ?_)
  intro w2 hown hgrow
  rw [made_one] at hown
  have hB2 := HB0.out.grown hgrow HB0.out.size (fun k hk => by cases hk)
  have HA2 := Lib.hid (show Blk w2 w.heap.size 24 (bvals l) from by
    unfold Blk; rw [hgrow.block w.heap.size HA.out.lt (by simp)]; exact HA.out)
  obtain ⟨hk2, hge⟩ := blk_of_own hown
  have HK := Lib.hid hk2
  have hbl := HA.out.lt
  clear hown hgrow hk2
  generalize w.heap.size + 1 = g at *
  go_wp2
  go_loopw [8] (fun vi wr => ∃ i : Nat, vi = .int .i64 i ∧ i ≤ 256 ∧ Hid (Blk wr g 4 (bitvals l i)) ∧ Hid (Blk wr w.heap.size 24 (bvals l)) ∧ Below w.heap.size w wr) (fun vi _ => 256 - (intOf vi).toNat)
  case atStart => exact ⟨0, rfl, by omega, by rw [bitvals_zero]; exact HK, HA2, hB2⟩
  case round =>
    obtain ⟨i, rfl, hi, km, ka, hBw⟩ := hrel
    by_cases hgo : i < 256
    · have c1 := ka.out.cell (i / 8) _ (bvals_get l (i / 8) (by omega))
      have c2 := km.out.cell i _ (bitvals_old l i hgo)
      have f2 := km.out.free i
      have hx := (l.getD (i / 8) 0).toNat_lt
      have BV : Hid (bitv l i = ((((l.getD (i / 8) 0).toNat / 2 ^ (i % 8) % 2 : Nat) : Int) == 1)) := rfl
      have e2 := bit_and (l.getD (i / 8) 0).toNat (i % 8) hx
      have NM := Lib.hid (bitvals_set l i hgo ▸ km.out.set i (.bool (bitv l i)))
      have hne : w.heap.size ≠ g := by have := ka.out.lt; intro e; subst e; exact absurd ka.out (by intro h; have := km.out; unfold Blk at *; rw [h] at this; simp at this)
      have NA := Lib.hid (ka.out.far hne i (.bool (bitv l i)))
      have hB3 := below_set' hBw g i (.bool (bitv l i)) hge
      generalize (l.getD (i / 8) 0).toNat = x at *
      clear km ka hBw
      go_wp2
      rw [show ((x : Int) / 2 ^ (i % 8) % 2 == 1) = bitv l i from by rw [BV.out]; simp]
      go_roundw
      case rel => exact ⟨i + 1, by go_num, by omega, NM, NA, hB3⟩
      case measure => simp [intOf]; omega
    · obtain rfl : i = 256 := by omega
      go_wp2
      go_ret
      exact ⟨g, rfl, km.out, hBw⟩
end Go.Proofs.YtomdldjamdkhoaaDoor
