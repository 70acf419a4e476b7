/-
The fixed fact of scalar's laws.
-/
import Derived.Test.YtomdldjamdkhoaaDoorEq32
namespace Go.Proofs.YtomdldjamdkhoaaDoor
open Go.RowKit

theorem le8_L : leBytes Lq 32 = [237, 211, 245, 92, 26, 99, 18, 88, 214, 156, 247, 162, 222, 249, 222, 20, 0, 0, 0, 0, 0, 0, 0, 0, 0, 0, 0, 0, 0, 0, 0, 16] := by decide +kernel
set_option maxHeartbeats 2000000 in
set_option maxRecDepth 100000 in
theorem awake_ok (w : World) (ho : Ordr w) (h0 : 0 < w.heap.size) :
    Calls Tryd.prog 7 #[] w fun e w' => e = .returned (.bool true) ∧ Below w.heap.size w w' := by
  have HO := Lib.hid ho
  clear ho
  have q0 : ∀ w, (Op.equalIn 10000 24 (.agg #[.int .u8 0, .int .u8 0, .int .u8 0, .int .u8 0, .int .u8 0, .int .u8 0, .int .u8 0, .int .u8 0, .int .u8 0, .int .u8 0, .int .u8 0, .int .u8 0, .int .u8 0, .int .u8 0, .int .u8 0, .int .u8 0, .int .u8 0, .int .u8 0, .int .u8 0, .int .u8 0, .int .u8 0, .int .u8 0, .int .u8 0, .int .u8 0, .int .u8 0, .int .u8 0, .int .u8 0, .int .u8 0, .int .u8 0, .int .u8 0, .int .u8 0, .int .u8 0]) (.agg #[.int .u8 0, .int .u8 0, .int .u8 0, .int .u8 0, .int .u8 0, .int .u8 0, .int .u8 0, .int .u8 0, .int .u8 0, .int .u8 0, .int .u8 0, .int .u8 0, .int .u8 0, .int .u8 0, .int .u8 0, .int .u8 0, .int .u8 0, .int .u8 0, .int .u8 0, .int .u8 0, .int .u8 0, .int .u8 0, .int .u8 0, .int .u8 0, .int .u8 0, .int .u8 0, .int .u8 0, .int .u8 0, .int .u8 0, .int .u8 0, .int .u8 0, .int .u8 0])).run Tryd.prog w = .ok true w := fun w => (eq32 w (0 :: List.replicate 31 0) (0 :: List.replicate 31 0) rfl rfl).trans (by rw [decide_eq_true rfl])
  have q5 : ∀ w, (Op.equalIn 10000 24 (.agg #[.int .u8 5, .int .u8 0, .int .u8 0, .int .u8 0, .int .u8 0, .int .u8 0, .int .u8 0, .int .u8 0, .int .u8 0, .int .u8 0, .int .u8 0, .int .u8 0, .int .u8 0, .int .u8 0, .int .u8 0, .int .u8 0, .int .u8 0, .int .u8 0, .int .u8 0, .int .u8 0, .int .u8 0, .int .u8 0, .int .u8 0, .int .u8 0, .int .u8 0, .int .u8 0, .int .u8 0, .int .u8 0, .int .u8 0, .int .u8 0, .int .u8 0, .int .u8 0]) (.agg #[.int .u8 5, .int .u8 0, .int .u8 0, .int .u8 0, .int .u8 0, .int .u8 0, .int .u8 0, .int .u8 0, .int .u8 0, .int .u8 0, .int .u8 0, .int .u8 0, .int .u8 0, .int .u8 0, .int .u8 0, .int .u8 0, .int .u8 0, .int .u8 0, .int .u8 0, .int .u8 0, .int .u8 0, .int .u8 0, .int .u8 0, .int .u8 0, .int .u8 0, .int .u8 0, .int .u8 0, .int .u8 0, .int .u8 0, .int .u8 0, .int .u8 0, .int .u8 0])).run Tryd.prog w = .ok true w := fun w => (eq32 w (5 :: List.replicate 31 0) (5 :: List.replicate 31 0) rfl rfl).trans (by rw [decide_eq_true rfl])
  have q10 : ∀ w, (Op.equalIn 10000 24 (.agg #[.int .u8 10, .int .u8 0, .int .u8 0, .int .u8 0, .int .u8 0, .int .u8 0, .int .u8 0, .int .u8 0, .int .u8 0, .int .u8 0, .int .u8 0, .int .u8 0, .int .u8 0, .int .u8 0, .int .u8 0, .int .u8 0, .int .u8 0, .int .u8 0, .int .u8 0, .int .u8 0, .int .u8 0, .int .u8 0, .int .u8 0, .int .u8 0, .int .u8 0, .int .u8 0, .int .u8 0, .int .u8 0, .int .u8 0, .int .u8 0, .int .u8 0, .int .u8 0]) (.agg #[.int .u8 10, .int .u8 0, .int .u8 0, .int .u8 0, .int .u8 0, .int .u8 0, .int .u8 0, .int .u8 0, .int .u8 0, .int .u8 0, .int .u8 0, .int .u8 0, .int .u8 0, .int .u8 0, .int .u8 0, .int .u8 0, .int .u8 0, .int .u8 0, .int .u8 0, .int .u8 0, .int .u8 0, .int .u8 0, .int .u8 0, .int .u8 0, .int .u8 0, .int .u8 0, .int .u8 0, .int .u8 0, .int .u8 0, .int .u8 0, .int .u8 0, .int .u8 0])).run Tryd.prog w = .ok true w := fun w => (eq32 w (10 :: List.replicate 31 0) (10 :: List.replicate 31 0) rfl rfl).trans (by rw [decide_eq_true rfl])
  go_enter Tryd.func7, Tryd.ntmps7
  go_wp2_with fail
  refine (l_ok _).mono ?_
  rintro e w1 ⟨v1, rfl, hn1, hb1⟩
  obtain ⟨l1, hd1, hc1, hbv1, hl1⟩ := num_dig (N := 16) hn1 Lq_lt
  have D1 := Lib.hid hd1
  have BV1 := Lib.hid hbv1
  clear hn1 hd1 hbv1
  go_wp2_with fail
  refine (bytes_ok l1 v1 32 _ D1.out (by omega) (by omega)).mono ?_
  rintro e w2 ⟨rfl, hb2⟩
  rw [BV1.out]
  have hB2 := hb1.trans (hb2.mono hb1.size)
  have R1 : ag (leBytes (le8 (cut64 ⟨(leBytes Lq 32).toArray⟩).data.toList % Lq) 32) = .agg #[.int .u8 0, .int .u8 0, .int .u8 0, .int .u8 0, .int .u8 0, .int .u8 0, .int .u8 0, .int .u8 0, .int .u8 0, .int .u8 0, .int .u8 0, .int .u8 0, .int .u8 0, .int .u8 0, .int .u8 0, .int .u8 0, .int .u8 0, .int .u8 0, .int .u8 0, .int .u8 0, .int .u8 0, .int .u8 0, .int .u8 0, .int .u8 0, .int .u8 0, .int .u8 0, .int .u8 0, .int .u8 0, .int .u8 0, .int .u8 0, .int .u8 0, .int .u8 0] := by
    rw [show leBytes (le8 (cut64 ⟨(leBytes Lq 32).toArray⟩).data.toList % Lq) 32 = List.replicate 32 0 by decide +kernel]; rfl
  have R2 : ag (leBytes (le8 (cut64 ⟨#[5]⟩).data.toList % Lq) 32) = .agg #[.int .u8 5, .int .u8 0, .int .u8 0, .int .u8 0, .int .u8 0, .int .u8 0, .int .u8 0, .int .u8 0, .int .u8 0, .int .u8 0, .int .u8 0, .int .u8 0, .int .u8 0, .int .u8 0, .int .u8 0, .int .u8 0, .int .u8 0, .int .u8 0, .int .u8 0, .int .u8 0, .int .u8 0, .int .u8 0, .int .u8 0, .int .u8 0, .int .u8 0, .int .u8 0, .int .u8 0, .int .u8 0, .int .u8 0, .int .u8 0, .int .u8 0, .int .u8 0] := by
    rw [show leBytes (le8 (cut64 ⟨#[5]⟩).data.toList % Lq) 32 = 5 :: List.replicate 31 0 by decide +kernel]; rfl
  have R1 := Lib.hid R1
  have R2 := Lib.hid R2
  clear hb1 hb2
  go_wp2_with fail
  refine (reduce_ok _ w2 (HO.out.below hB2 h0) (Nat.lt_of_lt_of_le h0 hB2.size)).mono ?_
  rintro e w3 ⟨rfl, hb3⟩
  rw [R1.out]
  have hB3 := hB2.trans (hb3.mono hB2.size)
  clear hb3
  go_wp2_with fail
  refine (reduce_ok _ w3 (HO.out.below hB3 h0) (Nat.lt_of_lt_of_le h0 hB3.size)).mono ?_
  rintro e w4 ⟨rfl, hb4⟩
  rw [R2.out]
  have hB4 := hB3.trans (hb4.mono hB3.size)
  clear hb4
  have R3 : decide (le8 (1 :: List.replicate 31 0) < Lq) = true := by decide +kernel
  have R4 : ag (leBytes ((le8 (2 :: List.replicate 31 0) * le8 (3 :: List.replicate 31 0) + le8 (4 :: List.replicate 31 0)) % Lq) 32) = .agg #[.int .u8 10, .int .u8 0, .int .u8 0, .int .u8 0, .int .u8 0, .int .u8 0, .int .u8 0, .int .u8 0, .int .u8 0, .int .u8 0, .int .u8 0, .int .u8 0, .int .u8 0, .int .u8 0, .int .u8 0, .int .u8 0, .int .u8 0, .int .u8 0, .int .u8 0, .int .u8 0, .int .u8 0, .int .u8 0, .int .u8 0, .int .u8 0, .int .u8 0, .int .u8 0, .int .u8 0, .int .u8 0, .int .u8 0, .int .u8 0, .int .u8 0, .int .u8 0] := by
    rw [show leBytes ((le8 (2 :: List.replicate 31 0) * le8 (3 :: List.replicate 31 0) + le8 (4 :: List.replicate 31 0)) % Lq) 32 = 10 :: List.replicate 31 0 by decide +kernel]; rfl
  have R3 := Lib.hid R3
  have R4 := Lib.hid R4
  go_wp2_with fail
  refine (fits_ok (1 :: List.replicate 31 0) w4 rfl (HO.out.below hB4 h0) (Nat.lt_of_lt_of_le h0 hB4.size)).mono ?_
  rintro e w5 ⟨rfl, hb5⟩
  rw [R3.out]
  have hB5 := hB4.trans (hb5.mono hB4.size)
  clear hb5
  go_wp2_with fail
  refine (mulAdd_ok (2 :: List.replicate 31 0) (3 :: List.replicate 31 0) (4 :: List.replicate 31 0) w5 rfl rfl rfl (HO.out.below hB5 h0) (Nat.lt_of_lt_of_le h0 hB5.size)).mono ?_
  rintro e w6 ⟨rfl, hb6⟩
  rw [R4.out]
  have hB6 := hB5.trans (hb6.mono hB5.size)
  clear hb6
  go_wp2_with fail
  go_ret
  exact ⟨rfl, hB6⟩
end Go.Proofs.YtomdldjamdkhoaaDoor
