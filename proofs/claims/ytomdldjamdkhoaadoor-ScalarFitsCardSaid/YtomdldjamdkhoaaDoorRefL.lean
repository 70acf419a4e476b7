/-
The document's modulus of layer 7, and what is reduced by it.
-/
import Derived.Test.YtomdldjamdkhoaaDoorRefNum5
import Derived.Lib.SmallJoins
namespace Go.Proofs.YtomdldjamdkhoaaDoor
open Go.RowKit

/-- a number in decimal digits (bytes), the highest first -/
def dec (l : List Nat) : Nat := l.foldl (fun a d => a * 10 + (d - 48)) 0
def lDigits : List Nat := [50, 55, 55, 52, 50, 51, 49, 55, 55, 55, 55, 51, 55, 50, 51, 53, 51, 53, 51, 53, 56, 53, 49, 57, 51, 55, 55, 57, 48, 56, 56, 51, 54, 52, 56, 52, 57, 51]
def Lq : Nat := 2 ^ 252 + 27742317777372353535851937790883648493
theorem dec_next (l : List Nat) (k : Nat) (h : k < l.length) : dec (l.take (k + 1)) = dec (l.take k) * 10 + (l.getD k 0 - 48) := by
  rw [take_succ_getD _ _ h]; simp [dec, List.foldl_append]
theorem lDigits_ok : ∀ k, k < 38 → 48 ≤ lDigits.getD k 0 ∧ lDigits.getD k 0 ≤ 57 ∧ dec (lDigits.take k) < 65536 ^ 10 := by
  decide +kernel
theorem lDec : dec (lDigits.take 38) = 27742317777372353535851937790883648493 := by decide +kernel

theorem num_dig {w : World} {v : Value} {n N : Nat} (h : Num w v n) (hn : n < 65536 ^ N) : ∃ l, DigAt w v l ∧ Can l ∧ bv l = n ∧ l.length ≤ N := by
  obtain ⟨l, hd, hc, hb⟩ := h
  exact ⟨l, hd, hc, hb, num_len hc (by rw [hb]; exact hn)⟩

set_option maxHeartbeats 1000000 in
set_option maxRecDepth 100000 in
theorem l_ok (w : World) : Calls Tryd.prog 17 #[] w fun e w' => ∃ v', e = .returned v' ∧ Num w' v' Lq ∧ Below w.heap.size w w' := by
  have LD := Lib.hid lDigits_ok
  have DN := Lib.hid (fun k h => dec_next lDigits k h)
  go_enter Tryd.func17, Tryd.ntmps17
  have kc := fun (C : Array Value) (n c : Nat) => Joins.run_convert_bytes_const_at (P := Tryd.prog) (w.alloc (.cells #[] 3)) 26 5 C n c (w.heap.size + 1) (by simp) Tryd.underlying26 Tryd.underlying5
  go_wp2
  clear kc
  generalize hr : (#[Value.int IntKind.u8 50, Value.int IntKind.u8 55, Value.int IntKind.u8 55, Value.int IntKind.u8 52, Value.int IntKind.u8 50, Value.int IntKind.u8 51, Value.int IntKind.u8 49, Value.int IntKind.u8 55, Value.int IntKind.u8 55, Value.int IntKind.u8 55, Value.int IntKind.u8 55, Value.int IntKind.u8 51, Value.int IntKind.u8 55, Value.int IntKind.u8 50, Value.int IntKind.u8 51, Value.int IntKind.u8 53, Value.int IntKind.u8 51, Value.int IntKind.u8 53, Value.int IntKind.u8 51, Value.int IntKind.u8 53, Value.int IntKind.u8 56, Value.int IntKind.u8 53, Value.int IntKind.u8 49, Value.int IntKind.u8 57, Value.int IntKind.u8 51, Value.int IntKind.u8 55, Value.int IntKind.u8 55, Value.int IntKind.u8 57, Value.int IntKind.u8 48, Value.int IntKind.u8 56, Value.int IntKind.u8 56, Value.int IntKind.u8 51, Value.int IntKind.u8 54, Value.int IntKind.u8 52, Value.int IntKind.u8 56, Value.int IntKind.u8 52, Value.int IntKind.u8 57, Value.int IntKind.u8 51] : Array Value) = row
  have hrow : ∀ k, k < 38 → row[k]? = some (.int .u8 (lDigits.getD k 0 : Nat)) := by
    intro k hk
    have e : row = (lDigits.map fun d => Value.int .u8 (d : Nat)).toArray := by rw [← hr]; rfl
    have hk' : k < lDigits.length := hk
    rw [e, List.getElem?_toArray, List.getElem?_map, List.getElem?_eq_getElem hk', List.getD_eq_getElem?_getD, List.getElem?_eq_getElem hk']
    rfl
  have hsz : row.size = 38 := by rw [← hr]; rfl
  have HR := Lib.hid hrow
  clear hr hrow
  generalize hwl : World.alloc (w.alloc _) _ = wl
  have hBl : Below w.heap.size w wl := by rw [← hwl]; exact ((Below.refl _ _).alloc (Nat.le_refl _) _).alloc (by simp) _
  have hcell : ∀ k, k < 38 → wl.cell? ⟨w.heap.size + 1, k, none⟩ = some (.int .u8 (lDigits.getD k 0 : Nat)) := by
    intro k hk
    rw [← hwl, Joins.cell_alloc_mark_at _ _ _ _ _ _ (by simp)]
    exact HR.out k hk
  have hsl : w.heap.size + 2 ≤ wl.heap.size := by rw [← hwl]; simp
  have hnum0 : Num wl (.slice (some ⟨w.heap.size, 0, none⟩) 0 0) 0 := ⟨[], ⟨Sm.nil, some ⟨w.heap.size, 0, none⟩, 0, rfl, Nat.le_refl _, Nat.zero_le _, fun i hi => absurd hi (Nat.not_lt_zero _)⟩, Can.nil, rfl⟩
  have HB := Lib.hid hBl
  have HC := Lib.hid hcell
  have HN := Lib.hid hnum0
  clear hwl hBl hcell HR hsz hnum0
  clear row
  go_loopw [1, 8] (fun vo vi wr => ∃ i : Nat, vi = .int .i64 i ∧ i ≤ 38 ∧ Hid (Num wr vo (dec (lDigits.take i))) ∧ Below wl.heap.size wl wr) (fun _ vi _ => 38 - (intOf vi).toNat)
  case atStart => exact ⟨0, rfl, by omega, HN.out, Below.refl _ _⟩
  case round =>
    obtain ⟨i, rfl, hi, hn, hBw⟩ := hrel
    by_cases hgo : i < 38
    · have k1 := HC.out i hgo
      rw [← hBw.cell (p := ⟨w.heap.size + 1, i, none⟩) (show w.heap.size + 1 < _ from by omega)] at k1
      obtain ⟨d1, d2, d3⟩ := LD.out i hgo
      obtain ⟨l0, hd0, hc0, hb0, hl0⟩ := num_dig hn.out d3
      have D0 := Lib.hid hd0
      have B0 := Lib.hid hb0
      have DN1 := Lib.hid (DN.out i hgo)
      clear hd0 hb0 d3 hn
      generalize lDigits.getD i 0 = d at *
      go_wp2_with fail
      refine (small_ok 10 _ (by omega)).mono ?_
      rintro e w1 ⟨v1, rfl, hn1, hb1⟩
      obtain ⟨l1, hd1, hc1, hbv1, hl1⟩ := num_dig (N := 1) hn1 (by decide)
      have D1 := Lib.hid hd1
      have BV1 := Lib.hid hbv1
      have hBx := hBw.trans (hb1.mono hBw.size)
      clear hn1 hd1 hbv1
      go_wp2_with fail
      refine (mul_ok l0 l1 _ v1 _ (D0.out.below hb1) D1.out (by omega) (by omega)).mono ?_
      rintro e w2 ⟨v2, rfl, hn2, hb2⟩
      rw [B0.out, BV1.out] at hn2
      have N2 := Lib.hid hn2
      have hBy := hBx.trans (hb2.mono hBx.size)
      clear hn2 hb1 hb2
      go_wp2_with fail
      rw [show ((d : Int) - 48) = ((d - 48 : Nat) : Int) from by omega]
      refine (small_ok (d - 48) _ (by omega)).mono ?_
      rintro e w3 ⟨v3, rfl, hn3, hb3⟩
      have n2 := N2.out.below hb3
      have hBz := hBy.trans (hb3.mono hBy.size)
      have d4 := (LD.out i hgo).2.2
      obtain ⟨l2, hd2, hc2, hbv2, hl2⟩ := num_dig (N := 11) n2 (by rw [Nat.pow_succ]; omega)
      obtain ⟨l3, hd3, hc3, hbv3, hl3⟩ := num_dig (N := 1) hn3 (by omega)
      have D2 := Lib.hid hd2
      have D3 := Lib.hid hd3
      have BV := Lib.hid (show bv l2 + bv l3 = dec (lDigits.take (i + 1)) from by rw [hbv2, hbv3, DN1.out])
      clear hd2 hd3 hbv2 hbv3 hn3 hb3 n2 d4
      go_wp2_with fail
      refine (add_ok l2 l3 _ v3 _ D2.out D3.out (by omega) (by omega)).mono ?_
      rintro e w4 ⟨v4, rfl, hn4, hb4⟩
      rw [BV.out] at hn4
      have N4 := Lib.hid hn4
      have hBv := hBz.trans (hb4.mono hBz.size)
      clear hn4 hb4
      go_wp2_with fail
      go_roundw
      case rel => exact ⟨i + 1, by go_num, by omega, N4, hBv⟩
      case measure => simp [intOf]; omega
    · have hi8 : i = 38 := by omega
      subst hi8
      have hd : dec (lDigits.take 38) = 27742317777372353535851937790883648493 := lDec
      have hn2 := hn.out
      rw [hd] at hn2
      have N0 := Lib.hid hn2
      clear hn2 hn hd DN LD
      go_wp2_with fail
      refine (power_ok 252 _ (by omega)).mono ?_
      rintro e w1 ⟨v1, rfl, hn1, hb1⟩
      obtain ⟨l0, hd0, hc0, hbv0, hl0⟩ := num_dig (N := 10) (N0.out.below hb1) (by decide)
      obtain ⟨l1, hd1, hc1, hbv1, hl1⟩ := num_dig (N := 17) hn1 (by decide)
      have D0 := Lib.hid hd0
      have D1 := Lib.hid hd1
      have BV := Lib.hid (show bv l1 + bv l0 = Lq from by rw [hbv1, hbv0]; rfl)
      have hBx := hBw.trans (hb1.mono hBw.size)
      clear hn1 hb1 hd0 hd1 hbv0 hbv1
      go_wp2_with fail
      refine (add_ok l1 l0 v1 _ _ D1.out D0.out (by omega) (by omega)).mono ?_
      rintro e w4 ⟨v4, rfl, hn4, hb4⟩
      rw [BV.out] at hn4
      have N4 := Lib.hid hn4
      have hBv := HB.out.trans ((hBx.trans (hb4.mono hBx.size)).mono (by omega))
      clear hn4 hb4
      go_wp2_with fail
      go_ret
      exact ⟨_, rfl, N4.out, hBv⟩
theorem Lq_pos : 0 < Lq := by decide
theorem Lq_lt : Lq < 65536 ^ 16 := by decide
theorem le8_size (s : ByteArray) : le8 s.data.toList < 256 ^ s.size := by
  have := le8_lt s.data.toList
  rwa [Array.length_toList] at this
theorem le8_N (s : ByteArray) (n : Nat) (h : s.size ≤ 2 * n) : le8 s.data.toList < 65536 ^ n := by
  rw [← pow256]; exact Nat.lt_of_lt_of_le (le8_size s) (Nat.pow_le_pow_right (by decide) h)

/-- what the document's reducing answers -/
def redOf (n : Nat) : ByteArray := ⟨(leBytes (n % Lq) 32).toArray⟩

set_option maxHeartbeats 1000000 in
theorem refReduce_ok (s : ByteArray) (w : World) (hs : s.size ≤ 64) :
    Calls Tryd.prog 10 #[.string s] w fun e w' => e = .returned (.string (redOf (le8 s.data.toList))) ∧ Below w.heap.size w w' := by
  have hN := le8_N s 32 (by omega)
  have HN := Lib.hid hN
  clear hN
  go_enter Tryd.func10, Tryd.ntmps10
  go_wp2_with fail
  refine (of_ok s _ (by omega)).mono ?_
  rintro e w1 ⟨v1, rfl, hn1, hb1⟩
  have N1 := Lib.hid hn1
  clear hn1
  go_wp2_with fail
  refine (l_ok _).mono ?_
  rintro e w2 ⟨v2, rfl, hn2, hb2⟩
  obtain ⟨l1, hd1, hc1, hbv1, hl1⟩ := num_dig (N := 32) (N1.out.below hb2) HN.out
  obtain ⟨l2, hd2, hc2, hbv2, hl2⟩ := num_dig (N := 16) hn2 Lq_lt
  have D1 := Lib.hid hd1
  have D2 := Lib.hid hd2
  have BV1 := Lib.hid hbv1
  have BV2 := Lib.hid hbv2
  have hB2 := hb1.trans (hb2.mono hb1.size)
  clear hb1 hb2 hd1 hd2 hbv1 hbv2 hn2
  go_wp2_with fail
  refine (mod_ok l1 l2 _ v2 _ D1.out D2.out hc1 hc2 (by omega) (by omega) (by rw [BV2.out]; exact Lq_pos)).mono ?_
  rintro e w3 ⟨v3, rfl, hn3, hb3⟩
  rw [BV1.out, BV2.out] at hn3
  obtain ⟨l3, hd3, hc3, hbv3, hl3⟩ := num_dig (N := 16) hn3 (Nat.lt_trans (Nat.mod_lt _ Lq_pos) Lq_lt)
  have D3 := Lib.hid hd3
  have BV3 := Lib.hid hbv3
  have hB3 := hB2.trans (hb3.mono hB2.size)
  clear hn3 hb3 hd3 hbv3
  go_wp2_with fail
  refine (bytes_ok l3 v3 32 _ D3.out (by omega) (by omega)).mono ?_
  rintro e w4 ⟨rfl, hb4⟩
  rw [BV3.out]
  have hB4 := hB3.trans (hb4.mono hB3.size)
  clear hb4
  go_wp2_with fail
  go_ret
  exact ⟨rfl, hB4⟩

set_option maxHeartbeats 1000000 in
theorem refFits_ok (s : ByteArray) (w : World) (hs : s.size ≤ 64) :
    Calls Tryd.prog 15 #[.string s] w fun e w' => e = .returned (.bool (decide (le8 s.data.toList < Lq))) ∧ Below w.heap.size w w' := by
  have hN := le8_N s 32 (by omega)
  have HN := Lib.hid hN
  clear hN
  go_enter Tryd.func15, Tryd.ntmps15
  go_wp2_with fail
  refine (of_ok s _ (by omega)).mono ?_
  rintro e w1 ⟨v1, rfl, hn1, hb1⟩
  have N1 := Lib.hid hn1
  clear hn1
  go_wp2_with fail
  refine (l_ok _).mono ?_
  rintro e w2 ⟨v2, rfl, hn2, hb2⟩
  obtain ⟨l1, hd1, hc1, hbv1, hl1⟩ := num_dig (N := 32) (N1.out.below hb2) HN.out
  obtain ⟨l2, hd2, hc2, hbv2, hl2⟩ := num_dig (N := 16) hn2 Lq_lt
  have D1 := Lib.hid hd1
  have D2 := Lib.hid hd2
  have BV1 := Lib.hid hbv1
  have BV2 := Lib.hid hbv2
  have hB2 := hb1.trans (hb2.mono hb1.size)
  clear hb1 hb2 hd1 hd2 hbv1 hbv2 hn2
  go_wp2_with fail
  refine (cmp_ok l1 l2 _ v2 _ D1.out D2.out (by omega)).mono ?_
  rintro e w3 ⟨rfl, n3, rfl⟩
  rw [BV1.out, BV2.out]
  have hcm : decide (cmpOf (le8 s.data.toList) Lq < 0) = decide (le8 s.data.toList < Lq) := by
    unfold cmpOf
    by_cases h : le8 s.data.toList < Lq
    · rw [if_pos h]; simp [h]
    · rw [if_neg h]; split <;> simp [h]
  have HCM := Lib.hid hcm
  clear hcm
  generalize cmpOf (le8 s.data.toList) Lq = c at *
  go_wp2_with fail
  go_ret
  exact ⟨ret_bool HCM.out, below_drewN hB2 _⟩

set_option maxHeartbeats 1000000 in
theorem refMulAdd_ok (a b c : ByteArray) (w : World) (ha : a.size ≤ 32) (hb : b.size ≤ 32) (hc : c.size ≤ 32) :
    Calls Tryd.prog 13 #[.string a, .string b, .string c] w fun e w' => e = .returned (.string (redOf (le8 a.data.toList * le8 b.data.toList + le8 c.data.toList))) ∧ Below w.heap.size w w' := by
  have HA := Lib.hid (le8_N a 16 (by omega))
  have HB := Lib.hid (le8_N b 16 (by omega))
  have HC := Lib.hid (le8_N c 16 (by omega))
  go_enter Tryd.func13, Tryd.ntmps13
  go_wp2_with fail
  refine (of_ok a _ (by omega)).mono ?_
  rintro e w1 ⟨v1, rfl, hn1, hb1⟩
  have N1 := Lib.hid hn1
  clear hn1
  go_wp2_with fail
  refine (of_ok b _ (by omega)).mono ?_
  rintro e w2 ⟨v2, rfl, hn2, hb2⟩
  obtain ⟨l1, hd1, hc1, hbv1, hl1⟩ := num_dig (N := 16) (N1.out.below hb2) HA.out
  obtain ⟨l2, hd2, hc2, hbv2, hl2⟩ := num_dig (N := 16) hn2 HB.out
  have D1 := Lib.hid hd1
  have D2 := Lib.hid hd2
  have BV1 := Lib.hid hbv1
  have BV2 := Lib.hid hbv2
  have hB2 := hb1.trans (hb2.mono hb1.size)
  clear hb1 hb2 hd1 hd2 hbv1 hbv2 hn2 N1
  go_wp2_with fail
  refine (mul_ok l1 l2 _ v2 _ D1.out D2.out (by omega) (by omega)).mono ?_
  rintro e w3 ⟨v3, rfl, hn3, hb3⟩
  rw [BV1.out, BV2.out] at hn3
  have N3 := Lib.hid hn3
  have hB3 := hB2.trans (hb3.mono hB2.size)
  clear hn3 hb3 BV1 BV2 D1 D2
  go_wp2_with fail
  refine (of_ok c _ (by omega)).mono ?_
  rintro e w4 ⟨v4, rfl, hn4, hb4⟩
  have hab : le8 a.data.toList * le8 b.data.toList < 65536 ^ 32 := by
    have := Nat.mul_lt_mul'' HA.out HB.out
    rwa [← Nat.pow_add] at this
  have HAB := Lib.hid hab
  obtain ⟨l3, hd3, hc3, hbv3, hl3⟩ := num_dig (N := 32) (N3.out.below hb4) hab
  obtain ⟨l4, hd4, hc4, hbv4, hl4⟩ := num_dig (N := 16) hn4 HC.out
  have D3 := Lib.hid hd3
  have D4 := Lib.hid hd4
  have BV := Lib.hid (show bv l3 + bv l4 = le8 a.data.toList * le8 b.data.toList + le8 c.data.toList from by rw [hbv3, hbv4])
  have hB4 := hB3.trans (hb4.mono hB3.size)
  clear hb4 hn4 hd3 hd4 hbv3 hbv4 hab N3
  go_wp2_with fail
  refine (add_ok l3 l4 _ v4 _ D3.out D4.out (by omega) (by omega)).mono ?_
  rintro e w5 ⟨v5, rfl, hn5, hb5⟩
  rw [BV.out] at hn5
  have N5 := Lib.hid hn5
  have hB5 := hB4.trans (hb5.mono hB4.size)
  clear hn5 hb5 D3 D4 BV hc1 hc2 hc3 hc4 hl1 hl2 hl3 hl4
  have hsum : le8 a.data.toList * le8 b.data.toList + le8 c.data.toList < 65536 ^ 33 := by
    have h1 := HAB.out
    have h2 := HC.out
    have h3 : (65536 : Nat) ^ 16 ≤ 65536 ^ 32 := by decide
    rw [show (33 : Nat) = 32 + 1 from rfl, Nat.pow_succ]
    omega
  have HS := Lib.hid hsum
  clear hsum HAB HA HB HC
  go_wp2_with fail
  refine (l_ok _).mono ?_
  rintro e w6 ⟨v6, rfl, hn6, hb6⟩
  obtain ⟨l1, hd1, hc1, hbv1, hl1⟩ := num_dig (N := 33) (N5.out.below hb6) HS.out
  obtain ⟨l2, hd2, hc2, hbv2, hl2⟩ := num_dig (N := 16) hn6 Lq_lt
  have D1 := Lib.hid hd1
  have D2 := Lib.hid hd2
  have BV1 := Lib.hid hbv1
  have BV2 := Lib.hid hbv2
  have hB6 := hB5.trans (hb6.mono hB5.size)
  clear hb6 hd1 hd2 hbv1 hbv2 hn6 N5
  go_wp2_with fail
  refine (mod_ok l1 l2 _ v6 _ D1.out D2.out hc1 hc2 (by omega) (by omega) (by rw [BV2.out]; exact Lq_pos)).mono ?_
  rintro e w7 ⟨v7, rfl, hn7, hb7⟩
  rw [BV1.out, BV2.out] at hn7
  obtain ⟨l3, hd3, hc3, hbv3, hl3⟩ := num_dig (N := 16) hn7 (Nat.lt_trans (Nat.mod_lt _ Lq_pos) Lq_lt)
  have D3 := Lib.hid hd3
  have BV3 := Lib.hid hbv3
  have hB7 := hB6.trans (hb7.mono hB6.size)
  clear hn7 hb7 hd3 hbv3
  go_wp2_with fail
  refine (bytes_ok l3 v7 32 _ D3.out (by omega) (by omega)).mono ?_
  rintro e w8 ⟨rfl, hb8⟩
  rw [BV3.out]
  have hB8 := hB7.trans (hb8.mono hB7.size)
  clear hb8
  go_wp2_with fail
  go_ret
  exact ⟨rfl, hB8⟩
end Go.Proofs.YtomdldjamdkhoaaDoor
