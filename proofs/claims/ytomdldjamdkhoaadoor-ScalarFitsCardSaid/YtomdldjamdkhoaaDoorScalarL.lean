/-
What scalar's laws call beside: the document's Reduce of any string; Cut.
-/
import Derived.Test.YtomdldjamdkhoaaDoorScalarAwake
namespace Go.Proofs.YtomdldjamdkhoaaDoor
open Go.RowKit

set_option maxHeartbeats 1000000 in
theorem refReduce_cut (s : ByteArray) (w : World) :
    Calls Tryd.prog 10 #[.string s] w fun e w' => e = .returned (.string (redOf (le8 (cut64 s).data.toList))) ∧ Below w.heap.size w w' := by
  by_cases hs : s.size ≤ 64
  · rw [show cut64 s = s from if_pos hs]
    exact refReduce_ok s w hs
  · have e1 : cut64 s = s.extract 0 64 := if_neg hs
    have hts : (s.extract 0 64).size = 64 := by rw [ByteArray.size_extract]; omega
    obtain ⟨t, hT⟩ : ∃ t, t = s.extract 0 64 := ⟨_, rfl⟩
    rw [e1, ← hT]
    rw [← hT] at hts
    have HT := Lib.hid hT
    clear e1 hT
    have HN := Lib.hid (le8_N t 32 (by omega))
    go_enter Tryd.func10, Tryd.ntmps10
    go_wp2_with fail
    rw [← HT.out]
    refine (of_ok t _ (by omega)).mono ?_
    rintro e w1 ⟨v1, rfl, hn1, hb1⟩
    have N1 := Lib.hid hn1
    clear hn1
    go_wp2_with fail
    refine (l_ok _).mono ?_
    rintro e w2 ⟨v2, rfl, hn2, hb2⟩
    obtain ⟨l1, hd1, hc1, hbv1, hl1⟩ := num_dig (N := 32) (N1.out.below hb2) HN.out
    obtain ⟨l2, hd2, hc2, hbv2, hl2⟩ := num_dig (N := 16) hn2 Lq_lt
    have D1 := Lib.hid hd1
    have D2 := Lib.hid hd2
    have BV1 := Lib.hid hbv1
    have BV2 := Lib.hid hbv2
    have hB2 := hb1.trans (hb2.mono hb1.size)
    clear hb1 hb2 hd1 hd2 hbv1 hbv2 hn2
    go_wp2_with fail
    refine (mod_ok l1 l2 _ v2 _ D1.out D2.out hc1 hc2 (by omega) (by omega) (by rw [BV2.out]; exact Lq_pos)).mono ?_
    rintro e w3 ⟨v3, rfl, hn3, hb3⟩
    rw [BV1.out, BV2.out] at hn3
    obtain ⟨l3, hd3, hc3, hbv3, hl3⟩ := num_dig (N := 16) hn3 (Nat.lt_trans (Nat.mod_lt _ Lq_pos) Lq_lt)
    have D3 := Lib.hid hd3
    have BV3 := Lib.hid hbv3
    have hB3 := hB2.trans (hb3.mono hB2.size)
    clear hn3 hb3 hd3 hbv3
    go_wp2_with fail
    refine (bytes_ok l3 v3 32 _ D3.out (by omega) (by omega)).mono ?_
    rintro e w4 ⟨rfl, hb4⟩
    rw [BV3.out]
    have hB4 := hB3.trans (hb4.mono hB3.size)
    clear hb4
    go_wp2_with fail
    go_ret
    exact ⟨rfl, hB4⟩

def cutN (s : ByteArray) (n : Nat) : ByteArray := if s.size ≤ n then s else s.extract 0 n
theorem cut80_ok (s : ByteArray) (w : World) :
    Calls Tryd.prog 8 #[.string s, .int .i64 80] w fun e w' => e = .returned (.string (cutN s 80)) ∧ w = w' := by
  by_cases hs : s.size ≤ 80
  · rw [show cutN s 80 = s from if_pos hs]
    go_enter Tryd.func8, Tryd.ntmps8
    go_wp2
    go_ret
    exact ⟨rfl, rfl⟩
  · rw [show cutN s 80 = s.extract 0 80 from if_neg hs]
    go_enter Tryd.func8, Tryd.ntmps8
    go_wp2
    go_ret
    exact ⟨rfl, rfl⟩
end Go.Proofs.YtomdldjamdkhoaaDoor
