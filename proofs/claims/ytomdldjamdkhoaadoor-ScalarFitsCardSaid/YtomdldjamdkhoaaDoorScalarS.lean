/-
The contracts of scalar's functions: Reduce.
-/
import Derived.Test.YtomdldjamdkhoaaDoorScalarR
namespace Go.Proofs.YtomdldjamdkhoaaDoor
open Go.RowKit

def cut64 (s : ByteArray) : ByteArray := if s.size ≤ 64 then s else s.extract 0 64
theorem reduce_zero (N n : Nat) (h : N < 2 ^ n) : 0 = N / 2 ^ n % Lq := by rw [Nat.div_eq_of_lt h]; rfl
theorem reduce_step {N k v : Nat} (h : v = N / 2 ^ (k + 1) % Lq) : (2 * v + N / 2 ^ k % 2) % Lq = N / 2 ^ k % Lq := by
  subst h
  conv => rhs; rw [bit_step N k]
  generalize N / 2 ^ (k + 1) = m
  generalize N / 2 ^ k % 2 = b
  rw [Nat.add_mod, Nat.mul_mod, Nat.mod_mod, ← Nat.mul_mod, ← Nat.add_mod]
theorem u8_and1 (a : Nat) (h : a < 256) : bits .and .u8 (a : Int) 1 = ((a % 2 : Nat) : Int) := by
  have := u8_and_nat a 1 h (by omega)
  rw [Nat.and_one_is_mod] at this
  exact this
theorem zero9 : Wd (List.replicate 9 0) := fun d h => by rw [(List.mem_replicate.1 h).2]; decide
theorem wv_zero9 : wv (List.replicate 9 0) = 0 := by decide

set_option maxHeartbeats 4000000 in
set_option maxRecDepth 100000 in
theorem reduce_ok (s : ByteArray) (w : World) (ho : Ordr w) (h0 : 0 < w.heap.size) :
    Calls Tryd.prog 9 #[.string s] w fun e w' => e = .returned (ag (leBytes (le8 (cut64 s).data.toList % Lq) 32)) ∧ Below w.heap.size w w' := by
  have HO := Lib.hid ho
  clear ho
  by_cases hs : s.size ≤ 64
  · have hmn : min (s.size : Int) 64 = s.size := by omega
    have e1 : cut64 s = s := if_pos hs
    rw [e1]
    clear e1
    go_enter Tryd.func9, Tryd.ntmps9
    go_wp2
    clear hmn
    have hlt := le8_lt s.data.toList
    rw [Array.length_toList, show (256 : Nat) = 2 ^ 8 from rfl, ← Nat.pow_mul] at hlt
    have hBYTE := byte_at s
    have LT := Lib.hid (show le8 s.data.toList < 2 ^ (8 * s.size) from hlt)
    have BIT := Lib.hid (le8_bit s.data.toList)
    have LEN : Hid (s.data.toList.length = s.size) := Array.length_toList
    have BYT := Lib.hid hBYTE
    clear hlt hBYTE
    go_loopw [4] (fun vi wr => ∃ (k : Nat) (l : List Nat), vi = .int .i64 (k - 1 : Int) ∧ k ≤ 8 * s.size ∧ Hid (Nm wr (w.heap.size + 1) l) ∧ Hid (wv l = le8 s.data.toList / 2 ^ k % Lq) ∧ Hid (Blk wr w.heap.size 24 (List.replicate 32 (.int .u8 0))) ∧ Below w.heap.size w wr) (fun vi _ => (intOf vi + 1).toNat)
    case atStart =>
      refine ⟨8 * s.size, List.replicate 9 0, by go_num, by omega, ⟨zero9, rfl, ?_⟩, ?_, Blk.alloc (Blk.new _ _ (List.replicate 32 (.int .u8 0))) _, ((Below.refl _ _).alloc (Nat.le_refl _) _).alloc (by simp) _⟩
      · have := Blk.new (w.alloc (.cells (List.replicate 32 (Value.int .u8 0)).toArray 24)) 41 (wvals (List.replicate 9 0))
        rw [show (w.alloc (.cells (List.replicate 32 (Value.int .u8 0)).toArray 24)).heap.size = w.heap.size + 1 by simp] at this
        exact this
      · show _ = _
        rw [wv_zero9]; exact reduce_zero _ _ LT.out
    case round =>
      obtain ⟨k, l, rfl, hk, hnm, heq, hb2, hBw⟩ := hrel
      rcases Nat.eq_zero_or_pos k with rfl | hpos
      · have hz := heq.out
        rw [Nat.pow_zero, Nat.div_one] at hz
        have HZ := Lib.hid hz
        clear heq hz BIT LT BYT
        go_wp2_with fail
        refine (nbytes_ok l _ wr hnm.out).mono ?_
        rintro e w2 ⟨rfl, hb3⟩
        rw [HZ.out]
        have hb2' := Lib.hid (hb2.out.below hb3 hb2.out.lt)
        have hB3 := hBw.trans (hb3.mono hBw.size)
        clear hb3 hb2
        have HL : Hid ((bvals (leBytes (le8 s.data.toList % Lq) 32)).length = 32) := by simp [Hid, bvals, leBytes]
        go_wp2_with (refine store_blk hb2'.out b32_size HL.out (by simp) (bvals_one _) rfl rfl rfl rfl ?_)
        exact ret_blk rfl (Blk.setRow hb2'.out _) Tryd.underlying24 (by rw [HL.out]; exact b32_size) rfl rfl ⟨rfl, below_row hB3 _ _ (Nat.le_refl _)⟩
      · obtain ⟨j, rfl⟩ : ∃ j, k = j + 1 := ⟨k - 1, by omega⟩
        have e1 : (((j + 1 : Nat) : Int) - 1) = (j : Int) := by omega
        rw [e1]
        have hj : j / 8 < s.size := by omega
        have hby := BYT.out (j / 8) hj
        have hbit := BIT.out j (by rw [LEN.out]; omega)
        rw [hby] at hbit
        have HBIT := Lib.hid hbit
        have hx := (s[j / 8]).toNat_lt
        have RS := Lib.hid (reduce_step heq.out)
        have heqL := Lib.hid heq.out
        clear e1 hby hbit heq
        have hlt2 : wv l < Lq := by rw [heqL.out]; exact Nat.mod_lt _ Lq_pos
        have HLT := Lib.hid hlt2
        clear hlt2 heqL
        go_wp2_with fail
        have e2 : bits .and .u8 (((s[j / 8]).toNat : Nat) / 2 ^ (j % 8) : Int) 1 % 4294967296 = ((le8 s.data.toList / 2 ^ j % 2 : Nat) : Int) := by
          have h := u8_and1 ((s[j / 8]).toNat / 2 ^ (j % 8)) (Nat.lt_of_le_of_lt (Nat.div_le_self ..) hx)
          rw [HBIT.out] at h
          rw [Int.natCast_ediv, Int.natCast_pow] at h
          rw [show ((2 : Nat) : Int) = 2 from rfl] at h
          rw [h]
          omega
        rw [e2]
        have hxo : ∀ i, i < 8 → wr.cell? ⟨0, i, none⟩ = some (.int .u32 (orderL.getD i 0 : Nat)) := HO.out.below hBw h0
        refine (shift_ok l _ _ wr hnm.out hxo (by omega) HLT.out (by omega)).mono ?_
        rintro e w2 ⟨rfl, ⟨l2, hn2, he2⟩, hon⟩
        rw [RS.out] at he2
        have HN := Lib.hid hn2
        have HE := Lib.hid he2
        have hb2' := Lib.hid (Only.blk hon hb2.out (show w.heap.size ≠ w.heap.size + 1 by omega))
        have hB3 : Below w.heap.size w w2 := hBw.trans (hon.below hBw.size (by omega))
        clear e2 hxo hn2 he2 hon
        go_wp2_with fail
        go_roundw
        case rel => exact ⟨j, l2, rfl, by omega, HN, HE, hb2', hB3⟩
        case measure => simp [intOf]
  · have hmn : min (s.size : Int) 64 = 64 := by omega
    have e1 : cut64 s = s.extract 0 64 := if_neg hs
    have hts : (s.extract 0 64).size = 64 := by rw [ByteArray.size_extract]; omega
    obtain ⟨t, hT⟩ : ∃ t, t = s.extract 0 64 := ⟨_, rfl⟩
    rw [e1, ← hT]
    rw [← hT] at hts
    have HT := Lib.hid hT
    clear e1 hT
    go_enter Tryd.func9, Tryd.ntmps9
    go_wp2
    clear hmn
    rw [← HT.out]
    have hlt := le8_lt t.data.toList
    rw [Array.length_toList, show (256 : Nat) = 2 ^ 8 from rfl, ← Nat.pow_mul] at hlt
    have hBYTE := byte_at t
    have LT := Lib.hid (show le8 t.data.toList < 2 ^ (8 * t.size) from hlt)
    have BIT := Lib.hid (le8_bit t.data.toList)
    have LEN : Hid (t.data.toList.length = t.size) := Array.length_toList
    have BYT := Lib.hid hBYTE
    clear hlt hBYTE
    go_loopw [4] (fun vi wr => ∃ (k : Nat) (l : List Nat), vi = .int .i64 (k - 1 : Int) ∧ k ≤ 8 * t.size ∧ Hid (Nm wr (w.heap.size + 1) l) ∧ Hid (wv l = le8 t.data.toList / 2 ^ k % Lq) ∧ Hid (Blk wr w.heap.size 24 (List.replicate 32 (.int .u8 0))) ∧ Below w.heap.size w wr) (fun vi _ => (intOf vi + 1).toNat)
    case atStart =>
      refine ⟨8 * t.size, List.replicate 9 0, val_int (by omega), by omega, ⟨zero9, rfl, ?_⟩, ?_, Blk.alloc (Blk.new _ _ (List.replicate 32 (.int .u8 0))) _, ((Below.refl _ _).alloc (Nat.le_refl _) _).alloc (by simp) _⟩
      · have := Blk.new (w.alloc (.cells (List.replicate 32 (Value.int .u8 0)).toArray 24)) 41 (wvals (List.replicate 9 0))
        rw [show (w.alloc (.cells (List.replicate 32 (Value.int .u8 0)).toArray 24)).heap.size = w.heap.size + 1 by simp] at this
        exact this
      · show _ = _
        rw [wv_zero9]; exact reduce_zero _ _ LT.out
    case round =>
      obtain ⟨k, l, rfl, hk, hnm, heq, hb2, hBw⟩ := hrel
      rcases Nat.eq_zero_or_pos k with rfl | hpos
      · have hz := heq.out
        rw [Nat.pow_zero, Nat.div_one] at hz
        have HZ := Lib.hid hz
        clear heq hz BIT LT BYT
        go_wp2_with fail
        refine (nbytes_ok l _ wr hnm.out).mono ?_
        rintro e w2 ⟨rfl, hb3⟩
        rw [HZ.out]
        have hb2' := Lib.hid (hb2.out.below hb3 hb2.out.lt)
        have hB3 := hBw.trans (hb3.mono hBw.size)
        clear hb3 hb2
        have HL : Hid ((bvals (leBytes (le8 t.data.toList % Lq) 32)).length = 32) := by simp [Hid, bvals, leBytes]
        go_wp2_with (refine store_blk hb2'.out b32_size HL.out (by simp) (bvals_one _) rfl rfl rfl rfl ?_)
        exact ret_blk rfl (Blk.setRow hb2'.out _) Tryd.underlying24 (by rw [HL.out]; exact b32_size) rfl rfl ⟨rfl, below_row hB3 _ _ (Nat.le_refl _)⟩
      · obtain ⟨j, rfl⟩ : ∃ j, k = j + 1 := ⟨k - 1, by omega⟩
        have e1 : (((j + 1 : Nat) : Int) - 1) = (j : Int) := by omega
        rw [e1]
        have hj : j / 8 < t.size := by omega
        have hby := BYT.out (j / 8) hj
        have hbit := BIT.out j (by rw [LEN.out]; omega)
        rw [hby] at hbit
        have HBIT := Lib.hid hbit
        have hx := (t[j / 8]).toNat_lt
        have RS := Lib.hid (reduce_step heq.out)
        have heqL := Lib.hid heq.out
        clear e1 hby hbit heq
        have hlt2 : wv l < Lq := by rw [heqL.out]; exact Nat.mod_lt _ Lq_pos
        have HLT := Lib.hid hlt2
        clear hlt2 heqL
        go_wp2_with fail
        have e2 : bits .and .u8 (((t[j / 8]).toNat : Nat) / 2 ^ (j % 8) : Int) 1 % 4294967296 = ((le8 t.data.toList / 2 ^ j % 2 : Nat) : Int) := by
          have h := u8_and1 ((t[j / 8]).toNat / 2 ^ (j % 8)) (Nat.lt_of_le_of_lt (Nat.div_le_self ..) hx)
          rw [HBIT.out] at h
          rw [Int.natCast_ediv, Int.natCast_pow] at h
          rw [show ((2 : Nat) : Int) = 2 from rfl] at h
          rw [h]
          omega
        rw [e2]
        have hxo : ∀ i, i < 8 → wr.cell? ⟨0, i, none⟩ = some (.int .u32 (orderL.getD i 0 : Nat)) := HO.out.below hBw h0
        refine (shift_ok l _ _ wr hnm.out hxo (by omega) HLT.out (by omega)).mono ?_
        rintro e w2 ⟨rfl, ⟨l2, hn2, he2⟩, hon⟩
        rw [RS.out] at he2
        have HN := Lib.hid hn2
        have HE := Lib.hid he2
        have hb2' := Lib.hid (Only.blk hon hb2.out (show w.heap.size ≠ w.heap.size + 1 by omega))
        have hB3 : Below w.heap.size w w2 := hBw.trans (hon.below hBw.size (by omega))
        clear e2 hxo hn2 he2 hon
        go_wp2_with fail
        go_roundw
        case rel => exact ⟨j, l2, rfl, by omega, HN, HE, hb2', hB3⟩
        case measure => simp [intOf]
end Go.Proofs.YtomdldjamdkhoaaDoor
