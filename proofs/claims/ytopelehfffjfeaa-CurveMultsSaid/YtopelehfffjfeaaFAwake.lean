/-
Field's laws: the fixed facts.
-/
import Derived.Test.YtopelehfffjfeaaFEq32
namespace Go.Proofs.Ytopelehfffjfeaa
open Go.RowKit

def ffs (i : Nat) : ByteArray := ⟨(List.replicate i 255).toArray⟩
theorem ffs_succ (i : Nat) : ffs i ++ ⟨#[255]⟩ = ffs (i + 1) := by
  apply ByteArray.ext
  simp [ffs]
  exact Array.ext' (by simp [List.replicate_succ'])
theorem ffs_of : lv (ofN (ofB (ffs 32))) % pP = 18 := by decide +kernel
def LIT32 : Array Value := #[.int .u8 18, .int .u8 0, .int .u8 0, .int .u8 0, .int .u8 0, .int .u8 0, .int .u8 0, .int .u8 0, .int .u8 0, .int .u8 0, .int .u8 0, .int .u8 0, .int .u8 0, .int .u8 0, .int .u8 0, .int .u8 0, .int .u8 0, .int .u8 0, .int .u8 0, .int .u8 0, .int .u8 0, .int .u8 0, .int .u8 0, .int .u8 0, .int .u8 0, .int .u8 0, .int .u8 0, .int .u8 0, .int .u8 0, .int .u8 0, .int .u8 0, .int .u8 0]
set_option maxHeartbeats 2000000 in
set_option maxRecDepth 100000 in
theorem awake_ok (w : World) :
    Calls Try.prog 13 #[] w fun e w' => e = .returned (.bool true) ∧ Below w.heap.size w w' := by
  have f0 : (⟨#[]⟩ : ByteArray) = ffs 0 := rfl
  go_enter Try.func13, Try.ntmps13
  go_wp2_with fail
  go_loopw [1, 3] (fun v1 v3 wr => ∃ i : Nat, v1 = .string (ffs i) ∧ v3 = .int .i64 i ∧ i ≤ 32 ∧ wr = w) (fun _ vi _ => 32 - (intOf vi).toNat)
  case atStart => exact ⟨0, rfl, rfl, by omega, rfl⟩
  case round =>
    obtain ⟨i, rfl, rfl, hi, rfl⟩ := hrel
    by_cases h : i < 32
    · have FI := Lib.hid (ffs_succ i)
      have hsz : (ffs i).size = i := by show (List.replicate i 255).toArray.size = i; simp
      generalize ffs i = s at *
      generalize hs2 : ffs (i + 1) = s2 at *
      have hz : s.size ≤ 32 := by have := hsz; rw [this]; exact hi
      have hz2 : ¬ (9223372036854775807 < s.size + 1) := by omega
      clear hsz
      go_wp2_with fail
      refine ⟨⟨i + 1, by rw [FI.out, hs2], by go_num, by omega, trivial⟩, by simp only [intOf]; omega⟩
    · obtain rfl : i = 32 := by omega
      clear f0
      have OF : Hid (Lm (ofN (ofB (ffs 32))) 18) := by
        have h := Lm.ofN (ofB (ffs 32))
        exact ⟨h.len, h.small, ffs_of⟩
      have L18 : leBytes 18 32 = 18 :: List.replicate 31 0 := by decide +kernel
      generalize hf32 : ffs 32 = s32 at *
      go_wp2_with fail
      refine (of_el s32 wr).mono ?_
      rintro e w1 ⟨rfl, b1⟩
      generalize ofN (ofB s32) = l1 at *
      go_wp2_with fail
      refine (el_bytes_ok l1 w1 OF.out.len OF.out.small).mono ?_
      rintro e w2 ⟨rfl, b2⟩
      rw [OF.out.val, L18]
      clear L18
      have hB2 := b1.trans (b2.mono b1.size)
      unfold ag
      have LB : Hid ((18 :: List.replicate 31 0 : List UInt8).length = 32) := rfl
      have q18' : Hid (∀ w, (Op.equalIn 10000 55 (.agg (bvals (18 :: List.replicate 31 0)).toArray) (.agg LIT32)).run Try.prog w = .ok true w) := fun w => (eq32 w (18 :: List.replicate 31 0) (18 :: List.replicate 31 0) rfl rfl).trans (by rw [decide_eq_true rfl])
      have XLH : Hid ((bvals (18 :: List.replicate 31 0)).length = 32) := rfl
      have ONE : Hid (∀ v ∈ bvals (18 :: List.replicate 31 0), v.oneCell' = true) := by
        intro v hv
        obtain ⟨d, _, rfl⟩ := List.mem_map.1 hv
        rfl
      generalize (18 :: List.replicate 31 0 : List UInt8) = X at *
      clear b1 b2
      have NW : Hid (Blk (w2.alloc (.cells (List.replicate 32 (.int .u8 0)).toArray 55)) w2.heap.size 55 (List.replicate 32 (.int .u8 0))) := Blk.new w2 _ _
      go_upto_region 7 with (refine store_blk (b := w2.heap.size) (n := 32) (cs := bvals X) (old := List.replicate 32 (.int .u8 0)) (t := 55) NW.out arr32_size XLH.out rfl ONE.out rfl rfl rfl rfl ?_)
      refine wp_gen (fun w3 => Hid (Blk w3 w2.heap.size 55 (bvals X)) ∧ Below wr.heap.size wr w3) ⟨NW.out.setRow _, below_row (hB2.alloc hB2.size _) _ _ hB2.size⟩ ?_
      rintro w3 ⟨P1, BB2⟩
      generalize w2.heap.size = c at *
      clear hB2 NW
      have B6 := Lib.hid (Lm.smallN 6 (by decide))
      have B2 := Lib.hid (Lm.smallN 2 (by decide))
      have B3 := Lib.hid (Lm.smallN 3 (by decide))
      have B1 := Lib.hid (Lm.smallN 1 (by decide))
      have M6 := Lib.hid (B2.out.mul B3.out)
      have SM : Hid (sameN (smallN 6) (mulF (smallN 2) (smallN 3)) = true) := by show _ = _; rw [B6.out.same M6.out]; decide +kernel
      have ZR : Hid (zeroN (smallN 1) = false) := by show _ = _; rw [B1.out.zeroN]; decide +kernel
      have C6 := Lib.hid (fun w' => el_small_ok 6 w' (by decide))
      have C2 := Lib.hid (fun w' => el_small_ok 2 w' (by decide))
      have C3 := Lib.hid (fun w' => el_small_ok 3 w' (by decide))
      have C1 := Lib.hid (fun w' => el_small_ok 1 w' (by decide))
      have CM := Lib.hid (fun w' => el_mul_ok (smallN 2) (smallN 3) w' B2.out.own B3.out.own)
      have CS := Lib.hid (fun w' => el_same_ok (smallN 6) (mulF (smallN 2) (smallN 3)) w' B6.out.len M6.out.len B6.out.small M6.out.small)
      have CZ := Lib.hid (fun w' => el_zero_ok (smallN 1) w' B1.out.len B1.out.small)
      clear B6 B2 B3 B1 M6
      generalize mulF (smallN 2) (smallN 3) = m6 at *
      generalize smallN 6 = s6 at *
      generalize smallN 2 = s2 at *
      generalize smallN 3 = s3 at *
      generalize smallN 1 = s1 at *
      unfold ev at C6 C2 C3 C1 CM CS CZ
      have hq : ∀ w', (Op.equalIn 10000 55 (.agg (bvals X).toArray) (.agg #[.int .u8 18, .int .u8 0, .int .u8 0, .int .u8 0, .int .u8 0, .int .u8 0, .int .u8 0, .int .u8 0, .int .u8 0, .int .u8 0, .int .u8 0, .int .u8 0, .int .u8 0, .int .u8 0, .int .u8 0, .int .u8 0, .int .u8 0, .int .u8 0, .int .u8 0, .int .u8 0, .int .u8 0, .int .u8 0, .int .u8 0, .int .u8 0, .int .u8 0, .int .u8 0, .int .u8 0, .int .u8 0, .int .u8 0, .int .u8 0, .int .u8 0, .int .u8 0])).run Try.prog w' = .ok true w' := fun w' => q18'.out w'
      clear q18'
      go_wp2_with (refine load_blk (cs := bvals X) (n := 32) P1.out Try.underlying55 rfl arr32_size XLH.out rfl rfl (by go_simp) ?_)
      refine (C6.out w3).mono ?_
      rintro e w4 ⟨rfl, b4⟩
      clear hq
      go_wp2_with fail
      refine (C2.out w4).mono ?_
      rintro e w5 ⟨rfl, b5⟩
      go_wp2_with fail
      refine (C3.out w5).mono ?_
      rintro e w6 ⟨rfl, b6⟩
      go_wp2_with fail
      refine (CM.out w6).mono ?_
      rintro e w7 ⟨rfl, b7⟩
      go_wp2_with fail
      refine (CS.out w7).mono ?_
      rintro e w8 ⟨rfl, b8⟩
      rw [SM.out]
      go_wp2_with fail
      refine (C1.out w8).mono ?_
      rintro e w9 ⟨rfl, b9⟩
      go_wp2_with fail
      refine (CZ.out w9).mono ?_
      rintro e wa ⟨rfl, ba⟩
      rw [ZR.out]
      go_wp2_with fail
      go_ret
      have b5 := b4.trans (Below.mono b5 b4.size)
      have b6 := b5.trans (Below.mono b6 b5.size)
      have b7 := b6.trans (Below.mono b7 b6.size)
      have b8 := b7.trans (Below.mono b8 b7.size)
      have b9 := b8.trans (Below.mono b9 b8.size)
      have ba := b9.trans (Below.mono ba b9.size)
      exact ⟨rfl, BB2.trans (Below.mono ba BB2.size)⟩
end Go.Proofs.Ytopelehfffjfeaa
