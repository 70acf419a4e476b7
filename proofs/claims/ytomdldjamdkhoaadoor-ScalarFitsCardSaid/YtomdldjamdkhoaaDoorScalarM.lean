/-
The contracts of scalar's functions: Fits, MulAdd, Bits.
-/
import Derived.Test.YtomdldjamdkhoaaDoorQuietLaws
namespace Go.Proofs.YtomdldjamdkhoaaDoor
open Go.RowKit

theorem words_set (l : List UInt8) (i : Nat) (h : i < 9) : (words l i ++ List.replicate (9 - i) 0).set i (word4 l i) = words l (i + 1) ++ List.replicate (9 - (i + 1)) 0 := by
  rw [words_succ, show 9 - i = (9 - (i + 1)) + 1 from by omega, List.replicate_succ, List.set_append_right _ _ (by rw [words_length]; omega)]
  simp [words_length]
theorem fits_nm {wr w' : World} {l : List UInt8} {b i : Nat} (hnm : Nm wr b (words l i ++ List.replicate (9 - i) 0)) (hB : Below wr.drew.heap.size wr.drew w') (hi : i < 8) :
    Nm (w'.setCell ⟨b, i, none⟩ (.int .u32 (word4 l i : Nat))) b (words l (i + 1) ++ List.replicate (9 - (i + 1)) 0) := by
  refine ⟨?_, ?_, ?_⟩
  · rw [← words_set l i (by omega)]
    exact hnm.1.set _ _ (word4_lt l i)
  · simp [words_length]; omega
  · rw [← words_set l i (by omega), wvals_set]
    exact Blk.set (Blk.below (w := wr.drew) hnm.2.2 hB hnm.2.2.lt) _ _
set_option maxHeartbeats 4000000 in
set_option maxRecDepth 100000 in
theorem fits_ok (l : List UInt8) (w : World) (hl : l.length = 32) (ho : Ordr w) (h0 : 0 < w.heap.size) :
    Calls Tryd.prog 11 #[ag l] w fun e w' => e = .returned (.bool (decide (le8 l < Lq))) ∧ Below w.heap.size w w' := by
  have HO := Lib.hid ho
  clear ho
  show Calls Tryd.prog _ #[.agg (bvals l).toArray] w _
  have hlb : (bvals l).length = 32 := by simp [bvals, hl]
  have HLB := Lib.hid hlb
  have HI : Hid ((Tryd.prog.info? 24).map (·.size) = some (bvals l).toArray.size) := by rw [List.size_toArray, hlb]; exact b32_size
  clear hlb
  go_enter Tryd.func11, Tryd.ntmps11
  go_wp2
  go_loopw [7] (fun vi wr => ∃ (i : Nat), vi = .int .i64 i ∧ i ≤ 8 ∧ Hid (Blk wr w.heap.size 24 (bvals l)) ∧ Hid (Nm wr (w.heap.size + 1) (words l i ++ List.replicate (9 - i) 0)) ∧ Below w.heap.size w wr) (fun vi _ => 8 - (intOf vi).toNat)
  case atStart =>
    refine ⟨0, rfl, by omega, Blk.alloc (Blk.new _ _ _) _, ⟨zero9, rfl, ?_⟩, ((Below.refl _ _).alloc (Nat.le_refl _) _).alloc (by simp) _⟩
    have := Blk.new (w.alloc (.cells (bvals l).toArray 24)) 41 (wvals (List.replicate 9 0))
    rw [show (w.alloc (.cells (bvals l).toArray 24)).heap.size = w.heap.size + 1 by simp] at this
    exact this
  case round =>
    obtain ⟨i, rfl, hi, hb1, hnm, hBw⟩ := hrel
    by_cases hgo : i < 8
    · go_wp2
      refine wp_region_quiet_tail (C := fun w' => Below wr.drew.heap.size wr.drew w') 8 (by kernel_rfl) (by kernel_rfl) (Below.refl _ _) ?_
      simp only [List.take_succ_cons, List.take_zero, List.drop_succ_cons, List.drop_zero]
      refine quiet_plain (.pointer (some ⟨w.heap.size + 1, 0, none⟩)) rfl (fun w' hw' => by go_simp) ?_
      refine quiet_plain (.int .i64 i) rfl (fun w' hw' => by go_simp) ?_
      refine quiet_load (fun w' hw' => Blk.below (w := wr.drew) hb1.out hw' hb1.out.lt) Tryd.underlying24 (by rw [HLB.out]; exact b32_size) rfl rfl (by rfl) ?_
      refine quiet_plain (.int .i64 i) rfl (fun w' hw' => by go_simp) ?_
      refine quiet_call (.int .u64 (word4 l i : Nat)) 22 #[.agg (bvals l).toArray, .int .i64 i] rfl (fun w' => by go_simp) (fun w' hw' => (word_ok l i w' hl hgo).mono (by
        rintro e w'' ⟨rfl, hb⟩
        exact ⟨rfl, hw'.trans (hb.mono hw'.size)⟩)) ?_
      have lt := word4_lt l i
      have NW := fun (w1 : World) (hw1 : Below wr.drew.heap.size wr.drew w1) => fits_nm hnm.out hw1 hgo
      have hk := fun (w1 : World) (hw1 : Below wr.drew.heap.size wr.drew w1) => Blk.cell (Blk.below (w := wr.drew) hnm.out.2.2 hw1 hnm.out.2.2.lt) i _ (wvals_get _ i (by rw [hnm.out.2.1]; omega))
      generalize word4 l i = x at *
      generalize (words l i ++ List.replicate (9 - i) 0).getD i 0 = old at *
      have hlt9 : (i : Int) < 9 := by omega
      have hmod : (x : Int) % 4294967296 = x := by omega
      refine quiet_plain (.int .u32 (x : Nat)) rfl (fun w' hw' => by go_simp; try exact hmod) ?_
      refine quiet_plain (.pointer (some ⟨w.heap.size + 1, 0, none⟩)) rfl (fun w' hw' => by go_simp) ?_
      refine quiet_plain (.pointer (some ⟨w.heap.size + 1, i, none⟩)) rfl (fun w' hw' => by go_simp; try exact hlt9) ?_
      refine wpQuiet_nil ?_
      intro w1 hw1
      have kf' := Blk.free (Blk.below (w := wr.drew) hnm.out.2.2 hw1 hnm.out.2.2.lt) i
      have kc' := hk w1 hw1
      have HB1 := Lib.hid (Blk.far (Blk.below (w := wr.drew) hb1.out hw1 hb1.out.lt) (show w.heap.size ≠ w.heap.size + 1 by omega) i (.int .u32 (x : Nat)))
      have hB2 := below_set' ((below_drewN hBw 1).trans (Below.mono hw1 (show w.heap.size ≤ wr.drew.heap.size from hBw.size))) (w.heap.size + 1) i (.int .u32 (x : Nat)) (by omega)
      have NW' := Lib.hid (NW w1 hw1)
      clear NW hk hw1 hmod
      go_wp2
      go_roundw
      case rel => exact ⟨i + 1, by go_num, by omega, HB1, NW', hB2⟩
      case measure => simp [intOf]; omega
    · have hi8 : i = 8 := by omega
      subst hi8
      have hv : wv (words l 8 ++ List.replicate (9 - 8) 0) = le8 l := by
        show wv (words l 8 ++ [0]) = le8 l
        rw [wv_snoc, wv_words l 8 (by omega), List.take_of_length_le (by omega)]
        simp
      have HV := Lib.hid hv
      clear hv
      go_wp2_with fail
      refine (less_ok _ _ wr hnm.out (HO.out.below hBw h0)).mono ?_
      rintro e w1 ⟨rfl, n, rfl⟩
      rw [HV.out]
      go_wp2_with fail
      go_ret
      exact ⟨rfl, below_drewN hBw _⟩
end Go.Proofs.YtomdldjamdkhoaaDoor
