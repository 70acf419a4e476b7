/-
ScalarFits answers true.
-/
import Derived.Test.YtomdldjamdkhoaaDoorScalarBits
namespace Go.Proofs.YtomdldjamdkhoaaDoor
open Go.RowKit

theorem fits_red {l : List UInt8} (h : l.length = 32) : decide (leBytes (le8 l % Lq) 32 = l) = decide (le8 l < Lq) := by
  rw [decide_eq_decide]
  constructor
  · intro e
    have := congrArg le8 e
    rw [le8_red] at this
    rw [← this]; exact Nat.mod_lt _ Lq_pos
  · intro e
    rw [Nat.mod_eq_of_lt e]
    have := leBytes_le8 l
    rwa [h] at this

set_option maxHeartbeats 4000000 in
set_option maxRecDepth 100000 in
theorem fitss_ok (la : List UInt8) (w : World) (ha : la.length = 32) (ho : Ordr w) (h0 : 0 < w.heap.size) :
    Calls Tryd.prog 6 #[ag la] w fun e w' => e = .returned (.bool true) ∧ Below w.heap.size w w' := by
  have HO := Lib.hid ho
  have HIA : Hid ((Tryd.prog.info? 24).map (·.size) = some (bvals la).length) := by rw [show (bvals la).length = 32 by simp [bvals, ha]]; exact b32_size
  obtain ⟨f, hf⟩ : ∃ f, decide (le8 la < Lq) = f := ⟨_, rfl⟩
  have HF := Lib.hid hf
  clear ho hf
  show Calls Tryd.prog _ #[.agg (bvals la).toArray] w _
  have MA0 := Lib.hid (Blk.new w 24 (bvals la))
  have HB0 := Lib.hid ((Below.refl _ w).alloc (Nat.le_refl _) (.cells (bvals la).toArray 24))
  go_enter Tryd.func6, Tryd.ntmps6
  go_wp2_with fail
  generalize World.alloc w _ = w0 at *
  refine (awake_ok _ (HO.out.below HB0.out h0) (Nat.lt_of_lt_of_le h0 HB0.out.size)).mono ?_
  rintro e w1 ⟨rfl, hb1⟩
  have M1 := Lib.hid (MA0.out.below hb1 MA0.out.lt)
  have hB1 := HB0.out.trans (hb1.mono HB0.out.size)
  clear hb1 MA0 HB0
  go_wp2_with (refine load_blk M1.out Tryd.underlying24 HIA.out rfl rfl rfl ?_)
  refine (fits_ok la w1 ha (HO.out.below hB1 h0) (Nat.lt_of_lt_of_le h0 hB1.size)).mono ?_
  rintro e w2 ⟨rfl, hb2⟩
  rw [HF.out]
  have M2 := Lib.hid (M1.out.below hb2 M1.out.lt)
  have hB2 := hB1.trans (hb2.mono hB1.size)
  clear hb2 M1 hB1
  go_wp2_with (refine load_blk M2.out Tryd.underlying24 HIA.out rfl rfl rfl ?_)
  refine (bits_ok la w2 ha).mono ?_
  rintro e w3 ⟨g, rfl, hk3, hb3⟩
  have K3 := Lib.hid hk3
  have M3' := Lib.hid (M2.out.below hb3 M2.out.lt)
  have hB3 := hB2.trans (hb3.mono hB2.size)
  clear hb3 M2 hB2 hk3
  go_wp2_with fail
  go_loop [18] (fun vi => ∃ i : Nat, vi = .int .i64 i ∧ i ≤ 256) (fun vi => 256 - (intOf vi).toNat)
  case atStart => exact ⟨0, rfl, by omega⟩
  case round =>
    obtain ⟨i, rfl, hi⟩ := hrel
    by_cases hgo : i < 256
    · have c1 := M3'.out.cell (i / 8) _ (bvals_get la (i / 8) (by omega))
      have c2 := K3.out.cell i _ (bitvals_get la i hgo)
      have hx := (la.getD (i / 8) 0).toNat_lt
      have BV : Hid (bitv la i = ((((la.getD (i / 8) 0).toNat / 2 ^ (i % 8) % 2 : Nat) : Int) == 1)) := rfl
      have e2 := bit_and (la.getD (i / 8) 0).toNat (i % 8) hx
      generalize (la.getD (i / 8) 0).toNat = x at *
      have e3 : ((x : Int) / 2 ^ (i % 8) % 2 == 1) = bitv la i := by rw [BV.out]; simp
      generalize bitv la i = bt at *
      go_wp2
      go_round
      case rel => exact ⟨i + 1, by go_num, by omega⟩
      case measure => simp [intOf]; omega
    · obtain rfl : i = 256 := by omega
      go_wp2_with fail
      obtain ⟨R, hR⟩ : ∃ R, R = leBytes (le8 la % Lq) 32 := ⟨_, rfl⟩
      have RL : R.length = 32 := by rw [hR]; exact leBytes_length _ _
      have ER : Hid ((Ending.returned (ag (leBytes (le8 (cut64 ⟨la.toArray⟩).data.toList % Lq) 32)) : Ending) = .returned (.agg (bvals R).toArray)) := by rw [hR, cut32 ha]; exact rfl
      have EF : Hid ((Ending.returned (.bool (decide (le8 la < Lq))) : Ending) = .returned (.bool f)) := by rw [HF.out]; exact rfl
      have qr := fun w => (eq32 w R la RL ha).trans (by rw [hR, fits_red ha, HF.out])
      clear hR
      have blk := fun (w' : World) (hw' : Below w3.drew.heap.size w3.drew w') => Blk.below (w := w3.drew) M3'.out hw' M3'.out.lt
      have ord := fun (w' : World) (hw' : Below w3.drew.heap.size w3.drew w') => ((HO.out.below hB3 h0).below (Below.refl _ _ : Below w3.heap.size w3 w3) (Nat.lt_of_lt_of_le h0 hB3.size)).below (w := w3.drew) hw' (Nat.lt_of_lt_of_le h0 hB3.size)
      have h4 : 0 < w3.drew.heap.size := Nat.lt_of_lt_of_le h0 hB3.size
      have cvt := fun (w' : World) (hw' : Below w3.drew.heap.size w3.drew w') => conv_blk (P := Tryd.prog) (src := 26) (dst := 9) Tryd.underlying26 Tryd.underlying5 Tryd.underlying9 ha (blk w' hw')
      try simp only [Act.put]
      refine region_quiet (C := fun w' => Below w3.drew.heap.size w3.drew w') (by kernel_rfl) (by kernel_rfl) (Below.refl _ _) ?_
      (refine wpQuiet_step (fun K hK => ?_); refine quiet_plainG (.bool f) (by first | rfl | simp [Region.wanted, yielded]) (fun w' hw' => by go_simp) ?_; go_simp; refine hK _ ?_; clear hK K)
      (refine wpQuiet_step (fun K hK => ?_); refine quiet_plainG (.slice (some ⟨w.heap.size, 0, none⟩) 32 32) (by first | rfl | simp [Region.wanted, yielded]) (fun w' hw' => by go_simp) ?_; go_simp; refine hK _ ?_; clear hK K)
      (refine wpQuiet_step (fun K hK => ?_); refine quiet_plainG (.string ⟨la.toArray⟩) (by first | rfl | simp [Region.wanted, yielded]) (fun w' hw' => by have h := cvt w' hw'; go_simp; try simp [h]) ?_; go_simp; refine hK _ ?_; clear hK K)
      (refine wpQuiet_step (fun K hK => ?_); refine quiet_callG (.bool f) 15 #[.string ⟨la.toArray⟩] (by first | rfl | simp [Region.wanted, yielded]) (fun w' => by go_simp) (fun w' hw' => (refFits_ok ⟨la.toArray⟩ w' (by show la.toArray.size ≤ 64; simp [ha])).mono (by
        rintro e w'' ⟨rfl, hb⟩
        exact ⟨EF.out, hw'.trans (hb.mono hw'.size)⟩)) ?_; go_simp; refine hK _ ?_; clear hK K)
      (refine wpQuiet_step (fun K hK => ?_); refine quiet_plainG (.bool true) (by first | rfl | simp [Region.wanted, yielded]) (fun w' hw' => by go_simp; try simp) ?_; go_simp; refine hK _ ?_; clear hK K)
      (refine wpQuiet_step (fun K hK => ?_); refine quiet_plainG (.bool true) (by first | rfl | simp [Region.wanted, yielded]) (fun w' hw' => by go_simp) ?_; go_simp; refine hK _ ?_; clear hK K)
      (refine wpQuiet_step (fun K hK => ?_); refine quiet_plainG (.bool f) (by first | rfl | simp [Region.wanted, yielded]) (fun w' hw' => by go_simp) ?_; go_simp; refine hK _ ?_; clear hK K)
      (refine wpQuiet_step (fun K hK => ?_); refine quiet_plainG (.slice (some ⟨w.heap.size, 0, none⟩) 32 32) (by first | rfl | simp [Region.wanted, yielded]) (fun w' hw' => by go_simp) ?_; go_simp; refine hK _ ?_; clear hK K)
      (refine wpQuiet_step (fun K hK => ?_); refine quiet_plainG (.string ⟨la.toArray⟩) (by first | rfl | simp [Region.wanted, yielded]) (fun w' hw' => by have h := cvt w' hw'; go_simp; try simp [h]) ?_; go_simp; refine hK _ ?_; clear hK K)
      (refine wpQuiet_step (fun K hK => ?_); refine quiet_callG (.agg (bvals R).toArray) 9 #[.string ⟨la.toArray⟩] (by first | rfl | simp [Region.wanted, yielded]) (fun w' => by go_simp) (fun w' hw' => (reduce_ok ⟨la.toArray⟩ w' (ord w' hw') (Nat.lt_of_lt_of_le h4 hw'.size)).mono (by
        rintro e w'' ⟨rfl, hb⟩
        exact ⟨ER.out, hw'.trans (hb.mono hw'.size)⟩)) ?_; go_simp; refine hK _ ?_; clear hK K)
      (refine wpQuiet_step (fun K hK => ?_); refine quiet_loadG (fun w' hw' => blk w' hw') Tryd.underlying24 HIA.out (by first | rfl | simp [Region.wanted, yielded]) rfl (by go_simp) ?_; go_simp; refine hK _ ?_; clear hK K)
      (refine wpQuiet_step (fun K hK => ?_); refine quiet_plainG (.bool f) (by first | rfl | simp [Region.wanted, yielded]) (fun w' hw' => by have h := qr w'; go_simp; try simp [h]) ?_; go_simp; refine hK _ ?_; clear hK K)
      (refine wpQuiet_step (fun K hK => ?_); refine quiet_plainG (.bool true) (by first | rfl | simp [Region.wanted, yielded]) (fun w' hw' => by go_simp; try simp) ?_; go_simp; refine hK _ ?_; clear hK K)
      (refine wpQuiet_step (fun K hK => ?_); refine quiet_plainG (.bool true) (by first | rfl | simp [Region.wanted, yielded]) (fun w' hw' => by go_simp) ?_; go_simp; refine hK _ ?_; clear hK K)
      (refine wpQuiet_step (fun K hK => ?_); refine quiet_plainG (.bool true) (by first | rfl | simp [Region.wanted, yielded]) (fun w' hw' => by go_simp) ?_; go_simp; refine hK _ ?_; clear hK K)
      refine wpQuiet_nil ?_
      intro w5 hw5
      go_wp2
      go_ret
      exact ⟨rfl, (below_drewN hB3 1).trans (Below.mono hw5 hB3.size)⟩
end Go.Proofs.YtomdldjamdkhoaaDoor
