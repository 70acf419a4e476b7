/-
ScalarRing answers true.
-/
import Derived.Test.YtomdldjamdkhoaaDoorScalarLaw2
namespace Go.Proofs.YtomdldjamdkhoaaDoor
open Go.RowKit

def oneB : List UInt8 := 1 :: List.replicate 31 0
def zeroB : List UInt8 := List.replicate 32 0
theorem le8_one : le8 oneB = 1 := by decide +kernel
theorem le8_zero : le8 zeroB = 0 := by decide +kernel
/-- a new array, filled -/
theorem newRow (w : World) (X : List UInt8) : Blk ((w.alloc (.cells ([Value.int .u8 0, Value.int .u8 0, Value.int .u8 0, Value.int .u8 0, Value.int .u8 0, Value.int .u8 0, Value.int .u8 0, Value.int .u8 0, Value.int .u8 0, Value.int .u8 0, Value.int .u8 0, Value.int .u8 0, Value.int .u8 0, Value.int .u8 0, Value.int .u8 0, Value.int .u8 0, Value.int .u8 0, Value.int .u8 0, Value.int .u8 0, Value.int .u8 0, Value.int .u8 0, Value.int .u8 0, Value.int .u8 0, Value.int .u8 0, Value.int .u8 0, Value.int .u8 0, Value.int .u8 0, Value.int .u8 0, Value.int .u8 0, Value.int .u8 0, Value.int .u8 0, Value.int .u8 0]).toArray 24)).setRow w.heap.size (bvals X).toArray) w.heap.size 24 (bvals X) ∧
    Below w.heap.size w ((w.alloc (.cells ([Value.int .u8 0, Value.int .u8 0, Value.int .u8 0, Value.int .u8 0, Value.int .u8 0, Value.int .u8 0, Value.int .u8 0, Value.int .u8 0, Value.int .u8 0, Value.int .u8 0, Value.int .u8 0, Value.int .u8 0, Value.int .u8 0, Value.int .u8 0, Value.int .u8 0, Value.int .u8 0, Value.int .u8 0, Value.int .u8 0, Value.int .u8 0, Value.int .u8 0, Value.int .u8 0, Value.int .u8 0, Value.int .u8 0, Value.int .u8 0, Value.int .u8 0, Value.int .u8 0, Value.int .u8 0, Value.int .u8 0, Value.int .u8 0, Value.int .u8 0, Value.int .u8 0, Value.int .u8 0]).toArray 24)).setRow w.heap.size (bvals X).toArray) :=
  ⟨Blk.setRow (Blk.new w 24 [Value.int .u8 0, Value.int .u8 0, Value.int .u8 0, Value.int .u8 0, Value.int .u8 0, Value.int .u8 0, Value.int .u8 0, Value.int .u8 0, Value.int .u8 0, Value.int .u8 0, Value.int .u8 0, Value.int .u8 0, Value.int .u8 0, Value.int .u8 0, Value.int .u8 0, Value.int .u8 0, Value.int .u8 0, Value.int .u8 0, Value.int .u8 0, Value.int .u8 0, Value.int .u8 0, Value.int .u8 0, Value.int .u8 0, Value.int .u8 0, Value.int .u8 0, Value.int .u8 0, Value.int .u8 0, Value.int .u8 0, Value.int .u8 0, Value.int .u8 0, Value.int .u8 0, Value.int .u8 0]) (bvals X), below_row ((Below.refl _ w).alloc (Nat.le_refl _) _) _ _ (Nat.le_refl _)⟩
theorem le8_red (V : Nat) : le8 (leBytes (V % Lq) 32) = V % Lq := by
  rw [le8_leBytes, Nat.mod_eq_of_lt (Nat.lt_trans (Nat.mod_lt _ Lq_pos) (by decide +kernel))]
theorem ring_eq (a b c : Nat) : (a * ((b * 1 + c) % Lq) + 0) % Lq = (a * b + (a * c + 0) % Lq) % Lq := by
  rw [Nat.mul_one, Nat.add_zero, Nat.add_zero, Nat.mul_mod, Nat.mod_mod, ← Nat.mul_mod, Nat.mul_add]
  exact (Nat.add_mod_mod ..).symm
theorem cut32 {l : List UInt8} (h : l.length = 32) : cut64 ⟨l.toArray⟩ = ⟨l.toArray⟩ := if_pos (by show l.toArray.size ≤ 64; rw [List.size_toArray, h]; omega)

set_option maxHeartbeats 8000000 in
set_option maxRecDepth 100000 in
theorem rings_ok (la lb lc : List UInt8) (w : World) (ha : la.length = 32) (hb : lb.length = 32) (hc : lc.length = 32) (ho : Ordr w) (h0 : 0 < w.heap.size) :
    Calls Tryd.prog 5 #[ag la, ag lb, ag lc] w fun e w' => e = .returned (.bool true) ∧ Below w.heap.size w w' := by
  have HO := Lib.hid ho
  have SZ : ∀ {l : List UInt8}, l.length = 32 → Hid ((Tryd.prog.info? 24).map (·.size) = some (bvals l).length) := fun {l} h => by rw [show (bvals l).length = 32 by simp [bvals, h]]; exact b32_size
  have BL : ∀ {l : List UInt8}, l.length = 32 → Hid ((bvals l).length = 32) := fun {l} h => by show (bvals l).length = 32; simp [bvals, h]
  have SA := SZ ha
  have SB := SZ hb
  have SC := SZ hc
  have S1 := SZ (l := oneB) rfl
  have B1 := BL (l := oneB) rfl
  clear ho
  show Calls Tryd.prog _ #[.agg (bvals la).toArray, .agg (bvals lb).toArray, .agg (bvals lc).toArray] w _
  have M := Lib.hid (M3.start w la lb lc)
  have HB0 := Lib.hid (below3 w (.cells (bvals la).toArray 24) (.cells (bvals lb).toArray 24) (.cells (bvals lc).toArray 24))
  obtain ⟨X, hX⟩ : ∃ X, X = leBytes ((le8 lb * le8 oneB + le8 lc) % Lq) 32 := ⟨_, rfl⟩
  obtain ⟨Y, hY⟩ : ∃ Y, Y = leBytes ((le8 la * le8 lc + le8 zeroB) % Lq) 32 := ⟨_, rfl⟩
  obtain ⟨Z, hZ⟩ : ∃ Z, Z = leBytes ((le8 la * le8 X + le8 zeroB) % Lq) 32 := ⟨_, rfl⟩
  obtain ⟨U, hU⟩ : ∃ U, U = leBytes ((le8 la * le8 oneB + le8 zeroB) % Lq) 32 := ⟨_, rfl⟩
  have XL : X.length = 32 := by rw [hX]; exact leBytes_length _ _
  have YL : Y.length = 32 := by rw [hY]; exact leBytes_length _ _
  have ZL : Z.length = 32 := by rw [hZ]; exact leBytes_length _ _
  have UL : U.length = 32 := by rw [hU]; exact leBytes_length _ _
  have hZ2 : Z = leBytes ((le8 la * le8 lb + le8 Y) % Lq) 32 := by
    rw [hZ, hX, hY, le8_red, le8_red, le8_one, le8_zero, ring_eq]
  have hU2 : U = leBytes (le8 (cut64 ⟨la.toArray⟩).data.toList % Lq) 32 := by
    rw [hU, cut32 ha, le8_one, le8_zero, Nat.mul_one, Nat.add_zero]
  have EX : Hid ((Ending.returned (ag (leBytes ((le8 lb * le8 oneB + le8 lc) % Lq) 32)) : Ending) = .returned (.agg (bvals X).toArray)) := by rw [← hX]; exact rfl
  have EY : Hid ((Ending.returned (ag (leBytes ((le8 la * le8 lc + le8 zeroB) % Lq) 32)) : Ending) = .returned (.agg (bvals Y).toArray)) := by rw [← hY]; exact rfl
  have EZ : Hid ((Ending.returned (ag (leBytes ((le8 la * le8 X + le8 zeroB) % Lq) 32)) : Ending) = .returned (.agg (bvals Z).toArray)) := by rw [← hZ]; exact rfl
  have EZ2 : Hid ((Ending.returned (ag (leBytes ((le8 la * le8 lb + le8 Y) % Lq) 32)) : Ending) = .returned (.agg (bvals Z).toArray)) := by rw [← hZ2]; exact rfl
  have EU : Hid ((Ending.returned (ag (leBytes ((le8 la * le8 oneB + le8 zeroB) % Lq) 32)) : Ending) = .returned (.agg (bvals U).toArray)) := by rw [← hU]; exact rfl
  have EU2 : Hid ((Ending.returned (ag (leBytes (le8 (cut64 ⟨la.toArray⟩).data.toList % Lq) 32)) : Ending) = .returned (.agg (bvals U).toArray)) := by rw [← hU2]; exact rfl
  have SX := SZ XL
  have SY := SZ YL
  have BX := BL XL
  have BY := BL YL
  have LX := Lib.hid XL
  have LY := Lib.hid YL
  have qz := fun w => (eq32 w Z Z ZL ZL).trans (by rw [decide_eq_true rfl])
  have qu := fun w => (eq32 w U U UL UL).trans (by rw [decide_eq_true rfl])
  clear hX hY hZ hU hZ2 hU2 XL YL ZL UL SZ BL
  go_enter Tryd.func5, Tryd.ntmps5
  go_wp2_with fail
  generalize World.alloc (World.alloc (World.alloc _ _) _) _ = w0 at *
  refine (awake_ok _ (HO.out.below HB0.out h0) (Nat.lt_of_lt_of_le h0 HB0.out.size)).mono ?_
  rintro e w1 ⟨rfl, hb1⟩
  have M1 := Lib.hid (M.out.below hb1)
  have hB1 := HB0.out.trans (hb1.mono HB0.out.size)
  clear hb1 M HB0
  have N7 := Lib.hid (newRow w1 oneB)
  have OLD7 := Lib.hid (Blk.new w1 24 [Value.int .u8 0, Value.int .u8 0, Value.int .u8 0, Value.int .u8 0, Value.int .u8 0, Value.int .u8 0, Value.int .u8 0, Value.int .u8 0, Value.int .u8 0, Value.int .u8 0, Value.int .u8 0, Value.int .u8 0, Value.int .u8 0, Value.int .u8 0, Value.int .u8 0, Value.int .u8 0, Value.int .u8 0, Value.int .u8 0, Value.int .u8 0, Value.int .u8 0, Value.int .u8 0, Value.int .u8 0, Value.int .u8 0, Value.int .u8 0, Value.int .u8 0, Value.int .u8 0, Value.int .u8 0, Value.int .u8 0, Value.int .u8 0, Value.int .u8 0, Value.int .u8 0, Value.int .u8 0])
  have M2 := Lib.hid (M1.out.below N7.out.2)
  have hB2 := hB1.trans (N7.out.2.mono hB1.size)
  have hn7 : w.heap.size + 2 < w1.heap.size := M1.out.2.2.lt
  go_wp2_with (first | refine store_blk OLD7.out b32_size B1.out (by rfl) (bvals_one _) rfl rfl rfl rfl ?_ | refine load_blk M2.out.1 Tryd.underlying24 SA.out rfl rfl rfl ?_ | refine load_blk M2.out.2.1 Tryd.underlying24 SB.out rfl rfl rfl ?_ | refine load_blk M2.out.2.2 Tryd.underlying24 SC.out rfl rfl rfl ?_ | refine load_blk N7.out.1 Tryd.underlying24 S1.out rfl rfl rfl ?_)
  have P7 := Lib.hid N7.out.1
  clear OLD7 N7 M1 hB1
  generalize World.setRow _ _ _ = w2 at *
  generalize w1.heap.size = b7 at *
  refine (mulAdd_ok lb oneB lc w2 hb rfl hc (HO.out.below hB2 h0) (Nat.lt_of_lt_of_le h0 hB2.size)).mono ?_
  rintro e w3 ⟨rfl, hb3⟩
  rw [EX.out]
  have M3' := Lib.hid (M2.out.below hb3)
  have P73 := Lib.hid (P7.out.below hb3 P7.out.lt)
  have hB3 := hB2.trans (hb3.mono hB2.size)
  clear hb3 M2 P7 hB2
  have N8 := Lib.hid (newRow w3 X)
  have OLD8 := Lib.hid (Blk.new w3 24 [Value.int .u8 0, Value.int .u8 0, Value.int .u8 0, Value.int .u8 0, Value.int .u8 0, Value.int .u8 0, Value.int .u8 0, Value.int .u8 0, Value.int .u8 0, Value.int .u8 0, Value.int .u8 0, Value.int .u8 0, Value.int .u8 0, Value.int .u8 0, Value.int .u8 0, Value.int .u8 0, Value.int .u8 0, Value.int .u8 0, Value.int .u8 0, Value.int .u8 0, Value.int .u8 0, Value.int .u8 0, Value.int .u8 0, Value.int .u8 0, Value.int .u8 0, Value.int .u8 0, Value.int .u8 0, Value.int .u8 0, Value.int .u8 0, Value.int .u8 0, Value.int .u8 0, Value.int .u8 0])
  have M4 := Lib.hid (M3'.out.below N8.out.2)
  have P74 := Lib.hid (P73.out.below N8.out.2 P73.out.lt)
  have hB4 := hB3.trans (N8.out.2.mono hB3.size)
  go_wp2_with (first | refine store_blk OLD8.out b32_size BX.out (by rfl) (bvals_one _) rfl rfl rfl rfl ?_ | refine load_blk M4.out.1 Tryd.underlying24 SA.out rfl rfl rfl ?_ | refine load_blk M4.out.2.2 Tryd.underlying24 SC.out rfl rfl rfl ?_)
  have P8 := Lib.hid N8.out.1
  clear OLD8 N8 M3' P73 hB3
  generalize World.setRow _ _ _ = w4 at *
  generalize w3.heap.size = b8 at *
  refine (mulAdd_ok la lc zeroB w4 ha hc rfl (HO.out.below hB4 h0) (Nat.lt_of_lt_of_le h0 hB4.size)).mono ?_
  rintro e w5 ⟨rfl, hb5⟩
  rw [EY.out]
  have M5 := Lib.hid (M4.out.below hb5)
  have P75 := Lib.hid (P74.out.below hb5 P74.out.lt)
  have P85 := Lib.hid (P8.out.below hb5 P8.out.lt)
  have hB5 := hB4.trans (hb5.mono hB4.size)
  clear hb5 M4 P74 P8 hB4
  have N9 := Lib.hid (newRow w5 Y)
  have OLD9 := Lib.hid (Blk.new w5 24 [Value.int .u8 0, Value.int .u8 0, Value.int .u8 0, Value.int .u8 0, Value.int .u8 0, Value.int .u8 0, Value.int .u8 0, Value.int .u8 0, Value.int .u8 0, Value.int .u8 0, Value.int .u8 0, Value.int .u8 0, Value.int .u8 0, Value.int .u8 0, Value.int .u8 0, Value.int .u8 0, Value.int .u8 0, Value.int .u8 0, Value.int .u8 0, Value.int .u8 0, Value.int .u8 0, Value.int .u8 0, Value.int .u8 0, Value.int .u8 0, Value.int .u8 0, Value.int .u8 0, Value.int .u8 0, Value.int .u8 0, Value.int .u8 0, Value.int .u8 0, Value.int .u8 0, Value.int .u8 0])
  have M6 := Lib.hid (M5.out.below N9.out.2)
  have P76 := Lib.hid (P75.out.below N9.out.2 P75.out.lt)
  have P86 := Lib.hid (P85.out.below N9.out.2 P85.out.lt)
  have hB6 := hB5.trans (N9.out.2.mono hB5.size)
  go_wp2_with (refine store_blk OLD9.out b32_size BY.out (by rfl) (bvals_one _) rfl rfl rfl rfl ?_)
  have P96 := Lib.hid N9.out.1
  clear OLD9 N9 M5 P75 P85 hB5
  generalize World.setRow _ _ _ = w6 at *
  generalize w5.heap.size = b9 at *
  have mbl := fun (w' : World) (hw' : Below w6.drew.heap.size w6.drew w') => M3.below (w := w6.drew) M6.out hw'
  have p7 := fun (w' : World) (hw' : Below w6.drew.heap.size w6.drew w') => Blk.below (w := w6.drew) P76.out hw' P76.out.lt
  have p8 := fun (w' : World) (hw' : Below w6.drew.heap.size w6.drew w') => Blk.below (w := w6.drew) P86.out hw' P86.out.lt
  have p9 := fun (w' : World) (hw' : Below w6.drew.heap.size w6.drew w') => Blk.below (w := w6.drew) P96.out hw' P96.out.lt
  have ord := fun (w' : World) (hw' : Below w6.drew.heap.size w6.drew w') => ((HO.out.below hB6 h0).below (Below.refl _ _ : Below w6.heap.size w6 w6) (Nat.lt_of_lt_of_le h0 hB6.size)).below (w := w6.drew) hw' (Nat.lt_of_lt_of_le h0 hB6.size)
  have h4 : 0 < w6.drew.heap.size := Nat.lt_of_lt_of_le h0 hB6.size
  have cvt := fun (bs : List UInt8) (b : Nat) (w' : World) (h : Blk w' b 24 (bvals bs)) (hl : bs.length = 32) => conv_blk (P := Tryd.prog) (src := 26) (dst := 9) Tryd.underlying26 Tryd.underlying5 Tryd.underlying9 hl h
  try simp only [Act.put]
  refine region_quiet (C := fun w' => Below w6.drew.heap.size w6.drew w') (by kernel_rfl) (by kernel_rfl) (Below.refl _ _) ?_
  refine wpQuiet_step (fun K hK => ?_)
  refine quiet_loadK (fun w' hw' => (mbl w' hw').1) Tryd.underlying24 SA.out rfl rfl (by go_simp) ?_
  go_simp
  refine hK _ ?_
  clear hK K
  refine wpQuiet_step (fun K hK => ?_)
  refine quiet_loadK (fun w' hw' => p8 w' hw') Tryd.underlying24 SX.out rfl rfl (by go_simp) ?_
  go_simp
  refine hK _ ?_
  clear hK K
  refine wpQuiet_step (fun K hK => ?_)
  refine quiet_plainK (.agg (bvals zeroB).toArray) rfl (fun w' hw' => by go_simp; try rfl) ?_
  go_simp
  refine hK _ ?_
  clear hK K
  refine wpQuiet_step (fun K hK => ?_)
  refine quiet_callK (.agg (bvals Z).toArray) 12 #[.agg (bvals la).toArray, .agg (bvals X).toArray, .agg (bvals zeroB).toArray] rfl (fun w' => by go_simp) (fun w' hw' => (mulAdd_ok la X zeroB w' ha LX.out rfl (ord w' hw') (Nat.lt_of_lt_of_le h4 hw'.size)).mono (by
    rintro e w'' ⟨rfl, hb⟩
    exact ⟨EZ.out, hw'.trans (hb.mono hw'.size)⟩)) ?_
  go_simp
  refine hK _ ?_
  clear hK K
  refine wpQuiet_step (fun K hK => ?_)
  refine quiet_loadK (fun w' hw' => (mbl w' hw').1) Tryd.underlying24 SA.out rfl rfl (by go_simp) ?_
  go_simp
  refine hK _ ?_
  clear hK K
  refine wpQuiet_step (fun K hK => ?_)
  refine quiet_loadK (fun w' hw' => (mbl w' hw').2.1) Tryd.underlying24 SB.out rfl rfl (by go_simp) ?_
  go_simp
  refine hK _ ?_
  clear hK K
  refine wpQuiet_step (fun K hK => ?_)
  refine quiet_loadK (fun w' hw' => p9 w' hw') Tryd.underlying24 SY.out rfl rfl (by go_simp) ?_
  go_simp
  refine hK _ ?_
  clear hK K
  refine wpQuiet_step (fun K hK => ?_)
  refine quiet_callK (.agg (bvals Z).toArray) 12 #[.agg (bvals la).toArray, .agg (bvals lb).toArray, .agg (bvals Y).toArray] rfl (fun w' => by go_simp) (fun w' hw' => (mulAdd_ok la lb Y w' ha hb LY.out (ord w' hw') (Nat.lt_of_lt_of_le h4 hw'.size)).mono (by
    rintro e w'' ⟨rfl, hb⟩
    exact ⟨EZ2.out, hw'.trans (hb.mono hw'.size)⟩)) ?_
  go_simp
  refine hK _ ?_
  clear hK K
  refine wpQuiet_step (fun K hK => ?_)
  refine quiet_plainK (.bool true) rfl (fun w' hw' => by have h := qz w'; go_simp; try simp [h]) ?_
  go_simp
  refine hK _ ?_
  clear hK K
  refine wpQuiet_step (fun K hK => ?_)
  refine quiet_plainK (.bool true) rfl (fun w' hw' => by go_simp) ?_
  go_simp
  refine hK _ ?_
  clear hK K
  refine wpQuiet_step (fun K hK => ?_)
  refine quiet_loadG (fun w' hw' => (mbl w' hw').1) Tryd.underlying24 SA.out (by first | rfl | simp [Region.wanted, yielded]) rfl (by go_simp) ?_
  go_simp
  refine hK _ ?_
  clear hK K
  refine wpQuiet_step (fun K hK => ?_)
  refine quiet_loadG (fun w' hw' => p7 w' hw') Tryd.underlying24 S1.out (by first | rfl | simp [Region.wanted, yielded]) rfl (by go_simp) ?_
  go_simp
  refine hK _ ?_
  clear hK K
  refine wpQuiet_step (fun K hK => ?_)
  refine quiet_plainG (.agg (bvals zeroB).toArray) (by first | rfl | simp [Region.wanted, yielded]) (fun w' hw' => by go_simp; try rfl) ?_
  go_simp
  refine hK _ ?_
  clear hK K
  refine wpQuiet_step (fun K hK => ?_)
  refine quiet_callG (.agg (bvals U).toArray) 12 #[.agg (bvals la).toArray, .agg (bvals oneB).toArray, .agg (bvals zeroB).toArray] (by first | rfl | simp [Region.wanted, yielded]) (fun w' => by go_simp) (fun w' hw' => (mulAdd_ok la oneB zeroB w' ha rfl rfl (ord w' hw') (Nat.lt_of_lt_of_le h4 hw'.size)).mono (by
    rintro e w'' ⟨rfl, hb⟩
    exact ⟨EU.out, hw'.trans (hb.mono hw'.size)⟩)) ?_
  go_simp
  refine hK _ ?_
  clear hK K
  refine wpQuiet_step (fun K hK => ?_)
  refine quiet_plainG (.slice (some ⟨w.heap.size, 0, none⟩) 32 32) (by first | rfl | simp [Region.wanted, yielded]) (fun w' hw' => by go_simp) ?_
  go_simp
  refine hK _ ?_
  clear hK K
  refine wpQuiet_step (fun K hK => ?_)
  refine quiet_plainG (.string ⟨la.toArray⟩) (by first | rfl | simp [Region.wanted, yielded]) (fun w' hw' => by have h := cvt la _ w' (mbl w' hw').1 ha; go_simp; try simp [h]) ?_
  go_simp
  refine hK _ ?_
  clear hK K
  refine wpQuiet_step (fun K hK => ?_)
  refine quiet_callG (.agg (bvals U).toArray) 9 #[.string ⟨la.toArray⟩] (by first | rfl | simp [Region.wanted, yielded]) (fun w' => by go_simp) (fun w' hw' => (reduce_ok ⟨la.toArray⟩ w' (ord w' hw') (Nat.lt_of_lt_of_le h4 hw'.size)).mono (by
    rintro e w'' ⟨rfl, hb⟩
    exact ⟨EU2.out, hw'.trans (hb.mono hw'.size)⟩)) ?_
  go_simp
  refine hK _ ?_
  clear hK K
  refine wpQuiet_step (fun K hK => ?_)
  refine quiet_plainG (.bool true) (by first | rfl | simp [Region.wanted, yielded]) (fun w' hw' => by have h := qu w'; go_simp; try simp [h]) ?_
  go_simp
  refine hK _ ?_
  clear hK K
  refine wpQuiet_step (fun K hK => ?_)
  refine quiet_plainK (.bool true) rfl (fun w' hw' => by go_simp) ?_
  go_simp
  refine hK _ ?_
  clear hK K
  refine wpQuiet_step (fun K hK => ?_)
  refine quiet_plainK (.bool true) rfl (fun w' hw' => by go_simp) ?_
  go_simp
  refine hK _ ?_
  clear hK K
  refine wpQuiet_nil ?_
  intro w7 hw7
  go_wp2
  go_ret
  exact ⟨rfl, (below_drewN hB6 1).trans (Below.mono hw7 hB6.size)⟩
end Go.Proofs.YtomdldjamdkhoaaDoor
