/-
ScalarMulAdds answers true.
-/
import Derived.Test.YtomdldjamdkhoaaDoorScalarLaw1
namespace Go.Proofs.YtomdldjamdkhoaaDoor
open Go.RowKit

/-- three arrays of bytes -/
def M3 (w : World) (B : Nat) (la lb lc : List UInt8) : Prop := Blk w B 24 (bvals la) ∧ Blk w (B + 1) 24 (bvals lb) ∧ Blk w (B + 2) 24 (bvals lc)
theorem M3.below {w w' : World} {B : Nat} {la lb lc : List UInt8} (h : M3 w B la lb lc) (hb : Below w.heap.size w w') : M3 w' B la lb lc :=
  ⟨h.1.below hb h.1.lt, h.2.1.below hb h.2.1.lt, h.2.2.below hb h.2.2.lt⟩
theorem M3.start (w : World) (la lb lc : List UInt8) : M3 (((w.alloc (.cells (bvals la).toArray 24)).alloc (.cells (bvals lb).toArray 24)).alloc (.cells (bvals lc).toArray 24)) w.heap.size la lb lc := by
  have s1 : ∀ (w : World) (o : Obj), (w.alloc o).heap.size = w.heap.size + 1 := fun w o => by simp
  have n : ∀ (w : World) (t : TypeId) (cs : List Value) (k : Nat), k = w.heap.size → Blk (w.alloc (.cells cs.toArray t)) k t cs := fun w t cs k hk => by subst hk; exact Blk.new w t cs
  exact ⟨((n _ _ _ _ rfl).alloc _).alloc _, (n _ _ _ _ (by rw [s1])).alloc _, n _ _ _ _ (by rw [s1, s1])⟩
theorem below3 (w : World) (a b c : Obj) : Below w.heap.size w (((w.alloc a).alloc b).alloc c) :=
  (((Below.refl _ _).alloc (Nat.le_refl _) _).alloc (by simp) _).alloc (by simp; omega) _

set_option maxHeartbeats 8000000 in
set_option maxRecDepth 100000 in
theorem mulAdds_ok (la lb lc : List UInt8) (w : World) (ha : la.length = 32) (hb : lb.length = 32) (hc : lc.length = 32) (ho : Ordr w) (h0 : 0 < w.heap.size) :
    Calls Tryd.prog 4 #[ag la, ag lb, ag lc] w fun e w' => e = .returned (.bool true) ∧ Below w.heap.size w w' := by
  have HO := Lib.hid ho
  have HIA : Hid ((Tryd.prog.info? 24).map (·.size) = some (bvals la).length) := by rw [show (bvals la).length = 32 by simp [bvals, ha]]; exact b32_size
  have HIB : Hid ((Tryd.prog.info? 24).map (·.size) = some (bvals lb).length) := by rw [show (bvals lb).length = 32 by simp [bvals, hb]]; exact b32_size
  have HIC : Hid ((Tryd.prog.info? 24).map (·.size) = some (bvals lc).length) := by rw [show (bvals lc).length = 32 by simp [bvals, hc]]; exact b32_size
  clear ho
  show Calls Tryd.prog _ #[.agg (bvals la).toArray, .agg (bvals lb).toArray, .agg (bvals lc).toArray] w _
  have M := Lib.hid (M3.start w la lb lc)
  have HB0 := Lib.hid (below3 w (.cells (bvals la).toArray 24) (.cells (bvals lb).toArray 24) (.cells (bvals lc).toArray 24))
  go_enter Tryd.func4, Tryd.ntmps4
  go_wp2_with fail
  generalize World.alloc (World.alloc (World.alloc _ _) _) _ = w0 at *
  refine (awake_ok _ (HO.out.below HB0.out h0) (Nat.lt_of_lt_of_le h0 HB0.out.size)).mono ?_
  rintro e w1 ⟨rfl, hb1⟩
  have M1 := Lib.hid (M.out.below hb1)
  have hB1 := HB0.out.trans (hb1.mono HB0.out.size)
  clear hb1 M
  go_wp2_with (first | refine load_blk M1.out.1 Tryd.underlying24 HIA.out rfl rfl rfl ?_ | refine load_blk M1.out.2.1 Tryd.underlying24 HIB.out rfl rfl rfl ?_ | refine load_blk M1.out.2.2 Tryd.underlying24 HIC.out rfl rfl rfl ?_)
  refine (mulAdd_ok la lb lc w1 ha hb hc (HO.out.below hB1 h0) (Nat.lt_of_lt_of_le h0 hB1.size)).mono ?_
  rintro e w3 ⟨rfl, hb3⟩
  have M3' := Lib.hid (M1.out.below hb3)
  have hB3 := hB1.trans (hb3.mono hB1.size)
  clear hb3 M1 hB1
  have HB := Lib.hid (Blk.new w3 24 [Value.int .u8 0, Value.int .u8 0, Value.int .u8 0, Value.int .u8 0, Value.int .u8 0, Value.int .u8 0, Value.int .u8 0, Value.int .u8 0, Value.int .u8 0, Value.int .u8 0, Value.int .u8 0, Value.int .u8 0, Value.int .u8 0, Value.int .u8 0, Value.int .u8 0, Value.int .u8 0, Value.int .u8 0, Value.int .u8 0, Value.int .u8 0, Value.int .u8 0, Value.int .u8 0, Value.int .u8 0, Value.int .u8 0, Value.int .u8 0, Value.int .u8 0, Value.int .u8 0, Value.int .u8 0, Value.int .u8 0, Value.int .u8 0, Value.int .u8 0, Value.int .u8 0, Value.int .u8 0])
  have MN := Lib.hid (M3'.out.below (((Below.refl _ w3).alloc (Nat.le_refl _) (.cells ([Value.int .u8 0, Value.int .u8 0, Value.int .u8 0, Value.int .u8 0, Value.int .u8 0, Value.int .u8 0, Value.int .u8 0, Value.int .u8 0, Value.int .u8 0, Value.int .u8 0, Value.int .u8 0, Value.int .u8 0, Value.int .u8 0, Value.int .u8 0, Value.int .u8 0, Value.int .u8 0, Value.int .u8 0, Value.int .u8 0, Value.int .u8 0, Value.int .u8 0, Value.int .u8 0, Value.int .u8 0, Value.int .u8 0, Value.int .u8 0, Value.int .u8 0, Value.int .u8 0, Value.int .u8 0, Value.int .u8 0, Value.int .u8 0, Value.int .u8 0, Value.int .u8 0, Value.int .u8 0]).toArray 24))))
  have hB4 := (hB3.alloc hB3.size (.cells ([Value.int .u8 0, Value.int .u8 0, Value.int .u8 0, Value.int .u8 0, Value.int .u8 0, Value.int .u8 0, Value.int .u8 0, Value.int .u8 0, Value.int .u8 0, Value.int .u8 0, Value.int .u8 0, Value.int .u8 0, Value.int .u8 0, Value.int .u8 0, Value.int .u8 0, Value.int .u8 0, Value.int .u8 0, Value.int .u8 0, Value.int .u8 0, Value.int .u8 0, Value.int .u8 0, Value.int .u8 0, Value.int .u8 0, Value.int .u8 0, Value.int .u8 0, Value.int .u8 0, Value.int .u8 0, Value.int .u8 0, Value.int .u8 0, Value.int .u8 0, Value.int .u8 0, Value.int .u8 0]).toArray 24))
  have hn4 : w.heap.size + 2 < w3.heap.size := M3'.out.2.2.lt
  have HV := Lib.hid (show leBytes ((le8 lb * le8 la + le8 lc) % Lq) 32 = leBytes ((le8 la * le8 lb + le8 lc) % Lq) 32 ∧ le8 (leBytes ((le8 la * le8 lb + le8 lc) % Lq) 32) < Lq from by
    have h : le8 (leBytes ((le8 la * le8 lb + le8 lc) % Lq) 32) = (le8 la * le8 lb + le8 lc) % Lq := by
      rw [le8_leBytes, Nat.mod_eq_of_lt (Nat.lt_trans (Nat.mod_lt _ Lq_pos) (by decide +kernel))]
    rw [h, Nat.mul_comm]
    exact ⟨rfl, Nat.mod_lt _ Lq_pos⟩)
  obtain ⟨X, hX⟩ : ∃ X, X = leBytes ((le8 la * le8 lb + le8 lc) % Lq) 32 := ⟨_, rfl⟩
  have HX0 : Hid ((Ending.returned (Value.string (redOf (le8 la * le8 lb + le8 lc))) : Ending) = .returned (.string ⟨X.toArray⟩)) := by rw [hX]; exact rfl
  rw [← hX] at HV ⊢
  have HXL : Hid (X.length = 32) := by rw [hX]; exact leBytes_length _ _
  have HL : Hid ((bvals X).length = 32) := by show (bvals X).length = 32; rw [← HXL.out]; simp [bvals]
  clear hX
  have HM : Hid ((Ending.returned (ag (leBytes ((le8 lb * le8 la + le8 lc) % Lq) 32)) : Ending) = .returned (.agg (bvals X).toArray)) := by
    rw [HV.out.1]; exact rfl
  have HF : Hid (decide (le8 X < Lq) = true) := decide_eq_true HV.out.2
  have HI : Hid ((Tryd.prog.info? 24).map (·.size) = some (bvals X).length) := by rw [HL.out]; exact b32_size
  have qx := fun w => (eq32 w X X HXL.out HXL.out).trans (by rw [decide_eq_true rfl])
  have hB5 := Lib.hid (below_row hB4 w3.heap.size (bvals X).toArray hB3.size)
  have HX := Lib.hid (Blk.setRow HB.out (bvals X))
  have MX : Hid (M3 ((w3.alloc (.cells ([Value.int .u8 0, Value.int .u8 0, Value.int .u8 0, Value.int .u8 0, Value.int .u8 0, Value.int .u8 0, Value.int .u8 0, Value.int .u8 0, Value.int .u8 0, Value.int .u8 0, Value.int .u8 0, Value.int .u8 0, Value.int .u8 0, Value.int .u8 0, Value.int .u8 0, Value.int .u8 0, Value.int .u8 0, Value.int .u8 0, Value.int .u8 0, Value.int .u8 0, Value.int .u8 0, Value.int .u8 0, Value.int .u8 0, Value.int .u8 0, Value.int .u8 0, Value.int .u8 0, Value.int .u8 0, Value.int .u8 0, Value.int .u8 0, Value.int .u8 0, Value.int .u8 0, Value.int .u8 0]).toArray 24)).setRow w3.heap.size (bvals X).toArray) w.heap.size la lb lc) := ⟨MN.out.1.farRow (by omega) _, MN.out.2.1.farRow (by omega) _, MN.out.2.2.farRow (by omega) _⟩
  clear hB3 hB4 MN M3' hn4
  go_wp2_with (refine store_blk HB.out b32_size HL.out (by rfl) (bvals_one _) rfl rfl rfl rfl ?_)
  clear HB
  generalize World.setRow _ _ _ = w4 at *
  generalize w3.heap.size = b at *
  have blk := fun (w' : World) (hw' : Below w4.drew.heap.size w4.drew w') => Blk.below (w := w4.drew) HX.out hw' HX.out.lt
  have mbl := fun (w' : World) (hw' : Below w4.drew.heap.size w4.drew w') => M3.below (w := w4.drew) MX.out hw'
  have ord := fun (w' : World) (hw' : Below w4.drew.heap.size w4.drew w') => ((HO.out.below hB5.out h0).below (Below.refl _ _ : Below w4.heap.size w4 w4) (Nat.lt_of_lt_of_le h0 hB5.out.size)).below (w := w4.drew) hw' (Nat.lt_of_lt_of_le h0 hB5.out.size)
  have h4 : 0 < w4.drew.heap.size := Nat.lt_of_lt_of_le h0 hB5.out.size
  have cvt := fun (bs : List UInt8) (b : Nat) (w' : World) (h : Blk w' b 24 (bvals bs)) (hl : bs.length = 32) => conv_blk (P := Tryd.prog) (src := 26) (dst := 9) Tryd.underlying26 Tryd.underlying5 Tryd.underlying9 hl h
  try simp only [Act.put]
  refine region_quiet (C := fun w' => Below w4.drew.heap.size w4.drew w') (by kernel_rfl) (by kernel_rfl) (Below.refl _ _) ?_
  refine wpQuiet_step (fun K hK => ?_)
  refine quiet_plainK (.slice (some ⟨b, 0, none⟩) 32 32) rfl (fun w' hw' => by go_simp) ?_
  go_simp
  refine hK _ ?_
  clear hK K
  refine wpQuiet_step (fun K hK => ?_)
  refine quiet_plainK (.string ⟨X.toArray⟩) rfl (fun w' hw' => by have h := cvt X _ w' (blk w' hw') HXL.out; go_simp; try simp [h]) ?_
  go_simp
  refine hK _ ?_
  clear hK K
  refine wpQuiet_step (fun K hK => ?_)
  refine quiet_plainK (.slice (some ⟨w.heap.size, 0, none⟩) 32 32) rfl (fun w' hw' => by go_simp) ?_
  go_simp
  refine hK _ ?_
  clear hK K
  refine wpQuiet_step (fun K hK => ?_)
  refine quiet_plainK (.string ⟨la.toArray⟩) rfl (fun w' hw' => by have h := cvt la _ w' (mbl w' hw').1 ha; go_simp; try simp [h]) ?_
  go_simp
  refine hK _ ?_
  clear hK K
  refine wpQuiet_step (fun K hK => ?_)
  refine quiet_plainK (.slice (some ⟨w.heap.size + 1, 0, none⟩) 32 32) rfl (fun w' hw' => by go_simp) ?_
  go_simp
  refine hK _ ?_
  clear hK K
  refine wpQuiet_step (fun K hK => ?_)
  refine quiet_plainK (.string ⟨lb.toArray⟩) rfl (fun w' hw' => by have h := cvt lb _ w' (mbl w' hw').2.1 hb; go_simp; try simp [h]) ?_
  go_simp
  refine hK _ ?_
  clear hK K
  refine wpQuiet_step (fun K hK => ?_)
  refine quiet_plainK (.slice (some ⟨w.heap.size + 2, 0, none⟩) 32 32) rfl (fun w' hw' => by go_simp) ?_
  go_simp
  refine hK _ ?_
  clear hK K
  refine wpQuiet_step (fun K hK => ?_)
  refine quiet_plainK (.string ⟨lc.toArray⟩) rfl (fun w' hw' => by have h := cvt lc _ w' (mbl w' hw').2.2 hc; go_simp; try simp [h]) ?_
  go_simp
  refine hK _ ?_
  clear hK K
  refine wpQuiet_step (fun K hK => ?_)
  refine quiet_callK (.string ⟨X.toArray⟩) 13 #[.string ⟨la.toArray⟩, .string ⟨lb.toArray⟩, .string ⟨lc.toArray⟩] rfl (fun w' => by go_simp) (fun w' hw' => (refMulAdd_ok ⟨la.toArray⟩ ⟨lb.toArray⟩ ⟨lc.toArray⟩ w' (by show la.toArray.size ≤ 32; simp [ha]) (by show lb.toArray.size ≤ 32; simp [hb]) (by show lc.toArray.size ≤ 32; simp [hc])).mono (by
    rintro e w'' ⟨rfl, hb⟩
    exact ⟨HX0.out, hw'.trans (hb.mono hw'.size)⟩)) ?_
  go_simp
  refine hK _ ?_
  clear hK K
  refine wpQuiet_step (fun K hK => ?_)
  refine quiet_plainK (.bool true) rfl (fun w' hw' => by go_simp) ?_
  go_simp
  refine hK _ ?_
  clear hK K
  refine wpQuiet_step (fun K hK => ?_)
  refine quiet_plainK (.bool true) rfl (fun w' hw' => by go_simp) ?_
  go_simp
  refine hK _ ?_
  clear hK K
  refine wpQuiet_step (fun K hK => ?_)
  refine quiet_loadG (fun w' hw' => blk w' hw') Tryd.underlying24 HI.out (by first | rfl | simp [Region.wanted, yielded]) rfl (by go_simp) ?_
  go_simp
  refine hK _ ?_
  clear hK K
  refine wpQuiet_step (fun K hK => ?_)
  refine quiet_callG (.bool true) 11 #[.agg (bvals X).toArray] (by first | rfl | simp [Region.wanted, yielded]) (fun w' => by go_simp) (fun w' hw' => (fits_ok X w' HXL.out (ord w' hw') (Nat.lt_of_lt_of_le h4 hw'.size)).mono (by
    rintro e w'' ⟨rfl, hb⟩
    exact ⟨ret_bool HF.out, hw'.trans (hb.mono hw'.size)⟩)) ?_
  go_simp
  refine hK _ ?_
  clear hK K
  refine wpQuiet_step (fun K hK => ?_)
  refine quiet_plainK (.bool true) rfl (fun w' hw' => by go_simp) ?_
  go_simp
  refine hK _ ?_
  clear hK K
  refine wpQuiet_step (fun K hK => ?_)
  refine quiet_plainK (.bool true) rfl (fun w' hw' => by go_simp) ?_
  go_simp
  refine hK _ ?_
  clear hK K
  refine wpQuiet_step (fun K hK => ?_)
  refine quiet_loadG (fun w' hw' => (mbl w' hw').2.1) Tryd.underlying24 HIB.out (by first | rfl | simp [Region.wanted, yielded]) rfl (by go_simp) ?_
  go_simp
  refine hK _ ?_
  clear hK K
  refine wpQuiet_step (fun K hK => ?_)
  refine quiet_loadG (fun w' hw' => (mbl w' hw').1) Tryd.underlying24 HIA.out (by first | rfl | simp [Region.wanted, yielded]) rfl (by go_simp) ?_
  go_simp
  refine hK _ ?_
  clear hK K
  refine wpQuiet_step (fun K hK => ?_)
  refine quiet_loadG (fun w' hw' => (mbl w' hw').2.2) Tryd.underlying24 HIC.out (by first | rfl | simp [Region.wanted, yielded]) rfl (by go_simp) ?_
  go_simp
  refine hK _ ?_
  clear hK K
  refine wpQuiet_step (fun K hK => ?_)
  refine quiet_callG (.agg (bvals X).toArray) 12 #[.agg (bvals lb).toArray, .agg (bvals la).toArray, .agg (bvals lc).toArray] (by first | rfl | simp [Region.wanted, yielded]) (fun w' => by go_simp) (fun w' hw' => (mulAdd_ok lb la lc w' hb ha hc (ord w' hw') (Nat.lt_of_lt_of_le h4 hw'.size)).mono (by
    rintro e w'' ⟨rfl, hb⟩
    exact ⟨HM.out, hw'.trans (hb.mono hw'.size)⟩)) ?_
  go_simp
  refine hK _ ?_
  clear hK K
  refine wpQuiet_step (fun K hK => ?_)
  refine quiet_loadG (fun w' hw' => blk w' hw') Tryd.underlying24 HI.out (by first | rfl | simp [Region.wanted, yielded]) rfl (by go_simp) ?_
  go_simp
  refine hK _ ?_
  clear hK K
  refine wpQuiet_step (fun K hK => ?_)
  refine quiet_plainG (.bool true) (by first | rfl | simp [Region.wanted, yielded]) (fun w' hw' => by have h := qx w'; go_simp; try simp [h]) ?_
  go_simp
  refine hK _ ?_
  clear hK K
  refine wpQuiet_step (fun K hK => ?_)
  refine quiet_plainK (.bool true) rfl (fun w' hw' => by go_simp) ?_
  go_simp
  refine hK _ ?_
  clear hK K
  refine wpQuiet_step (fun K hK => ?_)
  refine quiet_plainK (.bool true) rfl (fun w' hw' => by go_simp) ?_
  go_simp
  refine hK _ ?_
  clear hK K
  refine wpQuiet_nil ?_
  intro w5 hw5
  go_wp2
  go_ret
  exact ⟨rfl, (below_drewN hB5.out 1).trans (Below.mono hw5 hB5.out.size)⟩
end Go.Proofs.YtomdldjamdkhoaaDoor
