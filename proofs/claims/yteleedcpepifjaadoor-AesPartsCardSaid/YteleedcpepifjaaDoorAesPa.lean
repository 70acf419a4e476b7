/-
The walk of AesParts.
-/
import Derived.Test.YteleedcpepifjaaDoorAesZ
import Derived.Test.YteleedcpepifjaaDoorCut
import Derived.Deep.CutBlock
namespace Go.Proofs.YteleedcpepifjaaDoor
open Go.RowKit AesP
set_option maxRecDepth 100000
theorem natL_take (s : ByteArray) (m : Nat) : natL (s.extract 0 m) = (natL s).take m := by
  unfold natL
  rw [← List.map_take]
  congr 1
  simp [ByteArray.data_extract, Array.toList_extract]
theorem natL_drop (s : ByteArray) (m : Nat) : natL (s.extract m s.size) = (natL s).drop m := by
  have hl : s.data.toList.length = s.size := Array.length_toList
  unfold natL
  rw [← List.map_drop]
  congr 1
  simp only [ByteArray.data_extract, Array.toList_extract, List.extract_eq_take_drop]
  rw [List.take_of_length_le (by rw [List.length_drop]; omega)]
set_option maxHeartbeats 4000000 in
theorem parts_law (l b : List Nat) (x : Int) (hl : l.length = 32) (hlb : By l) (hb : b.length = 16) (hbb : By b) (s0 : ByteArray) (w : World) : Calls Tryd.prog 6 #[kv l x, .agg (b8 b).toArray, .string s0] w fun e w' => e = .returned (.bool true) ∧ Below w.heap.size w w' := by
  have HV := Lib.hid (LV.new w l b x)
  have KL := Lib.hid (kv_len hl x)
  have HBW : Hid (Below w.heap.size w ((w.alloc (.cells (b8 l ++ [Value.int .i64 x]).toArray 24)).alloc (.cells (b8 b).toArray 25))) := Lib.hid ((below1 w _).trans ((below1 _ _).mono (below1 w _).size))
  have LB : Hid ((b8 b).length = 16) := Lib.hid (by rw [b8_len]; exact hb)
  have HL := Lib.hid (And.intro hl hlb)
  have HB := Lib.hid (And.intro hb hbb)
  unfold kv
  obtain ⟨V, hV⟩ : ∃ V, V = (b8 l ++ [Value.int .i64 x]).toArray := ⟨_, rfl⟩
  obtain ⟨U, hU⟩ : ∃ U, U = (b8 b).toArray := ⟨_, rfl⟩
  have HVV := Lib.hid hV
  have HUU := Lib.hid hU
  rw [← hV, ← hU]
  rw [← hV, ← hU] at HV HBW
  clear hl hlb hb hbb hV hU
  go_enter Tryd.func6, Tryd.ntmps6
  go_upto_region 1 with fail
  obtain ⟨kb, hkb⟩ : ∃ kb, kb = w.heap.size := ⟨_, rfl⟩
  obtain ⟨bb, hbb⟩ : ∃ bb, bb = w.heap.size + 1 := ⟨_, rfl⟩
  obtain ⟨w1, hw1⟩ : ∃ w1, w1 = (w.alloc (Obj.cells V 24)).alloc (Obj.cells U 25) := ⟨_, rfl⟩
  rw [← hw1, ← hbb, ← hkb] at HV
  rw [← hw1] at HBW
  rw [show (Value.pointer (some ⟨w.heap.size + 1, 0, none⟩)) = .pointer (some ⟨bb, 0, none⟩) by rw [hbb], show (Value.pointer (some ⟨w.heap.size, 0, none⟩)) = .pointer (some ⟨kb, 0, none⟩) by rw [hkb], ← hw1]
  clear hkb hbb hw1
  go_upto_region 3 with (go_at_call 8; refine (awake_ok _).mono ?_; rintro e w2 ⟨rfl, hb2⟩)
  have HV2 := Lib.hid (HV.out.below hb2)
  have HBW2 := Lib.hid (HBW.out.trans (hb2.mono HBW.out.size))
  clear HV HBW hb2
  rw [show U = (b8 b).toArray from HUU.out, show V = (b8 l ++ [Value.int .i64 x]).toArray from HVV.out]
  go_upto_region 4 with (go_at_call 14; refine (cut_ok s0 200 _).mono ?_; rintro e w2' ⟨rfl, rfl⟩)
  obtain ⟨s, hs⟩ : ∃ s, s = s0.extract 0 200 := ⟨_, rfl⟩
  have hsz : s.size ≤ 200 := by rw [hs, ByteArray.size_extract]; omega
  rw [← hs]
  clear hs
  go_upto_region 5 with (first | (refine load_blk HV2.out.1 Tryd.underlying24 rfl key_size KL.out rfl rfl rfl ?_) | (go_at_call 10; refine (text_ok l x HL.out.1 HL.out.2 _).mono ?_; rintro e w3 ⟨rfl, hb3⟩) | (go_at_call 9; refine (newk HL.out.1 HL.out.2 x _).mono ?_; rintro e w4 ⟨c, t, bw, o, cap, rfl, hci, hb4⟩))
  have B24 := hb3.trans (hb4.mono hb3.size)
  have HV4 := Lib.hid (HV2.out.below B24)
  have HBW4 := Lib.hid (HBW2.out.trans (B24.mono HBW2.out.size))
  have HCI := Lib.hid hci
  clear HV2 HBW2 hb3 hb4 B24 hci
  have HSZ := Lib.hid hsz
  clear hsz
  obtain ⟨X, hX⟩ : ∃ X, X = xorL (kW l x) (kn x + 6) b (natL s) := ⟨_, rfl⟩
  obtain ⟨m, hm⟩ : ∃ m, m = min 16 s.size := ⟨_, rfl⟩
  obtain ⟨X1, hX1⟩ : ∃ X, X = xorL (kW l x) (kn x + 6) b ((natL s).take m) := ⟨_, rfl⟩
  obtain ⟨X2, hX2⟩ : ∃ X, X = xorL (kW l x) (kn x + 6) (inc 16 b) ((natL s).drop m) := ⟨_, rfl⟩
  have hXX : bsL X1 ++ bsL X2 = bsL X := by
    rw [bsL_app, hX, hX1, hX2]
    have e := xorL_parts (kW l x) (kn x + 6) b (natL s)
    rw [natL_len, ← hm] at e
    rw [e]
  have hms : m ≤ s.size := by omega
  have hs1 : natL (s.extract 0 m) = (natL s).take m := natL_take s m
  have hs2 : natL (s.extract m s.size) = (natL s).drop m := natL_drop s m
  have hz1 : (s.extract 0 m).size ≤ 1000 := by rw [ByteArray.size_extract]; have := HSZ.out; omega
  have hz2 : (s.extract m s.size).size ≤ 1000 := by rw [ByteArray.size_extract]; have := HSZ.out; omega
  have hlX1 : (bsL X1).size = m := by rw [bsL_len, hX1, xorL_len, List.length_take, natL_len]; omega
  have hlX2 : (bsL X2).size = s.size - m := by rw [bsL_len, hX2, xorL_len, List.length_drop, natL_len]
  have hxor : ∀ w', Ci w' c t bw o (4 * (kn x + 7)) cap (kW l x) → Calls Tryd.prog 15 #[.pointer (some ⟨c, 0, none⟩), .agg (b8 b).toArray, .string s] w' fun e w'' => e = .returned (.string (bsL X)) ∧ Below w'.heap.size w' w'' := fun w' h => by rw [hX]; exact pxor_ok HL.out.2 x HB.out.1 HB.out.2 s (by have := HSZ.out; omega) w' h
  have hxor1 : ∀ w', Ci w' c t bw o (4 * (kn x + 7)) cap (kW l x) → Calls Tryd.prog 15 #[.pointer (some ⟨c, 0, none⟩), .agg (b8 b).toArray, .string (s.extract 0 m)] w' fun e w'' => e = .returned (.string (bsL X1)) ∧ Below w'.heap.size w' w'' := fun w' h => by
    have h2 := pxor_ok HL.out.2 x HB.out.1 HB.out.2 (s.extract 0 m) hz1 w' h
    rw [hs1] at h2
    rw [hX1]
    exact h2
  have hxor2 : ∀ w', Ci w' c t bw o (4 * (kn x + 7)) cap (kW l x) → Calls Tryd.prog 15 #[.pointer (some ⟨c, 0, none⟩), .agg (b8 (inc 16 b)).toArray, .string (s.extract m s.size)] w' fun e w'' => e = .returned (.string (bsL X2)) ∧ Below w'.heap.size w' w'' := fun w' h => by
    have h2 := pxor_ok HL.out.2 x ((inc_len 16 b).trans HB.out.1) (inc_by 16 b HB.out.2) (s.extract m s.size) hz2 w' h
    rw [hs2] at h2
    rw [hX2]
    exact h2
  have HXOR := Lib.hid hxor
  have HXOR1 := Lib.hid hxor1
  have HXOR2 := Lib.hid hxor2
  have HXX := Lib.hid (And.intro hXX (And.intro hlX1 hlX2))
  have HM := Lib.hid (And.intro hm hms)
  clear hxor hxor1 hxor2 hX hX1 hX2 hXX hlX1 hlX2 hs1 hs2 hz1 hz2 hm hms
  go_upto_region 7 with fail
  have A5 := Lib.hid (Blk.new w4 25 (b8 z16))
  go_upto_region 8 with (first | (refine load_blk HV4.out.2 Tryd.underlying25 rfl blk_size LB.out rfl rfl rfl ?_) | (refine store_blk A5.out blk_size LB.out rfl (b8_one _) rfl rfl rfl rfl ?_))
  obtain ⟨w5, nb, hw5, hnb⟩ : ∃ w5 nb, w5 = (w4.alloc (.cells (b8 z16).toArray 25)).setRow w4.heap.size (b8 b).toArray ∧ nb = w4.heap.size := ⟨_, _, rfl, rfl⟩
  have D : Below w4.heap.size w4 w5 := by rw [hw5]; exact below_row (below1 w4 _) _ _ (Nat.le_refl _)
  have A6 : Blk w5 nb 25 (b8 b) := by rw [hw5, hnb]; exact A5.out.setRow _
  rw [show w4.alloc (Obj.cells #[Value.int .u8 0, Value.int .u8 0, Value.int .u8 0, Value.int .u8 0, Value.int .u8 0, Value.int .u8 0, Value.int .u8 0, Value.int .u8 0, Value.int .u8 0, Value.int .u8 0, Value.int .u8 0, Value.int .u8 0, Value.int .u8 0, Value.int .u8 0, Value.int .u8 0, Value.int .u8 0] 25) = w4.alloc (.cells (b8 z16).toArray 25) from rfl, ← hw5, ← hnb]
  have hnb2 : w4.heap.size ≤ nb := by omega
  have HNB := Lib.hid hnb2
  have H0 : Hid (Blk w5 nb 25 (b8 b) ∧ Below w4.heap.size w4 w5) := Lib.hid ⟨A6, D⟩
  clear hw5 hnb D A6 A5 hnb2
  try simp only [Act.put]
  go_upto_block 0 with fail
  go_cut [10] (fun _ wx => Hid (Blk wx nb 25 (b8 (inc 16 b)) ∧ Below w4.heap.size w4 wx))
  case first =>
   go_wp2_with fail
   go_loopw [10] (fun v wx => ∃ (q : Nat) (L : List Nat), v = .int .i64 ((q : Int) - 1) ∧ q ≤ 16 ∧ Hid (inc q L = inc 16 b ∧ By L ∧ L.length = 16) ∧ Hid (Blk wx nb 25 (b8 L) ∧ Below w4.heap.size w4 wx)) (fun v _ => (intOf v + 1).toNat)
   case atStart => exact ⟨16, b, rfl, by omega, Lib.hid ⟨rfl, HB.out.2, HB.out.1⟩, H0.out⟩
   case round =>
     obtain ⟨q, L, rfl, hq, hL, hr⟩ := hrel
     clear H0
     rcases Nat.eq_zero_or_pos q with h0 | h0
     · have e := hL.out.1
       rw [h0] at e
       have e2 : L = inc 16 b := e
       rw [e2] at hr
       subst h0
       clear e e2 hL hq
       go_wp2_with fail
       go_meet
       exact hr
     · obtain ⟨q, rfl⟩ : ∃ j, q = j + 1 := ⟨q - 1, by omega⟩
       rw [show ((q + 1 : Nat) : Int) - 1 = (q : Int) by omega]
       have c1 := hr.out.1.b8cell q (by rw [hL.out.2.2]; omega)
       have f1 := hr.out.1.free q
       have hinc := hL.out.1
       rw [inc] at hinc
       have hx := hL.out.2.1.get q
       have S1 := hr.out.1.b8set q ((L.getD q 0 + 1) % 256)
       have SB := below_set' hr.out.2 nb q (.int .u8 ((L.getD q 0 + 1) % 256 : Nat)) HNB.out
       have BL := byL_set hL.out.2.1 q ((L.getD q 0 + 1) % 256) (Nat.mod_lt _ (by decide))
       have LL : (L.set q ((L.getD q 0 + 1) % 256)).length = 16 := by rw [List.length_set]; exact hL.out.2.2
       have hget : (L.set q ((L.getD q 0 + 1) % 256)).getD q 0 = (L.getD q 0 + 1) % 256 := by rw [List.getD_eq_getElem?_getD, List.getElem?_set_self (by rw [hL.out.2.2]; omega)]; rfl
       have c2 := S1.b8cell q (by rw [LL]; omega)
       rw [hget] at c2
       have H2 := Lib.hid (And.intro S1 SB)
       have HBL := Lib.hid (And.intro BL LL)
       clear S1 SB BL LL hget hr hL
       generalize L.getD q 0 = xx at *
       by_cases hzz : (xx + 1) % 256 = 0
       · rw [if_pos hzz] at hinc
         have HI := Lib.hid hinc
         have hx2 : xx = 255 := by omega
         clear hinc
         have HX := Lib.hid hx2
         generalize L.set q ((xx + 1) % 256) = l2 at *
         rw [hzz] at H2
         go_wp2_with fail
         go_roundw
         case rel => exact ⟨q, l2, rfl, by omega, Lib.hid ⟨HI.out, HBL.out.1, HBL.out.2⟩, H2⟩
         case measure => simp [intOf]
       · rw [if_neg hzz] at hinc
         have HI := Lib.hid hinc
         clear hinc
         rw [show (((xx + 1) % 256 : Nat) : Int) = (xx : Int) + 1 by omega] at H2 c2
         have hx2 : xx < 255 := by omega
         generalize L.set q ((xx + 1) % 256) = l2 at *
         have e2 : l2 = inc 16 b := HI.out
         rw [e2] at H2
         clear e2 HI HBL
         go_wp2_with fail
         go_meet
         exact H2
  case rest =>

   clear H0
   have D6 := below_drewN (Below.refl wc.heap.size wc) 1
   have D46 := hcut.out.2.trans (D6.mono hcut.out.2.size)
   have HV6 := Lib.hid (HV4.out.below D46)
   have HN6 := Lib.hid (hcut.out.1.below D6 hcut.out.1.lt)
   have HC6 := Lib.hid (HCI.out.below D46)
   have HW6 := Lib.hid (HBW4.out.trans (D46.mono HBW4.out.size))
   have LN : Hid ((b8 (inc 16 b)).length = 16) := Lib.hid (by rw [b8_len, inc_len]; exact HB.out.1)
   clear D6 D46 hcut HV4 HBW4 HCI
   go_upto_region 14 with fail
   rw [show (if (s.size : Int) < 16 then (s.size : Int) else 16) = (m : Int) by have := HM.out.1; split <;> omega]
   (refine wp_region_quiet_tail (C := fun w' => Below wc.drew.heap.size wc.drew w') 18 (by kernel_rfl) (by kernel_rfl) (Below.refl _ _) ?_; simp only [List.take_succ_cons, List.take_zero, List.drop_succ_cons, List.drop_zero])
   ((with_reducible refine wpQuiet_step (fun K hK => ?_)); refine quiet_plainG (.pointer (some ⟨c, 0, none⟩)) (by first | rfl | simp [Region.wanted, yielded]) (fun w' hw' => by go_simp) ?_; go_simp; (with_reducible apply hK); clear hK K)
   ((with_reducible refine wpQuiet_step (fun K hK => ?_)); refine quiet_loadB (fun w' hw' => (HV6.out.below hw').2) Tryd.underlying25 rfl blk_size LB.out (by first | rfl | simp [Region.wanted, yielded]) rfl (by go_simp) ?_; go_simp; (with_reducible apply hK); clear hK K)
   ((with_reducible refine wpQuiet_step (fun K hK => ?_)); refine quiet_plainG (.string s) (by first | rfl | simp [Region.wanted, yielded]) (fun w' hw' => by go_simp) ?_; go_simp; (with_reducible apply hK); clear hK K)
   ((with_reducible refine wpQuiet_step (fun K hK => ?_)); refine quiet_plainG (.int .i64 (m : Nat)) (by first | rfl | simp [Region.wanted, yielded]) (fun w' hw' => by go_simp) ?_; go_simp; (with_reducible apply hK); clear hK K)
   ((with_reducible refine wpQuiet_step (fun K hK => ?_)); refine quiet_plainG (.string (s.extract 0 m)) (by first | rfl | simp [Region.wanted, yielded]) (fun w' hw' => by have i1 := HM.out.2; go_simp; try simp [i1]) ?_; go_simp; (with_reducible apply hK); clear hK K)
   ((with_reducible refine wpQuiet_step (fun K hK => ?_)); refine quiet_callG (.string (bsL X1)) 15 #[.pointer (some ⟨c, 0, none⟩), .agg (b8 b).toArray, .string (s.extract 0 m)] (by first | rfl | simp [Region.wanted, yielded]) (fun w' => by go_simp) (fun w' hw' => (HXOR1.out w' (HC6.out.below hw')).mono (by rintro e w'' ⟨rfl, hb⟩; exact ⟨rfl, hw'.trans (hb.mono hw'.size)⟩)) ?_; go_simp; (with_reducible apply hK); clear hK K)
   ((with_reducible refine wpQuiet_step (fun K hK => ?_)); refine quiet_plainG (.pointer (some ⟨c, 0, none⟩)) (by first | rfl | simp [Region.wanted, yielded]) (fun w' hw' => by go_simp) ?_; go_simp; (with_reducible apply hK); clear hK K)
   ((with_reducible refine wpQuiet_step (fun K hK => ?_)); refine quiet_loadB (fun w' hw' => (HN6.out.below hw' HN6.out.lt)) Tryd.underlying25 rfl blk_size LN.out (by first | rfl | simp [Region.wanted, yielded]) rfl (by go_simp) ?_; go_simp; (with_reducible apply hK); clear hK K)
   ((with_reducible refine wpQuiet_step (fun K hK => ?_)); refine quiet_plainG (.string s) (by first | rfl | simp [Region.wanted, yielded]) (fun w' hw' => by go_simp) ?_; go_simp; (with_reducible apply hK); clear hK K)
   ((with_reducible refine wpQuiet_step (fun K hK => ?_)); refine quiet_plainG (.int .i64 (m : Nat)) (by first | rfl | simp [Region.wanted, yielded]) (fun w' hw' => by go_simp) ?_; go_simp; (with_reducible apply hK); clear hK K)
   ((with_reducible refine wpQuiet_step (fun K hK => ?_)); refine quiet_plainG (.string (s.extract m s.size)) (by first | rfl | simp [Region.wanted, yielded]) (fun w' hw' => by have i1 := HM.out.2; go_simp; try simp [i1]) ?_; go_simp; (with_reducible apply hK); clear hK K)
   ((with_reducible refine wpQuiet_step (fun K hK => ?_)); refine quiet_callG (.string (bsL X2)) 15 #[.pointer (some ⟨c, 0, none⟩), .agg (b8 (inc 16 b)).toArray, .string (s.extract m s.size)] (by first | rfl | simp [Region.wanted, yielded]) (fun w' => by go_simp) (fun w' hw' => (HXOR2.out w' (HC6.out.below hw')).mono (by rintro e w'' ⟨rfl, hb⟩; exact ⟨rfl, hw'.trans (hb.mono hw'.size)⟩)) ?_; go_simp; (with_reducible apply hK); clear hK K)
   ((with_reducible refine wpQuiet_step (fun K hK => ?_)); refine quiet_plainG (.string (bsL X)) (by first | rfl | simp [Region.wanted, yielded]) (fun w' hw' => by have e := HXX.out.1; have e1 := HXX.out.2.1; have e2 := HXX.out.2.2; have i1 := HM.out.2; have i2 := HSZ.out; go_simp; all_goals (try simp [e]); all_goals (try omega)) ?_; go_simp; (with_reducible apply hK); clear hK K)
   ((with_reducible refine wpQuiet_step (fun K hK => ?_)); refine quiet_plainG (.pointer (some ⟨c, 0, none⟩)) (by first | rfl | simp [Region.wanted, yielded]) (fun w' hw' => by go_simp) ?_; go_simp; (with_reducible apply hK); clear hK K)
   ((with_reducible refine wpQuiet_step (fun K hK => ?_)); refine quiet_loadB (fun w' hw' => (HV6.out.below hw').2) Tryd.underlying25 rfl blk_size LB.out (by first | rfl | simp [Region.wanted, yielded]) rfl (by go_simp) ?_; go_simp; (with_reducible apply hK); clear hK K)
   ((with_reducible refine wpQuiet_step (fun K hK => ?_)); refine quiet_plainG (.string s) (by first | rfl | simp [Region.wanted, yielded]) (fun w' hw' => by go_simp) ?_; go_simp; (with_reducible apply hK); clear hK K)
   ((with_reducible refine wpQuiet_step (fun K hK => ?_)); refine quiet_callG (.string (bsL X)) 15 #[.pointer (some ⟨c, 0, none⟩), .agg (b8 b).toArray, .string s] (by first | rfl | simp [Region.wanted, yielded]) (fun w' => by go_simp) (fun w' hw' => (HXOR.out w' (HC6.out.below hw')).mono (by rintro e w'' ⟨rfl, hb⟩; exact ⟨rfl, hw'.trans (hb.mono hw'.size)⟩)) ?_; go_simp; (with_reducible apply hK); clear hK K)
   ((with_reducible refine wpQuiet_step (fun K hK => ?_)); refine quiet_plainG (.bool true) (by first | rfl | simp [Region.wanted, yielded]) (fun w' hw' => by go_simp) ?_; go_simp; (with_reducible apply hK); clear hK K)
   refine wpQuiet_nil ?_
   intro w7 hw7
   go_wp2_with fail
   go_ret
   exact ⟨rfl, HW6.out.trans (hw7.mono HW6.out.size)⟩
end Go.Proofs.YteleedcpepifjaaDoor
