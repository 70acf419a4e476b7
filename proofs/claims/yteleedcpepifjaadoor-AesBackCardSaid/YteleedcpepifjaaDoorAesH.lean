/-
The walk of AesBack.
-/
import Derived.Test.YteleedcpepifjaaDoorAesF
namespace Go.Proofs.YteleedcpepifjaaDoor
open Go.RowKit AesP
set_option maxRecDepth 100000
set_option maxHeartbeats 4000000 in
theorem back_law (l b : List Nat) (x : Int) (hl : l.length = 32) (hlb : By l) (hb : b.length = 16) (hbb : By b) (w : World) : Calls Tryd.prog 4 #[kv l x, .agg (b8 b).toArray] w fun e w' => e = .returned (.bool true) ∧ Below w.heap.size w w' := by
  have HV := Lib.hid (LV.new w l b x)
  have KL := Lib.hid (kv_len hl x)
  have HBW : Hid (Below w.heap.size w ((w.alloc (.cells (b8 l ++ [Value.int .i64 x]).toArray 24)).alloc (.cells (b8 b).toArray 25))) := Lib.hid ((below1 w _).trans ((below1 _ _).mono (below1 w _).size))
  have LB : Hid ((b8 b).length = 16) := Lib.hid (by rw [b8_len]; exact hb)
  have HL := Lib.hid (And.intro hl hlb)
  have HB := Lib.hid (And.intro hb hbb)
  unfold kv
  obtain ⟨V, hV⟩ : ∃ V, V = (b8 l ++ [Value.int .i64 x]).toArray := ⟨_, rfl⟩
  obtain ⟨U, hU⟩ : ∃ U, U = (b8 b).toArray := ⟨_, rfl⟩
  have HVV := Lib.hid hV
  have HUU := Lib.hid hU
  rw [← hV, ← hU]
  rw [← hV, ← hU] at HV HBW
  clear hl hlb hb hbb hV hU
  go_enter Tryd.func4, Tryd.ntmps4
  go_upto_region 1 with fail
  obtain ⟨kb, hkb⟩ : ∃ kb, kb = w.heap.size := ⟨_, rfl⟩
  obtain ⟨bb, hbb⟩ : ∃ bb, bb = w.heap.size + 1 := ⟨_, rfl⟩
  obtain ⟨w1, hw1⟩ : ∃ w1, w1 = (w.alloc (Obj.cells V 24)).alloc (Obj.cells U 25) := ⟨_, rfl⟩
  rw [← hw1, ← hbb, ← hkb] at HV
  rw [← hw1] at HBW
  rw [show (Value.pointer (some ⟨w.heap.size + 1, 0, none⟩)) = .pointer (some ⟨bb, 0, none⟩) by rw [hbb], show (Value.pointer (some ⟨w.heap.size, 0, none⟩)) = .pointer (some ⟨kb, 0, none⟩) by rw [hkb], ← hw1]
  clear hkb hbb hw1
  go_upto_region 3 with (go_at_call 8; refine (awake_ok _).mono ?_; rintro e w2 ⟨rfl, hb2⟩)
  have HV2 := Lib.hid (HV.out.below hb2)
  have HBW2 := Lib.hid (HBW.out.trans (hb2.mono HBW.out.size))
  clear HV HBW hb2
  rw [show U = (b8 b).toArray from HUU.out, show V = (b8 l ++ [Value.int .i64 x]).toArray from HVV.out]
  go_upto_region 4 with (first | (refine load_blk HV2.out.1 Tryd.underlying24 rfl key_size KL.out rfl rfl rfl ?_) | (go_at_call 10; refine (text_ok l x HL.out.1 HL.out.2 _).mono ?_; rintro e w3 ⟨rfl, hb3⟩) | (go_at_call 9; refine (newk HL.out.1 HL.out.2 x _).mono ?_; rintro e w4 ⟨c, t, bw, o, cap, rfl, hci, hb4⟩))
  have B24 := hb3.trans (hb4.mono hb3.size)
  have HV4 := Lib.hid (HV2.out.below B24)
  have HBW4 := Lib.hid (HBW2.out.trans (B24.mono HBW2.out.size))
  have HCI := Lib.hid hci
  clear HV2 HBW2 hb3 hb4 B24 hci
  obtain ⟨X, hX⟩ : ∃ X, X = back bkT (kW l x) (kn x + 6) b := ⟨_, rfl⟩
  obtain ⟨Y, hY⟩ : ∃ Y, Y = block sbT (kW l x) (kn x + 6) b := ⟨_, rfl⟩
  have hW := kW_by HL.out.2 x
  have XB : Hid (By X) := Lib.hid (by rw [hX]; exact back_by hW HB.out.2 _)
  have XL : Hid (X.length = 16) := Lib.hid (by rw [hX]; exact dec_len _ _ _ _)
  have YB : Hid (By Y) := Lib.hid (by rw [hY]; exact block_by hW HB.out.2 _)
  have YL : Hid (Y.length = 16) := Lib.hid (by rw [hY]; exact block_len _ _ _ _)
  have hXb : block sbT (kW l x) (kn x + 6) X = b := by rw [hX]; exact block_back hW HB.out.1 HB.out.2 _
  have hYb : back bkT (kW l x) (kn x + 6) Y = b := by rw [hY]; exact back_block hW HB.out.1 HB.out.2 _
  have hback : ∀ w', Ci w' c t bw o (4 * (kn x + 7)) cap (kW l x) → Calls Tryd.prog 13 #[.pointer (some ⟨c, 0, none⟩), .agg (b8 b).toArray] w' fun e w'' => e = .returned (.agg (b8 X).toArray) ∧ Below w'.heap.size w' w'' := fun w' h => by rw [hX]; exact backk x HB.out.1 HB.out.2 w' h
  have hblk : ∀ w', Ci w' c t bw o (4 * (kn x + 7)) cap (kW l x) → Calls Tryd.prog 11 #[.pointer (some ⟨c, 0, none⟩), .agg (b8 b).toArray] w' fun e w'' => e = .returned (.agg (b8 Y).toArray) ∧ Below w'.heap.size w' w'' := fun w' h => by rw [hY]; exact blkk x HB.out.1 HB.out.2 w' h
  have hback2 : ∀ w', Ci w' c t bw o (4 * (kn x + 7)) cap (kW l x) → Calls Tryd.prog 13 #[.pointer (some ⟨c, 0, none⟩), .agg (b8 Y).toArray] w' fun e w'' => e = .returned (.agg (b8 b).toArray) ∧ Below w'.heap.size w' w'' := fun w' h => by
    have h2 := backk x YL.out YB.out w' h
    rw [hYb] at h2
    exact h2
  have hblk2 : ∀ w', Ci w' c t bw o (4 * (kn x + 7)) cap (kW l x) → Calls Tryd.prog 11 #[.pointer (some ⟨c, 0, none⟩), .agg (b8 X).toArray] w' fun e w'' => e = .returned (.agg (b8 b).toArray) ∧ Below w'.heap.size w' w'' := fun w' h => by
    have h2 := blkk x XL.out XB.out w' h
    rw [hXb] at h2
    exact h2
  have href : ∀ w', Calls Tryd.prog 12 #[.string (bsL (l.take (ks x))), .string (bsL X)] w' fun e w'' => e = .returned (.string (bsL b)) ∧ Below w'.heap.size w' w'' := fun w' => by
    have h2 := refk HL.out.1 HL.out.2 x XL.out XB.out w'
    rw [hXb] at h2
    exact h2
  have HBACK := Lib.hid hback
  have HBLK := Lib.hid hblk
  have HBACK2 := Lib.hid hback2
  have HBLK2 := Lib.hid hblk2
  have HREF := Lib.hid href
  clear hblk hback hblk2 hback2 href hX hY hXb hYb hW YB YL
  have X8 : Hid ((b8 X).length = 16) := Lib.hid (by rw [b8_len]; exact XL.out)
  go_upto_region 6 with fail
  go_upto_region 7 with (first | (refine load_blk HV4.out.2 Tryd.underlying25 rfl blk_size LB.out rfl rfl rfl ?_) | (go_at_call 13; refine (HBACK.out _ HCI.out).mono ?_; rintro e w5 ⟨rfl, hb5⟩; have A5 := Lib.hid (Blk.new w5 25 (b8 z16))) | (refine store_blk A5.out blk_size X8.out rfl (b8_one _) rfl rfl rfl rfl ?_))
  obtain ⟨w6, x6, hw6, hx6⟩ : ∃ w6 x6, w6 = (w5.alloc (.cells (b8 z16).toArray 25)).setRow w5.heap.size (b8 X).toArray ∧ x6 = w5.heap.size := ⟨_, _, rfl, rfl⟩
  have D : Below w4.heap.size w4 w6 := by rw [hw6]; exact hb5.trans ((below_row (below1 w5 _) _ _ (Nat.le_refl _)).mono hb5.size)
  have A6 : Blk w6 x6 25 (b8 X) := by rw [hw6, hx6]; exact A5.out.setRow _
  rw [show w5.alloc (Obj.cells #[Value.int .u8 0, Value.int .u8 0, Value.int .u8 0, Value.int .u8 0, Value.int .u8 0, Value.int .u8 0, Value.int .u8 0, Value.int .u8 0, Value.int .u8 0, Value.int .u8 0, Value.int .u8 0, Value.int .u8 0, Value.int .u8 0, Value.int .u8 0, Value.int .u8 0, Value.int .u8 0] 25) = w5.alloc (.cells (b8 z16).toArray 25) from rfl, ← hw6, ← hx6]
  have D6 := below_drewN (Below.refl w6.heap.size w6) 1
  have D46 := D.trans (D6.mono D.size)
  have HV6 := Lib.hid (HV4.out.below D46)
  have HX6 := Lib.hid (A6.below D6 A6.lt)
  have HC6 := Lib.hid (HCI.out.below D46)
  have HW6 := Lib.hid (HBW4.out.trans (D46.mono HBW4.out.size))
  clear hw6 hx6 D A6 D6 D46 A5 hb5 HV4 HBW4 HCI
  have hst : Hid (∀ w', Below w6.drew.heap.size w6.drew w' → (convert 34 9 (.slice (some ⟨x6, 0, none⟩) 16 16)).run Tryd.prog w' = .ok (.string (bsL X)) w') := Lib.hid fun w' hw' => by
    have h := (HX6.out.below hw' HX6.out.lt).str XB.out (by rw [XL.out]; decide)
    rw [XL.out] at h
    exact h
  have hsb : Hid (∀ w', Below w6.drew.heap.size w6.drew w' → (convert 34 9 (.slice (some ⟨bb, 0, none⟩) 16 16)).run Tryd.prog w' = .ok (.string (bsL b)) w') := Lib.hid fun w' hw' => by
    have h := (HV6.out.below hw').2.str HB.out.2 (by rw [HB.out.1]; decide)
    rw [HB.out.1] at h
    exact h
  have HEQ := Lib.hid (fun w' => eq16 w' b HB.out.1)
  (refine wp_region_quiet_tail (C := fun w' => Below w6.drew.heap.size w6.drew w') 24 (by kernel_rfl) (by kernel_rfl) (Below.refl _ _) ?_; simp only [List.take_succ_cons, List.take_zero, List.drop_succ_cons, List.drop_zero])
  ((with_reducible refine wpQuiet_step (fun K hK => ?_)); refine quiet_plainG (.pointer (some ⟨c, 0, none⟩)) (by first | rfl | simp [Region.wanted, yielded]) (fun w' hw' => by go_simp) ?_; go_simp; (with_reducible apply hK); clear hK K)
  ((with_reducible refine wpQuiet_step (fun K hK => ?_)); refine quiet_plainG (.pointer (some ⟨c, 0, none⟩)) (by first | rfl | simp [Region.wanted, yielded]) (fun w' hw' => by go_simp) ?_; go_simp; (with_reducible apply hK); clear hK K)
  ((with_reducible refine wpQuiet_step (fun K hK => ?_)); refine quiet_loadB (fun w' hw' => (HV6.out.below hw').2) Tryd.underlying25 rfl blk_size LB.out (by first | rfl | simp [Region.wanted, yielded]) rfl (by go_simp) ?_; go_simp; (with_reducible apply hK); clear hK K)
  ((with_reducible refine wpQuiet_step (fun K hK => ?_)); refine quiet_callG (.agg (b8 Y).toArray) 11 #[.pointer (some ⟨c, 0, none⟩), .agg (b8 b).toArray] (by first | rfl | simp [Region.wanted, yielded]) (fun w' => by go_simp) (fun w' hw' => (HBLK.out w' (HC6.out.below hw')).mono (by rintro e w'' ⟨rfl, hb⟩; exact ⟨rfl, hw'.trans (hb.mono hw'.size)⟩)) ?_; go_simp; (with_reducible apply hK); clear hK K)
  ((with_reducible refine wpQuiet_step (fun K hK => ?_)); refine quiet_callG (.agg (b8 b).toArray) 13 #[.pointer (some ⟨c, 0, none⟩), .agg (b8 Y).toArray] (by first | rfl | simp [Region.wanted, yielded]) (fun w' => by go_simp) (fun w' hw' => (HBACK2.out w' (HC6.out.below hw')).mono (by rintro e w'' ⟨rfl, hb⟩; exact ⟨rfl, hw'.trans (hb.mono hw'.size)⟩)) ?_; go_simp; (with_reducible apply hK); clear hK K)
  ((with_reducible refine wpQuiet_step (fun K hK => ?_)); refine quiet_loadB (fun w' hw' => (HV6.out.below hw').2) Tryd.underlying25 rfl blk_size LB.out (by first | rfl | simp [Region.wanted, yielded]) rfl (by go_simp) ?_; go_simp; (with_reducible apply hK); clear hK K)
  ((with_reducible refine wpQuiet_step (fun K hK => ?_)); refine quiet_plainG (.bool true) (by first | rfl | simp [Region.wanted, yielded]) (fun w' hw' => by have e := HEQ.out w'; go_simp; try simp [e]) ?_; go_simp; (with_reducible apply hK); clear hK K)
  ((with_reducible refine wpQuiet_step (fun K hK => ?_)); refine quiet_plainG (.bool true) (by first | rfl | simp [Region.wanted, yielded]) (fun w' hw' => by go_simp) ?_; go_simp; (with_reducible apply hK); clear hK K)
  ((with_reducible refine wpQuiet_step (fun K hK => ?_)); refine quiet_plainG (.pointer (some ⟨c, 0, none⟩)) (by first | rfl | simp [Region.wanted, yielded]) (fun w' hw' => by go_simp) ?_; go_simp; (with_reducible apply hK); clear hK K)
  ((with_reducible refine wpQuiet_step (fun K hK => ?_)); refine quiet_loadB (fun w' hw' => (HX6.out.below hw' HX6.out.lt)) Tryd.underlying25 rfl blk_size X8.out (by first | rfl | simp [Region.wanted, yielded]) rfl (by go_simp) ?_; go_simp; (with_reducible apply hK); clear hK K)
  ((with_reducible refine wpQuiet_step (fun K hK => ?_)); refine quiet_callG (.agg (b8 b).toArray) 11 #[.pointer (some ⟨c, 0, none⟩), .agg (b8 X).toArray] (by first | rfl | simp [Region.wanted, yielded]) (fun w' => by go_simp) (fun w' hw' => (HBLK2.out w' (HC6.out.below hw')).mono (by rintro e w'' ⟨rfl, hb⟩; exact ⟨rfl, hw'.trans (hb.mono hw'.size)⟩)) ?_; go_simp; (with_reducible apply hK); clear hK K)
  ((with_reducible refine wpQuiet_step (fun K hK => ?_)); refine quiet_loadB (fun w' hw' => (HV6.out.below hw').2) Tryd.underlying25 rfl blk_size LB.out (by first | rfl | simp [Region.wanted, yielded]) rfl (by go_simp) ?_; go_simp; (with_reducible apply hK); clear hK K)
  ((with_reducible refine wpQuiet_step (fun K hK => ?_)); refine quiet_plainG (.bool true) (by first | rfl | simp [Region.wanted, yielded]) (fun w' hw' => by have e := HEQ.out w'; go_simp; try simp [e]) ?_; go_simp; (with_reducible apply hK); clear hK K)
  ((with_reducible refine wpQuiet_step (fun K hK => ?_)); refine quiet_plainG (.bool true) (by first | rfl | simp [Region.wanted, yielded]) (fun w' hw' => by go_simp) ?_; go_simp; (with_reducible apply hK); clear hK K)
  ((with_reducible refine wpQuiet_step (fun K hK => ?_)); refine quiet_plainG (.bool true) (by first | rfl | simp [Region.wanted, yielded]) (fun w' hw' => by go_simp) ?_; go_simp; (with_reducible apply hK); clear hK K)
  ((with_reducible refine wpQuiet_step (fun K hK => ?_)); refine quiet_loadB (fun w' hw' => (HV6.out.below hw').1) Tryd.underlying24 rfl key_size KL.out (by first | rfl | simp [Region.wanted, yielded]) rfl (by go_simp) ?_; go_simp; (with_reducible apply hK); clear hK K)
  ((with_reducible refine wpQuiet_step (fun K hK => ?_)); refine quiet_callG (.string (bsL (l.take (ks x)))) 10 #[.agg (b8 l ++ [Value.int .i64 x]).toArray] (by first | rfl | simp [Region.wanted, yielded]) (fun w' => by go_simp) (fun w' hw' => (text_ok l x HL.out.1 HL.out.2 w').mono (by rintro e w'' ⟨rfl, hb⟩; exact ⟨rfl, hw'.trans (hb.mono hw'.size)⟩)) ?_; go_simp; (with_reducible apply hK); clear hK K)
  ((with_reducible refine wpQuiet_step (fun K hK => ?_)); refine quiet_plainG (.slice (some ⟨x6, 0, none⟩) 16 16) (by first | rfl | simp [Region.wanted, yielded]) (fun w' hw' => by go_simp) ?_; go_simp; (with_reducible apply hK); clear hK K)
  ((with_reducible refine wpQuiet_step (fun K hK => ?_)); refine quiet_plainG (.string (bsL X)) (by first | rfl | simp [Region.wanted, yielded]) (fun w' hw' => by have e := hst.out w' hw'; go_simp) ?_; go_simp; (with_reducible apply hK); clear hK K)
  ((with_reducible refine wpQuiet_step (fun K hK => ?_)); refine quiet_callG (.string (bsL b)) 12 #[.string (bsL (l.take (ks x))), .string (bsL X)] (by first | rfl | simp [Region.wanted, yielded]) (fun w' => by go_simp) (fun w' hw' => (HREF.out w').mono (by rintro e w'' ⟨rfl, hb⟩; exact ⟨rfl, hw'.trans (hb.mono hw'.size)⟩)) ?_; go_simp; (with_reducible apply hK); clear hK K)
  ((with_reducible refine wpQuiet_step (fun K hK => ?_)); refine quiet_plainG (.slice (some ⟨bb, 0, none⟩) 16 16) (by first | rfl | simp [Region.wanted, yielded]) (fun w' hw' => by go_simp) ?_; go_simp; (with_reducible apply hK); clear hK K)
  ((with_reducible refine wpQuiet_step (fun K hK => ?_)); refine quiet_plainG (.string (bsL b)) (by first | rfl | simp [Region.wanted, yielded]) (fun w' hw' => by have e := hsb.out w' hw'; go_simp) ?_; go_simp; (with_reducible apply hK); clear hK K)
  ((with_reducible refine wpQuiet_step (fun K hK => ?_)); refine quiet_plainG (.bool true) (by first | rfl | simp [Region.wanted, yielded]) (fun w' hw' => by go_simp) ?_; go_simp; (with_reducible apply hK); clear hK K)
  ((with_reducible refine wpQuiet_step (fun K hK => ?_)); refine quiet_plainG (.bool true) (by first | rfl | simp [Region.wanted, yielded]) (fun w' hw' => by go_simp) ?_; go_simp; (with_reducible apply hK); clear hK K)
  refine wpQuiet_nil ?_
  intro w7 hw7
  go_wp2_with fail
  go_ret
  exact ⟨rfl, HW6.out.trans (hw7.mono HW6.out.size)⟩
end Go.Proofs.YteleedcpepifjaaDoor
