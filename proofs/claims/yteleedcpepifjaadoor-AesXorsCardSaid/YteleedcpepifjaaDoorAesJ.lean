/-
The walk of AesXors.
-/
import Derived.Test.YteleedcpepifjaaDoorAesZ
import Derived.Test.YteleedcpepifjaaDoorCut
namespace Go.Proofs.YteleedcpepifjaaDoor
open Go.RowKit AesP
set_option maxRecDepth 100000
set_option maxHeartbeats 4000000 in
theorem xors_law (l b : List Nat) (x : Int) (hl : l.length = 32) (hlb : By l) (hb : b.length = 16) (hbb : By b) (s0 : ByteArray) (w : World) : Calls Tryd.prog 5 #[kv l x, .agg (b8 b).toArray, .string s0] w fun e w' => e = .returned (.bool true) ∧ Below w.heap.size w w' := by
  have HV := Lib.hid (LV.new w l b x)
  have KL := Lib.hid (kv_len hl x)
  have HBW : Hid (Below w.heap.size w ((w.alloc (.cells (b8 l ++ [Value.int .i64 x]).toArray 24)).alloc (.cells (b8 b).toArray 25))) := Lib.hid ((below1 w _).trans ((below1 _ _).mono (below1 w _).size))
  have LB : Hid ((b8 b).length = 16) := Lib.hid (by rw [b8_len]; exact hb)
  have HL := Lib.hid (And.intro hl hlb)
  have HB := Lib.hid (And.intro hb hbb)
  unfold kv
  obtain ⟨V, hV⟩ : ∃ V, V = (b8 l ++ [Value.int .i64 x]).toArray := ⟨_, rfl⟩
  obtain ⟨U, hU⟩ : ∃ U, U = (b8 b).toArray := ⟨_, rfl⟩
  have HVV := Lib.hid hV
  have HUU := Lib.hid hU
  rw [← hV, ← hU]
  rw [← hV, ← hU] at HV HBW
  clear hl hlb hb hbb hV hU
  go_enter Tryd.func5, Tryd.ntmps5
  go_upto_region 1 with fail
  obtain ⟨kb, hkb⟩ : ∃ kb, kb = w.heap.size := ⟨_, rfl⟩
  obtain ⟨bb, hbb⟩ : ∃ bb, bb = w.heap.size + 1 := ⟨_, rfl⟩
  obtain ⟨w1, hw1⟩ : ∃ w1, w1 = (w.alloc (Obj.cells V 24)).alloc (Obj.cells U 25) := ⟨_, rfl⟩
  rw [← hw1, ← hbb, ← hkb] at HV
  rw [← hw1] at HBW
  rw [show (Value.pointer (some ⟨w.heap.size + 1, 0, none⟩)) = .pointer (some ⟨bb, 0, none⟩) by rw [hbb], show (Value.pointer (some ⟨w.heap.size, 0, none⟩)) = .pointer (some ⟨kb, 0, none⟩) by rw [hkb], ← hw1]
  clear hkb hbb hw1
  go_upto_region 3 with (go_at_call 8; refine (awake_ok _).mono ?_; rintro e w2 ⟨rfl, hb2⟩)
  have HV2 := Lib.hid (HV.out.below hb2)
  have HBW2 := Lib.hid (HBW.out.trans (hb2.mono HBW.out.size))
  clear HV HBW hb2
  rw [show U = (b8 b).toArray from HUU.out, show V = (b8 l ++ [Value.int .i64 x]).toArray from HVV.out]
  go_upto_region 4 with (go_at_call 14; refine (cut_ok s0 80 _).mono ?_; rintro e w2' ⟨rfl, rfl⟩)
  obtain ⟨s, hs⟩ : ∃ s, s = s0.extract 0 80 := ⟨_, rfl⟩
  have hsz : s.size ≤ 80 := by rw [hs, ByteArray.size_extract]; omega
  rw [← hs]
  clear hs
  go_upto_region 5 with (first | (refine load_blk HV2.out.1 Tryd.underlying24 rfl key_size KL.out rfl rfl rfl ?_) | (go_at_call 10; refine (text_ok l x HL.out.1 HL.out.2 _).mono ?_; rintro e w3 ⟨rfl, hb3⟩) | (go_at_call 9; refine (newk HL.out.1 HL.out.2 x _).mono ?_; rintro e w4 ⟨c, t, bw, o, cap, rfl, hci, hb4⟩))
  have B24 := hb3.trans (hb4.mono hb3.size)
  have HV4 := Lib.hid (HV2.out.below B24)
  have HBW4 := Lib.hid (HBW2.out.trans (B24.mono HBW2.out.size))
  have HCI := Lib.hid hci
  clear HV2 HBW2 hb3 hb4 B24 hci
  have HSZ := Lib.hid hsz
  clear hsz
  obtain ⟨X, hX⟩ : ∃ X, X = xorL (kW l x) (kn x + 6) b (natL s) := ⟨_, rfl⟩
  have XB : Hid (By X) := Lib.hid (by rw [hX]; exact xorL_by (kW_by HL.out.2 x) HB.out.2 (natL_by s) _)
  have hXs : (bsL X).size ≤ 1000 := by rw [bsL_len, hX, xorL_len, natL_len]; have := HSZ.out; omega
  have hxor : ∀ w', Ci w' c t bw o (4 * (kn x + 7)) cap (kW l x) → Calls Tryd.prog 15 #[.pointer (some ⟨c, 0, none⟩), .agg (b8 b).toArray, .string s] w' fun e w'' => e = .returned (.string (bsL X)) ∧ Below w'.heap.size w' w'' := fun w' h => by rw [hX]; exact pxor_ok HL.out.2 x HB.out.1 HB.out.2 s (by have := HSZ.out; omega) w' h
  have hxor2 : ∀ w', Ci w' c t bw o (4 * (kn x + 7)) cap (kW l x) → Calls Tryd.prog 15 #[.pointer (some ⟨c, 0, none⟩), .agg (b8 b).toArray, .string (bsL X)] w' fun e w'' => e = .returned (.string s) ∧ Below w'.heap.size w' w'' := fun w' h => by
    have h2 := pxor_ok HL.out.2 x HB.out.1 HB.out.2 (bsL X) hXs w' h
    rw [natL_bsL XB.out, hX, xorL_xorL, bsL_natL] at h2
    rw [hX]
    exact h2
  have href : ∀ w', Calls Tryd.prog 16 #[.string (bsL (l.take (ks x))), .string (bsL b), .string s] w' fun e w'' => e = .returned (.string (bsL X)) ∧ Below w'.heap.size w' w'' := fun w' => by rw [hX]; exact xref_ok HL.out.1 HL.out.2 x HB.out.1 HB.out.2 s (by have := HSZ.out; omega) w'
  have HXOR := Lib.hid hxor
  have HXOR2 := Lib.hid hxor2
  have HREF := Lib.hid href
  clear hxor hxor2 href hX hXs
  go_upto_region 7 with fail
  go_upto_region 8 with (first | (refine load_blk HV4.out.2 Tryd.underlying25 rfl blk_size LB.out rfl rfl rfl ?_) | (go_at_call 15; refine (HXOR.out _ HCI.out).mono ?_; rintro e w6 ⟨rfl, hb5⟩))
  have D6 := below_drewN (Below.refl w6.heap.size w6) 1
  have D46 := hb5.trans (D6.mono hb5.size)
  have HV6 := Lib.hid (HV4.out.below D46)
  have HC6 := Lib.hid (HCI.out.below D46)
  have HW6 := Lib.hid (HBW4.out.trans (D46.mono HBW4.out.size))
  clear D6 D46 hb5 HV4 HBW4 HCI
  have hsb : Hid (∀ w', Below w6.drew.heap.size w6.drew w' → (convert 34 9 (.slice (some ⟨bb, 0, none⟩) 16 16)).run Tryd.prog w' = .ok (.string (bsL b)) w') := Lib.hid fun w' hw' => by
    have h := (HV6.out.below hw').2.str HB.out.2 (by rw [HB.out.1]; decide)
    rw [HB.out.1] at h
    exact h
  (refine wp_region_quiet_tail (C := fun w' => Below w6.drew.heap.size w6.drew w') 16 (by kernel_rfl) (by kernel_rfl) (Below.refl _ _) ?_; simp only [List.take_succ_cons, List.take_zero, List.drop_succ_cons, List.drop_zero])
  ((with_reducible refine wpQuiet_step (fun K hK => ?_)); refine quiet_plainG (.string (bsL X)) (by first | rfl | simp [Region.wanted, yielded]) (fun w' hw' => by go_simp) ?_; go_simp; (with_reducible apply hK); clear hK K)
  ((with_reducible refine wpQuiet_step (fun K hK => ?_)); refine quiet_loadB (fun w' hw' => (HV6.out.below hw').1) Tryd.underlying24 rfl key_size KL.out (by first | rfl | simp [Region.wanted, yielded]) rfl (by go_simp) ?_; go_simp; (with_reducible apply hK); clear hK K)
  ((with_reducible refine wpQuiet_step (fun K hK => ?_)); refine quiet_callG (.string (bsL (l.take (ks x)))) 10 #[.agg (b8 l ++ [Value.int .i64 x]).toArray] (by first | rfl | simp [Region.wanted, yielded]) (fun w' => by go_simp) (fun w' hw' => (text_ok l x HL.out.1 HL.out.2 w').mono (by rintro e w'' ⟨rfl, hb⟩; exact ⟨rfl, hw'.trans (hb.mono hw'.size)⟩)) ?_; go_simp; (with_reducible apply hK); clear hK K)
  ((with_reducible refine wpQuiet_step (fun K hK => ?_)); refine quiet_plainG (.slice (some ⟨bb, 0, none⟩) 16 16) (by first | rfl | simp [Region.wanted, yielded]) (fun w' hw' => by go_simp) ?_; go_simp; (with_reducible apply hK); clear hK K)
  ((with_reducible refine wpQuiet_step (fun K hK => ?_)); refine quiet_plainG (.string (bsL b)) (by first | rfl | simp [Region.wanted, yielded]) (fun w' hw' => by have e := hsb.out w' hw'; go_simp) ?_; go_simp; (with_reducible apply hK); clear hK K)
  ((with_reducible refine wpQuiet_step (fun K hK => ?_)); refine quiet_plainG (.string s) (by first | rfl | simp [Region.wanted, yielded]) (fun w' hw' => by go_simp) ?_; go_simp; (with_reducible apply hK); clear hK K)
  ((with_reducible refine wpQuiet_step (fun K hK => ?_)); refine quiet_callG (.string (bsL X)) 16 #[.string (bsL (l.take (ks x))), .string (bsL b), .string s] (by first | rfl | simp [Region.wanted, yielded]) (fun w' => by go_simp) (fun w' hw' => (HREF.out w').mono (by rintro e w'' ⟨rfl, hb⟩; exact ⟨rfl, hw'.trans (hb.mono hw'.size)⟩)) ?_; go_simp; (with_reducible apply hK); clear hK K)
  ((with_reducible refine wpQuiet_step (fun K hK => ?_)); refine quiet_plainG (.bool true) (by first | rfl | simp [Region.wanted, yielded]) (fun w' hw' => by go_simp) ?_; go_simp; (with_reducible apply hK); clear hK K)
  ((with_reducible refine wpQuiet_step (fun K hK => ?_)); refine quiet_plainG (.bool true) (by first | rfl | simp [Region.wanted, yielded]) (fun w' hw' => by go_simp) ?_; go_simp; (with_reducible apply hK); clear hK K)
  ((with_reducible refine wpQuiet_step (fun K hK => ?_)); refine quiet_plainG (.pointer (some ⟨c, 0, none⟩)) (by first | rfl | simp [Region.wanted, yielded]) (fun w' hw' => by go_simp) ?_; go_simp; (with_reducible apply hK); clear hK K)
  ((with_reducible refine wpQuiet_step (fun K hK => ?_)); refine quiet_loadB (fun w' hw' => (HV6.out.below hw').2) Tryd.underlying25 rfl blk_size LB.out (by first | rfl | simp [Region.wanted, yielded]) rfl (by go_simp) ?_; go_simp; (with_reducible apply hK); clear hK K)
  ((with_reducible refine wpQuiet_step (fun K hK => ?_)); refine quiet_plainG (.string (bsL X)) (by first | rfl | simp [Region.wanted, yielded]) (fun w' hw' => by go_simp) ?_; go_simp; (with_reducible apply hK); clear hK K)
  ((with_reducible refine wpQuiet_step (fun K hK => ?_)); refine quiet_callG (.string s) 15 #[.pointer (some ⟨c, 0, none⟩), .agg (b8 b).toArray, .string (bsL X)] (by first | rfl | simp [Region.wanted, yielded]) (fun w' => by go_simp) (fun w' hw' => (HXOR2.out w' (HC6.out.below hw')).mono (by rintro e w'' ⟨rfl, hb⟩; exact ⟨rfl, hw'.trans (hb.mono hw'.size)⟩)) ?_; go_simp; (with_reducible apply hK); clear hK K)
  ((with_reducible refine wpQuiet_step (fun K hK => ?_)); refine quiet_plainG (.string s) (by first | rfl | simp [Region.wanted, yielded]) (fun w' hw' => by go_simp) ?_; go_simp; (with_reducible apply hK); clear hK K)
  ((with_reducible refine wpQuiet_step (fun K hK => ?_)); refine quiet_plainG (.bool true) (by first | rfl | simp [Region.wanted, yielded]) (fun w' hw' => by go_simp) ?_; go_simp; (with_reducible apply hK); clear hK K)
  ((with_reducible refine wpQuiet_step (fun K hK => ?_)); refine quiet_plainG (.bool true) (by first | rfl | simp [Region.wanted, yielded]) (fun w' hw' => by go_simp) ?_; go_simp; (with_reducible apply hK); clear hK K)
  refine wpQuiet_nil ?_
  intro w7 hw7
  go_wp2_with fail
  go_ret
  exact ⟨rfl, HW6.out.trans (hw7.mono HW6.out.size)⟩
end Go.Proofs.YteleedcpepifjaaDoor
