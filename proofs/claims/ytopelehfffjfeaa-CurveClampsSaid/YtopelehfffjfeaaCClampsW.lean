/-
CurveClamps, walked.
-/
import Derived.Test.YtopelehfffjfeaaCClamps
namespace Go.Proofs.Ytopelehfffjfeaa
open Go.RowKit

theorem and7_mod (y : Nat) (hy : y < 256) : bits .and .u8 (y : Int) 7 = (y : Int) % 8 := by
  have : ∀ y : Fin 256, bits .and .u8 ((y.val : Nat) : Int) 7 = ((y.val : Nat) : Int) % 8 := by decide +kernel
  exact this ⟨y, hy⟩
set_option maxHeartbeats 8000000 in
set_option maxRecDepth 100000 in
theorem clamps_law (a p : List UInt8) (ha : a.length = 32) (hp : p.length = 32) (y : Nat) (hy : y < 256) (w : World) : Calls Try.prog 11 #[.agg (bvals a).toArray, .agg (bvals p).toArray, .int .u8 (y : Nat)] w (Tells w true) := by
  have h0 := (a.getD 0 0).toNat_lt
  have h31 := (a.getD 31 0).toNat_lt
  have hz := (p.getD 31 0).toNat_lt
  obtain ⟨m0, hm0, E0, R0⟩ := xor_low (a.getD 0 0).toNat y h0 hy
  obtain ⟨m31, hm31, E31, R31⟩ := xor_high (a.getD 31 0).toNat y h31 hy
  obtain ⟨mp, hmp, Ep, Rp⟩ := xor_top (p.getD 31 0).toNat y hz hy
  rw [and7_mod y hy] at E0
  have KS := KN_same ha hm0 hm31 R0 R31
  have FS := fpOf_same hp hmp Rp
  have e31 : (a.set 0 (UInt8.ofNat m0)).getD 31 0 = a.getD 31 0 := by rw [List.getD_eq_getElem?_getD, List.getElem?_set_ne (by omega), ← List.getD_eq_getElem?_getD]
  obtain ⟨c, hc⟩ : ∃ c, c = a.set 0 (UInt8.ofNat m0) := ⟨_, rfl⟩
  rw [← hc] at e31 KS
  obtain ⟨b, hb⟩ : ∃ b, b = c.set 31 (UInt8.ofNat m31) := ⟨_, rfl⟩
  obtain ⟨q, hq⟩ : ∃ q, q = p.set 31 (UInt8.ofNat mp) := ⟨_, rfl⟩
  rw [← hb] at KS
  rw [← hq] at FS
  have Lc : c.length = 32 := by rw [hc, List.length_set, ha]
  have Lb : b.length = 32 := by rw [hb, List.length_set, Lc]
  have Lq : q.length = 32 := by rw [hq, List.length_set, hp]
  have CM1 := fun w' => multC a p ha hp w'
  have CM2 := fun w' => multC b q Lb Lq w'
  have CB1 := fun w' => base_ok a ha w'
  have CB2 := fun w' => base_ok b Lb w'
  have e1 : multB b q = multB a p := by unfold multB; rw [KS, FS]
  have e2 : okB b q = okB a p := by unfold okB; rw [KS, FS]
  have e3 : multB b nineB = multB a nineB := by unfold multB; rw [KS]
  rw [e1, e2] at CM2
  rw [e3] at CB2
  clear e1 e2 e3 KS FS R0 R31 Rp
  have LX := multB_len a p
  have LBa := multB_len a nineB
  generalize multB a p = X at *
  generalize okB a p = k at *
  generalize multB a nineB = Ba at *
  have c0 := bvals_get a 0 (by omega)
  have c31 := bvals_get c 31 (by omega)
  have cz := bvals_get p 31 (by omega)
  rw [e31] at c31
  generalize (a.getD 0 0).toNat = x0 at *
  generalize (a.getD 31 0).toNat = x31 at *
  generalize (p.getD 31 0).toNat = xz at *
  have HC := Lib.hid hc
  have HB := Lib.hid hb
  have HQ := Lib.hid hq
  have hqX := fun w' => (eq32 w' X X LX LX).trans (by rw [decide_eq_true rfl])
  have hqB := fun w' => (eq32 w' Ba Ba LBa LBa).trans (by rw [decide_eq_true rfl])
  clear hc hb hq e31
  go_enter Try.func11, Try.ntmps11
  go_upto_region 1 with fail
  refine wp_gen (fun wx => Blk wx w.heap.size tB (bvals a) ∧ Blk wx (w.heap.size + 1) tB (bvals p) ∧ Below w.heap.size w wx) ⟨(Blk.new w _ (bvals a)).alloc _, Blk.new2 _ _ _ (bvals p), below2 _ _ _⟩ ?_
  rintro w1 ⟨Oa, Op, BW⟩
  go_wp2_with fail
  refine (awake_ok6 w1).mono ?_
  rintro e w2 ⟨rfl, hb2⟩
  replace Oa := Oa.below hb2 Oa.lt
  replace Op := Op.below hb2 Op.lt
  replace BW := BW.trans (hb2.mono BW.size)
  clear hb2
  go_upto_region 3 with fail
  have Dr : Below w2.heap.size w2 w2.drew := below_drewN (Below.refl _ _) 1
  have DOa := Oa.below Dr Oa.lt
  have DOp := Op.below Dr Op.lt
  (refine wp_region_drift2 2 (by kernel_rfl) (by kernel_rfl) ?_; simp only [List.take_succ_cons, List.take_zero, List.drop_succ_cons, List.drop_zero])
  (refine drift_step (fun K hK => ?_); refine drift_load (fun w' hw' => DOa.below hw' DOa.lt) Try.underlying55 rfl arr32_size (blen ha) (by first | rfl | simp [Region.wanted, yielded]) rfl (by go_simp) ?_; go_simp; (with_reducible apply hK); clear hK K)
  (refine drift_step (fun K hK => ?_); refine drift_load (fun w' hw' => DOp.below hw' DOp.lt) Try.underlying55 rfl arr32_size (blen hp) (by first | rfl | simp [Region.wanted, yielded]) rfl (by go_simp) ?_; go_simp; (with_reducible apply hK); clear hK K)
  refine drift_nil ?_
  intro listed hT
  refine wp_twoC (t := tB) (sz := 32) (z := zb) (l1 := bvals a) (l2 := bvals p) run_alloc_ar arr32_size rfl rfl rfl rfl rfl rfl rfl rfl rfl rfl rfl rfl rfl rfl rfl rfl rfl (by decide) (blen ha) (blen hp) (bone a) (bone p) (by intros; go_simp) (by intros; go_simp) (by intros; go_simp) (by intros; go_simp) hT (fun c7 c8 w3 ne78 k7 k8 HN N7 N8 => ?_)
  have HB3 : Below w2.heap.size w2 w3 := Dr.trans (Below.mono HN Dr.size)
  have k7' : w2.heap.size ≤ c7 := Nat.le_trans Dr.size k7
  have k8' : w2.heap.size ≤ c8 := Nat.le_trans Dr.size k8
  replace Oa := Oa.below HB3 Oa.lt
  replace Op := Op.below HB3 Op.lt
  replace BW := BW.trans (HB3.mono BW.size)
  have g1 : w.heap.size + 1 < w2.heap.size := by
    have := DOp.lt
    have hs : w2.drew.heap.size = w2.heap.size := rfl
    omega
  have n7 : w.heap.size + 1 < c7 := by omega
  have n8 : w.heap.size + 1 < c8 := by omega
  clear HB3 Dr DOa DOp HN k7 k8 k7' k8' g1 hT
  go_simp
  have cc := N7.cell 0 _ c0
  have f0 := N7.free 0
  have S0 := N7.bset 0 m0 hm0
  rw [← HC.out] at S0
  go_upto_region 5 with fail
  try rw [E0]
  refine wp_gen (fun wx => Blk wx w.heap.size tB (bvals a) ∧ Blk wx (w.heap.size + 1) tB (bvals p) ∧ Blk wx c7 tB (bvals c) ∧ Blk wx c8 tB (bvals p) ∧ Below w.heap.size w wx) ⟨Oa.far (by omega) _ _, Op.far (by omega) _ _, S0, N8.far (Ne.symm ne78) _ _, below_set' BW _ _ _ (by omega)⟩ ?_
  clear cc f0 S0 Oa Op N7 N8 BW
  rintro w4 ⟨Oa, Op, N7, N8, BW⟩
  have cc := N7.cell 31 _ c31
  have f0 := N7.free 31
  have S0 := N7.bset 31 m31 hm31
  rw [← HB.out] at S0
  go_upto_region 6 with fail
  try rw [E31]
  refine wp_gen (fun wx => Blk wx w.heap.size tB (bvals a) ∧ Blk wx (w.heap.size + 1) tB (bvals p) ∧ Blk wx c7 tB (bvals b) ∧ Blk wx c8 tB (bvals p) ∧ Below w.heap.size w wx) ⟨Oa.far (by omega) _ _, Op.far (by omega) _ _, S0, N8.far (Ne.symm ne78) _ _, below_set' BW _ _ _ (by omega)⟩ ?_
  clear cc f0 S0 Oa Op N7 N8 BW
  rintro w5 ⟨Oa, Op, N7, N8, BW⟩
  have cc := N8.cell 31 _ cz
  have f0 := N8.free 31
  have S0 := N8.bset 31 mp hmp
  rw [← HQ.out] at S0
  go_upto_region 7 with fail
  try rw [Ep]
  refine wp_gen (fun wx => Blk wx w.heap.size tB (bvals a) ∧ Blk wx (w.heap.size + 1) tB (bvals p) ∧ Blk wx c7 tB (bvals b) ∧ Blk wx c8 tB (bvals q) ∧ Below w.heap.size w wx) ⟨Oa.far (by omega) _ _, Op.far (by omega) _ _, N7.far ne78 _ _, S0, below_set' BW _ _ _ (by omega)⟩ ?_
  clear cc f0 S0 Oa Op N7 N8 BW
  rintro w6 ⟨Oa, Op, N7, N8, BW⟩
  clear c0 c31 cz E0 E31 Ep HC HB HQ hm0 hm31 hmp h0 h31 hz hy n7 n8 ne78
  go_wp2_with (first | refine load_ar Oa ha rfl rfl rfl ?_ | refine load_ar Op hp rfl rfl rfl ?_)
  refine (CM1 w6).mono ?_
  rintro e w7 ⟨rfl, hb⟩
  replace Oa := Oa.below hb Oa.lt
  replace Op := Op.below hb Op.lt
  replace N7 := N7.below hb N7.lt
  replace N8 := N8.below hb N8.lt
  replace BW := BW.trans (hb.mono BW.size)
  clear hb
  go_upto_region 8 with (refine new1B rfl rfl rfl rfl rfl LX (by go_simp) (by go_simp) (fun w8 N9 hb => ?_))
  replace Oa := Oa.below hb Oa.lt
  replace Op := Op.below hb Op.lt
  replace N7 := N7.below hb N7.lt
  replace N8 := N8.below hb N8.lt
  replace BW := BW.trans (hb.mono BW.size)
  clear hb
  generalize w7.heap.size = c9 at *
  go_simp
  go_wp2_with (first | refine load_ar N7 Lb rfl rfl rfl ?_ | refine load_ar N8 Lq rfl rfl rfl ?_)
  refine (CM2 w8).mono ?_
  rintro e w9 ⟨rfl, hb⟩
  replace Oa := Oa.below hb Oa.lt
  replace N7 := N7.below hb N7.lt
  replace N9 := N9.below hb N9.lt
  replace BW := BW.trans (hb.mono BW.size)
  clear hb Op N8
  go_upto_region 9 with (refine new1B rfl rfl rfl rfl rfl LX (by go_simp) (by go_simp) (fun w10 N11 hb => ?_))
  replace Oa := Oa.below hb Oa.lt
  replace N7 := N7.below hb N7.lt
  replace N9 := N9.below hb N9.lt
  replace BW := BW.trans (hb.mono BW.size)
  clear hb
  generalize w9.heap.size = c11 at *
  go_simp
  have Dr : Below w10.heap.size w10 w10.drew := below_drewN (Below.refl _ _) 1
  have Da := Oa.below Dr Oa.lt
  have D7 := N7.below Dr N7.lt
  have D9 := N9.below Dr N9.lt
  have D11 := N11.below Dr N11.lt
  have BWd := BW.trans (Dr.mono BW.size)
  have hkk : (k == k) = true := by cases k <;> rfl
  refine region_quiet (C := fun w' => Below w10.drew.heap.size w10.drew w') (by kernel_rfl) (by kernel_rfl) (Below.refl _ _) ?_
  ((with_reducible refine wpQuiet_step (fun K hK => ?_)); refine quiet_loadB (n := 32) (fun w' hw' => D9.below hw' D9.lt) Try.underlying55 rfl arr32_size (blen LX) (by first | rfl | simp [Region.wanted, yielded]) rfl (by go_simp) ?_; go_simp; (with_reducible apply hK); clear hK K)
  ((with_reducible refine wpQuiet_step (fun K hK => ?_)); refine quiet_loadB (n := 32) (fun w' hw' => D11.below hw' D11.lt) Try.underlying55 rfl arr32_size (blen LX) (by first | rfl | simp [Region.wanted, yielded]) rfl (by go_simp) ?_; go_simp; (with_reducible apply hK); clear hK K)
  ((with_reducible refine wpQuiet_step (fun K hK => ?_)); refine quiet_plainG (.bool true) (by first | rfl | simp [Region.wanted, yielded]) (fun w' hw' => by exact run_eqA rfl (by go_simp) (by go_simp) (hqX w')) ?_; go_simp; (with_reducible apply hK); clear hK K)
  ((with_reducible refine wpQuiet_step (fun K hK => ?_)); refine quiet_plainG (.bool true) (by first | rfl | simp [Region.wanted, yielded]) (fun w' hw' => by go_simp) ?_; go_simp; (with_reducible apply hK); clear hK K)
  ((with_reducible refine wpQuiet_step (fun K hK => ?_)); refine quiet_plainG (.bool k) (by first | rfl | simp [Region.wanted, yielded]) (fun w' hw' => by go_simp) ?_; go_simp; (with_reducible apply hK); clear hK K)
  ((with_reducible refine wpQuiet_step (fun K hK => ?_)); refine quiet_plainG (.bool k) (by first | rfl | simp [Region.wanted, yielded]) (fun w' hw' => by go_simp) ?_; go_simp; (with_reducible apply hK); clear hK K)
  ((with_reducible refine wpQuiet_step (fun K hK => ?_)); refine quiet_plainG (.bool true) (by first | rfl | simp [Region.wanted, yielded]) (fun w' hw' => by cases k <;> go_simp) ?_; go_simp; (with_reducible apply hK); clear hK K)
  ((with_reducible refine wpQuiet_step (fun K hK => ?_)); refine quiet_plainG (.bool true) (by first | rfl | simp [Region.wanted, yielded]) (fun w' hw' => by go_simp) ?_; go_simp; (with_reducible apply hK); clear hK K)
  ((with_reducible refine wpQuiet_step (fun K hK => ?_)); refine quiet_plainG (.bool true) (by first | rfl | simp [Region.wanted, yielded]) (fun w' hw' => by go_simp) ?_; go_simp; (with_reducible apply hK); clear hK K)
  ((with_reducible refine wpQuiet_step (fun K hK => ?_)); refine quiet_loadB (n := 32) (fun w' hw' => Da.below hw' Da.lt) Try.underlying55 rfl arr32_size (blen ha) (by first | rfl | simp [Region.wanted, yielded]) rfl (by go_simp) ?_; go_simp; (with_reducible apply hK); clear hK K)
  ((with_reducible refine wpQuiet_step (fun K hK => ?_)); refine quiet_callG (.agg (bvals Ba).toArray) 42 #[.agg (bvals a).toArray] (by first | rfl | simp [Region.wanted, yielded]) (fun w' => by go_simp) (fun w' hw' => (CB1 w').mono (by rintro e w'' ⟨rfl, hb⟩; exact ⟨rfl, hw'.trans (hb.mono hw'.size)⟩)) ?_; go_simp; (with_reducible apply hK); clear hK K)
  ((with_reducible refine wpQuiet_step (fun K hK => ?_)); refine quiet_loadB (n := 32) (fun w' hw' => D7.below hw' D7.lt) Try.underlying55 rfl arr32_size (blen Lb) (by first | rfl | simp [Region.wanted, yielded]) rfl (by go_simp) ?_; go_simp; (with_reducible apply hK); clear hK K)
  ((with_reducible refine wpQuiet_step (fun K hK => ?_)); refine quiet_callG (.agg (bvals Ba).toArray) 42 #[.agg (bvals b).toArray] (by first | rfl | simp [Region.wanted, yielded]) (fun w' => by go_simp) (fun w' hw' => (CB2 w').mono (by rintro e w'' ⟨rfl, hb⟩; exact ⟨rfl, hw'.trans (hb.mono hw'.size)⟩)) ?_; go_simp; (with_reducible apply hK); clear hK K)
  ((with_reducible refine wpQuiet_step (fun K hK => ?_)); refine quiet_plainG (.bool true) (by first | rfl | simp [Region.wanted, yielded]) (fun w' hw' => by exact run_eqA rfl (by go_simp) (by go_simp) (hqB w')) ?_; go_simp; (with_reducible apply hK); clear hK K)
  ((with_reducible refine wpQuiet_step (fun K hK => ?_)); refine quiet_plainG (.bool true) (by first | rfl | simp [Region.wanted, yielded]) (fun w' hw' => by go_simp) ?_; go_simp; (with_reducible apply hK); clear hK K)
  ((with_reducible refine wpQuiet_step (fun K hK => ?_)); refine quiet_plainG (.bool true) (by first | rfl | simp [Region.wanted, yielded]) (fun w' hw' => by go_simp) ?_; go_simp; (with_reducible apply hK); clear hK K)
  refine wpQuiet_nil ?_
  intro w11 hw11
  go_simp
  go_wp2_with fail
  go_ret
  exact ⟨rfl, BWd.trans (hw11.mono BWd.size)⟩
end Go.Proofs.Ytopelehfffjfeaa
