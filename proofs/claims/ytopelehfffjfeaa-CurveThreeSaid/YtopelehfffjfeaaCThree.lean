/-
CurveThree, walked.
-/
import Derived.Test.YtopelehfffjfeaaCLaws
namespace Go.Proofs.Ytopelehfffjfeaa
open Go.RowKit

set_option maxHeartbeats 8000000 in
set_option maxRecDepth 100000 in
theorem three_law (a b c : List UInt8) (ha : a.length = 32) (hb' : b.length = 32) (hc : c.length = 32) (w : World) : Calls Try.prog 12 #[.agg (bvals a).toArray, .agg (bvals b).toArray, .agg (bvals c).toArray] w (Tells w true) := by
  have CBa := fun w' => base_ok a ha w'
  have CBc := fun w' => base_ok c hc w'
  have CMba := fun w' => multC b (multB a nineB) hb' (multB_len _ _) w'
  have CMac := fun w' => multC a (multB c nineB) ha (multB_len _ _) w'
  have CMcX := fun w' => multC c (multB b (multB a nineB)) hc (multB_len _ _) w'
  have CMbZ := fun w' => multC b (multB a (multB c nineB)) hb' (multB_len _ _) w'
  have LX := multB_len b (multB a nineB)
  have LZ := multB_len a (multB c nineB)
  have LY := multB_len c (multB b (multB a nineB))
  rw [two_ok hb' ha] at CMba
  rw [two_ok ha hc] at CMac
  rw [← three_eq ha hb' hc] at CMbZ
  generalize okB c (multB b (multB a nineB)) = ok1 at *
  generalize okB b (multB a (multB c nineB)) = ok2 at *
  generalize multB c (multB b (multB a nineB)) = Y at *
  generalize multB b (multB a nineB) = X at *
  generalize multB a (multB c nineB) = Z at *
  generalize multB a nineB = Ba at *
  generalize multB c nineB = Bc at *
  go_enter Try.func12, Try.ntmps12
  go_upto_region 1 with fail
  refine wp_gen (fun wx => Blk wx w.heap.size tB (bvals a) ∧ Blk wx (w.heap.size + 1) tB (bvals b) ∧ Blk wx (w.heap.size + 2) tB (bvals c) ∧ Below w.heap.size w wx) ⟨((Blk.new w _ (bvals a)).alloc _).alloc _, (Blk.new2 _ _ _ (bvals b)).alloc _, Blk.new3 _ _ _ _ (bvals c), below3 _ _ _ _⟩ ?_
  rintro w1 ⟨Oa, Ob, Oc, BW⟩
  go_wp2_with fail
  refine (awake_ok6 w1).mono ?_
  rintro e w2 ⟨rfl, hb2⟩
  replace Oa := Oa.below hb2 Oa.lt
  replace Ob := Ob.below hb2 Ob.lt
  replace Oc := Oc.below hb2 Oc.lt
  replace BW := BW.trans (hb2.mono BW.size)
  clear hb2
  go_upto_region 3 with fail
  have Dr : Below w2.heap.size w2 w2.drew := below_drewN (Below.refl _ _) 1
  have DOa := Oa.below Dr Oa.lt
  have DOb := Ob.below Dr Ob.lt
  have DOc := Oc.below Dr Oc.lt
  (refine wp_region_drift 7 (by kernel_rfl) (by kernel_rfl) ?_; simp only [List.take_succ_cons, List.take_zero, List.drop_succ_cons, List.drop_zero])
  (refine drift_step (fun K hK => ?_); refine drift_load (fun w' hw' => DOb.below hw' DOb.lt) Try.underlying55 rfl arr32_size (blen hb') (by first | rfl | simp [Region.wanted, yielded]) rfl (by go_simp) ?_; go_simp; (with_reducible apply hK); clear hK K)
  (refine drift_step (fun K hK => ?_); refine drift_load (fun w' hw' => DOa.below hw' DOa.lt) Try.underlying55 rfl arr32_size (blen ha) (by first | rfl | simp [Region.wanted, yielded]) rfl (by go_simp) ?_; go_simp; (with_reducible apply hK); clear hK K)
  (refine drift_step (fun K hK => ?_); refine drift_call (.agg (bvals Ba).toArray) 42 #[.agg (bvals a).toArray] (by first | rfl | simp [Region.wanted, yielded]) (fun w' => by go_simp) (fun w' hw' => (CBa w').mono (by rintro e w'' ⟨rfl, hb⟩; exact ⟨rfl, hb⟩)) ?_; go_simp; (with_reducible apply hK); clear hK K)
  (refine drift_step (fun K hK => ?_); refine drift_call (.tuple #[.agg (bvals X).toArray, .bool true]) 40 #[.agg (bvals b).toArray, .agg (bvals Ba).toArray] (by first | rfl | simp [Region.wanted, yielded]) (fun w' => by go_simp) (fun w' hw' => (CMba w').mono (by rintro e w'' ⟨rfl, hb⟩; exact ⟨rfl, hb⟩)) ?_; go_simp; (with_reducible apply hK); clear hK K)
  (refine drift_step (fun K hK => ?_); refine drift_plain (.tuple #[.agg (bvals X).toArray, .bool true]) (by first | rfl | simp [Region.wanted, yielded]) (fun w' hw' => by go_simp) ?_; go_simp; (with_reducible apply hK); clear hK K)
  (refine drift_step (fun K hK => ?_); refine drift_plain (.agg (bvals X).toArray) (by first | rfl | simp [Region.wanted, yielded]) (fun w' hw' => by go_simp) ?_; go_simp; (with_reducible apply hK); clear hK K)
  (refine drift_step (fun K hK => ?_); refine drift_plain (.bool true) (by first | rfl | simp [Region.wanted, yielded]) (fun w' hw' => by go_simp) ?_; go_simp; (with_reducible apply hK); clear hK K)
  refine drift_nil ?_
  refine driftT_allocB (Rw.refl _) rfl rfl rfl (fun c7 v1 h1 k1 b1 => ?_)
  go_simp
  refine driftT_storeB (b := c7) (l := X) h1 b1 rfl LX k1 rfl rfl rfl (by go_simp) (by go_simp) (fun v2 h2 b2 => ?_)
  refine driftT_plain (.bool true) h2 (by first | rfl | simp [Region.wanted, yielded]) (fun w' _ => by go_simp) (fun v3 h3 => ?_)
  refine driftT_nil (fun w3 h4 => ?_)
  have HB : Below w2.heap.size w2 w3 := Dr.trans (Below.mono (Rw.trans h2 (Rw.trans h3 h4)) Dr.size)
  have Oc7 := (b2.below h3 b2.lt).below h4 (b2.below h3 b2.lt).lt
  replace Oa := Oa.below HB Oa.lt
  replace Ob := Ob.below HB Ob.lt
  replace Oc := Oc.below HB Oc.lt
  replace BW := BW.trans (HB.mono BW.size)
  clear HB Dr h1 k1 b1 h2 b2 h3 h4 DOa DOb DOc
  go_simp
  go_wp2_with (first | refine load_ar Oc hc rfl rfl rfl ?_ | refine load_ar Oc7 LX rfl rfl rfl ?_)
  refine (CMcX w3).mono ?_
  rintro e w3' ⟨rfl, hb⟩
  replace Oa := Oa.below hb Oa.lt
  replace Ob := Ob.below hb Ob.lt
  replace Oc := Oc.below hb Oc.lt
  replace Oc7 := Oc7.below hb Oc7.lt
  replace BW := BW.trans (hb.mono BW.size)
  clear hb
  go_upto_region 5 with (refine new1B rfl rfl rfl rfl rfl LY (by go_simp) (by go_simp) (fun w4 Oc9 hb => ?_))
  replace Oa := Oa.below hb Oa.lt
  replace Ob := Ob.below hb Ob.lt
  replace Oc := Oc.below hb Oc.lt
  replace Oc7 := Oc7.below hb Oc7.lt
  replace BW := BW.trans (hb.mono BW.size)
  clear hb
  generalize w3'.heap.size = c9 at *
  go_simp
  go_upto_region 5 with fail
  have Dr : Below w4.heap.size w4 w4.drew := below_drewN (Below.refl _ _) 1
  have DOa := Oa.below Dr Oa.lt
  have DOb := Ob.below Dr Ob.lt
  have DOc := Oc.below Dr Oc.lt
  have DOc9 := Oc9.below Dr Oc9.lt
  (refine wp_region_drift 7 (by kernel_rfl) (by kernel_rfl) ?_; simp only [List.take_succ_cons, List.take_zero, List.drop_succ_cons, List.drop_zero])
  (refine drift_step (fun K hK => ?_); refine drift_load (fun w' hw' => DOa.below hw' DOa.lt) Try.underlying55 rfl arr32_size (blen ha) (by first | rfl | simp [Region.wanted, yielded]) rfl (by go_simp) ?_; go_simp; (with_reducible apply hK); clear hK K)
  (refine drift_step (fun K hK => ?_); refine drift_load (fun w' hw' => DOc.below hw' DOc.lt) Try.underlying55 rfl arr32_size (blen hc) (by first | rfl | simp [Region.wanted, yielded]) rfl (by go_simp) ?_; go_simp; (with_reducible apply hK); clear hK K)
  (refine drift_step (fun K hK => ?_); refine drift_call (.agg (bvals Bc).toArray) 42 #[.agg (bvals c).toArray] (by first | rfl | simp [Region.wanted, yielded]) (fun w' => by go_simp) (fun w' hw' => (CBc w').mono (by rintro e w'' ⟨rfl, hb⟩; exact ⟨rfl, hb⟩)) ?_; go_simp; (with_reducible apply hK); clear hK K)
  (refine drift_step (fun K hK => ?_); refine drift_call (.tuple #[.agg (bvals Z).toArray, .bool true]) 40 #[.agg (bvals a).toArray, .agg (bvals Bc).toArray] (by first | rfl | simp [Region.wanted, yielded]) (fun w' => by go_simp) (fun w' hw' => (CMac w').mono (by rintro e w'' ⟨rfl, hb⟩; exact ⟨rfl, hb⟩)) ?_; go_simp; (with_reducible apply hK); clear hK K)
  (refine drift_step (fun K hK => ?_); refine drift_plain (.tuple #[.agg (bvals Z).toArray, .bool true]) (by first | rfl | simp [Region.wanted, yielded]) (fun w' hw' => by go_simp) ?_; go_simp; (with_reducible apply hK); clear hK K)
  (refine drift_step (fun K hK => ?_); refine drift_plain (.agg (bvals Z).toArray) (by first | rfl | simp [Region.wanted, yielded]) (fun w' hw' => by go_simp) ?_; go_simp; (with_reducible apply hK); clear hK K)
  (refine drift_step (fun K hK => ?_); refine drift_plain (.bool true) (by first | rfl | simp [Region.wanted, yielded]) (fun w' hw' => by go_simp) ?_; go_simp; (with_reducible apply hK); clear hK K)
  refine drift_nil ?_
  refine driftT_allocB (Rw.refl _) rfl rfl rfl (fun c11 v1 h1 k1 b1 => ?_)
  go_simp
  refine driftT_storeB (b := c11) (l := Z) h1 b1 rfl LZ k1 rfl rfl rfl (by go_simp) (by go_simp) (fun v2 h2 b2 => ?_)
  refine driftT_plain (.bool true) h2 (by first | rfl | simp [Region.wanted, yielded]) (fun w' _ => by go_simp) (fun v3 h3 => ?_)
  refine driftT_nil (fun w5 h4 => ?_)
  have HB : Below w4.heap.size w4 w5 := Dr.trans (Below.mono (Rw.trans h2 (Rw.trans h3 h4)) Dr.size)
  have Oc11 := (b2.below h3 b2.lt).below h4 (b2.below h3 b2.lt).lt
  replace Oa := Oa.below HB Oa.lt
  replace Ob := Ob.below HB Ob.lt
  replace Oc := Oc.below HB Oc.lt
  replace Oc9 := Oc9.below HB Oc9.lt
  replace BW := BW.trans (HB.mono BW.size)
  clear HB Dr h1 k1 b1 h2 b2 h3 h4 DOa DOb DOc DOc9
  go_simp
  go_wp2_with (first | refine load_ar Ob hb' rfl rfl rfl ?_ | refine load_ar Oc11 LZ rfl rfl rfl ?_)
  refine (CMbZ w5).mono ?_
  rintro e w5' ⟨rfl, hb⟩
  replace Oc9 := Oc9.below hb Oc9.lt
  replace Ob := Ob.below hb Ob.lt
  replace Oc11 := Oc11.below hb Oc11.lt
  replace BW := BW.trans (hb.mono BW.size)
  clear hb
  go_upto_region 7 with (refine new1B rfl rfl rfl rfl rfl LY (by go_simp) (by go_simp) (fun w6 Oc13 hb => ?_))
  replace Oc9 := Oc9.below hb Oc9.lt
  replace Ob := Ob.below hb Ob.lt
  replace Oc11 := Oc11.below hb Oc11.lt
  replace BW := BW.trans (hb.mono BW.size)
  clear hb
  generalize w5'.heap.size = c13 at *
  go_simp
  have hq : ∀ w', (Op.equalIn 10000 tB (.agg (bvals Y).toArray) (.agg (bvals Y).toArray)).run Try.prog w' = .ok true w' := fun w' => (eq32 w' Y Y LY LY).trans (by rw [decide_eq_true rfl])
  go_wp2_with (first | refine load_ar Oc9 LY rfl rfl rfl ?_ | refine load_ar Oc13 LY rfl rfl rfl ?_ | refine eq_step (hq _) rfl rfl rfl rfl ?_)
  go_ret
  exact ⟨rfl, BW⟩
end Go.Proofs.Ytopelehfffjfeaa
