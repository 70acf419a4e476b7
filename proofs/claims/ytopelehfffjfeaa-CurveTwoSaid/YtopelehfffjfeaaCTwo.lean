/-
CurveTwo, walked.
-/
import Derived.Test.YtopelehfffjfeaaCLaws
namespace Go.Proofs.Ytopelehfffjfeaa
open Go.RowKit

set_option maxHeartbeats 8000000 in
set_option maxRecDepth 100000 in
theorem two_law (a b : List UInt8) (ha : a.length = 32) (hb : b.length = 32) (w : World) : Calls Try.prog 10 #[.agg (bvals a).toArray, .agg (bvals b).toArray] w (Tells w true) := by
  have CBa := fun w' => base_ok a ha w'
  have CBb := fun w' => base_ok b hb w'
  have CMab := fun w' => multC a (multB b nineB) ha (multB_len _ _) w'
  have CMba := fun w' => multC b (multB a nineB) hb (multB_len _ _) w'
  rw [two_ok ha hb] at CMab
  rw [two_ok hb ha, ← two_eq ha hb] at CMba
  have LX := multB_len a (multB b nineB)
  generalize multB a (multB b nineB) = X at *
  generalize multB a nineB = Ba at *
  generalize multB b nineB = Bb at *
  go_enter Try.func10, Try.ntmps10
  go_upto_region 1 with fail
  refine wp_gen (fun wx => Blk wx w.heap.size tB (bvals a) ∧ Blk wx (w.heap.size + 1) tB (bvals b) ∧ Below w.heap.size w wx) ⟨(Blk.new w _ (bvals a)).alloc _, Blk.new2 _ _ _ (bvals b), below2 _ _ _⟩ ?_
  rintro w1 ⟨Oa, Ob, BW⟩
  go_wp2_with fail
  refine (awake_ok6 w1).mono ?_
  rintro e w2 ⟨rfl, hb2⟩
  replace Oa := Oa.below hb2 Oa.lt
  replace Ob := Ob.below hb2 Ob.lt
  replace BW := BW.trans (hb2.mono BW.size)
  clear hb2
  go_upto_region 3 with fail
  have Dr : Below w2.heap.size w2 w2.drew := below_drewN (Below.refl _ _) 1
  have DOa := Oa.below Dr Oa.lt
  have DOb := Ob.below Dr Ob.lt
  (refine wp_region_drift 7 (by kernel_rfl) (by kernel_rfl) ?_; simp only [List.take_succ_cons, List.take_zero, List.drop_succ_cons, List.drop_zero])
  (refine drift_step (fun K hK => ?_); refine drift_load (fun w' hw' => DOa.below hw' DOa.lt) Try.underlying55 rfl arr32_size (blen ha) (by first | rfl | simp [Region.wanted, yielded]) rfl (by go_simp) ?_; go_simp; (with_reducible apply hK); clear hK K)
  (refine drift_step (fun K hK => ?_); refine drift_load (fun w' hw' => DOb.below hw' DOb.lt) Try.underlying55 rfl arr32_size (blen hb) (by first | rfl | simp [Region.wanted, yielded]) rfl (by go_simp) ?_; go_simp; (with_reducible apply hK); clear hK K)
  (refine drift_step (fun K hK => ?_); refine drift_call (.agg (bvals Bb).toArray) 42 #[.agg (bvals b).toArray] (by first | rfl | simp [Region.wanted, yielded]) (fun w' => by go_simp) (fun w' hw' => (CBb w').mono (by rintro e w'' ⟨rfl, hb⟩; exact ⟨rfl, hb⟩)) ?_; go_simp; (with_reducible apply hK); clear hK K)
  (refine drift_step (fun K hK => ?_); refine drift_call (.tuple #[.agg (bvals X).toArray, .bool true]) 40 #[.agg (bvals a).toArray, .agg (bvals Bb).toArray] (by first | rfl | simp [Region.wanted, yielded]) (fun w' => by go_simp) (fun w' hw' => (CMab w').mono (by rintro e w'' ⟨rfl, hb⟩; exact ⟨rfl, hb⟩)) ?_; go_simp; (with_reducible apply hK); clear hK K)
  (refine drift_step (fun K hK => ?_); refine drift_plain (.tuple #[.agg (bvals X).toArray, .bool true]) (by first | rfl | simp [Region.wanted, yielded]) (fun w' hw' => by go_simp) ?_; go_simp; (with_reducible apply hK); clear hK K)
  (refine drift_step (fun K hK => ?_); refine drift_plain (.agg (bvals X).toArray) (by first | rfl | simp [Region.wanted, yielded]) (fun w' hw' => by go_simp) ?_; go_simp; (with_reducible apply hK); clear hK K)
  (refine drift_step (fun K hK => ?_); refine drift_plain (.bool true) (by first | rfl | simp [Region.wanted, yielded]) (fun w' hw' => by go_simp) ?_; go_simp; (with_reducible apply hK); clear hK K)
  refine drift_nil ?_
  refine driftT_allocB (Rw.refl _) rfl rfl rfl (fun c5 v1 h1 k1 b1 => ?_)
  go_simp
  refine driftT_storeB (b := c5) (l := X) h1 b1 rfl LX k1 rfl rfl rfl (by go_simp) (by go_simp) (fun v2 h2 b2 => ?_)
  refine driftT_plain (.bool true) h2 (by first | rfl | simp [Region.wanted, yielded]) (fun w' _ => by go_simp) (fun v3 h3 => ?_)
  refine driftT_nil (fun w3 h4 => ?_)
  have HB : Below w2.heap.size w2 w3 := Dr.trans (Below.mono (Rw.trans h2 (Rw.trans h3 h4)) Dr.size)
  have Oc5 := (b2.below h3 b2.lt).below h4 (b2.below h3 b2.lt).lt
  replace Oa := Oa.below HB Oa.lt
  replace Ob := Ob.below HB Ob.lt
  replace BW := BW.trans (HB.mono BW.size)
  clear HB Dr h1 k1 b1 h2 b2 h3 h4 DOa DOb
  go_simp
  go_upto_region 4 with fail
  have Dr : Below w3.heap.size w3 w3.drew := below_drewN (Below.refl _ _) 1
  have DOa := Oa.below Dr Oa.lt
  have DOb := Ob.below Dr Ob.lt
  have DOc5 := Oc5.below Dr Oc5.lt
  (refine wp_region_drift 7 (by kernel_rfl) (by kernel_rfl) ?_; simp only [List.take_succ_cons, List.take_zero, List.drop_succ_cons, List.drop_zero])
  (refine drift_step (fun K hK => ?_); refine drift_load (fun w' hw' => DOb.below hw' DOb.lt) Try.underlying55 rfl arr32_size (blen hb) (by first | rfl | simp [Region.wanted, yielded]) rfl (by go_simp) ?_; go_simp; (with_reducible apply hK); clear hK K)
  (refine drift_step (fun K hK => ?_); refine drift_load (fun w' hw' => DOa.below hw' DOa.lt) Try.underlying55 rfl arr32_size (blen ha) (by first | rfl | simp [Region.wanted, yielded]) rfl (by go_simp) ?_; go_simp; (with_reducible apply hK); clear hK K)
  (refine drift_step (fun K hK => ?_); refine drift_call (.agg (bvals Ba).toArray) 42 #[.agg (bvals a).toArray] (by first | rfl | simp [Region.wanted, yielded]) (fun w' => by go_simp) (fun w' hw' => (CBa w').mono (by rintro e w'' ⟨rfl, hb⟩; exact ⟨rfl, hb⟩)) ?_; go_simp; (with_reducible apply hK); clear hK K)
  (refine drift_step (fun K hK => ?_); refine drift_call (.tuple #[.agg (bvals X).toArray, .bool true]) 40 #[.agg (bvals b).toArray, .agg (bvals Ba).toArray] (by first | rfl | simp [Region.wanted, yielded]) (fun w' => by go_simp) (fun w' hw' => (CMba w').mono (by rintro e w'' ⟨rfl, hb⟩; exact ⟨rfl, hb⟩)) ?_; go_simp; (with_reducible apply hK); clear hK K)
  (refine drift_step (fun K hK => ?_); refine drift_plain (.tuple #[.agg (bvals X).toArray, .bool true]) (by first | rfl | simp [Region.wanted, yielded]) (fun w' hw' => by go_simp) ?_; go_simp; (with_reducible apply hK); clear hK K)
  (refine drift_step (fun K hK => ?_); refine drift_plain (.agg (bvals X).toArray) (by first | rfl | simp [Region.wanted, yielded]) (fun w' hw' => by go_simp) ?_; go_simp; (with_reducible apply hK); clear hK K)
  (refine drift_step (fun K hK => ?_); refine drift_plain (.bool true) (by first | rfl | simp [Region.wanted, yielded]) (fun w' hw' => by go_simp) ?_; go_simp; (with_reducible apply hK); clear hK K)
  refine drift_nil ?_
  refine driftT_allocB (Rw.refl _) rfl rfl rfl (fun c7 v1 h1 k1 b1 => ?_)
  go_simp
  refine driftT_storeB (b := c7) (l := X) h1 b1 rfl LX k1 rfl rfl rfl (by go_simp) (by go_simp) (fun v2 h2 b2 => ?_)
  refine driftT_plain (.bool true) h2 (by first | rfl | simp [Region.wanted, yielded]) (fun w' _ => by go_simp) (fun v3 h3 => ?_)
  refine driftT_nil (fun w4 h4 => ?_)
  have HB : Below w3.heap.size w3 w4 := Dr.trans (Below.mono (Rw.trans h2 (Rw.trans h3 h4)) Dr.size)
  have Oc7 := (b2.below h3 b2.lt).below h4 (b2.below h3 b2.lt).lt
  replace Oa := Oa.below HB Oa.lt
  replace Ob := Ob.below HB Ob.lt
  replace Oc5 := Oc5.below HB Oc5.lt
  replace BW := BW.trans (HB.mono BW.size)
  clear HB Dr h1 k1 b1 h2 b2 h3 h4 DOa DOb DOc5
  go_simp
  have hq : ∀ w', (Op.equalIn 10000 tB (.agg (bvals X).toArray) (.agg (bvals X).toArray)).run Try.prog w' = .ok true w' := fun w' => (eq32 w' X X LX LX).trans (by rw [decide_eq_true rfl])
  go_wp2_with (first | refine load_ar Oc5 LX rfl rfl rfl ?_ | refine load_ar Oc7 LX rfl rfl rfl ?_ | refine eq_step (hq _) rfl rfl rfl rfl ?_)
  go_ret
  exact ⟨rfl, BW⟩
end Go.Proofs.Ytopelehfffjfeaa
