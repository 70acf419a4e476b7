/-
CurveMults, walked.
-/
import Derived.Test.YtopelehfffjfeaaCLaws
import Derived.Test.YtopelehfffjfeaaCRefM
import Derived.Test.YtopelehfffjfeaaFIs
namespace Go.Proofs.Ytopelehfffjfeaa
open Go.RowKit

theorem zero_iff (X : Fp) : (leBytes X.val 32 = List.replicate 32 0) ↔ X = 0 := by
  constructor
  · intro h
    have e := congrArg (fun l : List UInt8 => fpOf ⟨l.toArray⟩) h
    simp only [fpOf_le] at e
    rw [e]
    decide +kernel
  · rintro rfl
    decide +kernel
theorem okB_ne (l p : List UInt8) : okB l p = !decide (multB l p = ZL) := by
  unfold okB multB ZL
  rw [decide_eq_decide.2 (zero_iff _).symm]
theorem refC (l p : List UInt8) (hl : l.length = 32) (w : World) : Calls Try.prog 41 #[.string ⟨l.toArray⟩, .string ⟨p.toArray⟩] w fun e w' => e = .returned (.string ⟨(multB l p).toArray⟩) ∧ Below w.heap.size w w' := rmult_ok l p hl w

set_option maxHeartbeats 8000000 in
set_option maxRecDepth 100000 in
theorem mults_law (a p : List UInt8) (ha : a.length = 32) (hp : p.length = 32) (w : World) : Calls Try.prog 9 #[.agg (bvals a).toArray, .agg (bvals p).toArray] w (Tells w true) := by
  have CM := fun w' => multC a p ha hp w'
  have CR := fun w' => refC a p ha w'
  have LX := multB_len a p
  have hk := okB_ne a p
  generalize multB a p = X at *
  generalize okB a p = k at *
  have hqZ := fun w' => (eq32 w' X ZL LX ZL_len)
  have LZ := ZL_len
  have HZ := fun (a : Act) (o : Oper) (ho : o.op = .build tB #[]) (w' : World) => run_bldZ (a := a) ho w'
  generalize ZL = z at *
  generalize decide (X = z) = bz at *
  have cvt : ∀ (l : List UInt8) (hl : l.length = 32) (w' : World) (c : Nat), Blk w' c tB (bvals l) → (convert 35 9 (.slice (some ⟨c, 0, none⟩) 32 32)).run Try.prog w' = .ok (.string ⟨l.toArray⟩) w' := fun l hl w' c h => conv_blk Try.underlying35 Try.underlying5 Try.underlying9 hl h
  go_enter Try.func9, Try.ntmps9
  go_upto_region 1 with fail
  refine wp_gen (fun wx => Blk wx w.heap.size tB (bvals a) ∧ Blk wx (w.heap.size + 1) tB (bvals p) ∧ Below w.heap.size w wx) ⟨(Blk.new w _ (bvals a)).alloc _, Blk.new2 _ _ _ (bvals p), below2 _ _ _⟩ ?_
  rintro w1 ⟨Oa, Op, BW⟩
  go_wp2_with fail
  refine (awake_ok6 w1).mono ?_
  rintro e w2 ⟨rfl, hb2⟩
  replace Oa := Oa.below hb2 Oa.lt
  replace Op := Op.below hb2 Op.lt
  replace BW := BW.trans (hb2.mono BW.size)
  clear hb2
  go_wp2_with (first | refine load_ar Oa ha rfl rfl rfl ?_ | refine load_ar Op hp rfl rfl rfl ?_)
  refine (CM w2).mono ?_
  rintro e w7 ⟨rfl, hb⟩
  replace Oa := Oa.below hb Oa.lt
  replace Op := Op.below hb Op.lt
  replace BW := BW.trans (hb.mono BW.size)
  clear hb
  go_upto_region 4 with (refine new1B rfl rfl rfl rfl rfl LX (by go_simp) (by go_simp) (fun w8 N9 hb => ?_))
  replace Oa := Oa.below hb Oa.lt
  replace Op := Op.below hb Op.lt
  replace BW := BW.trans (hb.mono BW.size)
  clear hb
  generalize w7.heap.size = c5 at *
  go_simp
  have Dr : Below w8.heap.size w8 w8.drew := below_drewN (Below.refl _ _) 1
  have Da := Lib.hid (Oa.below Dr Oa.lt)
  have Dp := Lib.hid (Op.below Dr Op.lt)
  have DX := Lib.hid (N9.below Dr N9.lt)
  have BWd := BW.trans (Dr.mono BW.size)
  refine region_quiet (C := fun w' => Below w8.drew.heap.size w8.drew w') (by kernel_rfl) (by kernel_rfl) (Below.refl _ _) ?_
  ((with_reducible refine wpQuiet_step (fun K hK => ?_)); refine quiet_plainG (.slice (some ⟨c5, 0, none⟩) 32 32) (by first | rfl | simp [Region.wanted, yielded]) (fun w' hw' => by go_simp) ?_; go_simp; (with_reducible apply hK); clear hK K)
  ((with_reducible refine wpQuiet_step (fun K hK => ?_)); refine quiet_plainG (.string ⟨X.toArray⟩) (by first | rfl | simp [Region.wanted, yielded]) (fun w' hw' => by have h := cvt X LX w' c5 (DX.out.below hw' DX.out.lt); go_simp; try simp [h]) ?_; go_simp; (with_reducible apply hK); clear hK K)
  ((with_reducible refine wpQuiet_step (fun K hK => ?_)); refine quiet_plainG (.slice (some ⟨w.heap.size, 0, none⟩) 32 32) (by first | rfl | simp [Region.wanted, yielded]) (fun w' hw' => by go_simp) ?_; go_simp; (with_reducible apply hK); clear hK K)
  ((with_reducible refine wpQuiet_step (fun K hK => ?_)); refine quiet_plainG (.string ⟨a.toArray⟩) (by first | rfl | simp [Region.wanted, yielded]) (fun w' hw' => by have h := cvt a ha w' w.heap.size (Da.out.below hw' Da.out.lt); go_simp; try simp [h]) ?_; go_simp; (with_reducible apply hK); clear hK K)
  ((with_reducible refine wpQuiet_step (fun K hK => ?_)); refine quiet_plainG (.slice (some ⟨w.heap.size + 1, 0, none⟩) 32 32) (by first | rfl | simp [Region.wanted, yielded]) (fun w' hw' => by go_simp) ?_; go_simp; (with_reducible apply hK); clear hK K)
  ((with_reducible refine wpQuiet_step (fun K hK => ?_)); refine quiet_plainG (.string ⟨p.toArray⟩) (by first | rfl | simp [Region.wanted, yielded]) (fun w' hw' => by have h := cvt p hp w' (w.heap.size + 1) (Dp.out.below hw' Dp.out.lt); go_simp; try simp [h]) ?_; go_simp; (with_reducible apply hK); clear hK K)
  ((with_reducible refine wpQuiet_step (fun K hK => ?_)); refine quiet_callG (.string ⟨X.toArray⟩) 41 #[.string ⟨a.toArray⟩, .string ⟨p.toArray⟩] (by first | rfl | simp [Region.wanted, yielded]) (fun w' => by go_simp) (fun w' hw' => (CR w').mono (by rintro e w'' ⟨rfl, hb⟩; exact ⟨rfl, hw'.trans (hb.mono hw'.size)⟩)) ?_; go_simp; (with_reducible apply hK); clear hK K)
  ((with_reducible refine wpQuiet_step (fun K hK => ?_)); refine quiet_plainG (.bool true) (by first | rfl | simp [Region.wanted, yielded]) (fun w' hw' => by go_simp) ?_; go_simp; (with_reducible apply hK); clear hK K)
  ((with_reducible refine wpQuiet_step (fun K hK => ?_)); refine quiet_plainG (.bool true) (by first | rfl | simp [Region.wanted, yielded]) (fun w' hw' => by go_simp) ?_; go_simp; (with_reducible apply hK); clear hK K)
  ((with_reducible refine wpQuiet_step (fun K hK => ?_)); refine quiet_plainG (.bool k) (by first | rfl | simp [Region.wanted, yielded]) (fun w' hw' => by go_simp) ?_; go_simp; (with_reducible apply hK); clear hK K)
  ((with_reducible refine wpQuiet_step (fun K hK => ?_)); refine quiet_loadB (n := 32) (fun w' hw' => DX.out.below hw' DX.out.lt) Try.underlying55 rfl arr32_size (blen LX) (by first | rfl | simp [Region.wanted, yielded]) rfl (by go_simp) ?_; go_simp; (with_reducible apply hK); clear hK K)
  ((with_reducible refine wpQuiet_step (fun K hK => ?_)); refine quiet_plainG (.agg (bvals z).toArray) (by first | rfl | simp [Region.wanted, yielded]) (fun w' hw' => by exact HZ _ _ rfl w') ?_; go_simp; (with_reducible apply hK); clear hK K)
  ((with_reducible refine wpQuiet_step (fun K hK => ?_)); refine quiet_plainG (.bool (!bz)) (by first | rfl | simp [Region.wanted, yielded]) (fun w' hw' => by exact run_neA rfl (by go_simp) (by go_simp) (hqZ w')) ?_; go_simp; (with_reducible apply hK); clear hK K)
  ((with_reducible refine wpQuiet_step (fun K hK => ?_)); refine quiet_plainG (.bool true) (by first | rfl | simp [Region.wanted, yielded]) (fun w' hw' => by cases bz <;> go_simp) ?_; go_simp; (with_reducible apply hK); clear hK K)
  ((with_reducible refine wpQuiet_step (fun K hK => ?_)); refine quiet_plainG (.bool true) (by first | rfl | simp [Region.wanted, yielded]) (fun w' hw' => by go_simp) ?_; go_simp; (with_reducible apply hK); clear hK K)
  ((with_reducible refine wpQuiet_step (fun K hK => ?_)); refine quiet_plainG (.bool true) (by first | rfl | simp [Region.wanted, yielded]) (fun w' hw' => by go_simp) ?_; go_simp; (with_reducible apply hK); clear hK K)
  refine wpQuiet_nil ?_
  intro w11 hw11
  go_simp
  go_wp2_with fail
  go_ret
  exact ⟨rfl, BWd.trans (hw11.mono BWd.size)⟩
end Go.Proofs.Ytopelehfffjfeaa
