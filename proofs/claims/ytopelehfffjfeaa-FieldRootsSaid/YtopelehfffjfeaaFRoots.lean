/-
FieldRoots, walked.
-/
import Derived.Test.YtopelehfffjfeaaFRt
import Derived.Test.YtopelehfffjfeaaCut
namespace Go.Proofs.Ytopelehfffjfeaa
open Go.RowKit

theorem elRoot {a b : List Nat} {u v : Fp} (ha : Lm a u.val) (hb : Lm b v.val) (w : World) : Calls Try.prog 36 #[.agg (uvals a).toArray, .agg (uvals b).toArray] w fun e w' => ∃ l, e = .returned (.tuple #[.agg (uvals l).toArray, .bool (rt u v).2]) ∧ Lm l (rt u v).1.val ∧ Below w.heap.size w w' := by
  have h := ha.root hb
  refine (el_root_ok a b w ha.own hb.own).mono ?_
  rintro e w' ⟨rfl, hb'⟩
  exact ⟨_, by rw [← h.2]; rfl, h.1, hb'⟩
theorem rfRoot {v : Value} {x : Fp} {w : World} (hv : Num w v x.val) : Calls Try.prog 37 #[v] w fun e w' => ∃ v', e = .returned (.tuple #[v', .bool (rtR x).2]) ∧ Num w' v' (rtR x).1.val ∧ Below w.heap.size w w' := by
  refine (refRoot_ok v _ w hv x.isLt).mono ?_
  rintro e w' ⟨v', rfl, hn, hb⟩
  exact ⟨v', by rw [good_val], by rw [← root_val]; exact hn, hb⟩
theorem elM1 (w : World) : Calls Try.prog 38 #[] w (Gives w m1) := gives (el_m1_ok w) Lm.m1
set_option maxHeartbeats 8000000 in
theorem roots_ok (s t : ByteArray) (w : World) : Calls Try.prog 8 #[.string s, .string t] w (Tells w true) := by
  go_enter Try.func8, Try.ntmps8
  go_wp2_with fail
  refine (awake_ok w).mono ?_
  rintro e w1 ⟨rfl, BB⟩
  go_wp2_with fail
  refine (cut_ok s 32 w1).mono ?_
  rintro e _ ⟨rfl, rfl⟩
  generalize s.extract 0 32 = s1
  go_wp2_with fail
  refine (cut_ok t 32 w1).mono ?_
  rintro e _ ⟨rfl, rfl⟩
  generalize t.extract 0 32 = t1
  go_wp2_with fail
  refine (elOf s1 w1).mono ?_
  rintro e w2 ⟨va, rfl, Ea, b2⟩
  go_wp2_with fail
  refine (elOf t1 w2).mono ?_
  rintro e w3 ⟨vb, rfl, Eb, b3⟩
  obtain ⟨la, rfl, La⟩ := Ea
  obtain ⟨lb, rfl, Lb⟩ := Eb
  have BB4 := (BB.trans (b2.mono BB.size))
  have BW := BB4.trans (b3.mono BB4.size)
  clear BB b2 b3 BB4
  have hu : Hid (fpOf s1 = fpOf s1) := rfl
  have hv : Hid (fpOf t1 = fpOf t1) := rfl
  generalize hu1 : fpOf s1 = u at La
  generalize hv1 : fpOf t1 = v at Lb
  have HU1 := Lib.hid hu1
  have HV1 := Lib.hid hv1
  clear hu1 hv1 hu hv
  go_upto_region 5 with (refine new2 rfl rfl rfl rfl rfl rfl rfl rfl La.len rfl rfl Lb.len rfl (by go_simp) (by go_simp) rfl (by go_simp) (by go_simp) (fun w4 P => ?_))
  replace BW := BW.trans (P.2.2.mono BW.size)
  go_simp
  go_wp2_with (first | refine load_el2 P.1 La.len rfl rfl rfl ?_ | refine load_el2 P.2.1 Lb.len rfl rfl rfl ?_)
  refine (elRoot La Lb w4).mono ?_
  rintro e w5 ⟨lr, rfl, Lr, hb⟩
  replace P := P.below hb
  replace BW := BW.trans (hb.mono BW.size)
  clear hb
  generalize hok : (rt u v).2 = ok at *
  have HOK := Lib.hid hok
  clear hok
  go_upto_region 6 with (refine new1 rfl rfl rfl rfl rfl Lr.len (by go_simp) (by go_simp) (fun w6 R => ?_))
  have hb := R.2
  replace P := P.below hb
  replace BW := BW.trans (hb.mono BW.size)
  clear hb
  have Ea := El.of La
  have Eb := El.of Lb
  have Er := El.of Lr
  go_simp
  go_wp2_with (first | refine load_el2 P.1 La.len rfl rfl rfl ?_ | refine load_el2 P.2.1 Lb.len rfl rfl rfl ?_ | refine load_el2 R.1 Lr.len rfl rfl rfl ?_)
  refine (elZero Eb w6).mono ?_
  rintro e w7 ⟨rfl, hb⟩
  replace R := R.below hb
  replace P := P.below hb
  replace BW := BW.trans (hb.mono BW.size)
  clear hb
  by_cases hz : v = 0
  · have z1 := rt_zero u
    have HR : Hid ((rt u v).1 = 0) := by show _ = _; rw [hz, z1]
    have HO : Hid (ok = decide (u = 0)) := by show _ = _; rw [← HOK.out, hz, z1]
    rw [decide_eq_true hz]
    clear z1
    go_wp2_with (first | refine load_el2 P.1 La.len rfl rfl rfl ?_ | refine load_el2 P.2.1 Lb.len rfl rfl rfl ?_ | refine load_el2 R.1 Lr.len rfl rfl rfl ?_)
    refine (elZero Ea w7).mono ?_
    rintro e w8 ⟨rfl, hb⟩
    replace R := R.below hb
    replace P := P.below hb
    replace BW := BW.trans (hb.mono BW.size)
    clear hb
    rw [← HO.out]
    cases ok
    all_goals
      go_wp2_with (first | refine load_el2 P.1 La.len rfl rfl rfl ?_ | refine load_el2 P.2.1 Lb.len rfl rfl rfl ?_ | refine load_el2 R.1 Lr.len rfl rfl rfl ?_)
      refine (elZero Er w8).mono ?_
      rintro e w9 ⟨rfl, hb⟩
      rw [decide_eq_true HR.out]
      replace BW := BW.trans (hb.mono BW.size)
      clear hb
      go_wp2_with fail
      go_ret
      exact ⟨rfl, BW⟩
  · have HZ := Fp.mul_inv hz
    rw [decide_eq_false hz]
    clear hz
    go_wp2_with fail
    refine (rfOf s1 w7).mono ?_
    rintro e w8 ⟨vx, rfl, Nx, hb⟩
    rw [HU1.out] at Nx
    replace R := R.below hb
    replace P := P.below hb
    replace BW := BW.trans (hb.mono BW.size)
    clear hb
    go_wp2_with fail
    refine (rfOf t1 w8).mono ?_
    rintro e w9 ⟨vy, rfl, Ny, hb⟩
    rw [HV1.out] at Ny
    replace R := R.below hb
    replace Nx := Nx.below hb
    replace P := P.below hb
    replace BW := BW.trans (hb.mono BW.size)
    clear hb
    go_wp2_with fail
    refine (rfInvert Ny).mono ?_
    rintro e w10 ⟨vi, rfl, Ni, hb⟩
    replace R := R.below hb
    replace Nx := Nx.below hb
    clear Ny
    replace P := P.below hb
    replace BW := BW.trans (hb.mono BW.size)
    clear hb
    go_wp2_with fail
    refine (rfMul Nx Ni).mono ?_
    rintro e w11 ⟨vq, rfl, Nq, hb⟩
    replace R := R.below hb
    clear Nx Ni
    replace P := P.below hb
    replace BW := BW.trans (hb.mono BW.size)
    clear hb
    go_wp2_with fail
    refine (rfRoot Nq).mono ?_
    rintro e w12 ⟨vw, rfl, Nw, hb⟩
    rw [← rt_eq HZ] at Nw
    rw [← rt_eq HZ, HOK.out]
    replace R := R.below hb
    clear Nq
    replace P := P.below hb
    replace BW := BW.trans (hb.mono BW.size)
    clear hb
    go_wp2_with (first | refine load_el2 P.1 La.len rfl rfl rfl ?_ | refine load_el2 P.2.1 Lb.len rfl rfl rfl ?_ | refine load_el2 R.1 Lr.len rfl rfl rfl ?_)
    refine (elIs' Er Nw).mono ?_
    rintro e w13 ⟨rfl, hb⟩
    rw [decide_eq_true rfl]
    replace R := R.below hb
    clear Nw
    replace P := P.below hb
    replace BW := BW.trans (hb.mono BW.size)
    clear hb
    go_wp2_with fail
    refine (elM1 w13).mono ?_
    rintro e wa ⟨vi, rfl, Em, hb⟩
    replace R := R.below hb
    obtain ⟨li, rfl, Li⟩ := Em
    replace P := P.below hb
    replace BW := BW.trans (hb.mono BW.size)
    clear hb
    go_wp2_with (refine new1 rfl rfl rfl rfl rfl Li.len (by go_simp) (by go_simp) (fun wc M => ?_))
    have hb := M.2
    replace R := R.below hb
    replace P := P.below hb
    replace BW := BW.trans (hb.mono BW.size)
    clear hb
    go_simp
    replace P := P.below (below_drewN (Below.refl _ _) 1 : Below wc.heap.size wc (wc.drewN 1))
    replace R := R.below (below_drewN (Below.refl _ _) 1 : Below wc.heap.size wc (wc.drewN 1))
    replace M := M.below (below_drewN (Below.refl _ _) 1 : Below wc.heap.size wc (wc.drewN 1))
    replace BW := BW.trans ((below_drewN (Below.refl _ _) 1 : Below wc.heap.size wc (wc.drewN 1)).mono BW.size)
    cases ok
    · have hok := HOK.out
      obtain ⟨l21, L21, C21⟩ := qSquare Li
      obtain ⟨l22, L22, C22⟩ := qSmall1
      obtain ⟨l23, L23, C23⟩ := qNeg L22
      have C24 := qSame L21 L23 (c := true) (decide_eq_true m1_sq)
      have C25 := qOdd Li (c := false) (decide_eq_false (by have := m1_even; omega))
      refine region_quiet (C := fun w' => Below (wc.drewN 1).heap.size (wc.drewN 1) w') (by kernel_rfl) (by kernel_rfl) (Below.refl _ _) ?_
      ((with_reducible refine wpQuiet_step (fun K hK => ?_)); refine quiet_loadE (fun w' hw' => (M.1).below hw' (M.1).lt) Li.len (by first | rfl | simp [Region.wanted, yielded]) rfl (by go_simp) ?_; go_simp; (with_reducible apply hK); clear hK K)
      ((with_reducible refine wpQuiet_step (fun K hK => ?_)); refine quiet_callG (.agg (uvals (l21)).toArray) 33 #[.agg (uvals li).toArray] (by first | rfl | simp [Region.wanted, yielded]) (fun w' => by go_simp) (fun w' hw' => (C21 w').mono (by rintro e w'' ⟨rfl, hb⟩; exact ⟨rfl, hw'.trans (hb.mono hw'.size)⟩)) ?_; go_simp; (with_reducible apply hK); clear hK K)
      ((with_reducible refine wpQuiet_step (fun K hK => ?_)); refine quiet_callG (.agg (uvals (l22)).toArray) 21 #[.int .u64 1] (by first | rfl | simp [Region.wanted, yielded]) (fun w' => by go_simp) (fun w' hw' => (C22 w').mono (by rintro e w'' ⟨rfl, hb⟩; exact ⟨rfl, hw'.trans (hb.mono hw'.size)⟩)) ?_; go_simp; (with_reducible apply hK); clear hK K)
      ((with_reducible refine wpQuiet_step (fun K hK => ?_)); refine quiet_callG (.agg (uvals (l23)).toArray) 31 #[.agg (uvals l22).toArray] (by first | rfl | simp [Region.wanted, yielded]) (fun w' => by go_simp) (fun w' hw' => (C23 w').mono (by rintro e w'' ⟨rfl, hb⟩; exact ⟨rfl, hw'.trans (hb.mono hw'.size)⟩)) ?_; go_simp; (with_reducible apply hK); clear hK K)
      ((with_reducible refine wpQuiet_step (fun K hK => ?_)); refine quiet_callG (.bool true) 25 #[.agg (uvals l21).toArray, .agg (uvals l23).toArray] (by first | rfl | simp [Region.wanted, yielded]) (fun w' => by go_simp) (fun w' hw' => (C24 w').mono (by rintro e w'' ⟨rfl, hb⟩; exact ⟨rfl, hw'.trans (hb.mono hw'.size)⟩)) ?_; go_simp; (with_reducible apply hK); clear hK K)
      ((with_reducible refine wpQuiet_step (fun K hK => ?_)); refine quiet_plainG (.bool true) (by first | rfl | simp [Region.wanted, yielded]) (fun w' hw' => by go_simp) ?_; go_simp; (with_reducible apply hK); clear hK K)
      ((with_reducible refine wpQuiet_step (fun K hK => ?_)); refine quiet_loadE (fun w' hw' => (M.1).below hw' (M.1).lt) Li.len (by first | rfl | simp [Region.wanted, yielded]) rfl (by go_simp) ?_; go_simp; (with_reducible apply hK); clear hK K)
      ((with_reducible refine wpQuiet_step (fun K hK => ?_)); refine quiet_callG (.bool false) 18 #[.agg (uvals li).toArray] (by first | rfl | simp [Region.wanted, yielded]) (fun w' => by go_simp) (fun w' hw' => (C25 w').mono (by rintro e w'' ⟨rfl, hb⟩; exact ⟨rfl, hw'.trans (hb.mono hw'.size)⟩)) ?_; go_simp; (with_reducible apply hK); clear hK K)
      ((with_reducible refine wpQuiet_step (fun K hK => ?_)); refine quiet_plainG (.bool true) (by first | rfl | simp [Region.wanted, yielded]) (fun w' hw' => by go_simp) ?_; go_simp; (with_reducible apply hK); clear hK K)
      ((with_reducible refine wpQuiet_step (fun K hK => ?_)); refine quiet_plainG (.bool true) (by first | rfl | simp [Region.wanted, yielded]) (fun w' hw' => by go_simp) ?_; go_simp; (with_reducible apply hK); clear hK K)
      ((with_reducible refine wpQuiet_step (fun K hK => ?_)); refine quiet_plainG (.bool true) (by first | rfl | simp [Region.wanted, yielded]) (fun w' hw' => by go_simp) ?_; go_simp; (with_reducible apply hK); clear hK K)
      ((with_reducible refine wpQuiet_step (fun K hK => ?_)); refine quiet_plainG (.bool false) (by first | rfl | simp [Region.wanted, yielded]) (fun w' hw' => by go_simp) ?_; go_simp; (with_reducible apply hK); clear hK K)
      ((with_reducible refine wpQuiet_step (fun K hK => ?_)); refine quiet_plainG (.bool true) (by first | rfl | simp [Region.wanted, yielded]) (fun w' hw' => by go_simp) ?_; go_simp; (with_reducible apply hK); clear hK K)
      ((with_reducible refine wpQuiet_step (fun K hK => ?_)); refine quiet_plainG (.bool true) (by first | rfl | simp [Region.wanted, yielded]) (fun w' hw' => by go_simp) ?_; go_simp; (with_reducible apply hK); clear hK K)
      ((with_reducible refine wpQuiet_step (fun K hK => ?_)); refine quiet_skip (by first | rfl | simp [Region.wanted, yielded]) ?_; go_simp; (with_reducible apply hK); clear hK K)
      ((with_reducible refine wpQuiet_step (fun K hK => ?_)); refine quiet_skip (by first | rfl | simp [Region.wanted, yielded]) ?_; go_simp; (with_reducible apply hK); clear hK K)
      ((with_reducible refine wpQuiet_step (fun K hK => ?_)); refine quiet_skip (by first | rfl | simp [Region.wanted, yielded]) ?_; go_simp; (with_reducible apply hK); clear hK K)
      ((with_reducible refine wpQuiet_step (fun K hK => ?_)); refine quiet_skip (by first | rfl | simp [Region.wanted, yielded]) ?_; go_simp; (with_reducible apply hK); clear hK K)
      ((with_reducible refine wpQuiet_step (fun K hK => ?_)); refine quiet_skip (by first | rfl | simp [Region.wanted, yielded]) ?_; go_simp; (with_reducible apply hK); clear hK K)
      ((with_reducible refine wpQuiet_step (fun K hK => ?_)); refine quiet_skip (by first | rfl | simp [Region.wanted, yielded]) ?_; go_simp; (with_reducible apply hK); clear hK K)
      ((with_reducible refine wpQuiet_step (fun K hK => ?_)); refine quiet_skip (by first | rfl | simp [Region.wanted, yielded]) ?_; go_simp; (with_reducible apply hK); clear hK K)
      ((with_reducible refine wpQuiet_step (fun K hK => ?_)); refine quiet_skip (by first | rfl | simp [Region.wanted, yielded]) ?_; go_simp; (with_reducible apply hK); clear hK K)
      ((with_reducible refine wpQuiet_step (fun K hK => ?_)); refine quiet_skip (by first | rfl | simp [Region.wanted, yielded]) ?_; go_simp; (with_reducible apply hK); clear hK K)
      ((with_reducible refine wpQuiet_step (fun K hK => ?_)); refine quiet_skip (by first | rfl | simp [Region.wanted, yielded]) ?_; go_simp; (with_reducible apply hK); clear hK K)
      ((with_reducible refine wpQuiet_step (fun K hK => ?_)); refine quiet_skip (by first | rfl | simp [Region.wanted, yielded]) ?_; go_simp; (with_reducible apply hK); clear hK K)
      ((with_reducible refine wpQuiet_step (fun K hK => ?_)); refine quiet_plainG (.bool true) (by first | rfl | simp [Region.wanted, yielded]) (fun w' hw' => by go_simp) ?_; go_simp; (with_reducible apply hK); clear hK K)
      ((with_reducible refine wpQuiet_step (fun K hK => ?_)); refine quiet_plainG (.bool true) (by first | rfl | simp [Region.wanted, yielded]) (fun w' hw' => by go_simp) ?_; go_simp; (with_reducible apply hK); clear hK K)
      ((with_reducible refine wpQuiet_step (fun K hK => ?_)); refine quiet_plainG (.bool true) (by first | rfl | simp [Region.wanted, yielded]) (fun w' hw' => by go_simp) ?_; go_simp; (with_reducible apply hK); clear hK K)
      refine wpQuiet_nil ?_
      intro wd hwd
      go_wp2_with fail
      go_ret
      exact ⟨rfl, BW.trans (hwd.mono BW.size)⟩
    · have hok := HOK.out
      obtain ⟨l21, L21, C21⟩ := qSquare Li
      obtain ⟨l22, L22, C22⟩ := qSmall1
      obtain ⟨l23, L23, C23⟩ := qNeg L22
      have C24 := qSame L21 L23 (c := true) (decide_eq_true m1_sq)
      have C25 := qOdd Li (c := false) (decide_eq_false (by have := m1_even; omega))
      obtain ⟨l26, L26, C26⟩ := qSquare Lr
      obtain ⟨l27, L27, C27⟩ := qMul L26 Lb
      have C28 := qSame L27 La (c := true) (decide_eq_true (rt_ok hok).1)
      have C29 := qOdd Lr (c := false) (decide_eq_false (by have := (rt_ok hok).2; omega))
      refine region_quiet (C := fun w' => Below (wc.drewN 1).heap.size (wc.drewN 1) w') (by kernel_rfl) (by kernel_rfl) (Below.refl _ _) ?_
      ((with_reducible refine wpQuiet_step (fun K hK => ?_)); refine quiet_loadE (fun w' hw' => (M.1).below hw' (M.1).lt) Li.len (by first | rfl | simp [Region.wanted, yielded]) rfl (by go_simp) ?_; go_simp; (with_reducible apply hK); clear hK K)
      ((with_reducible refine wpQuiet_step (fun K hK => ?_)); refine quiet_callG (.agg (uvals (l21)).toArray) 33 #[.agg (uvals li).toArray] (by first | rfl | simp [Region.wanted, yielded]) (fun w' => by go_simp) (fun w' hw' => (C21 w').mono (by rintro e w'' ⟨rfl, hb⟩; exact ⟨rfl, hw'.trans (hb.mono hw'.size)⟩)) ?_; go_simp; (with_reducible apply hK); clear hK K)
      ((with_reducible refine wpQuiet_step (fun K hK => ?_)); refine quiet_callG (.agg (uvals (l22)).toArray) 21 #[.int .u64 1] (by first | rfl | simp [Region.wanted, yielded]) (fun w' => by go_simp) (fun w' hw' => (C22 w').mono (by rintro e w'' ⟨rfl, hb⟩; exact ⟨rfl, hw'.trans (hb.mono hw'.size)⟩)) ?_; go_simp; (with_reducible apply hK); clear hK K)
      ((with_reducible refine wpQuiet_step (fun K hK => ?_)); refine quiet_callG (.agg (uvals (l23)).toArray) 31 #[.agg (uvals l22).toArray] (by first | rfl | simp [Region.wanted, yielded]) (fun w' => by go_simp) (fun w' hw' => (C23 w').mono (by rintro e w'' ⟨rfl, hb⟩; exact ⟨rfl, hw'.trans (hb.mono hw'.size)⟩)) ?_; go_simp; (with_reducible apply hK); clear hK K)
      ((with_reducible refine wpQuiet_step (fun K hK => ?_)); refine quiet_callG (.bool true) 25 #[.agg (uvals l21).toArray, .agg (uvals l23).toArray] (by first | rfl | simp [Region.wanted, yielded]) (fun w' => by go_simp) (fun w' hw' => (C24 w').mono (by rintro e w'' ⟨rfl, hb⟩; exact ⟨rfl, hw'.trans (hb.mono hw'.size)⟩)) ?_; go_simp; (with_reducible apply hK); clear hK K)
      ((with_reducible refine wpQuiet_step (fun K hK => ?_)); refine quiet_plainG (.bool true) (by first | rfl | simp [Region.wanted, yielded]) (fun w' hw' => by go_simp) ?_; go_simp; (with_reducible apply hK); clear hK K)
      ((with_reducible refine wpQuiet_step (fun K hK => ?_)); refine quiet_loadE (fun w' hw' => (M.1).below hw' (M.1).lt) Li.len (by first | rfl | simp [Region.wanted, yielded]) rfl (by go_simp) ?_; go_simp; (with_reducible apply hK); clear hK K)
      ((with_reducible refine wpQuiet_step (fun K hK => ?_)); refine quiet_callG (.bool false) 18 #[.agg (uvals li).toArray] (by first | rfl | simp [Region.wanted, yielded]) (fun w' => by go_simp) (fun w' hw' => (C25 w').mono (by rintro e w'' ⟨rfl, hb⟩; exact ⟨rfl, hw'.trans (hb.mono hw'.size)⟩)) ?_; go_simp; (with_reducible apply hK); clear hK K)
      ((with_reducible refine wpQuiet_step (fun K hK => ?_)); refine quiet_plainG (.bool true) (by first | rfl | simp [Region.wanted, yielded]) (fun w' hw' => by go_simp) ?_; go_simp; (with_reducible apply hK); clear hK K)
      ((with_reducible refine wpQuiet_step (fun K hK => ?_)); refine quiet_plainG (.bool true) (by first | rfl | simp [Region.wanted, yielded]) (fun w' hw' => by go_simp) ?_; go_simp; (with_reducible apply hK); clear hK K)
      ((with_reducible refine wpQuiet_step (fun K hK => ?_)); refine quiet_plainG (.bool true) (by first | rfl | simp [Region.wanted, yielded]) (fun w' hw' => by go_simp) ?_; go_simp; (with_reducible apply hK); clear hK K)
      ((with_reducible refine wpQuiet_step (fun K hK => ?_)); refine quiet_plainG (.bool true) (by first | rfl | simp [Region.wanted, yielded]) (fun w' hw' => by go_simp) ?_; go_simp; (with_reducible apply hK); clear hK K)
      ((with_reducible refine wpQuiet_step (fun K hK => ?_)); refine quiet_plainG (.bool false) (by first | rfl | simp [Region.wanted, yielded]) (fun w' hw' => by go_simp) ?_; go_simp; (with_reducible apply hK); clear hK K)
      ((with_reducible refine wpQuiet_step (fun K hK => ?_)); refine quiet_plainG (.bool false) (by first | rfl | simp [Region.wanted, yielded]) (fun w' hw' => by go_simp) ?_; go_simp; (with_reducible apply hK); clear hK K)
      ((with_reducible refine wpQuiet_step (fun K hK => ?_)); refine quiet_loadE (fun w' hw' => (R.1).below hw' (R.1).lt) Lr.len (by first | rfl | simp [Region.wanted, yielded]) rfl (by go_simp) ?_; go_simp; (with_reducible apply hK); clear hK K)
      ((with_reducible refine wpQuiet_step (fun K hK => ?_)); refine quiet_callG (.agg (uvals (l26)).toArray) 33 #[.agg (uvals lr).toArray] (by first | rfl | simp [Region.wanted, yielded]) (fun w' => by go_simp) (fun w' hw' => (C26 w').mono (by rintro e w'' ⟨rfl, hb⟩; exact ⟨rfl, hw'.trans (hb.mono hw'.size)⟩)) ?_; go_simp; (with_reducible apply hK); clear hK K)
      ((with_reducible refine wpQuiet_step (fun K hK => ?_)); refine quiet_loadE (fun w' hw' => (P.2.1).below hw' (P.2.1).lt) Lb.len (by first | rfl | simp [Region.wanted, yielded]) rfl (by go_simp) ?_; go_simp; (with_reducible apply hK); clear hK K)
      ((with_reducible refine wpQuiet_step (fun K hK => ?_)); refine quiet_callG (.agg (uvals (l27)).toArray) 26 #[.agg (uvals l26).toArray, .agg (uvals lb).toArray] (by first | rfl | simp [Region.wanted, yielded]) (fun w' => by go_simp) (fun w' hw' => (C27 w').mono (by rintro e w'' ⟨rfl, hb⟩; exact ⟨rfl, hw'.trans (hb.mono hw'.size)⟩)) ?_; go_simp; (with_reducible apply hK); clear hK K)
      ((with_reducible refine wpQuiet_step (fun K hK => ?_)); refine quiet_loadE (fun w' hw' => (P.1).below hw' (P.1).lt) La.len (by first | rfl | simp [Region.wanted, yielded]) rfl (by go_simp) ?_; go_simp; (with_reducible apply hK); clear hK K)
      ((with_reducible refine wpQuiet_step (fun K hK => ?_)); refine quiet_callG (.bool true) 25 #[.agg (uvals l27).toArray, .agg (uvals la).toArray] (by first | rfl | simp [Region.wanted, yielded]) (fun w' => by go_simp) (fun w' hw' => (C28 w').mono (by rintro e w'' ⟨rfl, hb⟩; exact ⟨rfl, hw'.trans (hb.mono hw'.size)⟩)) ?_; go_simp; (with_reducible apply hK); clear hK K)
      ((with_reducible refine wpQuiet_step (fun K hK => ?_)); refine quiet_plainG (.bool true) (by first | rfl | simp [Region.wanted, yielded]) (fun w' hw' => by go_simp) ?_; go_simp; (with_reducible apply hK); clear hK K)
      ((with_reducible refine wpQuiet_step (fun K hK => ?_)); refine quiet_loadE (fun w' hw' => (R.1).below hw' (R.1).lt) Lr.len (by first | rfl | simp [Region.wanted, yielded]) rfl (by go_simp) ?_; go_simp; (with_reducible apply hK); clear hK K)
      ((with_reducible refine wpQuiet_step (fun K hK => ?_)); refine quiet_callG (.bool false) 18 #[.agg (uvals lr).toArray] (by first | rfl | simp [Region.wanted, yielded]) (fun w' => by go_simp) (fun w' hw' => (C29 w').mono (by rintro e w'' ⟨rfl, hb⟩; exact ⟨rfl, hw'.trans (hb.mono hw'.size)⟩)) ?_; go_simp; (with_reducible apply hK); clear hK K)
      ((with_reducible refine wpQuiet_step (fun K hK => ?_)); refine quiet_plainG (.bool true) (by first | rfl | simp [Region.wanted, yielded]) (fun w' hw' => by go_simp) ?_; go_simp; (with_reducible apply hK); clear hK K)
      ((with_reducible refine wpQuiet_step (fun K hK => ?_)); refine quiet_plainG (.bool true) (by first | rfl | simp [Region.wanted, yielded]) (fun w' hw' => by go_simp) ?_; go_simp; (with_reducible apply hK); clear hK K)
      ((with_reducible refine wpQuiet_step (fun K hK => ?_)); refine quiet_plainG (.bool true) (by first | rfl | simp [Region.wanted, yielded]) (fun w' hw' => by go_simp) ?_; go_simp; (with_reducible apply hK); clear hK K)
      ((with_reducible refine wpQuiet_step (fun K hK => ?_)); refine quiet_plainG (.bool true) (by first | rfl | simp [Region.wanted, yielded]) (fun w' hw' => by go_simp) ?_; go_simp; (with_reducible apply hK); clear hK K)
      ((with_reducible refine wpQuiet_step (fun K hK => ?_)); refine quiet_plainG (.bool true) (by first | rfl | simp [Region.wanted, yielded]) (fun w' hw' => by go_simp) ?_; go_simp; (with_reducible apply hK); clear hK K)
      refine wpQuiet_nil ?_
      intro wd hwd
      go_wp2_with fail
      go_ret
      exact ⟨rfl, BW.trans (hwd.mono BW.size)⟩
end Go.Proofs.Ytopelehfffjfeaa
