/-
FieldInverts, walked.
-/
import Derived.Test.YtopelehfffjfeaaFLaw2
import Derived.Test.YtopelehfffjfeaaDriftT
import Derived.Test.YtopelehfffjfeaaCut
namespace Go.Proofs.Ytopelehfffjfeaa
open Go.RowKit

set_option maxHeartbeats 8000000 in
theorem inverts_ok (s : ByteArray) (w : World) : Calls Try.prog 4 #[.string s] w (Tells w true) := by
  go_enter Try.func4, Try.ntmps4
  go_wp2_with fail
  refine (awake_ok w).mono ?_
  rintro e w1 ⟨rfl, BB⟩
  go_wp2_with fail
  refine (cut_ok s 32 w1).mono ?_
  rintro e _ ⟨rfl, rfl⟩
  generalize s.extract 0 32 = s1
  go_wp2_with fail
  refine (elOf s1 w1).mono ?_
  rintro e w2 ⟨va, rfl, Ea, b2⟩
  go_wp2_with fail
  refine (rfOf s1 w2).mono ?_
  rintro e w3 ⟨vx, rfl, Nx, b3⟩
  obtain ⟨la, rfl, La⟩ := Ea
  generalize fpOf s1 = a at *
  have BB4 := (BB.trans (b2.mono BB.size))
  have BB6 := BB4.trans (b3.mono BB4.size)
  clear BB b2 b3 BB4
  go_upto_region 5 with (refine new1 rfl rfl rfl rfl rfl La.len (by go_simp) (by go_simp) (fun w4 P => ?_))
  go_simp
  replace Nx := Lib.hid (Nx.below P.2)
  go_wp2_with (refine load_el2 P.1 La.len rfl rfl rfl ?_)
  have Ea := El.of La
  refine (elInvert Ea w4).mono ?_
  rintro e w5 ⟨vb, rfl, Eb, hb⟩
  replace P := P.below hb
  replace Nx := Lib.hid (Nx.out.below hb)
  clear hb
  obtain ⟨lb, rfl, Lb⟩ := Eb
  go_wp2_with (refine new1 rfl rfl rfl rfl rfl Lb.len (by go_simp) (by go_simp) (fun w6 R => ?_))
  go_simp
  replace P := P.below R.2
  replace Nx := Lib.hid (Nx.out.below R.2)
  have Eb := El.of Lb
  have Nd := Lib.hid (Nx.out.below (below_drewN (Below.refl _ _) 1 : Below w6.heap.size w6 w6.drew))
  have R1 := Lib.hid (R.1.drew 1)
  (refine wp_region_drift 2 (by kernel_rfl) (by kernel_rfl) ?_; simp only [List.take_succ_cons, List.take_zero, List.drop_succ_cons, List.drop_zero])
  (refine drift_step (fun K hK => ?_); refine drift_loadE (fun w' hw' => R1.out.below hw' R1.out.lt) Lb.len (by first | rfl | simp [Region.wanted, yielded]) rfl (by go_simp) ?_; go_simp; (with_reducible apply hK); clear hK K)
  (refine drift_step (fun K hK => ?_); refine drift_plain (vx) (by first | rfl | simp [Region.wanted, yielded]) (fun w' hw' => by go_simp) ?_; go_simp; (with_reducible apply hK); clear hK K)
  refine drift_nil ?_
  refine driftT_call 24 #[vx] (Rw.refl _) (by first | rfl | simp [Region.wanted, yielded]) (fun w' => by go_simp) (G := fun v w' => Hid (Num w' v (Fp.inv a).val)) (fun w1 h1 => (rfInvert (Nd.out.below h1))) (fun vy w7 h7 Ny => ?_)
  go_simp
  refine driftT_call 17 #[.agg (uvals lb).toArray, vy] h7 (by first | rfl | simp [Region.wanted, yielded]) (fun w' => by go_simp) (G := fun v w' => v = .bool true) (fun w1 h1 => (elIs' Eb (Ny.out.below h1)).mono (by rintro e w'' ⟨rfl, hb⟩; exact ⟨_, rfl, by rw [decide_eq_true rfl], hb⟩)) (fun v8 w8 h8 e8 => ?_)
  subst e8
  go_simp
  have h8' := Rw.trans h7 h8
  refine driftT_plain (.bool false) h8' (by first | rfl | simp [Region.wanted, yielded]) (fun w' _ => by go_simp) (fun w9 h9 => ?_)
  refine driftT_nil (fun wa ha => ?_)
  have hA : Below w6.heap.size w6 wa := (below_drewN (Below.refl _ _) 1 : Below w6.heap.size w6 w6.drew).trans (Below.mono (Rw.trans (Rw.trans h8' h9) ha) (Nat.le_refl _))
  have P3 := P.1.below hA P.1.lt
  have R3 := R.1.below hA R.1.lt
  have BW := (BB6.trans (P.2.mono BB6.size)).trans (hA.mono (Nat.le_trans BB6.size P.2.size))
  clear Nd R1 Nx P R hA ha h9 h8' h7 h8 Ny BB6
  go_simp
  by_cases h : a = 0
  · have hi : Fp.inv a = 0 := by rw [h]; exact Fp.inv_zero
    go_wp2_with (first | refine load_el2 P3 La.len rfl rfl rfl ?_ | refine load_el2 R3 Lb.len rfl rfl rfl ?_)
    refine (elZero Ea wa).mono ?_
    rintro e w10 ⟨rfl, hb⟩
    rw [decide_eq_true h]
    replace P3 := P3.below hb P3.lt
    replace R3 := R3.below hb R3.lt
    replace BW := BW.trans (hb.mono BW.size)
    clear hb
    go_wp2_with (first | refine load_el2 P3 La.len rfl rfl rfl ?_ | refine load_el2 R3 Lb.len rfl rfl rfl ?_)
    refine (elZero Eb w10).mono ?_
    rintro e w11 ⟨rfl, hb⟩
    rw [decide_eq_true hi]
    replace P3 := P3.below hb P3.lt
    replace R3 := R3.below hb R3.lt
    replace BW := BW.trans (hb.mono BW.size)
    clear hb
    go_wp2_with (first | refine load_el2 P3 La.len rfl rfl rfl ?_ | refine load_el2 R3 Lb.len rfl rfl rfl ?_)
    go_ret
    exact ⟨rfl, BW⟩
  · have hm := Fp.mul_inv h
    go_wp2_with (first | refine load_el2 P3 La.len rfl rfl rfl ?_ | refine load_el2 R3 Lb.len rfl rfl rfl ?_)
    refine (elZero Ea wa).mono ?_
    rintro e w10 ⟨rfl, hb⟩
    rw [decide_eq_false h]
    replace P3 := P3.below hb P3.lt
    replace R3 := R3.below hb R3.lt
    replace BW := BW.trans (hb.mono BW.size)
    clear hb
    go_wp2_with (first | refine load_el2 P3 La.len rfl rfl rfl ?_ | refine load_el2 R3 Lb.len rfl rfl rfl ?_)
    refine (elMul Ea Eb w10).mono ?_
    rintro e w11 ⟨vm, rfl, Em, hb⟩
    replace P3 := P3.below hb P3.lt
    replace R3 := R3.below hb R3.lt
    replace BW := BW.trans (hb.mono BW.size)
    clear hb
    go_wp2_with fail
    refine (elSmallC1 w11).mono ?_
    rintro e w12 ⟨v1, rfl, E1, hb⟩
    replace P3 := P3.below hb P3.lt
    replace R3 := R3.below hb R3.lt
    replace BW := BW.trans (hb.mono BW.size)
    clear hb
    go_wp2_with fail
    refine (elSame Em E1 w12).mono ?_
    rintro e w13 ⟨rfl, hb⟩
    rw [decide_eq_true hm]
    replace P3 := P3.below hb P3.lt
    replace R3 := R3.below hb R3.lt
    replace BW := BW.trans (hb.mono BW.size)
    clear hb
    go_wp2_with fail
    go_ret
    exact ⟨rfl, BW⟩
end Go.Proofs.Ytopelehfffjfeaa
