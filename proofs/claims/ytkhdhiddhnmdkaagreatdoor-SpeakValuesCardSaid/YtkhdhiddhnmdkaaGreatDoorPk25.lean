/-
edsign: the sum of two points.
The document's numbers in digits of 16 bits: what is left of one by another.
The document's modulus of layer 7, and what is reduced by it.
-/
import Derived.Deep.LoopGhost
import Derived.Lib.SmallJoins
import Derived.Test.YtkhdhiddhnmdkaaGreatDoorPk24
import Derived.Test.YtkhdhiddhnmdkaaGreatDoorPk09
namespace Go.Proofs.YtkhdhiddhnmdkaaGreatDoor
open Go.RowKit
namespace Eds
set_option maxHeartbeats 16000000 in
set_option maxRecDepth 100000 in
theorem add_ok (b : Nat) (d d2 : Fp) (lb l1 l2 : List Nat) (X1 Y1 Z1 T1 X2 Y2 Z2 T2 : Fp) (w : World) (hc : Cv w b d d2 lb) (h1 : Co l1 X1 Y1 Z1 T1) (h2 : Co l2 X2 Y2 Z2 T2) :
    Calls Tryz.prog 63 #[.pointer (some ⟨b, 0, none⟩), .agg (uvals l1).toArray, .agg (uvals l2).toArray] w fun e w' =>
      ∃ l, e = .returned (.agg (uvals l).toArray) ∧ Co l ((Ed.bF X1 Y1 X2 Y2 - Ed.aF X1 Y1 X2 Y2) * ((Z1 * Z2 + Z1 * Z2) - T1 * d2 * T2)) (((Z1 * Z2 + Z1 * Z2) + T1 * d2 * T2) * (Ed.bF X1 Y1 X2 Y2 + Ed.aF X1 Y1 X2 Y2))
        (((Z1 * Z2 + Z1 * Z2) - T1 * d2 * T2) * ((Z1 * Z2 + Z1 * Z2) + T1 * d2 * T2)) ((Ed.bF X1 Y1 X2 Y2 - Ed.aF X1 Y1 X2 Y2) * (Ed.bF X1 Y1 X2 Y2 + Ed.aF X1 Y1 X2 Y2)) ∧ Below w.heap.size w w' := by
  obtain ⟨ld, lt, HC, Ld, Lt, Lb⟩ := hc.parts
  obtain ⟨px, py, pz, pt, rfl, Px, Py, Pz, Pt⟩ := h1.parts
  obtain ⟨qx, qy, qz, qt, rfl, Qx, Qy, Qz, Qt⟩ := h2.parts
  obtain ⟨a1, A1, CA1⟩ := qSub Py Px
  obtain ⟨a2, A2, CA2⟩ := qSub Qy Qx
  obtain ⟨a3, A3, CA3⟩ := qMul A1 A2
  obtain ⟨b1, B1, CB1⟩ := qAdd Py Px
  obtain ⟨b2, B2, CB2⟩ := qAdd Qy Qx
  obtain ⟨b3, B3, CB3⟩ := qMul B1 B2
  obtain ⟨t1, T1', CT1⟩ := qMul Pt Lt
  obtain ⟨t2, T2', CT2⟩ := qMul T1' Qt
  obtain ⟨z1, Z1', CZ1⟩ := qMul Pz Qz
  obtain ⟨z2, Z2', CZ2⟩ := qAdd Z1' Z1'
  obtain ⟨e, E', CE⟩ := qSub B3 A3
  obtain ⟨f, F', CF⟩ := qSub Z2' T2'
  obtain ⟨g, G', CG⟩ := qAdd Z2' T2'
  obtain ⟨h, H', CH⟩ := qAdd B3 A3
  obtain ⟨r1, R1, CR1⟩ := qMul E' F'
  obtain ⟨r2, R2, CR2⟩ := qMul G' H'
  obtain ⟨r3, R3, CR3⟩ := qMul F' G'
  obtain ⟨r4, R4, CR4⟩ := qMul E' H'
  have HR := co R1 R2 R3 R4
  have HL := HR.len
  have LQ : (qx ++ (qy ++ (qz ++ qt))).length = 20 := h2.len
  go_enter Tryz.func63, Tryz.ntmps63
  go_upto_region 1 with fail
  refine wp_gen (fun wx => Blk wx w.heap.size tQ (uvals (px ++ (py ++ (pz ++ pt)))) ∧ Blk wx (w.heap.size + 1) tQ (uvals (qx ++ (qy ++ (qz ++ qt)))) ∧ Blk wx (w.heap.size + 2) tQ (uvals zero20) ∧ Below w.heap.size w wx) ⟨((Blk.new w _ _).alloc _).alloc _, (Blk.new2 _ _ _ _).alloc _, Blk.new3 _ _ _ _ _, below3 _ _ _ _⟩ ?_
  clear h1 h2 hc
  rintro w1 ⟨O4, O5, O6, BW⟩
  replace HC := HC.below BW HC.lt
  have Dr : Below w1.heap.size w1 w1.drew := below_drewN (Below.refl _ _) 1
  have MO4 := O4.below Dr O4.lt
  have MO5 := O5.below Dr O5.lt
  have MO6 := O6.below Dr O6.lt
  have MHC := HC.below Dr HC.lt
  (refine wp_region_drift 11 (by kernel_rfl) (by kernel_rfl) ?_; simp only [List.take_succ_cons, List.take_zero, List.drop_succ_cons, List.drop_zero])
  (refine drift_step (fun K hK => ?_); refine drift_plain (.pointer (some ⟨w.heap.size, 5, none⟩)) (by first | rfl | simp [Region.wanted, yielded]) (fun w' hw' => by go_simp) ?_; go_simp; (with_reducible apply hK); clear hK K)
  (refine drift_step (fun K hK => ?_); refine drift_loadM (fun w' hw' => rg (MO4.below hw' MO4.lt) Px.len) Py.len (by first | rfl | simp [Region.wanted, yielded]) rfl (by go_simp) ?_; go_simp; (with_reducible apply hK); clear hK K)
  (refine drift_step (fun K hK => ?_); refine drift_plain (.pointer (some ⟨w.heap.size, 0, none⟩)) (by first | rfl | simp [Region.wanted, yielded]) (fun w' hw' => by go_simp) ?_; go_simp; (with_reducible apply hK); clear hK K)
  (refine drift_step (fun K hK => ?_); refine drift_loadM (fun w' hw' => rg0 (MO4.below hw' MO4.lt)) Px.len (by first | rfl | simp [Region.wanted, yielded]) rfl (by go_simp) ?_; go_simp; (with_reducible apply hK); clear hK K)
  (refine drift_step (fun K hK => ?_); refine drift_call (.agg (uvals (a1)).toArray) 67 #[.agg (uvals py).toArray, .agg (uvals px).toArray] (by first | rfl | simp [Region.wanted, yielded]) (fun w' => by go_simp) (fun w' hw' => (CA1 w').mono (by rintro e w'' ⟨rfl, hb⟩; exact ⟨rfl, hb⟩)) ?_; go_simp; (with_reducible apply hK); clear hK K)
  (refine drift_step (fun K hK => ?_); refine drift_plain (.pointer (some ⟨w.heap.size + 1, 5, none⟩)) (by first | rfl | simp [Region.wanted, yielded]) (fun w' hw' => by go_simp) ?_; go_simp; (with_reducible apply hK); clear hK K)
  (refine drift_step (fun K hK => ?_); refine drift_loadM (fun w' hw' => rg (MO5.below hw' MO5.lt) Qx.len) Qy.len (by first | rfl | simp [Region.wanted, yielded]) rfl (by go_simp) ?_; go_simp; (with_reducible apply hK); clear hK K)
  (refine drift_step (fun K hK => ?_); refine drift_plain (.pointer (some ⟨w.heap.size + 1, 0, none⟩)) (by first | rfl | simp [Region.wanted, yielded]) (fun w' hw' => by go_simp) ?_; go_simp; (with_reducible apply hK); clear hK K)
  (refine drift_step (fun K hK => ?_); refine drift_loadM (fun w' hw' => rg0 (MO5.below hw' MO5.lt)) Qx.len (by first | rfl | simp [Region.wanted, yielded]) rfl (by go_simp) ?_; go_simp; (with_reducible apply hK); clear hK K)
  (refine drift_step (fun K hK => ?_); refine drift_call (.agg (uvals (a2)).toArray) 67 #[.agg (uvals qy).toArray, .agg (uvals qx).toArray] (by first | rfl | simp [Region.wanted, yielded]) (fun w' => by go_simp) (fun w' hw' => (CA2 w').mono (by rintro e w'' ⟨rfl, hb⟩; exact ⟨rfl, hb⟩)) ?_; go_simp; (with_reducible apply hK); clear hK K)
  (refine drift_step (fun K hK => ?_); refine drift_call (.agg (uvals (a3)).toArray) 40 #[.agg (uvals a1).toArray, .agg (uvals a2).toArray] (by first | rfl | simp [Region.wanted, yielded]) (fun w' => by go_simp) (fun w' hw' => (CA3 w').mono (by rintro e w'' ⟨rfl, hb⟩; exact ⟨rfl, hb⟩)) ?_; go_simp; (with_reducible apply hK); clear hK K)
  refine drift_nil ?_
  refine drift_new rfl rfl rfl rfl rfl rfl (by simp) A3.len (fun v => rfl) (fun c7 w2 k1 HN N => ?_)
  have HB : Below w1.heap.size w1 w2 := Dr.trans (HN.mono Dr.size)
  have gc7 : w.heap.size ≤ c7 := Nat.le_trans BW.size k1
  clear Dr MO4 MO5 MO6 MHC
  replace O4 := O4.below HB O4.lt
  replace O5 := O5.below HB O5.lt
  replace O6 := O6.below HB O6.lt
  replace HC := HC.below HB HC.lt
  replace BW := BW.trans (HB.mono BW.size)
  have Oc7 := N
  clear N HN HB k1
  go_simp
  go_upto_region 2 with fail
  have Dr : Below w2.heap.size w2 w2.drew := below_drewN (Below.refl _ _) 1
  have MO4 := O4.below Dr O4.lt
  have MO5 := O5.below Dr O5.lt
  have MO6 := O6.below Dr O6.lt
  have MHC := HC.below Dr HC.lt
  have MOc7 := Oc7.below Dr Oc7.lt
  (refine wp_region_drift 11 (by kernel_rfl) (by kernel_rfl) ?_; simp only [List.take_succ_cons, List.take_zero, List.drop_succ_cons, List.drop_zero])
  (refine drift_step (fun K hK => ?_); refine drift_plain (.pointer (some ⟨w.heap.size, 5, none⟩)) (by first | rfl | simp [Region.wanted, yielded]) (fun w' hw' => by go_simp) ?_; go_simp; (with_reducible apply hK); clear hK K)
  (refine drift_step (fun K hK => ?_); refine drift_loadM (fun w' hw' => rg (MO4.below hw' MO4.lt) Px.len) Py.len (by first | rfl | simp [Region.wanted, yielded]) rfl (by go_simp) ?_; go_simp; (with_reducible apply hK); clear hK K)
  (refine drift_step (fun K hK => ?_); refine drift_plain (.pointer (some ⟨w.heap.size, 0, none⟩)) (by first | rfl | simp [Region.wanted, yielded]) (fun w' hw' => by go_simp) ?_; go_simp; (with_reducible apply hK); clear hK K)
  (refine drift_step (fun K hK => ?_); refine drift_loadM (fun w' hw' => rg0 (MO4.below hw' MO4.lt)) Px.len (by first | rfl | simp [Region.wanted, yielded]) rfl (by go_simp) ?_; go_simp; (with_reducible apply hK); clear hK K)
  (refine drift_step (fun K hK => ?_); refine drift_call (.agg (uvals (b1)).toArray) 58 #[.agg (uvals py).toArray, .agg (uvals px).toArray] (by first | rfl | simp [Region.wanted, yielded]) (fun w' => by go_simp) (fun w' hw' => (CB1 w').mono (by rintro e w'' ⟨rfl, hb⟩; exact ⟨rfl, hb⟩)) ?_; go_simp; (with_reducible apply hK); clear hK K)
  (refine drift_step (fun K hK => ?_); refine drift_plain (.pointer (some ⟨w.heap.size + 1, 5, none⟩)) (by first | rfl | simp [Region.wanted, yielded]) (fun w' hw' => by go_simp) ?_; go_simp; (with_reducible apply hK); clear hK K)
  (refine drift_step (fun K hK => ?_); refine drift_loadM (fun w' hw' => rg (MO5.below hw' MO5.lt) Qx.len) Qy.len (by first | rfl | simp [Region.wanted, yielded]) rfl (by go_simp) ?_; go_simp; (with_reducible apply hK); clear hK K)
  (refine drift_step (fun K hK => ?_); refine drift_plain (.pointer (some ⟨w.heap.size + 1, 0, none⟩)) (by first | rfl | simp [Region.wanted, yielded]) (fun w' hw' => by go_simp) ?_; go_simp; (with_reducible apply hK); clear hK K)
  (refine drift_step (fun K hK => ?_); refine drift_loadM (fun w' hw' => rg0 (MO5.below hw' MO5.lt)) Qx.len (by first | rfl | simp [Region.wanted, yielded]) rfl (by go_simp) ?_; go_simp; (with_reducible apply hK); clear hK K)
  (refine drift_step (fun K hK => ?_); refine drift_call (.agg (uvals (b2)).toArray) 58 #[.agg (uvals qy).toArray, .agg (uvals qx).toArray] (by first | rfl | simp [Region.wanted, yielded]) (fun w' => by go_simp) (fun w' hw' => (CB2 w').mono (by rintro e w'' ⟨rfl, hb⟩; exact ⟨rfl, hb⟩)) ?_; go_simp; (with_reducible apply hK); clear hK K)
  (refine drift_step (fun K hK => ?_); refine drift_call (.agg (uvals (b3)).toArray) 40 #[.agg (uvals b1).toArray, .agg (uvals b2).toArray] (by first | rfl | simp [Region.wanted, yielded]) (fun w' => by go_simp) (fun w' hw' => (CB3 w').mono (by rintro e w'' ⟨rfl, hb⟩; exact ⟨rfl, hb⟩)) ?_; go_simp; (with_reducible apply hK); clear hK K)
  refine drift_nil ?_
  refine drift_new rfl rfl rfl rfl rfl rfl (by simp) B3.len (fun v => rfl) (fun c8 w3 k1 HN N => ?_)
  have HB : Below w2.heap.size w2 w3 := Dr.trans (HN.mono Dr.size)
  have gc8 : w.heap.size ≤ c8 := Nat.le_trans BW.size k1
  clear Dr MO4 MO5 MO6 MHC MOc7
  replace O4 := O4.below HB O4.lt
  replace O5 := O5.below HB O5.lt
  replace O6 := O6.below HB O6.lt
  replace HC := HC.below HB HC.lt
  replace Oc7 := Oc7.below HB Oc7.lt
  replace BW := BW.trans (HB.mono BW.size)
  have Oc8 := N
  clear N HN HB k1
  go_simp
  go_upto_region 3 with fail
  have Dr : Below w3.heap.size w3 w3.drew := below_drewN (Below.refl _ _) 1
  have MO4 := O4.below Dr O4.lt
  have MO5 := O5.below Dr O5.lt
  have MO6 := O6.below Dr O6.lt
  have MHC := HC.below Dr HC.lt
  have MOc7 := Oc7.below Dr Oc7.lt
  have MOc8 := Oc8.below Dr Oc8.lt
  (refine wp_region_drift 10 (by kernel_rfl) (by kernel_rfl) ?_; simp only [List.take_succ_cons, List.take_zero, List.drop_succ_cons, List.drop_zero])
  (refine drift_step (fun K hK => ?_); refine drift_plain (.pointer (some ⟨w.heap.size, 15, none⟩)) (by first | rfl | simp [Region.wanted, yielded]) (fun w' hw' => by go_simp) ?_; go_simp; (with_reducible apply hK); clear hK K)
  (refine drift_step (fun K hK => ?_); refine drift_loadM (fun w' hw' => rgE (p := px ++ (py ++ pz)) (l := pt) (by rw [List.append_assoc, List.append_assoc]; exact (MO4.below hw' MO4.lt)) (by rw [List.length_append, List.length_append, Px.len, Py.len, Pz.len])) Pt.len (by first | rfl | simp [Region.wanted, yielded]) rfl (by go_simp) ?_; go_simp; (with_reducible apply hK); clear hK K)
  (refine drift_step (fun K hK => ?_); refine drift_plain (.pointer (some ⟨b, 0, none⟩)) (by first | rfl | simp [Region.wanted, yielded]) (fun w' hw' => by go_simp) ?_; go_simp; (with_reducible apply hK); clear hK K)
  (refine drift_step (fun K hK => ?_); refine drift_plain (.pointer (some ⟨b, 0, none⟩)) (by first | rfl | simp [Region.wanted, yielded]) (fun w' hw' => by go_simp) ?_; go_simp; (with_reducible apply hK); clear hK K)
  (refine drift_step (fun K hK => ?_); refine drift_plain (.pointer (some ⟨b, 5, none⟩)) (by first | rfl | simp [Region.wanted, yielded]) (fun w' hw' => by go_simp) ?_; go_simp; (with_reducible apply hK); clear hK K)
  (refine drift_step (fun K hK => ?_); refine drift_loadM (fun w' hw' => rg (MHC.below hw' MHC.lt) Ld.len) Lt.len (by first | rfl | simp [Region.wanted, yielded]) rfl (by go_simp) ?_; go_simp; (with_reducible apply hK); clear hK K)
  (refine drift_step (fun K hK => ?_); refine drift_call (.agg (uvals (t1)).toArray) 40 #[.agg (uvals pt).toArray, .agg (uvals lt).toArray] (by first | rfl | simp [Region.wanted, yielded]) (fun w' => by go_simp) (fun w' hw' => (CT1 w').mono (by rintro e w'' ⟨rfl, hb⟩; exact ⟨rfl, hb⟩)) ?_; go_simp; (with_reducible apply hK); clear hK K)
  (refine drift_step (fun K hK => ?_); refine drift_plain (.pointer (some ⟨w.heap.size + 1, 15, none⟩)) (by first | rfl | simp [Region.wanted, yielded]) (fun w' hw' => by go_simp) ?_; go_simp; (with_reducible apply hK); clear hK K)
  (refine drift_step (fun K hK => ?_); refine drift_loadM (fun w' hw' => rgE (p := qx ++ (qy ++ qz)) (l := qt) (by rw [List.append_assoc, List.append_assoc]; exact (MO5.below hw' MO5.lt)) (by rw [List.length_append, List.length_append, Qx.len, Qy.len, Qz.len])) Qt.len (by first | rfl | simp [Region.wanted, yielded]) rfl (by go_simp) ?_; go_simp; (with_reducible apply hK); clear hK K)
  (refine drift_step (fun K hK => ?_); refine drift_call (.agg (uvals (t2)).toArray) 40 #[.agg (uvals t1).toArray, .agg (uvals qt).toArray] (by first | rfl | simp [Region.wanted, yielded]) (fun w' => by go_simp) (fun w' hw' => (CT2 w').mono (by rintro e w'' ⟨rfl, hb⟩; exact ⟨rfl, hb⟩)) ?_; go_simp; (with_reducible apply hK); clear hK K)
  refine drift_nil ?_
  refine drift_new rfl rfl rfl rfl rfl rfl (by simp) T2'.len (fun v => rfl) (fun c9 w4 k1 HN N => ?_)
  have HB : Below w3.heap.size w3 w4 := Dr.trans (HN.mono Dr.size)
  have gc9 : w.heap.size ≤ c9 := Nat.le_trans BW.size k1
  clear Dr MO4 MO5 MO6 MHC MOc7 MOc8
  replace O4 := O4.below HB O4.lt
  replace O5 := O5.below HB O5.lt
  replace O6 := O6.below HB O6.lt
  replace HC := HC.below HB HC.lt
  replace Oc7 := Oc7.below HB Oc7.lt
  replace Oc8 := Oc8.below HB Oc8.lt
  replace BW := BW.trans (HB.mono BW.size)
  have Oc9 := N
  clear N HN HB k1
  go_simp
  go_upto_region 4 with fail
  have P2 := rg (p := px ++ py) (l := pz) (q := pt) (by rw [List.append_assoc]; exact O4) (by rw [List.length_append, Px.len, Py.len])
  have Q2 := rg (p := qx ++ qy) (l := qz) (q := qt) (by rw [List.append_assoc]; exact O5) (by rw [List.length_append, Qx.len, Qy.len])
  go_wp2_with (first | refine load_mid (b := w.heap.size) P2 Pz.len rfl rfl rfl ?_ | refine load_mid Q2 Qz.len rfl rfl rfl ?_)
  refine (CZ1 w4).mono ?_
  rintro e5 w5 ⟨rfl, hb⟩
  clear P2 Q2
  replace O4 := O4.below hb O4.lt
  replace O5 := O5.below hb O5.lt
  replace O6 := O6.below hb O6.lt
  replace HC := HC.below hb HC.lt
  replace Oc7 := Oc7.below hb Oc7.lt
  replace Oc8 := Oc8.below hb Oc8.lt
  replace Oc9 := Oc9.below hb Oc9.lt
  replace BW := BW.trans (hb.mono BW.size)
  clear hb
  have n6 : w.heap.size + 2 < w5.heap.size := O6.lt
  have nc7 : c7 < w5.heap.size := Oc7.lt
  have nc8 : c8 < w5.heap.size := Oc8.lt
  have nc9 : c9 < w5.heap.size := Oc9.lt
  go_upto_region 5 with (refine new1 rfl rfl rfl rfl rfl Z1'.len (by go_simp) (by go_simp) (fun w6 R => ?_))
  have hb := R.2
  have Oc10 := R.1
  have gc10 : w.heap.size ≤ w5.heap.size := BW.size
  replace O4 := O4.below hb O4.lt
  replace O5 := O5.below hb O5.lt
  replace O6 := O6.below hb O6.lt
  replace HC := HC.below hb HC.lt
  replace Oc7 := Oc7.below hb Oc7.lt
  replace Oc8 := Oc8.below hb Oc8.lt
  replace Oc9 := Oc9.below hb Oc9.lt
  replace BW := BW.trans (hb.mono BW.size)
  clear hb R
  generalize w5.heap.size = c10 at *
  go_simp
  go_wp2_with (first | refine load_el2 Oc10 Z1'.len rfl rfl rfl ?_)
  refine (CZ2 w6).mono ?_
  rintro e7 w7 ⟨rfl, hb⟩
  replace O4 := O4.below hb O4.lt
  replace O5 := O5.below hb O5.lt
  replace O6 := O6.below hb O6.lt
  replace HC := HC.below hb HC.lt
  replace Oc7 := Oc7.below hb Oc7.lt
  replace Oc8 := Oc8.below hb Oc8.lt
  replace Oc9 := Oc9.below hb Oc9.lt
  replace Oc10 := Oc10.below hb Oc10.lt
  replace BW := BW.trans (hb.mono BW.size)
  clear hb
  go_upto_region 6 with (refine store_el Oc10 (Lib.hid Z1'.len) (Lib.hid Z2'.len) rfl rfl rfl rfl ?_)
  refine wp_gen (fun wx => Blk wx (w.heap.size + 2) tQ (uvals zero20) ∧ Blk wx c7 tE (uvals a3) ∧ Blk wx c8 tE (uvals b3) ∧ Blk wx c9 tE (uvals t2) ∧ Blk wx c10 tE (uvals z2) ∧ Below w.heap.size w wx) ⟨O6.farRow (by omega) _, Oc7.farRow (by omega) _, Oc8.farRow (by omega) _, Oc9.farRow (by omega) _, Oc10.setRow _, below_row BW _ _ gc10⟩ ?_
  clear O4 O5 O6 HC Oc7 Oc8 Oc9 Oc10 BW
  rintro w8 ⟨O6, Oc7, Oc8, Oc9, Oc10, BW⟩
  have Dr : Below w8.heap.size w8 w8.drew := below_drewN (Below.refl _ _) 1
  have MO6 := O6.below Dr O6.lt
  have MOc7 := Oc7.below Dr Oc7.lt
  have MOc8 := Oc8.below Dr Oc8.lt
  have MOc9 := Oc9.below Dr Oc9.lt
  have MOc10 := Oc10.below Dr Oc10.lt
  (refine wp_region_driftN 12 4 (by kernel_rfl) (by kernel_rfl) ?_; simp only [List.take_succ_cons, List.take_zero])
  (refine drift_step (fun K hK => ?_); refine drift_loadE (fun w' hw' => MOc8.below hw' MOc8.lt) B3.len (by first | rfl | simp [Region.wanted, yielded]) rfl (by go_simp) ?_; go_simp; (with_reducible apply hK); clear hK K)
  (refine drift_step (fun K hK => ?_); refine drift_loadE (fun w' hw' => MOc7.below hw' MOc7.lt) A3.len (by first | rfl | simp [Region.wanted, yielded]) rfl (by go_simp) ?_; go_simp; (with_reducible apply hK); clear hK K)
  (refine drift_step (fun K hK => ?_); refine drift_call (.agg (uvals (e)).toArray) 67 #[.agg (uvals b3).toArray, .agg (uvals a3).toArray] (by first | rfl | simp [Region.wanted, yielded]) (fun w' => by go_simp) (fun w' hw' => (CE w').mono (by rintro e w'' ⟨rfl, hb⟩; exact ⟨rfl, hb⟩)) ?_; go_simp; (with_reducible apply hK); clear hK K)
  (refine drift_step (fun K hK => ?_); refine drift_loadE (fun w' hw' => MOc10.below hw' MOc10.lt) Z2'.len (by first | rfl | simp [Region.wanted, yielded]) rfl (by go_simp) ?_; go_simp; (with_reducible apply hK); clear hK K)
  (refine drift_step (fun K hK => ?_); refine drift_loadE (fun w' hw' => MOc9.below hw' MOc9.lt) T2'.len (by first | rfl | simp [Region.wanted, yielded]) rfl (by go_simp) ?_; go_simp; (with_reducible apply hK); clear hK K)
  (refine drift_step (fun K hK => ?_); refine drift_call (.agg (uvals (f)).toArray) 67 #[.agg (uvals z2).toArray, .agg (uvals t2).toArray] (by first | rfl | simp [Region.wanted, yielded]) (fun w' => by go_simp) (fun w' hw' => (CF w').mono (by rintro e w'' ⟨rfl, hb⟩; exact ⟨rfl, hb⟩)) ?_; go_simp; (with_reducible apply hK); clear hK K)
  (refine drift_step (fun K hK => ?_); refine drift_loadE (fun w' hw' => MOc10.below hw' MOc10.lt) Z2'.len (by first | rfl | simp [Region.wanted, yielded]) rfl (by go_simp) ?_; go_simp; (with_reducible apply hK); clear hK K)
  (refine drift_step (fun K hK => ?_); refine drift_loadE (fun w' hw' => MOc9.below hw' MOc9.lt) T2'.len (by first | rfl | simp [Region.wanted, yielded]) rfl (by go_simp) ?_; go_simp; (with_reducible apply hK); clear hK K)
  (refine drift_step (fun K hK => ?_); refine drift_call (.agg (uvals (g)).toArray) 58 #[.agg (uvals z2).toArray, .agg (uvals t2).toArray] (by first | rfl | simp [Region.wanted, yielded]) (fun w' => by go_simp) (fun w' hw' => (CG w').mono (by rintro e w'' ⟨rfl, hb⟩; exact ⟨rfl, hb⟩)) ?_; go_simp; (with_reducible apply hK); clear hK K)
  (refine drift_step (fun K hK => ?_); refine drift_loadE (fun w' hw' => MOc8.below hw' MOc8.lt) B3.len (by first | rfl | simp [Region.wanted, yielded]) rfl (by go_simp) ?_; go_simp; (with_reducible apply hK); clear hK K)
  (refine drift_step (fun K hK => ?_); refine drift_loadE (fun w' hw' => MOc7.below hw' MOc7.lt) A3.len (by first | rfl | simp [Region.wanted, yielded]) rfl (by go_simp) ?_; go_simp; (with_reducible apply hK); clear hK K)
  (refine drift_step (fun K hK => ?_); refine drift_call (.agg (uvals (h)).toArray) 58 #[.agg (uvals b3).toArray, .agg (uvals a3).toArray] (by first | rfl | simp [Region.wanted, yielded]) (fun w' => by go_simp) (fun w' hw' => (CH w').mono (by rintro e w'' ⟨rfl, hb⟩; exact ⟨rfl, hb⟩)) ?_; go_simp; (with_reducible apply hK); clear hK K)
  refine drift_nil ?_
  intro listed hT
  refine wp_four (t := tE) (sz := 5) (l0 := e) (l1 := f) (l2 := g) (l3 := h) run_alloc_el elem_size rfl rfl rfl rfl rfl rfl rfl rfl rfl ⟨rfl, rfl, rfl⟩ ⟨rfl, rfl, rfl⟩ ⟨rfl, rfl, rfl⟩ ⟨rfl, rfl, rfl⟩ ⟨rfl, rfl, rfl⟩ ⟨rfl, rfl, rfl⟩ ⟨rfl, rfl, rfl⟩ ⟨rfl, rfl, rfl⟩ (by decide) (by simp) (by go_simp) (by go_simp) (by go_simp) (by go_simp) E'.len F'.len G'.len H'.len hT (fun c11 c12 c13 c14 w9 k11 k12 k13 k14 HN N11 N12 N13 N14 => ?_)
  have HB : Below w8.heap.size w8 w9 := Dr.trans (HN.mono Dr.size)
  replace O6 := O6.below HB O6.lt
  replace BW := BW.trans (HB.mono BW.size)
  clear Dr MO6 MOc7 MOc8 MOc9 MOc10 Oc7 Oc8 Oc9 Oc10 HN HB k11 k12 k13 k14 hT
  go_simp
  go_upto_region 7 with fail
  have Dr : Below w9.heap.size w9 w9.drew := below_drewN (Below.refl _ _) 1
  have MO6 := O6.below Dr O6.lt
  have MN11 := N11.below Dr N11.lt
  have MN12 := N12.below Dr N12.lt
  have MN13 := N13.below Dr N13.lt
  have MN14 := N14.below Dr N14.lt
  (refine wp_region_quiet_tail (C := fun w' => Below w9.drew.heap.size w9.drew w') 13 (by kernel_rfl) (by kernel_rfl) (Below.refl _ _) ?_; simp only [List.take_succ_cons, List.take_zero, List.drop_succ_cons, List.drop_zero])
  ((with_reducible refine wpQuiet_step (fun K hK => ?_)); refine quiet_loadE (fun w' hw' => MN11.below hw' MN11.lt) E'.len (by first | rfl | simp [Region.wanted, yielded]) rfl (by go_simp) ?_; go_simp; (with_reducible apply hK); clear hK K)
  ((with_reducible refine wpQuiet_step (fun K hK => ?_)); refine quiet_loadE (fun w' hw' => MN12.below hw' MN12.lt) F'.len (by first | rfl | simp [Region.wanted, yielded]) rfl (by go_simp) ?_; go_simp; (with_reducible apply hK); clear hK K)
  ((with_reducible refine wpQuiet_step (fun K hK => ?_)); refine quiet_callG (.agg (uvals (r1)).toArray) 40 #[.agg (uvals e).toArray, .agg (uvals f).toArray] (by first | rfl | simp [Region.wanted, yielded]) (fun w' => by go_simp) (fun w' hw' => (CR1 w').mono (by rintro e w'' ⟨rfl, hb⟩; exact ⟨rfl, hw'.trans (hb.mono hw'.size)⟩)) ?_; go_simp; (with_reducible apply hK); clear hK K)
  ((with_reducible refine wpQuiet_step (fun K hK => ?_)); refine quiet_loadE (fun w' hw' => MN13.below hw' MN13.lt) G'.len (by first | rfl | simp [Region.wanted, yielded]) rfl (by go_simp) ?_; go_simp; (with_reducible apply hK); clear hK K)
  ((with_reducible refine wpQuiet_step (fun K hK => ?_)); refine quiet_loadE (fun w' hw' => MN14.below hw' MN14.lt) H'.len (by first | rfl | simp [Region.wanted, yielded]) rfl (by go_simp) ?_; go_simp; (with_reducible apply hK); clear hK K)
  ((with_reducible refine wpQuiet_step (fun K hK => ?_)); refine quiet_callG (.agg (uvals (r2)).toArray) 40 #[.agg (uvals g).toArray, .agg (uvals h).toArray] (by first | rfl | simp [Region.wanted, yielded]) (fun w' => by go_simp) (fun w' hw' => (CR2 w').mono (by rintro e w'' ⟨rfl, hb⟩; exact ⟨rfl, hw'.trans (hb.mono hw'.size)⟩)) ?_; go_simp; (with_reducible apply hK); clear hK K)
  ((with_reducible refine wpQuiet_step (fun K hK => ?_)); refine quiet_loadE (fun w' hw' => MN12.below hw' MN12.lt) F'.len (by first | rfl | simp [Region.wanted, yielded]) rfl (by go_simp) ?_; go_simp; (with_reducible apply hK); clear hK K)
  ((with_reducible refine wpQuiet_step (fun K hK => ?_)); refine quiet_loadE (fun w' hw' => MN13.below hw' MN13.lt) G'.len (by first | rfl | simp [Region.wanted, yielded]) rfl (by go_simp) ?_; go_simp; (with_reducible apply hK); clear hK K)
  ((with_reducible refine wpQuiet_step (fun K hK => ?_)); refine quiet_callG (.agg (uvals (r3)).toArray) 40 #[.agg (uvals f).toArray, .agg (uvals g).toArray] (by first | rfl | simp [Region.wanted, yielded]) (fun w' => by go_simp) (fun w' hw' => (CR3 w').mono (by rintro e w'' ⟨rfl, hb⟩; exact ⟨rfl, hw'.trans (hb.mono hw'.size)⟩)) ?_; go_simp; (with_reducible apply hK); clear hK K)
  ((with_reducible refine wpQuiet_step (fun K hK => ?_)); refine quiet_loadE (fun w' hw' => MN11.below hw' MN11.lt) E'.len (by first | rfl | simp [Region.wanted, yielded]) rfl (by go_simp) ?_; go_simp; (with_reducible apply hK); clear hK K)
  ((with_reducible refine wpQuiet_step (fun K hK => ?_)); refine quiet_loadE (fun w' hw' => MN14.below hw' MN14.lt) H'.len (by first | rfl | simp [Region.wanted, yielded]) rfl (by go_simp) ?_; go_simp; (with_reducible apply hK); clear hK K)
  ((with_reducible refine wpQuiet_step (fun K hK => ?_)); refine quiet_callG (.agg (uvals (r4)).toArray) 40 #[.agg (uvals e).toArray, .agg (uvals h).toArray] (by first | rfl | simp [Region.wanted, yielded]) (fun w' => by go_simp) (fun w' hw' => (CR4 w').mono (by rintro e w'' ⟨rfl, hb⟩; exact ⟨rfl, hw'.trans (hb.mono hw'.size)⟩)) ?_; go_simp; (with_reducible apply hK); clear hK K)
  ((with_reducible refine wpQuiet_step (fun K hK => ?_)); refine quiet_plainG _ (by first | rfl | simp [Region.wanted, yielded]) (fun w' _ => Eds.run_bld4 rfl rfl rfl rfl rfl (R1.len) (R2.len) (R3.len) (R4.len) w') ?_; go_simp; (with_reducible apply hK); clear hK K)
  refine wpQuiet_nil ?_
  intro wa hwa
  have HB := Dr.trans (hwa.mono Dr.size)
  replace O6 := O6.below HB O6.lt
  replace BW := BW.trans (HB.mono BW.size)
  go_simp
  go_wp2_with (refine store_pt O6 rfl HL rfl rfl rfl rfl ?_)
  exact ret_pt rfl (O6.setRow _) HL rfl rfl ⟨_, rfl, HR, below_row BW _ _ (by omega)⟩
end Eds
end Go.Proofs.YtkhdhiddhnmdkaaGreatDoor

namespace Go.Proofs.YtkhdhiddhnmdkaaGreatDoor
open Go.RowKit

theorem num_len {l : List Nat} {N : Nat} (h : Can l) (hb : bv l < 65536 ^ N) : l.length ≤ N := by
  rcases Nat.lt_or_ge N l.length with hlt | hge
  · exfalso
    have h1 := h.lower (fun e => by rw [e] at hlt; exact Nat.not_lt_zero _ hlt)
    have h2 : 65536 ^ N ≤ 65536 ^ (l.length - 1) := Nat.pow_le_pow_right (by decide) (by omega)
    omega
  · exact hge
theorem pow_digits (z : Nat) : 2 ^ z < 65536 ^ (z / 16 + 1) := by
  rw [show (65536 : Nat) = 2 ^ 16 from rfl, ← Nat.pow_mul]
  exact Nat.pow_lt_pow_right (by decide) (by omega)
theorem mod_start {la lm : List Nat} (hs : Sm la) (hc : Can lm) (hpos : 0 < bv lm) : bv la < bv lm * 2 ^ ((16 * (la.length : Int) - 16 * lm.length + 16) + 1).toNat := by
  have h1 := bv_lt hs
  have hne : lm ≠ [] := fun e => by rw [e] at hpos; simp at hpos
  have h2 := hc.lower hne
  have hl : 0 < lm.length := by
    rcases Nat.eq_zero_or_pos lm.length with h | h
    · exact absurd (List.length_eq_zero_iff.1 h) hne
    · exact h
  generalize ht : ((16 * (la.length : Int) - 16 * lm.length + 16) + 1).toNat = t
  have h3 : 65536 ^ la.length ≤ 65536 ^ (lm.length - 1) * 2 ^ t := by
    rw [show (65536 : Nat) = 2 ^ 16 from rfl, ← Nat.pow_mul, ← Nat.pow_mul, ← Nat.pow_add]
    exact Nat.pow_le_pow_right (by decide) (by omega)
  have h4 : 65536 ^ (lm.length - 1) * 2 ^ t ≤ bv lm * 2 ^ t := Nat.mul_le_mul_right _ h2
  omega
theorem mod_sub {A M z : Nat} (h : A < M * 2 ^ (z + 1)) (hle : M * 2 ^ z ≤ A) : A - M * 2 ^ z < M * 2 ^ z ∧ (A - M * 2 ^ z) % M = A % M := by
  rw [Nat.pow_succ, ← Nat.mul_assoc] at h
  refine ⟨by omega, ?_⟩
  have e : A = (A - M * 2 ^ z) + M * 2 ^ z := by omega
  conv => rhs; rw [e]
  exact (Nat.add_mul_mod_self_left ..).symm

end Go.Proofs.YtkhdhiddhnmdkaaGreatDoor

namespace Go.Proofs.YtkhdhiddhnmdkaaGreatDoor
open Go.RowKit

/-- a number in decimal digits (bytes), the highest first -/
def dec (l : List Nat) : Nat := l.foldl (fun a d => a * 10 + (d - 48)) 0
def lDigits : List Nat := [50, 55, 55, 52, 50, 51, 49, 55, 55, 55, 55, 51, 55, 50, 51, 53, 51, 53, 51, 53, 56, 53, 49, 57, 51, 55, 55, 57, 48, 56, 56, 51, 54, 52, 56, 52, 57, 51]
def Lq : Nat := 2 ^ 252 + 27742317777372353535851937790883648493
theorem dec_next (l : List Nat) (k : Nat) (h : k < l.length) : dec (l.take (k + 1)) = dec (l.take k) * 10 + (l.getD k 0 - 48) := by
  rw [take_succ_getD _ _ h]; simp [dec, List.foldl_append]
theorem lDigits_ok : ∀ k, k < 38 → 48 ≤ lDigits.getD k 0 ∧ lDigits.getD k 0 ≤ 57 ∧ dec (lDigits.take k) < 65536 ^ 10 := by
  decide +kernel
theorem lDec : dec (lDigits.take 38) = 27742317777372353535851937790883648493 := by decide +kernel

theorem num_dig {w : World} {v : Value} {n N : Nat} (h : Num w v n) (hn : n < 65536 ^ N) : ∃ l, DigAt w v l ∧ Can l ∧ bv l = n ∧ l.length ≤ N := by
  obtain ⟨l, hd, hc, hb⟩ := h
  exact ⟨l, hd, hc, hb, num_len hc (by rw [hb]; exact hn)⟩

theorem Lq_pos : 0 < Lq := by decide
theorem Lq_lt : Lq < 65536 ^ 16 := by decide
theorem le8_size (s : ByteArray) : le8 s.data.toList < 256 ^ s.size := by
  have := le8_lt s.data.toList
  rwa [Array.length_toList] at this
theorem le8_N (s : ByteArray) (n : Nat) (h : s.size ≤ 2 * n) : le8 s.data.toList < 65536 ^ n := by
  rw [← pow256]; exact Nat.lt_of_lt_of_le (le8_size s) (Nat.pow_le_pow_right (by decide) h)

/-- what the document's reducing answers -/
def redOf (n : Nat) : ByteArray := ⟨(leBytes (n % Lq) 32).toArray⟩

end Go.Proofs.YtkhdhiddhnmdkaaGreatDoor
