/-
The curve's swap, walked.
The curve's step, walked.
The curve's Mult, walked.
-/
import Derived.Deep.DeepCutAuto
import Derived.LoopTactic
import Derived.Test.YtkhdhiddhnmdkaaGreatDoorPk18
import Derived.Test.YtkhdhiddhnmdkaaGreatDoorPk19
import Derived.Test.YtkhdhiddhnmdkaaGreatDoorPk20
namespace Go.Proofs.YtkhdhiddhnmdkaaGreatDoor
open Go.RowKit

set_option maxHeartbeats 8000000 in
set_option maxRecDepth 100000 in
theorem swap_ok (c : Bool) (A B : Nat) (Xa Za Xb Zb : Fp) (w : World) (ha : Pk w A Xa Za) (hb : Pk w B Xb Zb) (hne : A ≠ B) :
    Calls Tryz.prog 38 #[.bool c, .pointer (some ⟨A, 0, none⟩), .pointer (some ⟨B, 0, none⟩)] w fun e w' => e = .returned (.tuple #[]) ∧ Pk w' A (if c then Xb else Xa) (if c then Zb else Za) ∧ Pk w' B (if c then Xa else Xb) (if c then Za else Zb) ∧ Keeps (fun k => k = A ∨ k = B) w w' := by
  obtain ⟨la, ma, PA0, La, Ma⟩ := ha
  obtain ⟨lb, mb, PB0, Lb, Mb⟩ := hb
  have D0 : Below w.heap.size w w.drew := below_drewN (Below.refl _ _) 1
  have PA := PA0.below D0
  have PB := PB0.below D0
  obtain ⟨l21, L21, C21⟩ := qChoose c Lb La
  obtain ⟨l22, L22, C22⟩ := qChoose c Mb Ma
  obtain ⟨l41, L41, C41⟩ := qChoose c La Lb
  obtain ⟨l42, L42, C42⟩ := qChoose c Ma Mb
  generalize (if c = true then Xb else Xa) = V1 at *
  generalize (if c = true then Zb else Za) = V2 at *
  generalize (if c = true then Xa else Xb) = V3 at *
  generalize (if c = true then Za else Zb) = V4 at *
  go_enter Tryz.func38, Tryz.ntmps38
  go_upto_region 0 with fail
  (refine wp_region_drift 21 (by kernel_rfl) (by kernel_rfl) ?_; simp only [List.take_succ_cons, List.take_zero, List.drop_succ_cons, List.drop_zero])
  (refine drift_step (fun K hK => ?_); refine drift_plain (.bool c) (by first | rfl | simp [Region.wanted, yielded]) (fun w' hw' => by go_simp) ?_; go_simp; (with_reducible apply hK); clear hK K)
  (refine drift_step (fun K hK => ?_); refine drift_plain (.pointer (some ⟨B, 0, none⟩)) (by first | rfl | simp [Region.wanted, yielded]) (fun w' hw' => by go_simp) ?_; go_simp; (with_reducible apply hK); clear hK K)
  (refine drift_step (fun K hK => ?_); refine drift_plain (.pointer (some ⟨B, 0, none⟩)) (by first | rfl | simp [Region.wanted, yielded]) (fun w' hw' => by go_simp) ?_; go_simp; (with_reducible apply hK); clear hK K)
  (refine drift_step (fun K hK => ?_); refine drift_plain (.pointer (some ⟨B, 0, none⟩)) (by first | rfl | simp [Region.wanted, yielded]) (fun w' hw' => by go_simp) ?_; go_simp; (with_reducible apply hK); clear hK K)
  (refine drift_step (fun K hK => ?_); refine drift_loadM (fun w' hw' => (PB.below hw').x) Lb.len (by first | rfl | simp [Region.wanted, yielded]) rfl (by go_simp) ?_; go_simp; (with_reducible apply hK); clear hK K)
  (refine drift_step (fun K hK => ?_); refine drift_plain (.pointer (some ⟨A, 0, none⟩)) (by first | rfl | simp [Region.wanted, yielded]) (fun w' hw' => by go_simp) ?_; go_simp; (with_reducible apply hK); clear hK K)
  (refine drift_step (fun K hK => ?_); refine drift_plain (.pointer (some ⟨A, 0, none⟩)) (by first | rfl | simp [Region.wanted, yielded]) (fun w' hw' => by go_simp) ?_; go_simp; (with_reducible apply hK); clear hK K)
  (refine drift_step (fun K hK => ?_); refine drift_plain (.pointer (some ⟨A, 0, none⟩)) (by first | rfl | simp [Region.wanted, yielded]) (fun w' hw' => by go_simp) ?_; go_simp; (with_reducible apply hK); clear hK K)
  (refine drift_step (fun K hK => ?_); refine drift_loadM (fun w' hw' => (PA.below hw').x) La.len (by first | rfl | simp [Region.wanted, yielded]) rfl (by go_simp) ?_; go_simp; (with_reducible apply hK); clear hK K)
  (refine drift_step (fun K hK => ?_); refine drift_call (.agg (uvals (l21)).toArray) 66 #[.bool c, .agg (uvals lb).toArray, .agg (uvals la).toArray] (by first | rfl | simp [Region.wanted, yielded]) (fun w' => by go_simp) (fun w' hw' => (C21 w').mono (by rintro e w'' ⟨rfl, hb⟩; exact ⟨rfl, hb⟩)) ?_; go_simp; (with_reducible apply hK); clear hK K)
  (refine drift_step (fun K hK => ?_); refine drift_plain (.bool c) (by first | rfl | simp [Region.wanted, yielded]) (fun w' hw' => by go_simp) ?_; go_simp; (with_reducible apply hK); clear hK K)
  (refine drift_step (fun K hK => ?_); refine drift_plain (.pointer (some ⟨B, 0, none⟩)) (by first | rfl | simp [Region.wanted, yielded]) (fun w' hw' => by go_simp) ?_; go_simp; (with_reducible apply hK); clear hK K)
  (refine drift_step (fun K hK => ?_); refine drift_plain (.pointer (some ⟨B, 0, none⟩)) (by first | rfl | simp [Region.wanted, yielded]) (fun w' hw' => by go_simp) ?_; go_simp; (with_reducible apply hK); clear hK K)
  (refine drift_step (fun K hK => ?_); refine drift_plain (.pointer (some ⟨B, 5, none⟩)) (by first | rfl | simp [Region.wanted, yielded]) (fun w' hw' => by go_simp) ?_; go_simp; (with_reducible apply hK); clear hK K)
  (refine drift_step (fun K hK => ?_); refine drift_loadM (fun w' hw' => (PB.below hw').z) Mb.len (by first | rfl | simp [Region.wanted, yielded]) rfl (by go_simp) ?_; go_simp; (with_reducible apply hK); clear hK K)
  (refine drift_step (fun K hK => ?_); refine drift_plain (.pointer (some ⟨A, 0, none⟩)) (by first | rfl | simp [Region.wanted, yielded]) (fun w' hw' => by go_simp) ?_; go_simp; (with_reducible apply hK); clear hK K)
  (refine drift_step (fun K hK => ?_); refine drift_plain (.pointer (some ⟨A, 0, none⟩)) (by first | rfl | simp [Region.wanted, yielded]) (fun w' hw' => by go_simp) ?_; go_simp; (with_reducible apply hK); clear hK K)
  (refine drift_step (fun K hK => ?_); refine drift_plain (.pointer (some ⟨A, 5, none⟩)) (by first | rfl | simp [Region.wanted, yielded]) (fun w' hw' => by go_simp) ?_; go_simp; (with_reducible apply hK); clear hK K)
  (refine drift_step (fun K hK => ?_); refine drift_loadM (fun w' hw' => (PA.below hw').z) Ma.len (by first | rfl | simp [Region.wanted, yielded]) rfl (by go_simp) ?_; go_simp; (with_reducible apply hK); clear hK K)
  (refine drift_step (fun K hK => ?_); refine drift_call (.agg (uvals (l22)).toArray) 66 #[.bool c, .agg (uvals mb).toArray, .agg (uvals ma).toArray] (by first | rfl | simp [Region.wanted, yielded]) (fun w' => by go_simp) (fun w' hw' => (C22 w').mono (by rintro e w'' ⟨rfl, hb⟩; exact ⟨rfl, hb⟩)) ?_; go_simp; (with_reducible apply hK); clear hK K)
  (refine drift_step (fun K hK => ?_); refine drift_build (L21.len) (L22.len) (by first | rfl | simp [Region.wanted, yielded]) rfl (by go_simp) (by go_simp) ?_; go_simp; (with_reducible apply hK); clear hK K)
  refine drift_nil ?_
  refine driftT_alloc run_alloc_pt (Rw.refl _) rfl rfl rfl (fun c6 v1 h1 k1 b1 => ?_)
  go_simp
  refine driftT_store (b := c6) (l := l21 ++ l22) (old := zero10) h1 pt_size b1 rfl (by rw [List.length_append, L21.len, L22.len]) k1 rfl rfl rfl (by go_simp) (by go_simp) (fun v2 h2 _ b2 => ?_)
  refine driftT_nil (fun w1 h3 => ?_)
  have BW : Below w.heap.size w w1 := D0.trans (Below.mono (Rw.trans h2 h3) D0.size)
  have C6 : Blk w1 c6 tP (uvals (l21 ++ l22)) := b2.below h3 b2.lt
  have g6 : w.heap.size ≤ c6 := k1
  clear h1 k1 b1 h2 b2 h3 PA PB D0
  go_simp
  have D1 : Below w1.heap.size w1 w1.drew := below_drewN (Below.refl _ _) 1
  have PA := (PA0.below BW).below D1
  have PB := (PB0.below BW).below D1
  go_upto_region 1 with fail
  (refine wp_region_drift 21 (by kernel_rfl) (by kernel_rfl) ?_; simp only [List.take_succ_cons, List.take_zero, List.drop_succ_cons, List.drop_zero])
  (refine drift_step (fun K hK => ?_); refine drift_plain (.bool c) (by first | rfl | simp [Region.wanted, yielded]) (fun w' hw' => by go_simp) ?_; go_simp; (with_reducible apply hK); clear hK K)
  (refine drift_step (fun K hK => ?_); refine drift_plain (.pointer (some ⟨A, 0, none⟩)) (by first | rfl | simp [Region.wanted, yielded]) (fun w' hw' => by go_simp) ?_; go_simp; (with_reducible apply hK); clear hK K)
  (refine drift_step (fun K hK => ?_); refine drift_plain (.pointer (some ⟨A, 0, none⟩)) (by first | rfl | simp [Region.wanted, yielded]) (fun w' hw' => by go_simp) ?_; go_simp; (with_reducible apply hK); clear hK K)
  (refine drift_step (fun K hK => ?_); refine drift_plain (.pointer (some ⟨A, 0, none⟩)) (by first | rfl | simp [Region.wanted, yielded]) (fun w' hw' => by go_simp) ?_; go_simp; (with_reducible apply hK); clear hK K)
  (refine drift_step (fun K hK => ?_); refine drift_loadM (fun w' hw' => (PA.below hw').x) La.len (by first | rfl | simp [Region.wanted, yielded]) rfl (by go_simp) ?_; go_simp; (with_reducible apply hK); clear hK K)
  (refine drift_step (fun K hK => ?_); refine drift_plain (.pointer (some ⟨B, 0, none⟩)) (by first | rfl | simp [Region.wanted, yielded]) (fun w' hw' => by go_simp) ?_; go_simp; (with_reducible apply hK); clear hK K)
  (refine drift_step (fun K hK => ?_); refine drift_plain (.pointer (some ⟨B, 0, none⟩)) (by first | rfl | simp [Region.wanted, yielded]) (fun w' hw' => by go_simp) ?_; go_simp; (with_reducible apply hK); clear hK K)
  (refine drift_step (fun K hK => ?_); refine drift_plain (.pointer (some ⟨B, 0, none⟩)) (by first | rfl | simp [Region.wanted, yielded]) (fun w' hw' => by go_simp) ?_; go_simp; (with_reducible apply hK); clear hK K)
  (refine drift_step (fun K hK => ?_); refine drift_loadM (fun w' hw' => (PB.below hw').x) Lb.len (by first | rfl | simp [Region.wanted, yielded]) rfl (by go_simp) ?_; go_simp; (with_reducible apply hK); clear hK K)
  (refine drift_step (fun K hK => ?_); refine drift_call (.agg (uvals (l41)).toArray) 66 #[.bool c, .agg (uvals la).toArray, .agg (uvals lb).toArray] (by first | rfl | simp [Region.wanted, yielded]) (fun w' => by go_simp) (fun w' hw' => (C41 w').mono (by rintro e w'' ⟨rfl, hb⟩; exact ⟨rfl, hb⟩)) ?_; go_simp; (with_reducible apply hK); clear hK K)
  (refine drift_step (fun K hK => ?_); refine drift_plain (.bool c) (by first | rfl | simp [Region.wanted, yielded]) (fun w' hw' => by go_simp) ?_; go_simp; (with_reducible apply hK); clear hK K)
  (refine drift_step (fun K hK => ?_); refine drift_plain (.pointer (some ⟨A, 0, none⟩)) (by first | rfl | simp [Region.wanted, yielded]) (fun w' hw' => by go_simp) ?_; go_simp; (with_reducible apply hK); clear hK K)
  (refine drift_step (fun K hK => ?_); refine drift_plain (.pointer (some ⟨A, 0, none⟩)) (by first | rfl | simp [Region.wanted, yielded]) (fun w' hw' => by go_simp) ?_; go_simp; (with_reducible apply hK); clear hK K)
  (refine drift_step (fun K hK => ?_); refine drift_plain (.pointer (some ⟨A, 5, none⟩)) (by first | rfl | simp [Region.wanted, yielded]) (fun w' hw' => by go_simp) ?_; go_simp; (with_reducible apply hK); clear hK K)
  (refine drift_step (fun K hK => ?_); refine drift_loadM (fun w' hw' => (PA.below hw').z) Ma.len (by first | rfl | simp [Region.wanted, yielded]) rfl (by go_simp) ?_; go_simp; (with_reducible apply hK); clear hK K)
  (refine drift_step (fun K hK => ?_); refine drift_plain (.pointer (some ⟨B, 0, none⟩)) (by first | rfl | simp [Region.wanted, yielded]) (fun w' hw' => by go_simp) ?_; go_simp; (with_reducible apply hK); clear hK K)
  (refine drift_step (fun K hK => ?_); refine drift_plain (.pointer (some ⟨B, 0, none⟩)) (by first | rfl | simp [Region.wanted, yielded]) (fun w' hw' => by go_simp) ?_; go_simp; (with_reducible apply hK); clear hK K)
  (refine drift_step (fun K hK => ?_); refine drift_plain (.pointer (some ⟨B, 5, none⟩)) (by first | rfl | simp [Region.wanted, yielded]) (fun w' hw' => by go_simp) ?_; go_simp; (with_reducible apply hK); clear hK K)
  (refine drift_step (fun K hK => ?_); refine drift_loadM (fun w' hw' => (PB.below hw').z) Mb.len (by first | rfl | simp [Region.wanted, yielded]) rfl (by go_simp) ?_; go_simp; (with_reducible apply hK); clear hK K)
  (refine drift_step (fun K hK => ?_); refine drift_call (.agg (uvals (l42)).toArray) 66 #[.bool c, .agg (uvals ma).toArray, .agg (uvals mb).toArray] (by first | rfl | simp [Region.wanted, yielded]) (fun w' => by go_simp) (fun w' hw' => (C42 w').mono (by rintro e w'' ⟨rfl, hb⟩; exact ⟨rfl, hb⟩)) ?_; go_simp; (with_reducible apply hK); clear hK K)
  (refine drift_step (fun K hK => ?_); refine drift_build (L41.len) (L42.len) (by first | rfl | simp [Region.wanted, yielded]) rfl (by go_simp) (by go_simp) ?_; go_simp; (with_reducible apply hK); clear hK K)
  refine drift_nil ?_
  refine driftT_alloc run_alloc_pt (Rw.refl _) rfl rfl rfl (fun c7 v1 h1 k1 b1 => ?_)
  go_simp
  refine driftT_store (b := c7) (l := l41 ++ l42) (old := zero10) h1 pt_size b1 rfl (by rw [List.length_append, L41.len, L42.len]) k1 rfl rfl rfl (by go_simp) (by go_simp) (fun v2 h2 _ b2 => ?_)
  refine driftT_nil (fun w2 h3 => ?_)
  have g7 : w.heap.size ≤ c7 := Nat.le_trans BW.size k1
  have BW2 : Below w1.heap.size w1 w2 := D1.trans (Below.mono (Rw.trans h2 h3) D1.size)
  have C7 : Blk w2 c7 tP (uvals (l41 ++ l42)) := b2.below h3 b2.lt
  replace C6 := C6.below BW2 C6.lt
  replace BW := BW.trans (BW2.mono BW.size)
  clear h1 k1 b1 h2 b2 h3 PA PB D1
  go_simp
  go_upto_region 2 with fail
  have D2 : Below w2.heap.size w2 w2.drew := below_drewN (Below.refl _ _) 1
  have PA := (PA0.below BW).below D2
  have PB' := (PB0.below BW).below D2
  have Q6 : PB w2.drew c6 l21 l22 := ⟨C6.below D2 C6.lt, L21.len, L22.len⟩
  have Q7 : PB w2.drew c7 l41 l42 := ⟨C7.below D2 C7.lt, L41.len, L42.len⟩
  have lA := PA0.lt
  have lB := PB0.lt
  have HW := BW.trans (D2.mono BW.size)
  have HK : Keeps (fun k => k = A ∨ k = B) w w2.drew := ⟨HW.os, HW.tape, HW.output, HW.size, fun k hk _ => HW.block k hk⟩
  have LN : (l21 ++ l22).length = 10 := by rw [List.length_append, L21.len, L22.len]
  have LM : (l41 ++ l42).length = 10 := by rw [List.length_append, L41.len, L42.len]
  have LA : (la ++ ma).length = 10 := by rw [List.length_append, La.len, Ma.len]
  have LB : (lb ++ mb).length = 10 := by rw [List.length_append, Lb.len, Mb.len]
  have n6 : ¬ (c6 = A ∨ c6 = B) := by omega
  have n7 : ¬ (c7 = A ∨ c7 = B) := by omega
  letI : Inhabited DK.MutF := ⟨⟨fun k => k = A ∨ k = B⟩⟩
  (refine DK.wp_region_drift 4 (by kernel_rfl) (by kernel_rfl) ?_; simp only [List.take_succ_cons, List.take_zero, List.drop_succ_cons, List.drop_zero])
  (refine DK.drift_step (fun K hK => ?_); refine DK.drift_plain (.pointer (some ⟨A, 0, none⟩)) (by first | rfl | simp [Region.wanted, yielded]) (fun w' hw' => by go_simp) ?_; go_simp; (with_reducible apply hK); clear hK K)
  (refine DK.drift_step (fun K hK => ?_); refine DK.drift_plain (.pointer (some ⟨B, 0, none⟩)) (by first | rfl | simp [Region.wanted, yielded]) (fun w' hw' => by go_simp) ?_; go_simp; (with_reducible apply hK); clear hK K)
  (refine DK.drift_step (fun K hK => ?_); refine DK.drift_loadP (fun w' hw' => Q6.keeps hw' n6) (by first | rfl | simp [Region.wanted, yielded]) rfl (by go_simp) ?_; go_simp; (with_reducible apply hK); clear hK K)
  (refine DK.drift_step (fun K hK => ?_); refine DK.drift_loadP (fun w' hw' => Q7.keeps hw' n7) (by first | rfl | simp [Region.wanted, yielded]) rfl (by go_simp) ?_; go_simp; (with_reducible apply hK); clear hK K)
  refine DK.drift_nil ?_
  refine DK.driftT_plain (.pointer (some ⟨A, 0, none⟩)) (DK.Rk.refl _) (by first | rfl | simp [Region.wanted, yielded]) (fun w' _ => by go_simp) (fun w4 h4 => ?_)
  go_simp
  have r4 := DK.Rk.trans (DK.Rk.refl w2.drew) h4
  refine DK.driftT_store (t := tP) (n := 10) (b := A) (l := l21 ++ l22) (old := la ++ ma) r4 pt_size (PA.below h4).1 LA LN (.inl rfl) rfl rfl rfl (by go_simp) (by go_simp) (fun w5 h5 r5 => ?_)
  go_simp
  have A5 : PB (w5.setRow A (uvals (l21 ++ l22)).toArray) A l21 l22 := ⟨((PA.below h4).below h5).1.setRow _, L21.len, L22.len⟩
  have B5 : PB (w5.setRow A (uvals (l21 ++ l22)).toArray) B lb mb := ⟨((PB'.below h4).below h5).1.farRow (Ne.symm hne) _, PB'.2⟩
  generalize w5.setRow A (uvals (l21 ++ l22)).toArray = w6 at *
  refine DK.driftT_plain (.pointer (some ⟨B, 0, none⟩)) r5 (by first | rfl | simp [Region.wanted, yielded]) (fun w' _ => by go_simp) (fun w7 h7 => ?_)
  have r7 := DK.Rk.trans r5 h7
  go_simp
  refine DK.driftT_store (t := tP) (n := 10) (b := B) (l := l41 ++ l42) (old := lb ++ mb) r7 pt_size (B5.below h7).1 LB LM (.inr rfl) rfl rfl rfl (by go_simp) (by go_simp) (fun w8 h8 r8 => ?_)
  have A8 : PB (w8.setRow B (uvals (l41 ++ l42)).toArray) A l21 l22 := ⟨((A5.below h7).below h8).1.farRow hne _, A5.2⟩
  have B8 : PB (w8.setRow B (uvals (l41 ++ l42)).toArray) B l41 l42 := ⟨((B5.below h7).below h8).1.setRow _, L41.len, L42.len⟩
  generalize w8.setRow B (uvals (l41 ++ l42)).toArray = w9 at *
  refine DK.driftT_nil (fun wa ha => ?_)
  have ra : Keeps (fun k => k = A ∨ k = B) w2.drew wa := DK.Rk.trans r8 ha
  go_simp
  go_wp2_with fail
  go_end0
  exact ⟨rfl, ⟨_, _, A8.below ha, L21, L22⟩, ⟨_, _, B8.below ha, L41, L42⟩, HK.trans ra (fun _ _ h => h)⟩
end Go.Proofs.YtkhdhiddhnmdkaaGreatDoor

namespace Go.Proofs.YtkhdhiddhnmdkaaGreatDoor
open Go.RowKit

theorem qSmall121665 : ∃ l, Lm l (121665 : Fp).val ∧ QC 37 #[.int .u64 121665] (.agg (uvals l).toArray) := qSmall 121665 (by decide)
set_option maxHeartbeats 16000000 in
set_option maxRecDepth 100000 in
theorem step_ok (lu : List Nat) (u : Fp) (A B : Nat) (X1 Z1 X2 Z2 : Fp) (w : World) (Lu : Lm lu u.val) (ha : Pk w A X1 Z1) (hb : Pk w B X2 Z2) (hne : A ≠ B) :
    Calls Tryz.prog 39 #[.agg (uvals lu).toArray, .pointer (some ⟨A, 0, none⟩), .pointer (some ⟨B, 0, none⟩)] w fun e w' => e = .returned (.tuple #[]) ∧ Pk w' A (Ed.dX X1 Z1) (Ed.dZ X1 Z1) ∧ Pk w' B (Ed.sX X1 Z1 X2 Z2) (Ed.sZ u X1 Z1 X2 Z2) ∧ Keeps (fun k => k = A ∨ k = B) w w' := by
  obtain ⟨la, ma, PAw, La, Ma⟩ := ha
  obtain ⟨lb, mb, PBw, Lb, Mb⟩ := hb
  obtain ⟨l101, L101, C101⟩ := qAdd La Ma
  obtain ⟨l102, L102, C102⟩ := qSub La Ma
  obtain ⟨l121, L121, C121⟩ := qSquare L101
  obtain ⟨l122, L122, C122⟩ := qSquare L102
  obtain ⟨le, Le, CE⟩ := qSub L121 L122
  obtain ⟨l141, L141, C141⟩ := qSub Lb Mb
  obtain ⟨l142, L142, C142⟩ := qMul L141 L101
  obtain ⟨l161, L161, C161⟩ := qAdd Lb Mb
  obtain ⟨l162, L162, C162⟩ := qMul L161 L102
  obtain ⟨l181, L181, C181⟩ := qAdd L142 L162
  obtain ⟨l182, L182, C182⟩ := qSquare L181
  obtain ⟨l183, L183, C183⟩ := qSub L142 L162
  obtain ⟨l184, L184, C184⟩ := qSquare L183
  obtain ⟨l185, L185, C185⟩ := qMul Lu L184
  obtain ⟨l201, L201, C201⟩ := qMul L121 L122
  obtain ⟨l202, L202, C202⟩ := qSmall121665
  obtain ⟨l203, L203, C203⟩ := qMul L202 Le
  obtain ⟨l204, L204, C204⟩ := qAdd L121 L203
  obtain ⟨l205, L205, C205⟩ := qMul Le L204
  go_enter Tryz.func39, Tryz.ntmps39
  go_upto_region 1 with fail
  refine wp_gen (fun wx => Blk wx w.heap.size tE (uvals lu) ∧ Below w.heap.size w wx) ⟨Blk.new w _ (uvals lu), below1 _ _⟩ ?_
  rintro w1 ⟨O3, BW⟩
  have PA0 := PAw.below BW
  have PB0 := PBw.below BW
  have lA := PAw.lt
  have lB := PBw.lt
  clear PAw PBw
  have Dr : Below w1.heap.size w1 w1.drew := below_drewN (Below.refl _ _) 1
  have BWs := BW.size
  have PA := PA0.below Dr
  have PB := PB0.below Dr
  have M3 := O3.below Dr O3.lt
  (refine wp_region_drift2 18 (by kernel_rfl) (by kernel_rfl) ?_; simp only [List.take_succ_cons, List.take_zero])
  (refine drift_step (fun K hK => ?_); refine drift_plain (.pointer (some ⟨A, 0, none⟩)) (by first | rfl | simp [Region.wanted, yielded]) (fun w' hw' => by go_simp) ?_; go_simp; (with_reducible apply hK); clear hK K)
  (refine drift_step (fun K hK => ?_); refine drift_plain (.pointer (some ⟨A, 0, none⟩)) (by first | rfl | simp [Region.wanted, yielded]) (fun w' hw' => by go_simp) ?_; go_simp; (with_reducible apply hK); clear hK K)
  (refine drift_step (fun K hK => ?_); refine drift_plain (.pointer (some ⟨A, 0, none⟩)) (by first | rfl | simp [Region.wanted, yielded]) (fun w' hw' => by go_simp) ?_; go_simp; (with_reducible apply hK); clear hK K)
  (refine drift_step (fun K hK => ?_); refine drift_loadM (fun w' hw' => (PA.below hw').x) La.len (by first | rfl | simp [Region.wanted, yielded]) rfl (by go_simp) ?_; go_simp; (with_reducible apply hK); clear hK K)
  (refine drift_step (fun K hK => ?_); refine drift_plain (.pointer (some ⟨A, 0, none⟩)) (by first | rfl | simp [Region.wanted, yielded]) (fun w' hw' => by go_simp) ?_; go_simp; (with_reducible apply hK); clear hK K)
  (refine drift_step (fun K hK => ?_); refine drift_plain (.pointer (some ⟨A, 0, none⟩)) (by first | rfl | simp [Region.wanted, yielded]) (fun w' hw' => by go_simp) ?_; go_simp; (with_reducible apply hK); clear hK K)
  (refine drift_step (fun K hK => ?_); refine drift_plain (.pointer (some ⟨A, 5, none⟩)) (by first | rfl | simp [Region.wanted, yielded]) (fun w' hw' => by go_simp) ?_; go_simp; (with_reducible apply hK); clear hK K)
  (refine drift_step (fun K hK => ?_); refine drift_loadM (fun w' hw' => (PA.below hw').z) Ma.len (by first | rfl | simp [Region.wanted, yielded]) rfl (by go_simp) ?_; go_simp; (with_reducible apply hK); clear hK K)
  (refine drift_step (fun K hK => ?_); refine drift_call (.agg (uvals (l101)).toArray) 58 #[.agg (uvals la).toArray, .agg (uvals ma).toArray] (by first | rfl | simp [Region.wanted, yielded]) (fun w' => by go_simp) (fun w' hw' => (C101 w').mono (by rintro e w'' ⟨rfl, hb⟩; exact ⟨rfl, hb⟩)) ?_; go_simp; (with_reducible apply hK); clear hK K)
  (refine drift_step (fun K hK => ?_); refine drift_plain (.pointer (some ⟨A, 0, none⟩)) (by first | rfl | simp [Region.wanted, yielded]) (fun w' hw' => by go_simp) ?_; go_simp; (with_reducible apply hK); clear hK K)
  (refine drift_step (fun K hK => ?_); refine drift_plain (.pointer (some ⟨A, 0, none⟩)) (by first | rfl | simp [Region.wanted, yielded]) (fun w' hw' => by go_simp) ?_; go_simp; (with_reducible apply hK); clear hK K)
  (refine drift_step (fun K hK => ?_); refine drift_plain (.pointer (some ⟨A, 0, none⟩)) (by first | rfl | simp [Region.wanted, yielded]) (fun w' hw' => by go_simp) ?_; go_simp; (with_reducible apply hK); clear hK K)
  (refine drift_step (fun K hK => ?_); refine drift_loadM (fun w' hw' => (PA.below hw').x) La.len (by first | rfl | simp [Region.wanted, yielded]) rfl (by go_simp) ?_; go_simp; (with_reducible apply hK); clear hK K)
  (refine drift_step (fun K hK => ?_); refine drift_plain (.pointer (some ⟨A, 0, none⟩)) (by first | rfl | simp [Region.wanted, yielded]) (fun w' hw' => by go_simp) ?_; go_simp; (with_reducible apply hK); clear hK K)
  (refine drift_step (fun K hK => ?_); refine drift_plain (.pointer (some ⟨A, 0, none⟩)) (by first | rfl | simp [Region.wanted, yielded]) (fun w' hw' => by go_simp) ?_; go_simp; (with_reducible apply hK); clear hK K)
  (refine drift_step (fun K hK => ?_); refine drift_plain (.pointer (some ⟨A, 5, none⟩)) (by first | rfl | simp [Region.wanted, yielded]) (fun w' hw' => by go_simp) ?_; go_simp; (with_reducible apply hK); clear hK K)
  (refine drift_step (fun K hK => ?_); refine drift_loadM (fun w' hw' => (PA.below hw').z) Ma.len (by first | rfl | simp [Region.wanted, yielded]) rfl (by go_simp) ?_; go_simp; (with_reducible apply hK); clear hK K)
  (refine drift_step (fun K hK => ?_); refine drift_call (.agg (uvals (l102)).toArray) 67 #[.agg (uvals la).toArray, .agg (uvals ma).toArray] (by first | rfl | simp [Region.wanted, yielded]) (fun w' => by go_simp) (fun w' hw' => (C102 w').mono (by rintro e w'' ⟨rfl, hb⟩; exact ⟨rfl, hb⟩)) ?_; go_simp; (with_reducible apply hK); clear hK K)
  refine drift_nil ?_
  intro listed hT
  refine wp_two (t := tE) (sz := 5) (l1 := l101) (l2 := l102) run_alloc_el elem_size rfl rfl rfl rfl rfl rfl rfl rfl rfl rfl rfl rfl rfl rfl rfl rfl rfl (by decide) L101.len L102.len (by intros; go_simp) (by intros; go_simp) (by intros; go_simp) (by intros; go_simp) hT (fun c6 c7 w2 ne6 k1 k2 HN N6 N7 => ?_)
  have HB : Below w1.heap.size w1 w2 := Dr.trans (Below.mono HN Dr.size)
  replace PA0 := PA0.below HB
  replace PB0 := PB0.below HB
  replace O3 := O3.below HB O3.lt
  have g6 : w.heap.size ≤ c6 := Nat.le_trans BWs k1
  have g7 : w.heap.size ≤ c7 := Nat.le_trans BWs k2
  have O6 := N6
  have O7 := N7
  replace BW := BW.trans (HB.mono BW.size)
  clear N6 N7 HN HB Dr BWs PA PB k1 k2 ne6 M3
  go_simp
  go_upto_region 2 with fail
  have Dr : Below w2.heap.size w2 w2.drew := below_drewN (Below.refl _ _) 1
  have BWs := BW.size
  have PA := PA0.below Dr
  have PB := PB0.below Dr
  have M3 := O3.below Dr O3.lt
  have M6 := O6.below Dr O6.lt
  have M7 := O7.below Dr O7.lt
  (refine wp_region_drift2 4 (by kernel_rfl) (by kernel_rfl) ?_; simp only [List.take_succ_cons, List.take_zero])
  (refine drift_step (fun K hK => ?_); refine drift_loadE (fun w' hw' => (M6).below hw' (M6).lt) L101.len (by first | rfl | simp [Region.wanted, yielded]) rfl (by go_simp) ?_; go_simp; (with_reducible apply hK); clear hK K)
  (refine drift_step (fun K hK => ?_); refine drift_call (.agg (uvals (l121)).toArray) 68 #[.agg (uvals l101).toArray] (by first | rfl | simp [Region.wanted, yielded]) (fun w' => by go_simp) (fun w' hw' => (C121 w').mono (by rintro e w'' ⟨rfl, hb⟩; exact ⟨rfl, hb⟩)) ?_; go_simp; (with_reducible apply hK); clear hK K)
  (refine drift_step (fun K hK => ?_); refine drift_loadE (fun w' hw' => (M7).below hw' (M7).lt) L102.len (by first | rfl | simp [Region.wanted, yielded]) rfl (by go_simp) ?_; go_simp; (with_reducible apply hK); clear hK K)
  (refine drift_step (fun K hK => ?_); refine drift_call (.agg (uvals (l122)).toArray) 68 #[.agg (uvals l102).toArray] (by first | rfl | simp [Region.wanted, yielded]) (fun w' => by go_simp) (fun w' hw' => (C122 w').mono (by rintro e w'' ⟨rfl, hb⟩; exact ⟨rfl, hb⟩)) ?_; go_simp; (with_reducible apply hK); clear hK K)
  refine drift_nil ?_
  intro listed hT
  refine wp_two (t := tE) (sz := 5) (l1 := l121) (l2 := l122) run_alloc_el elem_size rfl rfl rfl rfl rfl rfl rfl rfl rfl rfl rfl rfl rfl rfl rfl rfl rfl (by decide) L121.len L122.len (by intros; go_simp) (by intros; go_simp) (by intros; go_simp) (by intros; go_simp) hT (fun c8 c9 w3 ne8 k1 k2 HN N8 N9 => ?_)
  have HB : Below w2.heap.size w2 w3 := Dr.trans (Below.mono HN Dr.size)
  replace PA0 := PA0.below HB
  replace PB0 := PB0.below HB
  replace O3 := O3.below HB O3.lt
  replace O6 := O6.below HB O6.lt
  replace O7 := O7.below HB O7.lt
  have g8 : w.heap.size ≤ c8 := Nat.le_trans BWs k1
  have g9 : w.heap.size ≤ c9 := Nat.le_trans BWs k2
  have O8 := N8
  have O9 := N9
  replace BW := BW.trans (HB.mono BW.size)
  clear N8 N9 HN HB Dr BWs PA PB k1 k2 ne8 M3 M6 M7
  go_simp
  go_upto_region 3 with fail
  go_wp2_with (first | refine load_el2 O8 L121.len rfl rfl rfl ?_ | refine load_el2 O9 L122.len rfl rfl rfl ?_)
  refine (CE w3).mono ?_
  rintro e w3' ⟨rfl, hb⟩
  replace PA0 := PA0.below hb
  replace PB0 := PB0.below hb
  replace O3 := O3.below hb O3.lt
  replace O6 := O6.below hb O6.lt
  replace O7 := O7.below hb O7.lt
  replace O8 := O8.below hb O8.lt
  replace O9 := O9.below hb O9.lt
  replace BW := BW.trans (Below.mono hb BW.size)
  clear hb
  go_upto_region 4 with (refine new1 rfl rfl rfl rfl rfl Le.len (by go_simp) (by go_simp) (fun w4 R => ?_))
  have hb := R.2
  have O10 := R.1
  have g10 : w.heap.size ≤ w3'.heap.size := BW.size
  replace PA0 := PA0.below hb
  replace PB0 := PB0.below hb
  replace O3 := O3.below hb O3.lt
  replace O6 := O6.below hb O6.lt
  replace O7 := O7.below hb O7.lt
  replace O8 := O8.below hb O8.lt
  replace O9 := O9.below hb O9.lt
  replace BW := BW.trans (Below.mono hb BW.size)
  clear hb R
  generalize w3'.heap.size = c10 at *
  go_simp
  have Dr : Below w4.heap.size w4 w4.drew := below_drewN (Below.refl _ _) 1
  have BWs := BW.size
  have PA := PA0.below Dr
  have PB := PB0.below Dr
  have M3 := O3.below Dr O3.lt
  have M6 := O6.below Dr O6.lt
  have M7 := O7.below Dr O7.lt
  have M8 := O8.below Dr O8.lt
  have M9 := O9.below Dr O9.lt
  have M10 := O10.below Dr O10.lt
  (refine wp_region_drift 11 (by kernel_rfl) (by kernel_rfl) ?_; simp only [List.take_succ_cons, List.take_zero, List.drop_succ_cons, List.drop_zero])
  (refine drift_step (fun K hK => ?_); refine drift_plain (.pointer (some ⟨B, 0, none⟩)) (by first | rfl | simp [Region.wanted, yielded]) (fun w' hw' => by go_simp) ?_; go_simp; (with_reducible apply hK); clear hK K)
  (refine drift_step (fun K hK => ?_); refine drift_plain (.pointer (some ⟨B, 0, none⟩)) (by first | rfl | simp [Region.wanted, yielded]) (fun w' hw' => by go_simp) ?_; go_simp; (with_reducible apply hK); clear hK K)
  (refine drift_step (fun K hK => ?_); refine drift_plain (.pointer (some ⟨B, 0, none⟩)) (by first | rfl | simp [Region.wanted, yielded]) (fun w' hw' => by go_simp) ?_; go_simp; (with_reducible apply hK); clear hK K)
  (refine drift_step (fun K hK => ?_); refine drift_loadM (fun w' hw' => (PB.below hw').x) Lb.len (by first | rfl | simp [Region.wanted, yielded]) rfl (by go_simp) ?_; go_simp; (with_reducible apply hK); clear hK K)
  (refine drift_step (fun K hK => ?_); refine drift_plain (.pointer (some ⟨B, 0, none⟩)) (by first | rfl | simp [Region.wanted, yielded]) (fun w' hw' => by go_simp) ?_; go_simp; (with_reducible apply hK); clear hK K)
  (refine drift_step (fun K hK => ?_); refine drift_plain (.pointer (some ⟨B, 0, none⟩)) (by first | rfl | simp [Region.wanted, yielded]) (fun w' hw' => by go_simp) ?_; go_simp; (with_reducible apply hK); clear hK K)
  (refine drift_step (fun K hK => ?_); refine drift_plain (.pointer (some ⟨B, 5, none⟩)) (by first | rfl | simp [Region.wanted, yielded]) (fun w' hw' => by go_simp) ?_; go_simp; (with_reducible apply hK); clear hK K)
  (refine drift_step (fun K hK => ?_); refine drift_loadM (fun w' hw' => (PB.below hw').z) Mb.len (by first | rfl | simp [Region.wanted, yielded]) rfl (by go_simp) ?_; go_simp; (with_reducible apply hK); clear hK K)
  (refine drift_step (fun K hK => ?_); refine drift_call (.agg (uvals (l141)).toArray) 67 #[.agg (uvals lb).toArray, .agg (uvals mb).toArray] (by first | rfl | simp [Region.wanted, yielded]) (fun w' => by go_simp) (fun w' hw' => (C141 w').mono (by rintro e w'' ⟨rfl, hb⟩; exact ⟨rfl, hb⟩)) ?_; go_simp; (with_reducible apply hK); clear hK K)
  (refine drift_step (fun K hK => ?_); refine drift_loadE (fun w' hw' => (M6).below hw' (M6).lt) L101.len (by first | rfl | simp [Region.wanted, yielded]) rfl (by go_simp) ?_; go_simp; (with_reducible apply hK); clear hK K)
  (refine drift_step (fun K hK => ?_); refine drift_call (.agg (uvals (l142)).toArray) 40 #[.agg (uvals l141).toArray, .agg (uvals l101).toArray] (by first | rfl | simp [Region.wanted, yielded]) (fun w' => by go_simp) (fun w' hw' => (C142 w').mono (by rintro e w'' ⟨rfl, hb⟩; exact ⟨rfl, hb⟩)) ?_; go_simp; (with_reducible apply hK); clear hK K)
  refine drift_nil ?_
  refine driftT_alloc run_alloc_el (Rw.refl _) rfl rfl rfl (fun c11 v1 h1 k1 b1 => ?_)
  go_simp
  refine driftT_store (b := c11) (l := l142) (old := zero5) h1 elem_size b1 rfl L142.len k1 rfl rfl rfl (by go_simp) (by go_simp) (fun v2 h2 _ n11 => ?_)
  refine driftT_nil (fun w5 h3 => ?_)
  have HN := Rw.trans h2 h3
  have N11 := n11.below h3 n11.lt
  have HB : Below w4.heap.size w4 w5 := Dr.trans (Below.mono HN Dr.size)
  replace PA0 := PA0.below HB
  replace PB0 := PB0.below HB
  replace O3 := O3.below HB O3.lt
  replace O6 := O6.below HB O6.lt
  replace O7 := O7.below HB O7.lt
  replace O8 := O8.below HB O8.lt
  replace O9 := O9.below HB O9.lt
  replace O10 := O10.below HB O10.lt
  have g11 : w.heap.size ≤ c11 := Nat.le_trans BWs k1
  have O11 := N11
  replace BW := BW.trans (HB.mono BW.size)
  clear N11 HN HB Dr BWs PA PB k1 h1 b1 h2 h3 n11 M3 M6 M7 M8 M9 M10
  go_simp
  go_upto_region 5 with fail
  have Dr : Below w5.heap.size w5 w5.drew := below_drewN (Below.refl _ _) 1
  have BWs := BW.size
  have PA := PA0.below Dr
  have PB := PB0.below Dr
  have M3 := O3.below Dr O3.lt
  have M6 := O6.below Dr O6.lt
  have M7 := O7.below Dr O7.lt
  have M8 := O8.below Dr O8.lt
  have M9 := O9.below Dr O9.lt
  have M10 := O10.below Dr O10.lt
  have M11 := O11.below Dr O11.lt
  (refine wp_region_drift 11 (by kernel_rfl) (by kernel_rfl) ?_; simp only [List.take_succ_cons, List.take_zero, List.drop_succ_cons, List.drop_zero])
  (refine drift_step (fun K hK => ?_); refine drift_plain (.pointer (some ⟨B, 0, none⟩)) (by first | rfl | simp [Region.wanted, yielded]) (fun w' hw' => by go_simp) ?_; go_simp; (with_reducible apply hK); clear hK K)
  (refine drift_step (fun K hK => ?_); refine drift_plain (.pointer (some ⟨B, 0, none⟩)) (by first | rfl | simp [Region.wanted, yielded]) (fun w' hw' => by go_simp) ?_; go_simp; (with_reducible apply hK); clear hK K)
  (refine drift_step (fun K hK => ?_); refine drift_plain (.pointer (some ⟨B, 0, none⟩)) (by first | rfl | simp [Region.wanted, yielded]) (fun w' hw' => by go_simp) ?_; go_simp; (with_reducible apply hK); clear hK K)
  (refine drift_step (fun K hK => ?_); refine drift_loadM (fun w' hw' => (PB.below hw').x) Lb.len (by first | rfl | simp [Region.wanted, yielded]) rfl (by go_simp) ?_; go_simp; (with_reducible apply hK); clear hK K)
  (refine drift_step (fun K hK => ?_); refine drift_plain (.pointer (some ⟨B, 0, none⟩)) (by first | rfl | simp [Region.wanted, yielded]) (fun w' hw' => by go_simp) ?_; go_simp; (with_reducible apply hK); clear hK K)
  (refine drift_step (fun K hK => ?_); refine drift_plain (.pointer (some ⟨B, 0, none⟩)) (by first | rfl | simp [Region.wanted, yielded]) (fun w' hw' => by go_simp) ?_; go_simp; (with_reducible apply hK); clear hK K)
  (refine drift_step (fun K hK => ?_); refine drift_plain (.pointer (some ⟨B, 5, none⟩)) (by first | rfl | simp [Region.wanted, yielded]) (fun w' hw' => by go_simp) ?_; go_simp; (with_reducible apply hK); clear hK K)
  (refine drift_step (fun K hK => ?_); refine drift_loadM (fun w' hw' => (PB.below hw').z) Mb.len (by first | rfl | simp [Region.wanted, yielded]) rfl (by go_simp) ?_; go_simp; (with_reducible apply hK); clear hK K)
  (refine drift_step (fun K hK => ?_); refine drift_call (.agg (uvals (l161)).toArray) 58 #[.agg (uvals lb).toArray, .agg (uvals mb).toArray] (by first | rfl | simp [Region.wanted, yielded]) (fun w' => by go_simp) (fun w' hw' => (C161 w').mono (by rintro e w'' ⟨rfl, hb⟩; exact ⟨rfl, hb⟩)) ?_; go_simp; (with_reducible apply hK); clear hK K)
  (refine drift_step (fun K hK => ?_); refine drift_loadE (fun w' hw' => (M7).below hw' (M7).lt) L102.len (by first | rfl | simp [Region.wanted, yielded]) rfl (by go_simp) ?_; go_simp; (with_reducible apply hK); clear hK K)
  (refine drift_step (fun K hK => ?_); refine drift_call (.agg (uvals (l162)).toArray) 40 #[.agg (uvals l161).toArray, .agg (uvals l102).toArray] (by first | rfl | simp [Region.wanted, yielded]) (fun w' => by go_simp) (fun w' hw' => (C162 w').mono (by rintro e w'' ⟨rfl, hb⟩; exact ⟨rfl, hb⟩)) ?_; go_simp; (with_reducible apply hK); clear hK K)
  refine drift_nil ?_
  refine driftT_alloc run_alloc_el (Rw.refl _) rfl rfl rfl (fun c12 v1 h1 k1 b1 => ?_)
  go_simp
  refine driftT_store (b := c12) (l := l162) (old := zero5) h1 elem_size b1 rfl L162.len k1 rfl rfl rfl (by go_simp) (by go_simp) (fun v2 h2 _ n12 => ?_)
  refine driftT_nil (fun w6 h3 => ?_)
  have HN := Rw.trans h2 h3
  have N12 := n12.below h3 n12.lt
  have HB : Below w5.heap.size w5 w6 := Dr.trans (Below.mono HN Dr.size)
  replace PA0 := PA0.below HB
  replace PB0 := PB0.below HB
  replace O3 := O3.below HB O3.lt
  replace O6 := O6.below HB O6.lt
  replace O7 := O7.below HB O7.lt
  replace O8 := O8.below HB O8.lt
  replace O9 := O9.below HB O9.lt
  replace O10 := O10.below HB O10.lt
  replace O11 := O11.below HB O11.lt
  have g12 : w.heap.size ≤ c12 := Nat.le_trans BWs k1
  have O12 := N12
  replace BW := BW.trans (HB.mono BW.size)
  clear N12 HN HB Dr BWs PA PB k1 h1 b1 h2 h3 n12 M3 M6 M7 M8 M9 M10 M11
  go_simp
  go_upto_region 6 with fail
  have Dr : Below w6.heap.size w6 w6.drew := below_drewN (Below.refl _ _) 1
  have BWs := BW.size
  have PA := PA0.below Dr
  have PB := PB0.below Dr
  have M3 := O3.below Dr O3.lt
  have M6 := O6.below Dr O6.lt
  have M7 := O7.below Dr O7.lt
  have M8 := O8.below Dr O8.lt
  have M9 := O9.below Dr O9.lt
  have M10 := O10.below Dr O10.lt
  have M11 := O11.below Dr O11.lt
  have M12 := O12.below Dr O12.lt
  (refine wp_region_quiet_tail (C := fun w' => Below w6.drew.heap.size w6.drew w') 12 (by kernel_rfl) (by kernel_rfl) (Below.refl _ _) ?_; simp only [List.take_succ_cons, List.take_zero, List.drop_succ_cons, List.drop_zero])
  ((with_reducible refine wpQuiet_step (fun K hK => ?_)); refine quiet_plainG (.pointer (some ⟨B, 0, none⟩)) (by first | rfl | simp [Region.wanted, yielded]) (fun w' hw' => by go_simp) ?_; go_simp; (with_reducible apply hK); clear hK K)
  ((with_reducible refine wpQuiet_step (fun K hK => ?_)); refine quiet_loadE (fun w' hw' => (M11).below hw' (M11).lt) L142.len (by first | rfl | simp [Region.wanted, yielded]) rfl (by go_simp) ?_; go_simp; (with_reducible apply hK); clear hK K)
  ((with_reducible refine wpQuiet_step (fun K hK => ?_)); refine quiet_loadE (fun w' hw' => (M12).below hw' (M12).lt) L162.len (by first | rfl | simp [Region.wanted, yielded]) rfl (by go_simp) ?_; go_simp; (with_reducible apply hK); clear hK K)
  ((with_reducible refine wpQuiet_step (fun K hK => ?_)); refine quiet_callG (.agg (uvals (l181)).toArray) 58 #[.agg (uvals l142).toArray, .agg (uvals l162).toArray] (by first | rfl | simp [Region.wanted, yielded]) (fun w' => by go_simp) (fun w' hw' => (C181 w').mono (by rintro e w'' ⟨rfl, hb⟩; exact ⟨rfl, hw'.trans (hb.mono hw'.size)⟩)) ?_; go_simp; (with_reducible apply hK); clear hK K)
  ((with_reducible refine wpQuiet_step (fun K hK => ?_)); refine quiet_callG (.agg (uvals (l182)).toArray) 68 #[.agg (uvals l181).toArray] (by first | rfl | simp [Region.wanted, yielded]) (fun w' => by go_simp) (fun w' hw' => (C182 w').mono (by rintro e w'' ⟨rfl, hb⟩; exact ⟨rfl, hw'.trans (hb.mono hw'.size)⟩)) ?_; go_simp; (with_reducible apply hK); clear hK K)
  ((with_reducible refine wpQuiet_step (fun K hK => ?_)); refine quiet_loadE (fun w' hw' => (M3).below hw' (M3).lt) Lu.len (by first | rfl | simp [Region.wanted, yielded]) rfl (by go_simp) ?_; go_simp; (with_reducible apply hK); clear hK K)
  ((with_reducible refine wpQuiet_step (fun K hK => ?_)); refine quiet_loadE (fun w' hw' => (M11).below hw' (M11).lt) L142.len (by first | rfl | simp [Region.wanted, yielded]) rfl (by go_simp) ?_; go_simp; (with_reducible apply hK); clear hK K)
  ((with_reducible refine wpQuiet_step (fun K hK => ?_)); refine quiet_loadE (fun w' hw' => (M12).below hw' (M12).lt) L162.len (by first | rfl | simp [Region.wanted, yielded]) rfl (by go_simp) ?_; go_simp; (with_reducible apply hK); clear hK K)
  ((with_reducible refine wpQuiet_step (fun K hK => ?_)); refine quiet_callG (.agg (uvals (l183)).toArray) 67 #[.agg (uvals l142).toArray, .agg (uvals l162).toArray] (by first | rfl | simp [Region.wanted, yielded]) (fun w' => by go_simp) (fun w' hw' => (C183 w').mono (by rintro e w'' ⟨rfl, hb⟩; exact ⟨rfl, hw'.trans (hb.mono hw'.size)⟩)) ?_; go_simp; (with_reducible apply hK); clear hK K)
  ((with_reducible refine wpQuiet_step (fun K hK => ?_)); refine quiet_callG (.agg (uvals (l184)).toArray) 68 #[.agg (uvals l183).toArray] (by first | rfl | simp [Region.wanted, yielded]) (fun w' => by go_simp) (fun w' hw' => (C184 w').mono (by rintro e w'' ⟨rfl, hb⟩; exact ⟨rfl, hw'.trans (hb.mono hw'.size)⟩)) ?_; go_simp; (with_reducible apply hK); clear hK K)
  ((with_reducible refine wpQuiet_step (fun K hK => ?_)); refine quiet_callG (.agg (uvals (l185)).toArray) 40 #[.agg (uvals lu).toArray, .agg (uvals l184).toArray] (by first | rfl | simp [Region.wanted, yielded]) (fun w' => by go_simp) (fun w' hw' => (C185 w').mono (by rintro e w'' ⟨rfl, hb⟩; exact ⟨rfl, hw'.trans (hb.mono hw'.size)⟩)) ?_; go_simp; (with_reducible apply hK); clear hK K)
  ((with_reducible refine wpQuiet_step (fun K hK => ?_)); refine quiet_build (L182.len) (L185.len) (by first | rfl | simp [Region.wanted, yielded]) rfl (by go_simp) (by go_simp) ?_; go_simp; (with_reducible apply hK); clear hK K)
  refine wpQuiet_nil ?_
  intro w7 hw7
  have HB := Dr.trans (Below.mono hw7 Dr.size)
  replace PA0 := PA0.below HB
  replace PB0 := PB0.below HB
  replace O8 := O8.below HB O8.lt
  replace O9 := O9.below HB O9.lt
  replace O10 := O10.below HB O10.lt
  replace BW := BW.trans (Below.mono HB BW.size)
  clear O3 O6 O7 O11 O12 M3 M6 M7 M8 M9 M10 M11 M12 PA PB Dr BWs hw7 HB
  have HK : Keeps (fun k => k = A ∨ k = B) w w7 := ⟨BW.os, BW.tape, BW.output, BW.size, fun k hk _ => BW.block k hk⟩
  have LN : (l182 ++ l185).length = 10 := by rw [List.length_append, L182.len, L185.len]
  go_simp
  go_upto_region 7 with (refine store_blk (n := 10) (b := B) (old := uvals (lb ++ mb)) (cs := uvals (l182 ++ l185)) (t := tP) PB0.1 pt_size (by rw [uvals_len, LN]) PB0.len (uvals_one _) rfl rfl rfl rfl ?_)
  refine wp_gen (fun wx => PB wx B l182 l185 ∧ PB wx A la ma ∧ Blk wx c8 tE (uvals l121) ∧ Blk wx c9 tE (uvals l122) ∧ Blk wx c10 tE (uvals le) ∧ Keeps (fun k => k = A ∨ k = B) w wx) ⟨⟨PB0.1.setRow _, L182.len, L185.len⟩, ⟨PA0.1.farRow hne _, PA0.2⟩, O8.farRow (by omega) _, O9.farRow (by omega) _, O10.farRow (by omega) _, HK.row B _ (fun _ => .inr rfl)⟩ ?_
  clear PB0 PA0 O8 O9 O10 HK BW LN
  rintro w8 ⟨PB0, PA0, O8, O9, O10, HK⟩
  have Dr : Below w8.heap.size w8 w8.drew := below_drewN (Below.refl _ _) 1
  have M8 := O8.below Dr O8.lt
  have M9 := O9.below Dr O9.lt
  have M10 := O10.below Dr O10.lt
  (refine wp_region_quiet_tail (C := fun w' => Below w8.drew.heap.size w8.drew w') 12 (by kernel_rfl) (by kernel_rfl) (Below.refl _ _) ?_; simp only [List.take_succ_cons, List.take_zero, List.drop_succ_cons, List.drop_zero])
  ((with_reducible refine wpQuiet_step (fun K hK => ?_)); refine quiet_plainG (.pointer (some ⟨A, 0, none⟩)) (by first | rfl | simp [Region.wanted, yielded]) (fun w' hw' => by go_simp) ?_; go_simp; (with_reducible apply hK); clear hK K)
  ((with_reducible refine wpQuiet_step (fun K hK => ?_)); refine quiet_loadE (fun w' hw' => (M8).below hw' (M8).lt) L121.len (by first | rfl | simp [Region.wanted, yielded]) rfl (by go_simp) ?_; go_simp; (with_reducible apply hK); clear hK K)
  ((with_reducible refine wpQuiet_step (fun K hK => ?_)); refine quiet_loadE (fun w' hw' => (M9).below hw' (M9).lt) L122.len (by first | rfl | simp [Region.wanted, yielded]) rfl (by go_simp) ?_; go_simp; (with_reducible apply hK); clear hK K)
  ((with_reducible refine wpQuiet_step (fun K hK => ?_)); refine quiet_callG (.agg (uvals (l201)).toArray) 40 #[.agg (uvals l121).toArray, .agg (uvals l122).toArray] (by first | rfl | simp [Region.wanted, yielded]) (fun w' => by go_simp) (fun w' hw' => (C201 w').mono (by rintro e w'' ⟨rfl, hb⟩; exact ⟨rfl, hw'.trans (hb.mono hw'.size)⟩)) ?_; go_simp; (with_reducible apply hK); clear hK K)
  ((with_reducible refine wpQuiet_step (fun K hK => ?_)); refine quiet_loadE (fun w' hw' => (M10).below hw' (M10).lt) Le.len (by first | rfl | simp [Region.wanted, yielded]) rfl (by go_simp) ?_; go_simp; (with_reducible apply hK); clear hK K)
  ((with_reducible refine wpQuiet_step (fun K hK => ?_)); refine quiet_loadE (fun w' hw' => (M8).below hw' (M8).lt) L121.len (by first | rfl | simp [Region.wanted, yielded]) rfl (by go_simp) ?_; go_simp; (with_reducible apply hK); clear hK K)
  ((with_reducible refine wpQuiet_step (fun K hK => ?_)); refine quiet_callG (.agg (uvals (l202)).toArray) 37 #[.int .u64 121665] (by first | rfl | simp [Region.wanted, yielded]) (fun w' => by go_simp) (fun w' hw' => (C202 w').mono (by rintro e w'' ⟨rfl, hb⟩; exact ⟨rfl, hw'.trans (hb.mono hw'.size)⟩)) ?_; go_simp; (with_reducible apply hK); clear hK K)
  ((with_reducible refine wpQuiet_step (fun K hK => ?_)); refine quiet_loadE (fun w' hw' => (M10).below hw' (M10).lt) Le.len (by first | rfl | simp [Region.wanted, yielded]) rfl (by go_simp) ?_; go_simp; (with_reducible apply hK); clear hK K)
  ((with_reducible refine wpQuiet_step (fun K hK => ?_)); refine quiet_callG (.agg (uvals (l203)).toArray) 40 #[.agg (uvals l202).toArray, .agg (uvals le).toArray] (by first | rfl | simp [Region.wanted, yielded]) (fun w' => by go_simp) (fun w' hw' => (C203 w').mono (by rintro e w'' ⟨rfl, hb⟩; exact ⟨rfl, hw'.trans (hb.mono hw'.size)⟩)) ?_; go_simp; (with_reducible apply hK); clear hK K)
  ((with_reducible refine wpQuiet_step (fun K hK => ?_)); refine quiet_callG (.agg (uvals (l204)).toArray) 58 #[.agg (uvals l121).toArray, .agg (uvals l203).toArray] (by first | rfl | simp [Region.wanted, yielded]) (fun w' => by go_simp) (fun w' hw' => (C204 w').mono (by rintro e w'' ⟨rfl, hb⟩; exact ⟨rfl, hw'.trans (hb.mono hw'.size)⟩)) ?_; go_simp; (with_reducible apply hK); clear hK K)
  ((with_reducible refine wpQuiet_step (fun K hK => ?_)); refine quiet_callG (.agg (uvals (l205)).toArray) 40 #[.agg (uvals le).toArray, .agg (uvals l204).toArray] (by first | rfl | simp [Region.wanted, yielded]) (fun w' => by go_simp) (fun w' hw' => (C205 w').mono (by rintro e w'' ⟨rfl, hb⟩; exact ⟨rfl, hw'.trans (hb.mono hw'.size)⟩)) ?_; go_simp; (with_reducible apply hK); clear hK K)
  ((with_reducible refine wpQuiet_step (fun K hK => ?_)); refine quiet_build (L201.len) (L205.len) (by first | rfl | simp [Region.wanted, yielded]) rfl (by go_simp) (by go_simp) ?_; go_simp; (with_reducible apply hK); clear hK K)
  refine wpQuiet_nil ?_
  intro w9 hw9
  have HB := Dr.trans (Below.mono hw9 Dr.size)
  replace PA0 := PA0.below HB
  replace PB0 := PB0.below HB
  replace HK := HK.trans (⟨HB.os, HB.tape, HB.output, HB.size, fun k hk _ => HB.block k hk⟩ : Keeps (fun k => k = A ∨ k = B) w8 w9) (fun _ _ h => h)
  clear O8 O9 O10 M8 M9 M10 Dr hw9 HB
  have LN : (l201 ++ l205).length = 10 := by rw [List.length_append, L201.len, L205.len]
  go_simp
  go_wp2_with (refine store_blk (n := 10) (b := A) (old := uvals (la ++ ma)) (cs := uvals (l201 ++ l205)) (t := tP) PA0.1 pt_size (by rw [uvals_len, LN]) PA0.len (uvals_one _) rfl rfl rfl rfl ?_)
  go_end0
  exact ⟨rfl, ⟨_, _, ⟨PA0.1.setRow _, L201.len, L205.len⟩, L201, L205⟩, ⟨_, _, ⟨PB0.1.farRow (Ne.symm hne) _, PB0.2⟩, L182, L185⟩, HK.row A _ (fun _ => .inl rfl)⟩
end Go.Proofs.YtkhdhiddhnmdkaaGreatDoor

namespace Go.Proofs.YtkhdhiddhnmdkaaGreatDoor
open Go.RowKit

abbrev tB : TypeId := 48
theorem andNot7 (n : Nat) (h : n < 256) : bits .andNot .u8 (n : Int) 7 = ((n / 8 * 8 : Nat) : Int) := by
  have : ∀ n : Fin 256, bits .andNot .u8 ((n.val : Nat) : Int) 7 = ((n.val / 8 * 8 : Nat) : Int) := by decide +kernel
  exact this ⟨n, h⟩
theorem or64 (n : Nat) : bits .or .u8 ((n : Int) % 64) 64 = ((n % 64 + 64 : Nat) : Int) := by
  have : ∀ m : Fin 64, bits .or .u8 ((m.val : Nat) : Int) 64 = ((m.val + 64 : Nat) : Int) := by decide +kernel
  have h := this ⟨n % 64, Nat.mod_lt _ (by decide)⟩
  rw [← h, Int.natCast_emod]
  rfl
theorem low1_u8 (n : Nat) (h : n < 256) : bits .and .u8 (n : Int) 1 = ((n % 2 : Nat) : Int) := by
  have : ∀ n : Fin 256, bits .and .u8 ((n.val : Nat) : Int) 1 = ((n.val % 2 : Nat) : Int) := by decide +kernel
  exact this ⟨n, h⟩
theorem Blk.bset {w : World} {b : Nat} {t : TypeId} {l : List UInt8} (h : Blk w b t (bvals l)) (i n : Nat) (hn : n < 256) : Blk (w.setCell ⟨b, i, none⟩ (.int .u8 (n : Nat))) b t (bvals (l.set i (UInt8.ofNat n))) := by
  have := h.set i (.int .u8 (n : Nat))
  rw [show bvals (l.set i (UInt8.ofNat n)) = (bvals l).set i (.int .u8 (n : Nat)) by
    unfold bvals
    rw [List.map_set, UInt8.toNat_ofNat', Nat.mod_eq_of_lt hn]]
  exact this
theorem conv_step {ops : Array Oper} {rest : List Oper} {o : Oper} {a : Act} {w : World} {Q : Exit → Act → World → Prop} {x : Operand} {bs : List UInt8} {n b : Nat} {t : TypeId} (hn : bs.length = n) (hb : Blk w b t (bvals bs))
    (hg : o.guard = none) (ho : o.op = .convert 50 9 x) (hx : a.eval x = .slice (some ⟨b, 0, none⟩) n n) (h : wpList Tryz.prog ops Q rest (a.put o.dst (.string ⟨bs.toArray⟩)) w) : wpList Tryz.prog ops Q (o :: rest) a w :=
  wpList_plain hg fun K hK => by
    unfold Oper.wp execOp
    simp only [ho, hx, Sem.run_bind, conv_blk Tryz.underlying50 Tryz.underlying5 Tryz.underlying9 hn hb, Result.andThen_ok, Sem.run_pure, Oper.upon]
    exact hK _ _ h
theorem run_bld0 {a : Act} {o : Oper} (ho : o.op = .build tE #[]) (w : World) : (execOp a.eval o).run Tryz.prog w = .ok (.value (.agg (uvals zero5).toArray)) w := by
  have h : (Instr.build tE #[]).run Tryz.prog w = .ok (.agg (uvals zero5).toArray) w := run_build w tE #[] _ (by kernel_rfl)
  unfold execOp
  simp only [ho]
  simp [h]
theorem ret_ar2 {fn : Func} {R : Ending → World → Prop} {a : Act} {w : World} {p q : Tmp} {b : Nat} {t : TypeId} {cs : List Value} {v : Value} (h : fn.results = #[.cell p tB, .tmp q]) (hb : Blk w b t cs) (hl : cs.length = 32)
    (hp : a.tmps.getD p undef = .pointer (some ⟨b, 0, none⟩)) (hq : a.tmps.getD q undef = v) (hd : a.defers = []) (hR : R (.returned (.tuple #[.agg cs.toArray, v])) w) : bodyPost Tryz.prog fn R .ret a w := by
  refine bodyPost_ret ?_ hd hR
  have hp' : a.tmps[p]?.getD undef = .pointer (some ⟨b, 0, none⟩) := by simpa using hp
  have hq' : a.tmps[q]?.getD undef = v := by simpa using hq
  simp [results, h, hp', hq', asAddr, run_loadVar_row (P := Tryz.prog) w b t tB cs.toArray (0, 0) _ hb Tryz.underlying48 rfl (by rw [arr32_size]; simp [hl])]

theorem L0 : Lm zero5 (0 : Fp).val := Lm.zero
theorem bvals_len (l : List UInt8) : (bvals l).length = l.length := by simp [bvals]
section
variable [Inhabited DK.MutF]
theorem dk_store {ops : Array Oper} {w0 : World} {K : Act → World → Prop} {old cs : List Value} {o : Oper} {rest : List Oper} {a : Act} {w : World} {b : Nat} {x y : Operand} (hw0 : DK.Rk w0 w) (hb : Blk w b tB old) (hold : old.length = 32) (hl : cs.length = 32) (h1 : ∀ v ∈ cs, v.oneCell' = true)
    (hF : (default : DK.MutF).F b) (hg : o.guard = none) (hds : o.dst = none) (ho : o.op = .store tB x y) (hx : a.eval x = .pointer (some ⟨b, 0, none⟩)) (hy : a.eval y = .agg cs.toArray)
    (h : ∀ w1, Rw w w1 → DK.Rk w0 (w1.setRow b cs.toArray) → DK.wpListD Tryz.prog ops w0 K rest a (w1.setRow b cs.toArray)) : DK.wpListD Tryz.prog ops w0 K (o :: rest) a w := by
  refine DK.driftT_step (fun w1 hw1 Q' hQ' => ?_)
  refine store_blk (n := 32) (t := tB) (b := b) (old := old) (cs := cs) (hb.below hw1 hb.lt) arr32_size hl hold h1 hg ho hx hy ?_
  have hW2 : DK.Rk w0 (w1.setRow b cs.toArray) := Keeps.row (DK.Rk.trans hw0 hw1) b _ (fun _ => hF)
  refine hQ' _ _ hW2 ?_
  rw [hds]
  exact h w1 hw1 hW2
end
/-- the ladder under way: s swapped if the last bit was 1 -/
structure LR (w wr : World) (S R c6 c7 c8 : Nat) (ks : List UInt8) (lx : List Nat) (s : Ed.St) (was : Bool) : Prop where
  S : Blk wr S tB (bvals ks)
  R : Blk wr R tB (List.replicate 32 (.int .u8 0))
  x : Blk wr c6 tE (uvals lx)
  a : Pk wr c7 (if was then s.X2 else s.X1) (if was then s.Z2 else s.Z1)
  b : Pk wr c8 (if was then s.X1 else s.X2) (if was then s.Z1 else s.Z2)
  bel : Below w.heap.size w wr
theorem LR.keeps {w wr wr' : World} {S R c6 c7 c8 : Nat} {ks : List UInt8} {lx : List Nat} {s s' : Ed.St} {was was' : Bool} (h : LR w wr S R c6 c7 c8 ks lx s was) (hk : Keeps (fun k => k = c7 ∨ k = c8) wr wr')
    (n1 : S ≠ c7 ∧ S ≠ c8) (n2 : R ≠ c7 ∧ R ≠ c8) (n3 : c6 ≠ c7 ∧ c6 ≠ c8) (g7 : w.heap.size ≤ c7) (g8 : w.heap.size ≤ c8)
    (ha : Pk wr' c7 (if was' then s'.X2 else s'.X1) (if was' then s'.Z2 else s'.Z1)) (hb : Pk wr' c8 (if was' then s'.X1 else s'.X2) (if was' then s'.Z1 else s'.Z2)) : LR w wr' S R c6 c7 c8 ks lx s' was' :=
  ⟨hk.blk h.S (by omega), hk.blk h.R (by omega), hk.blk h.x (by omega), ha, hb, h.bel.trans (hk.below h.bel.size (fun k hk' e => by omega))⟩
set_option maxHeartbeats 16000000 in
set_option maxRecDepth 100000 in
theorem mult_ok (ls lp : List UInt8) (hl : ls.length = 32) (hp : lp.length = 32) (w : World) :
    Calls Tryz.prog 22 #[.agg (bvals ls).toArray, .agg (bvals lp).toArray] w fun e w' => e = .returned (.tuple #[ag (leBytes (Ed.multF (KN ls) (fpOf ⟨lp.toArray⟩)).val 32), .bool (!decide (Ed.multF (KN ls) (fpOf ⟨lp.toArray⟩) = 0))]) ∧ Below w.heap.size w w' := by
  have KO := Lib.hid (KN_ok hl)
  have HL := Lib.hid hl
  have HP := Lib.hid hp
  obtain ⟨X, hX⟩ : ∃ X, X = Ed.multF (KN ls) (fpOf ⟨lp.toArray⟩) := ⟨_, rfl⟩
  rw [← hX]
  unfold ag
  obtain ⟨XB, hXB⟩ : ∃ l, l = leBytes X.val 32 := ⟨_, rfl⟩
  obtain ⟨bz, hbz⟩ : ∃ b, b = decide (X = 0) := ⟨_, rfl⟩
  rw [← hXB, ← hbz]
  have HX := Lib.hid hX
  have HXB := Lib.hid hXB
  have HBZ := Lib.hid hbz
  clear hl hp hX hXB hbz
  go_enter Tryz.func22, Tryz.ntmps22
  go_upto_region 1 with fail
  refine wp_gen (fun wx => Blk wx w.heap.size tB (bvals ls) ∧ Blk wx (w.heap.size + 1) tB (bvals lp) ∧ Blk wx (w.heap.size + 2) tB (List.replicate 32 (.int .u8 0)) ∧ Below w.heap.size w wx) ⟨((Blk.new w _ (bvals ls)).alloc _).alloc _, (Blk.new2 _ _ _ (bvals lp)).alloc _, Blk.new3 _ _ _ _ (List.replicate 32 (.int .u8 0)), below3 _ _ _ _⟩ ?_
  rintro w1 ⟨OS, OT, OR, BW⟩
  have c0 := OS.cell 0 _ (bvals_get ls 0 (by rw [HL.out]; omega))
  have f0 := OS.free 0
  have h0 := (ls.getD 0 0).toNat_lt
  have N0 := OS.bset 0 ((ls.getD 0 0).toNat / 8 * 8) (by omega)
  generalize hx0 : (ls.getD 0 0).toNat = x0 at *
  have E0 := andNot7 x0 h0
  go_upto_region 2 with fail
  try rw [E0]
  clear E0
  refine wp_gen (fun wx => Blk wx w.heap.size tB (bvals (ls.set 0 (UInt8.ofNat (x0 / 8 * 8)))) ∧ Blk wx (w.heap.size + 1) tB (bvals lp) ∧ Blk wx (w.heap.size + 2) tB (List.replicate 32 (.int .u8 0)) ∧ Below w.heap.size w wx) ⟨N0, OT.far (by omega) _ _, OR.far (by omega) _ _, below_set' BW _ _ _ (Nat.le_refl _)⟩ ?_
  clear c0 f0 N0 OS OT OR BW
  rintro w2 ⟨OS, OT, OR, BW⟩
  have e31 : (ls.set 0 (UInt8.ofNat (x0 / 8 * 8))).getD 31 0 = ls.getD 31 0 := by rw [List.getD_eq_getElem?_getD, List.getElem?_set_ne (by omega), ← List.getD_eq_getElem?_getD]
  have c0 := OS.cell 31 _ (bvals_get _ 31 (by rw [List.length_set, HL.out]; omega))
  have f0 := OS.free 31
  rw [e31] at c0
  have h31 := (ls.getD 31 0).toNat_lt
  have N0 := OS.bset 31 ((ls.getD 31 0).toNat % 64 + 64) (by omega)
  have EK : Hid ((ls.set 0 (UInt8.ofNat (x0 / 8 * 8))).set 31 (UInt8.ofNat ((ls.getD 31 0).toNat % 64 + 64)) = kc ls) := by rw [← hx0]; rfl
  rw [EK.out] at N0
  clear EK e31 hx0
  generalize (ls.getD 31 0).toNat = x31 at *
  have E0 := or64 x31
  go_upto_region 3 with fail
  try rw [E0]
  clear E0
  refine wp_gen (fun wx => Blk wx w.heap.size tB (bvals (kc ls)) ∧ Blk wx (w.heap.size + 1) tB (bvals lp) ∧ Blk wx (w.heap.size + 2) tB (List.replicate 32 (.int .u8 0)) ∧ Below w.heap.size w wx) ⟨N0, OT.far (by omega) _ _, OR.far (by omega) _ _, below_set' BW _ _ _ (Nat.le_refl _)⟩ ?_
  clear c0 f0 N0 OS OT OR BW h31 h0
  rintro w3 ⟨OS, OT, OR, BW⟩
  go_wp2_with (refine conv_step HP.out OT rfl rfl rfl ?_)
  refine (elOf ⟨lp.toArray⟩ w3).mono ?_
  rintro e w4 ⟨vx, rfl, Ex, hb⟩
  obtain ⟨lx, rfl, Lx⟩ := Ex
  replace OS := OS.below hb OS.lt
  replace OR := OR.below hb OR.lt
  replace BW := BW.trans (hb.mono BW.size)
  clear hb OT
  go_upto_region 4 with (refine new1 rfl rfl rfl rfl rfl Lx.len (by go_simp) (by go_simp) (fun w5 R => ?_))
  have hb := R.2
  have O6 := R.1
  have g6 : w.heap.size + 2 < w4.heap.size := OR.lt
  replace OS := OS.below hb OS.lt
  replace OR := OR.below hb OR.lt
  replace BW := BW.trans (hb.mono BW.size)
  clear hb R
  generalize w4.heap.size = c6 at *
  generalize hu : fpOf ⟨lp.toArray⟩ = u at *
  go_simp
  obtain ⟨l41, L41, C41⟩ := qSmall1
  have Dr : Below w5.heap.size w5 w5.drew := below_drewN (Below.refl _ _) 1
  have M6 := O6.below Dr O6.lt
  have hc6 := O6.lt
  (refine wp_region_drift2 6 (by kernel_rfl) (by kernel_rfl) ?_; simp only [List.take_succ_cons, List.take_zero])
  (refine drift_step (fun K hK => ?_); refine drift_call (.agg (uvals (l41)).toArray) 37 #[.int .u64 1] (by first | rfl | simp [Region.wanted, yielded]) (fun w' => by go_simp) (fun w' hw' => (C41 w').mono (by rintro e w'' ⟨rfl, hb⟩; exact ⟨rfl, hb⟩)) ?_; go_simp; (with_reducible apply hK); clear hK K)
  (refine drift_step (fun K hK => ?_); refine drift_plain (.agg (uvals zero5).toArray) (by first | rfl | simp [Region.wanted, yielded]) (fun w' hw' => by exact run_bld0 rfl w') ?_; go_simp; (with_reducible apply hK); clear hK K)
  (refine drift_step (fun K hK => ?_); refine drift_build (L41.len) (L0.len) (by first | rfl | simp [Region.wanted, yielded]) rfl (by go_simp) (by go_simp) ?_; go_simp; (with_reducible apply hK); clear hK K)
  (refine drift_step (fun K hK => ?_); refine drift_loadE (fun w' hw' => (M6).below hw' (M6).lt) Lx.len (by first | rfl | simp [Region.wanted, yielded]) rfl (by go_simp) ?_; go_simp; (with_reducible apply hK); clear hK K)
  (refine drift_step (fun K hK => ?_); refine drift_call (.agg (uvals (l41)).toArray) 37 #[.int .u64 1] (by first | rfl | simp [Region.wanted, yielded]) (fun w' => by go_simp) (fun w' hw' => (C41 w').mono (by rintro e w'' ⟨rfl, hb⟩; exact ⟨rfl, hb⟩)) ?_; go_simp; (with_reducible apply hK); clear hK K)
  (refine drift_step (fun K hK => ?_); refine drift_build (Lx.len) (L41.len) (by first | rfl | simp [Region.wanted, yielded]) rfl (by go_simp) (by go_simp) ?_; go_simp; (with_reducible apply hK); clear hK K)
  refine drift_nil ?_
  intro listed hT
  refine wp_two (t := tP) (sz := 10) (l1 := l41 ++ zero5) (l2 := lx ++ l41) run_alloc_pt pt_size rfl rfl rfl rfl rfl rfl rfl rfl rfl rfl rfl rfl rfl rfl rfl rfl rfl (by decide) (by rw [List.length_append, L41.len, L0.len]) (by rw [List.length_append, Lx.len, L41.len]) (by intros; go_simp) (by intros; go_simp) (by intros; go_simp) (by intros; go_simp) hT (fun c7 c8 w6 ne78 k7 k8 HN N7 N8 => ?_)
  have HB : Below w5.heap.size w5 w6 := Dr.trans (Below.mono HN Dr.size)
  have H0 : LR w w6 w.heap.size (w.heap.size + 2) c6 c7 c8 (kc ls) lx (Ed.lad u (KN ls) 0) false := ⟨OS.below HB OS.lt, OR.below HB OR.lt, O6.below HB O6.lt, ⟨_, _, ⟨N7, L41.len, L0.len⟩, L41, L0⟩, ⟨_, _, ⟨N8, Lx.len, L41.len⟩, Lx, L41⟩, BW.trans (HB.mono BW.size)⟩
  have k7' : w5.heap.size ≤ c7 := k7
  have k8' : w5.heap.size ≤ c8 := k8
  have l7 : c6 < c7 := by omega
  have l8 : c6 < c8 := by omega
  clear OS OR O6 BW M6 Dr HN N7 N8 HB k7 k8 k7' k8' hc6 C41
  have KB := Lib.hid (kc_len ls)
  have hk0 : Hid (Ed.bitB (KN ls) 255 = false) := Ed.first_bit KO.out.2.2
  replace H0 : LR w w6 w.heap.size (w.heap.size + 2) c6 c7 c8 (kc ls) lx (Ed.lad u (KN ls) 0) (Ed.bitB (KN ls) 255) := by rw [hk0.out]; exact H0
  have HLE : Hid (∀ i, i < 256 → ((kc ls).getD (i / 8) 0).toNat / 2 ^ (i % 8) % 2 = KN ls / 2 ^ i % 2) := fun i hi => le8_bit' (kc ls) i (by rw [KB.out, HL.out]; omega)
  replace KB : Hid ((kc ls).length = 32) := KB.out.trans HL.out
  generalize kc ls = ks at *
  generalize KN ls = K at *
  go_simp
  go_wp2_with fail
  go_loopw [9, 10] (fun v9 v10 wr => ∃ j : Nat, j ≤ 255 ∧ v10 = .int .i64 (254 - (j : Int)) ∧ v9 = .bool (Ed.bitB K (255 - j)) ∧ LR w wr w.heap.size (w.heap.size + 2) c6 c7 c8 ks lx (Ed.lad u K j) (Ed.bitB K (255 - j))) (fun _ v10 _ => (intOf v10 + 1).toNat)
  case atStart => exact ⟨0, by omega, rfl, by show _ = Value.bool (Ed.bitB K 255); rw [hk0.out], H0⟩
  case round =>
    clear H0
    obtain ⟨j, hj, rfl, rfl, H⟩ := hrel
    by_cases hgo : j < 255
    · obtain ⟨i, hi⟩ : ∃ i, i = 254 - j := ⟨_, rfl⟩
      have hi' : (254 : Int) - (j : Int) = (i : Nat) := by omega
      rw [hi']
      have hc := H.S.cell (i / 8) _ (bvals_get ks (i / 8) (by rw [KB.out]; omega))
      have hb := HLE.out i (by omega)
      have hy := (ks.getD (i / 8) 0).toNat_lt
      have h8 : i % 8 < 8 := Nat.mod_lt _ (by decide)
      generalize (ks.getD (i / 8) 0).toNat = y at *
      have hand : bits .and .u8 ((y : Int) / 2 ^ (i % 8)) 1 = ((K / 2 ^ i % 2 : Nat) : Int) := by
        have h := low1_u8 (y / 2 ^ (i % 8)) (Nat.lt_of_le_of_lt (Nat.div_le_self ..) hy)
        rw [hb, Int.natCast_ediv, Int.natCast_pow] at h
        exact h
      have hbit : Hid (Ed.bitB K i = (K / 2 ^ i % 2 == 1)) := rfl
      have h2 : K / 2 ^ i % 2 < 2 := Nat.mod_lt _ (by decide)
      have hs : Hid (Ed.lad u K (j + 1) = Ed.stepS u (Ed.bitB K i) (Ed.lad u K j)) := by rw [hi]; rfl
      have hw : Hid (255 - (j + 1) = i) := by show _ = _; omega
      have HI : Hid (i = 254 - j) := hi
      have HG : Hid (j < 255) := hgo
      have hib : i < 255 := by omega
      clear hi hi' hgo hj
      generalize Ed.bitB K (255 - j) = was at *
      obtain hv | hv : K / 2 ^ i % 2 = 0 ∨ K / 2 ^ i % 2 = 1 := by omega
      · have hbv : Hid (Ed.bitB K i = false) := by show (K / 2 ^ i % 2 == 1) = false; rw [hv]; rfl
        rw [hv] at hand
        clear hb hbit h2
        cases was
        · go_wp2_with fail
          refine (swap_ok false c7 c8 _ _ _ _ wr H.a H.b ne78).mono ?_
          rintro e w7 ⟨rfl, A7, B7, K7⟩
          go_wp2_with (refine load_el2 (K7.blk H.x (by omega)) Lx.len rfl rfl rfl ?_)
          refine (step_ok lx u c7 c8 _ _ _ _ w7 Lx A7 B7 ne78).mono ?_
          rintro e w8 ⟨rfl, A8, B8, K8⟩
          go_wp2_with fail
          go_roundw
          case rel =>
            have hi := HI.out
            have hgo := HG.out
            refine ⟨j + 1, by omega, elval_int (by omega), by rw [hw.out, hbv.out], ?_⟩
            rw [hs.out, hw.out, hbv.out]
            exact H.keeps (K7.trans K8 (fun _ _ h => h)) (by omega) (by omega) (by omega) (by omega) (by omega) A8 B8
          case measure =>
            have hi := HI.out
            simp [intOf] <;> omega
        · go_wp2_with fail
          refine (swap_ok true c7 c8 _ _ _ _ wr H.a H.b ne78).mono ?_
          rintro e w7 ⟨rfl, A7, B7, K7⟩
          go_wp2_with (refine load_el2 (K7.blk H.x (by omega)) Lx.len rfl rfl rfl ?_)
          refine (step_ok lx u c7 c8 _ _ _ _ w7 Lx A7 B7 ne78).mono ?_
          rintro e w8 ⟨rfl, A8, B8, K8⟩
          go_wp2_with fail
          go_roundw
          case rel =>
            have hi := HI.out
            have hgo := HG.out
            refine ⟨j + 1, by omega, elval_int (by omega), by rw [hw.out, hbv.out], ?_⟩
            rw [hs.out, hw.out, hbv.out]
            exact H.keeps (K7.trans K8 (fun _ _ h => h)) (by omega) (by omega) (by omega) (by omega) (by omega) A8 B8
          case measure =>
            have hi := HI.out
            simp [intOf] <;> omega
      · have hbv : Hid (Ed.bitB K i = true) := by show (K / 2 ^ i % 2 == 1) = true; rw [hv]; rfl
        rw [hv] at hand
        clear hb hbit h2
        cases was
        · go_wp2_with fail
          refine (swap_ok true c7 c8 _ _ _ _ wr H.a H.b ne78).mono ?_
          rintro e w7 ⟨rfl, A7, B7, K7⟩
          go_wp2_with (refine load_el2 (K7.blk H.x (by omega)) Lx.len rfl rfl rfl ?_)
          refine (step_ok lx u c7 c8 _ _ _ _ w7 Lx A7 B7 ne78).mono ?_
          rintro e w8 ⟨rfl, A8, B8, K8⟩
          go_wp2_with fail
          go_roundw
          case rel =>
            have hi := HI.out
            have hgo := HG.out
            refine ⟨j + 1, by omega, elval_int (by omega), by rw [hw.out, hbv.out], ?_⟩
            rw [hs.out, hw.out, hbv.out]
            exact H.keeps (K7.trans K8 (fun _ _ h => h)) (by omega) (by omega) (by omega) (by omega) (by omega) A8 B8
          case measure =>
            have hi := HI.out
            simp [intOf] <;> omega
        · go_wp2_with fail
          refine (swap_ok false c7 c8 _ _ _ _ wr H.a H.b ne78).mono ?_
          rintro e w7 ⟨rfl, A7, B7, K7⟩
          go_wp2_with (refine load_el2 (K7.blk H.x (by omega)) Lx.len rfl rfl rfl ?_)
          refine (step_ok lx u c7 c8 _ _ _ _ w7 Lx A7 B7 ne78).mono ?_
          rintro e w8 ⟨rfl, A8, B8, K8⟩
          go_wp2_with fail
          go_roundw
          case rel =>
            have hi := HI.out
            have hgo := HG.out
            refine ⟨j + 1, by omega, elval_int (by omega), by rw [hw.out, hbv.out], ?_⟩
            rw [hs.out, hw.out, hbv.out]
            exact H.keeps (K7.trans K8 (fun _ _ h => h)) (by omega) (by omega) (by omega) (by omega) (by omega) A8 B8
          case measure =>
            have hi := HI.out
            simp [intOf] <;> omega
    · obtain rfl : j = 255 := by omega
      rw [show (254 : Int) - ((255 : Nat) : Int) = -1 by decide]
      have hX : Hid (X = (Ed.lad u K 255).X1 * Fp.inv (Ed.lad u K 255).Z1) := HX.out
      generalize Ed.lad u K 255 = s at *
      generalize Ed.bitB K (255 - 255) = was at *
      cases was
      all_goals
        go_wp2_with fail
        refine (swap_ok _ c7 c8 _ _ _ _ wr H.a H.b ne78).mono ?_
        rintro e w9 ⟨rfl, A9, _, K9⟩
        replace A9 : Pk w9 c7 s.X1 s.Z1 := A9
        have R9 := K9.blk H.R (by omega)
        have BW9 := H.bel.trans (K9.below H.bel.size (fun k hk e => by omega))
        clear H K9
        obtain ⟨lX, lZ, PA0, LX, LZ⟩ := A9
        obtain ⟨l61, L61, C61⟩ := qInvert LZ
        obtain ⟨l62, L62, C62⟩ := qMul LX L61
        have Dr : Below w9.heap.size w9 w9.drew := below_drewN (Below.refl _ _) 1
        have PA := PA0.below Dr
        go_upto_region 14 with fail
        (refine wp_region_drift 6 (by kernel_rfl) (by kernel_rfl) ?_; simp only [List.take_succ_cons, List.take_zero, List.drop_succ_cons, List.drop_zero])
        (refine drift_step (fun K hK => ?_); refine drift_plain (.pointer (some ⟨c7, 0, none⟩)) (by first | rfl | simp [Region.wanted, yielded]) (fun w' hw' => by go_simp) ?_; go_simp; (with_reducible apply hK); clear hK K)
        (refine drift_step (fun K hK => ?_); refine drift_loadM (fun w' hw' => (PA.below hw').x) LX.len (by first | rfl | simp [Region.wanted, yielded]) rfl (by go_simp) ?_; go_simp; (with_reducible apply hK); clear hK K)
        (refine drift_step (fun K hK => ?_); refine drift_plain (.pointer (some ⟨c7, 5, none⟩)) (by first | rfl | simp [Region.wanted, yielded]) (fun w' hw' => by go_simp) ?_; go_simp; (with_reducible apply hK); clear hK K)
        (refine drift_step (fun K hK => ?_); refine drift_loadM (fun w' hw' => (PA.below hw').z) LZ.len (by first | rfl | simp [Region.wanted, yielded]) rfl (by go_simp) ?_; go_simp; (with_reducible apply hK); clear hK K)
        (refine drift_step (fun K hK => ?_); refine drift_call (.agg (uvals (l61)).toArray) 41 #[.agg (uvals lZ).toArray] (by first | rfl | simp [Region.wanted, yielded]) (fun w' => by go_simp) (fun w' hw' => (C61 w').mono (by rintro e w'' ⟨rfl, hb⟩; exact ⟨rfl, hb⟩)) ?_; go_simp; (with_reducible apply hK); clear hK K)
        (refine drift_step (fun K hK => ?_); refine drift_call (.agg (uvals (l62)).toArray) 40 #[.agg (uvals lX).toArray, .agg (uvals l61).toArray] (by first | rfl | simp [Region.wanted, yielded]) (fun w' => by go_simp) (fun w' hw' => (C62 w').mono (by rintro e w'' ⟨rfl, hb⟩; exact ⟨rfl, hb⟩)) ?_; go_simp; (with_reducible apply hK); clear hK K)
        refine drift_nil ?_
        refine driftT_alloc run_alloc_el (Rw.refl _) rfl rfl rfl (fun c12 v1 h1 k1 b1 => ?_)
        go_simp
        refine driftT_store (b := c12) (l := l62) (old := zero5) h1 elem_size b1 rfl L62.len k1 rfl rfl rfl (by go_simp) (by go_simp) (fun v2 h2 _ n12 => ?_)
        refine driftT_nil (fun wa h3 => ?_)
        have HB : Below w9.heap.size w9 wa := Dr.trans (Below.mono (Rw.trans h2 h3) Dr.size)
        have O12 := n12.below h3 n12.lt
        have Ra := R9.below HB R9.lt
        have BWa := BW9.trans (HB.mono BW9.size)
        have OX : Hid (Lm l62 X.val) := L62.cast (by rw [hX.out])
        have k1' : w9.heap.size ≤ c12 := k1
        have nc : ¬ (c12 = w.heap.size + 2) := by have := R9.lt; omega
        clear k1' h1 k1 b1 h2 n12 h3 HB R9 BW9 PA Dr PA0 LX LZ L62
        go_simp
        go_upto_region 15 with fail
        have Dr : Below wa.heap.size wa wa.drew := below_drewN (Below.refl _ _) 1
        have M12 := O12.below Dr O12.lt
        have CB : QC 42 #[.agg (uvals l62).toArray] (.agg (bvals XB).toArray) := fun w' => by
          have h := el_bytes_ok l62 w' OX.out.len OX.out.small
          rw [OX.out.val, ← HXB.out] at h
          exact h
        have CZ := qZero (c := bz) OX.out HBZ.out.symm
        have LB : (bvals XB).length = 32 := by rw [bvals_len, HXB.out]; simp [leBytes]
        have ON : ∀ v ∈ bvals XB, v.oneCell' = true := by
          intro v hv
          obtain ⟨d, _, rfl⟩ := List.mem_map.1 hv
          rfl
        have Rd := Ra.below Dr Ra.lt
        have BWd := BWa.trans (Dr.mono BWa.size)
        letI : Inhabited DK.MutF := ⟨⟨fun k => k = w.heap.size + 2⟩⟩
        (refine DK.wp_region_drift 5 (by kernel_rfl) (by kernel_rfl) ?_; simp only [List.take_succ_cons, List.take_zero, List.drop_succ_cons, List.drop_zero])
        (refine DK.drift_step (fun K hK => ?_); refine DK.drift_load (fun w' hw' => Keeps.blk hw' M12 nc) Tryz.underlying70 rfl elem_size (len5 OX.out.len) (by first | rfl | simp [Region.wanted, yielded]) rfl (by go_simp) ?_; go_simp; (with_reducible apply hK); clear hK K)
        (refine DK.drift_step (fun K hK => ?_); refine DK.drift_call (.agg (bvals XB).toArray) 42 #[.agg (uvals l62).toArray] (by first | rfl | simp [Region.wanted, yielded]) (fun w' => by go_simp) (fun w' hw' => CB w') ?_; go_simp; (with_reducible apply hK); clear hK K)
        (refine DK.drift_step (fun K hK => ?_); refine DK.drift_load (fun w' hw' => Keeps.blk hw' M12 nc) Tryz.underlying70 rfl elem_size (len5 OX.out.len) (by first | rfl | simp [Region.wanted, yielded]) rfl (by go_simp) ?_; go_simp; (with_reducible apply hK); clear hK K)
        (refine DK.drift_step (fun K hK => ?_); refine DK.drift_call (.bool bz) 43 #[.agg (uvals l62).toArray] (by first | rfl | simp [Region.wanted, yielded]) (fun w' => by go_simp) (fun w' hw' => CZ w') ?_; go_simp; (with_reducible apply hK); clear hK K)
        (refine DK.drift_step (fun K hK => ?_); refine DK.drift_plain (.bool (!bz)) (by first | rfl | simp [Region.wanted, yielded]) (fun w' hw' => by go_simp) ?_; go_simp; (with_reducible apply hK); clear hK K)
        refine DK.drift_nil ?_
        refine dk_store (b := w.heap.size + 2) (cs := bvals XB) (DK.Rk.refl _) Rd rfl LB ON rfl rfl rfl rfl (by go_simp) (by go_simp) (fun wb hwb rb => ?_)
        have Rb := (Rd.below hwb Rd.lt).setRow (bvals XB)
        have BWb := below_row (BWd.trans (Below.mono hwb BWd.size)) (w.heap.size + 2) (bvals XB).toArray (by omega)
        generalize wb.setRow (w.heap.size + 2) (bvals XB).toArray = wc at *
        go_simp
        refine DK.driftT_plain (.bool (!bz)) rb (by first | rfl | simp [Region.wanted, yielded]) (fun w' _ => by go_simp) (fun wd hd => ?_)
        refine DK.driftT_nil (fun we he => ?_)
        have hde : Below wc.heap.size wc we := Rw.trans hd he
        go_simp
        go_wp2_with fail
        exact ret_ar2 rfl (Rb.below hde Rb.lt) LB rfl rfl rfl ⟨rfl, BWb.trans (hde.mono BWb.size)⟩
end Go.Proofs.YtkhdhiddhnmdkaaGreatDoor
