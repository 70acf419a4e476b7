/-
poly: mul, less.
-/
import Derived.Test.YtcbkbjpdfanjpaaGreatDoorPk09
import Derived.Test.YtcbkbjpdfanjpaaGreatDoorPk08
namespace Go.Proofs.YtcbkbjpdfanjpaaGreatDoor
open Go.RowKit Pol
set_option maxRecDepth 100000
theorem blk_there {w : World} {b : Nat} {t : TypeId} {cs : List Value} (h : Blk w b t cs) (o n : Nat) (hn : o + n ≤ cs.length) : w.there b o n := fun j hj =>
  ⟨by rw [h.cell (o + j) (cs[o + j]'(by omega)) (by rw [List.getElem?_eq_getElem])]; rfl, h.free _⟩
theorem padd_ok0 (hb a0 a1 a2 r0 r1 lo hi : Nat) (h0 : a0 < W) (h1 : a1 < W) (hlo : lo < W) (hhi : hi < W) (w : World) (hB : Blk w hb 161 (uv [a0, a1, a2, r0, r1])) :
    Calls Tryz.prog 107 #[.pointer (some ⟨hb, 0, none⟩), .int .u64 lo, .int .u64 hi, .int .u64 0] w fun e w' => e = .returned (.tuple #[]) ∧ Blk w' hb 161 (uv [ad0 a0 lo, ad1 a0 a1 lo hi, ad2 a0 a1 a2 lo hi 0, r0, r1]) ∧ Keeps (fun k => k = hb) w w' :=
  padd_ok hb a0 a1 a2 r0 r1 lo hi 0 h0 h1 hlo hhi w hB
theorem blk_three {w : World} {b : Nat} {t : TypeId} {a0 a1 a2 r0 r1 : Nat} (h : Blk w b t (uv [a0, a1, a2, r0, r1])) (x y z : Nat) : Blk (w.setCells b 0 (uv [x, y, z])) b t (uv [x, y, z, r0, r1]) :=
  ((h.set 0 (.int .u64 (x : Nat))).set 1 (.int .u64 (y : Nat))).set 2 (.int .u64 (z : Nat))
theorem run_alloc_wide (w : World) : (Instr.alloc 172 true (.tuple #[])).run Tryz.prog w = .ok (.pointer (some ⟨w.heap.size, 0, none⟩)) (w.alloc (.cells (uv [0, 0]).toArray 172)) := by kernel_rfl
namespace Pol
def tl (x y : Nat) : Nat := x * y % W
def th (x y : Nat) : Nat := x * y / W
theorem tl_lt (x y : Nat) : tl x y < W := Nat.mod_lt _ (by decide)
theorem th_lt {x y : Nat} (hx : x < W) (hy : y < W) : th x y < W := by
  unfold th
  rw [Nat.div_lt_iff_lt_mul (by decide)]
  exact Nat.mul_lt_mul'' hx hy
theorem bN_andNot (x y : Int) : bits .andNot .u64 x y = (bN .andNot x y : Int) ∧ bN .andNot x y < W := wN_val ((BitVec.ofInt 64 x &&& ~~~(BitVec.ofInt 64 y)).toNat : Nat)
end Pol
theorem times_ok' (x y : Nat) (hx : x < W) (hy : y < W) (w : World) : Calls Tryz.prog 120 #[.int .u64 x, .int .u64 y] w fun e w' => e = .returned (.agg (uv [tl x y, th x y]).toArray) ∧ Rw w w' := times_ok x y hx hy w
namespace Pol
/-- 'mul' before its last two additions -/
def m1l (a0 a1 r0 r1 : Nat) : Nat := adS (tl a1 r0) (tl a0 r1) 0
def m1h (a0 a1 r0 r1 : Nat) : Nat := adS (th a1 r0) (th a0 r1) (adC (tl a1 r0) (tl a0 r1) 0)
theorem m1l_lt (a0 a1 r0 r1 : Nat) : m1l a0 a1 r0 r1 < W := adS_lt _ _ _
theorem m1h_lt (a0 a1 r0 r1 : Nat) : m1h a0 a1 r0 r1 < W := adS_lt _ _ _
/-- the two last additions of 'mul' -/
def enL (m t1 x2 y t3 z1 z2 : Nat) : List Nat := [ad0 (ad0 m y) z1, ad1 (ad0 m y) (ad1 m t1 y t3) z1 z2, ad2 (ad0 m y) (ad1 m t1 y t3) (ad2 m t1 x2 y t3 0) z1 z2 0]
def tlL (m t1 t2 t3 : Nat) : List Nat := enL m t1 (bN .and t2 3) (bN .andNot t2 3) t3 (bN .or ((t2 : Int) / 4) (wN ((t3 : Int) * 4611686018427387904))) (t3 / 4)
def muL (a0 a1 a2 r0 r1 : Nat) : List Nat :=
  tlL (tl a0 r0) (adS (m1l a0 a1 r0 r1) (th a0 r0) 0) (adS (m1l a1 a2 r0 r1) (m1h a0 a1 r0 r1) (adC (m1l a0 a1 r0 r1) (th a0 r0) 0))
    (adS (tl a2 r1) (m1h a1 a2 r0 r1) (adC (m1l a1 a2 r0 r1) (m1h a0 a1 r0 r1) (adC (m1l a0 a1 r0 r1) (th a0 r0) 0)))
theorem ad0_lt (a lo : Nat) : ad0 a lo < W := adS_lt _ _ _
theorem ad1_lt (a b lo hi : Nat) : ad1 a b lo hi < W := adS_lt _ _ _
theorem muL_eq (a0 a1 a2 r0 r1 : Nat) : ∃ b0 b1 b2, muL a0 a1 a2 r0 r1 = [b0, b1, b2] ∧ b0 < W ∧ b1 < W ∧ b2 < W := ⟨_, _, _, rfl, ad0_lt _ _, ad1_lt _ _ _ _, ad2_lt _ _ _ _ _ _⟩
end Pol
set_option maxHeartbeats 4000000 in
theorem pmul_ok (hb a0 a1 a2 r0 r1 : Nat) (h0 : a0 < W) (h1 : a1 < W) (h2 : a2 < W) (hr0 : r0 < W) (hr1 : r1 < W) (w : World) (hB : Blk w hb 161 (uv [a0, a1, a2, r0, r1])) :
    Calls Tryz.prog 108 #[.pointer (some ⟨hb, 0, none⟩)] w fun e w' => e = .returned (.tuple #[]) ∧ Blk w' hb 161 (uv (muL a0 a1 a2 r0 r1 ++ [r0, r1])) ∧ Keeps (fun k => k = hb) w w' := by
  unfold muL
  have T0 := times_ok' a0 r0 h0 hr0
  have T1 := times_ok' a1 r0 h1 hr0
  have T2 := times_ok' a0 r1 h0 hr1
  have T3 := times_ok' a2 r0 h2 hr0
  have T4 := times_ok' a1 r1 h1 hr1
  have T5 := times_ok' a2 r1 h2 hr1
  have P1 : ∀ w, Calls Tryz.prog 121 #[.agg (uv [tl a1 r0, th a1 r0]).toArray, .agg (uv [tl a0 r1, th a0 r1]).toArray] w fun e w' => e = .returned (.agg (uv [m1l a0 a1 r0 r1, m1h a0 a1 r0 r1]).toArray) ∧ Rw w w' := plus_ok _ _ _ _ (tl_lt a1 r0) (th_lt h1 hr0) (tl_lt a0 r1) (th_lt h0 hr1)
  have P2 : ∀ w, Calls Tryz.prog 121 #[.agg (uv [tl a2 r0, th a2 r0]).toArray, .agg (uv [tl a1 r1, th a1 r1]).toArray] w fun e w' => e = .returned (.agg (uv [m1l a1 a2 r0 r1, m1h a1 a2 r0 r1]).toArray) ∧ Rw w w' := plus_ok _ _ _ _ (tl_lt a2 r0) (th_lt h2 hr0) (tl_lt a1 r1) (th_lt h1 hr1)
  have B := Lib.hid hB
  have l0 := tl_lt a0 r0
  have l1 := th_lt h0 hr0
  have l2 := m1l_lt a0 a1 r0 r1
  have l3 := m1h_lt a0 a1 r0 r1
  have l4 := m1l_lt a1 a2 r0 r1
  have l5 := m1h_lt a1 a2 r0 r1
  have l6 := tl_lt a2 r1
  have l7 := th_lt h2 hr1
  generalize tl a0 r0 = m0l at *
  generalize th a0 r0 = m0h at *
  generalize m1l a0 a1 r0 r1 = n1l at *
  generalize m1h a0 a1 r0 r1 = n1h at *
  generalize m1l a1 a2 r0 r1 = n2l at *
  generalize m1h a1 a2 r0 r1 = n2h at *
  generalize tl a2 r1 = m3l at *
  generalize th a2 r1 = m3h at *
  generalize tl a1 r0 = u1 at *
  generalize th a1 r0 = u2 at *
  generalize tl a0 r1 = u3 at *
  generalize th a0 r1 = u4 at *
  generalize tl a2 r0 = u5 at *
  generalize th a2 r0 = u6 at *
  generalize tl a1 r1 = u7 at *
  generalize th a1 r1 = u8 at *
  have HT := Lib.hid (And.intro T0 (And.intro T1 (And.intro T2 (And.intro T3 (And.intro T4 (And.intro T5 (And.intro P1 P2)))))))
  have e1 := run_add64z n1l m0h
  have e2 := run_add64 n2l n1h (adC n1l m0h 0) (adC_le l2 l1 (by decide))
  have e3 := run_add64 m3l n2h (adC n2l n1h (adC n1l m0h 0)) (adC_le l4 l3 (adC_le l2 l1 (by decide)))
  have lt1 := adS_lt n1l m0h 0
  have lt2 := adS_lt n2l n1h (adC n1l m0h 0)
  have lt3 := adS_lt m3l n2h (adC n2l n1h (adC n1l m0h 0))
  generalize adS m3l n2h (adC n2l n1h (adC n1l m0h 0)) = t3 at *
  generalize adC m3l n2h (adC n2l n1h (adC n1l m0h 0)) = c3 at *
  generalize adS n2l n1h (adC n1l m0h 0) = t2 at *
  generalize adC n2l n1h (adC n1l m0h 0) = c2 at *
  generalize adS n1l m0h 0 = t1 at *
  generalize adC n1l m0h 0 = c1 at *
  have HL := Lib.hid (And.intro h0 (And.intro h1 (And.intro h2 (And.intro hr0 (And.intro hr1 (And.intro lt1 (And.intro lt2 (And.intro lt3 l0))))))))
  clear hB T0 T1 T2 T3 T4 T5 P1 P2 h0 h1 h2 hr0 hr1 l0 l1 l2 l3 l4 l5 l6 l7 lt1 lt2 lt3
  go_enter Tryz.func108, Tryz.ntmps108
  go_upto_region 0 with fail
  have D : Hid (Blk w.drew hb 161 (uv [a0, a1, a2, r0, r1])) := Lib.hid (B.out.drew 1)
  have d0 : ∀ w', Rw w.drew w' → w'.cell? ⟨hb, 0, none⟩ = some (.int .u64 (a0 : Nat)) := fun w' h => (D.out.rw h).cell 0 _ rfl
  have d1 : ∀ w', Rw w.drew w' → w'.cell? ⟨hb, 3, none⟩ = some (.int .u64 (r0 : Nat)) := fun w' h => (D.out.rw h).cell 3 _ rfl
  (refine wp_region_drift 11 (by kernel_rfl) (by kernel_rfl) ?_; simp only [List.take_succ_cons, List.take_zero, List.drop_succ_cons, List.drop_zero])
  (iterate 10 (refine drift_step (fun K hK => ?_); refine drift_autoE (by first | rfl | simp [Region.wanted, yielded]) ?_; apply Exists.intro; refine ⟨fun w' hw' => ?_, ?_⟩; (focus (go_simp; (first | done | rfl | ((try go_ints); (try simp only [↓IntWalk.iteOmega, true_and]); (try go_simp); (first | done | rfl))))); go_simp; (with_reducible apply hK); clear hK K))
  (refine drift_step (fun K hK => ?_); refine drift_callE (by first | rfl | simp [Region.wanted, yielded]) ?_; apply Exists.intro; apply Exists.intro; refine ⟨fun w' => ?_, ?_⟩; (focus (go_simp; try (first | exact ⟨rfl, rfl⟩ | rfl))); apply Exists.intro; refine ⟨fun w' hw' => HT.out.1 w', ?_⟩; go_simp; (with_reducible apply hK); clear hK K)
  refine drift_nil ?_
  refine drift_newG run_alloc_wide wide_size rfl rfl (uv_one _) rfl rfl rfl rfl rfl rfl (Nat.le_of_ble_eq_true rfl) (fun v => rfl) (fun b2 w2 hb2 R2 B2 => ?_)
  have K2 : Hid (Blk w2 hb 161 (uv [a0, a1, a2, r0, r1]) ∧ Blk w2 b2 172 (uv [m0l, m0h]) ∧ Rw w w2 ∧ w.heap.size ≤ b2) := Lib.hid ⟨D.out.rw R2, B2, Rw.trans (below_drewN (Below.refl _ _) 1) R2, hb2⟩
  clear D d0 d1 R2 B2 hb2
  go_simp
  go_upto_region 1 with fail
  have D : Hid (Blk w2.drew hb 161 (uv [a0, a1, a2, r0, r1])) := Lib.hid (K2.out.1.drew 1)
  have d0 : ∀ w', Rw w2.drew w' → w'.cell? ⟨hb, 0, none⟩ = some (.int .u64 (a0 : Nat)) := fun w' h => (D.out.rw h).cell 0 _ rfl
  have d1 : ∀ w', Rw w2.drew w' → w'.cell? ⟨hb, 1, none⟩ = some (.int .u64 (a1 : Nat)) := fun w' h => (D.out.rw h).cell 1 _ rfl
  have d2 : ∀ w', Rw w2.drew w' → w'.cell? ⟨hb, 3, none⟩ = some (.int .u64 (r0 : Nat)) := fun w' h => (D.out.rw h).cell 3 _ rfl
  have d3 : ∀ w', Rw w2.drew w' → w'.cell? ⟨hb, 4, none⟩ = some (.int .u64 (r1 : Nat)) := fun w' h => (D.out.rw h).cell 4 _ rfl
  (refine wp_region_drift 23 (by kernel_rfl) (by kernel_rfl) ?_; simp only [List.take_succ_cons, List.take_zero, List.drop_succ_cons, List.drop_zero])
  (iterate 10 (refine drift_step (fun K hK => ?_); refine drift_autoE (by first | rfl | simp [Region.wanted, yielded]) ?_; apply Exists.intro; refine ⟨fun w' hw' => ?_, ?_⟩; (focus (go_simp; (first | done | rfl | ((try go_ints); (try simp only [↓IntWalk.iteOmega, true_and]); (try go_simp); (first | done | rfl))))); go_simp; (with_reducible apply hK); clear hK K))
  (refine drift_step (fun K hK => ?_); refine drift_callE (by first | rfl | simp [Region.wanted, yielded]) ?_; apply Exists.intro; apply Exists.intro; refine ⟨fun w' => ?_, ?_⟩; (focus (go_simp; try (first | exact ⟨rfl, rfl⟩ | rfl))); apply Exists.intro; refine ⟨fun w' hw' => HT.out.2.1 w', ?_⟩; go_simp; (with_reducible apply hK); clear hK K)
  (iterate 10 (refine drift_step (fun K hK => ?_); refine drift_autoE (by first | rfl | simp [Region.wanted, yielded]) ?_; apply Exists.intro; refine ⟨fun w' hw' => ?_, ?_⟩; (focus (go_simp; (first | done | rfl | ((try go_ints); (try simp only [↓IntWalk.iteOmega, true_and]); (try go_simp); (first | done | rfl))))); go_simp; (with_reducible apply hK); clear hK K))
  (refine drift_step (fun K hK => ?_); refine drift_callE (by first | rfl | simp [Region.wanted, yielded]) ?_; apply Exists.intro; apply Exists.intro; refine ⟨fun w' => ?_, ?_⟩; (focus (go_simp; try (first | exact ⟨rfl, rfl⟩ | rfl))); apply Exists.intro; refine ⟨fun w' hw' => HT.out.2.2.1 w', ?_⟩; go_simp; (with_reducible apply hK); clear hK K)
  (refine drift_step (fun K hK => ?_); refine drift_callE (by first | rfl | simp [Region.wanted, yielded]) ?_; apply Exists.intro; apply Exists.intro; refine ⟨fun w' => ?_, ?_⟩; (focus (go_simp; try (first | exact ⟨rfl, rfl⟩ | rfl))); apply Exists.intro; refine ⟨fun w' hw' => HT.out.2.2.2.2.2.2.1 w', ?_⟩; go_simp; (with_reducible apply hK); clear hK K)
  refine drift_nil ?_
  refine drift_newG run_alloc_wide wide_size rfl rfl (uv_one _) rfl rfl rfl rfl rfl rfl (Nat.le_of_ble_eq_true rfl) (fun v => rfl) (fun b3 w3 hb3 R3 B3 => ?_)
  have K3 : Hid (Blk w3 hb 161 (uv [a0, a1, a2, r0, r1]) ∧ Blk w3 b2 172 (uv [m0l, m0h]) ∧ Rw w w3 ∧ w.heap.size ≤ b2 ∧ Blk w3 b3 172 (uv [n1l, n1h]) ∧ w.heap.size ≤ b3) := Lib.hid ⟨D.out.rw R3, (K2.out.2.1.drew 1).rw R3, Rw.trans K2.out.2.2.1 (Rw.trans (below_drewN (Below.refl _ _) 1) R3), K2.out.2.2.2, B3, Nat.le_trans K2.out.2.2.1.size hb3⟩
  clear D d0 d1 d2 d3 R3 B3 hb3 K2
  go_simp
  go_upto_region 2 with fail
  have D : Hid (Blk w3.drew hb 161 (uv [a0, a1, a2, r0, r1])) := Lib.hid (K3.out.1.drew 1)
  have d0 : ∀ w', Rw w3.drew w' → w'.cell? ⟨hb, 2, none⟩ = some (.int .u64 (a2 : Nat)) := fun w' h => (D.out.rw h).cell 2 _ rfl
  have d1 : ∀ w', Rw w3.drew w' → w'.cell? ⟨hb, 1, none⟩ = some (.int .u64 (a1 : Nat)) := fun w' h => (D.out.rw h).cell 1 _ rfl
  have d2 : ∀ w', Rw w3.drew w' → w'.cell? ⟨hb, 3, none⟩ = some (.int .u64 (r0 : Nat)) := fun w' h => (D.out.rw h).cell 3 _ rfl
  have d3 : ∀ w', Rw w3.drew w' → w'.cell? ⟨hb, 4, none⟩ = some (.int .u64 (r1 : Nat)) := fun w' h => (D.out.rw h).cell 4 _ rfl
  (refine wp_region_drift 23 (by kernel_rfl) (by kernel_rfl) ?_; simp only [List.take_succ_cons, List.take_zero, List.drop_succ_cons, List.drop_zero])
  (iterate 10 (refine drift_step (fun K hK => ?_); refine drift_autoE (by first | rfl | simp [Region.wanted, yielded]) ?_; apply Exists.intro; refine ⟨fun w' hw' => ?_, ?_⟩; (focus (go_simp; (first | done | rfl | ((try go_ints); (try simp only [↓IntWalk.iteOmega, true_and]); (try go_simp); (first | done | rfl))))); go_simp; (with_reducible apply hK); clear hK K))
  (refine drift_step (fun K hK => ?_); refine drift_callE (by first | rfl | simp [Region.wanted, yielded]) ?_; apply Exists.intro; apply Exists.intro; refine ⟨fun w' => ?_, ?_⟩; (focus (go_simp; try (first | exact ⟨rfl, rfl⟩ | rfl))); apply Exists.intro; refine ⟨fun w' hw' => HT.out.2.2.2.1 w', ?_⟩; go_simp; (with_reducible apply hK); clear hK K)
  (iterate 10 (refine drift_step (fun K hK => ?_); refine drift_autoE (by first | rfl | simp [Region.wanted, yielded]) ?_; apply Exists.intro; refine ⟨fun w' hw' => ?_, ?_⟩; (focus (go_simp; (first | done | rfl | ((try go_ints); (try simp only [↓IntWalk.iteOmega, true_and]); (try go_simp); (first | done | rfl))))); go_simp; (with_reducible apply hK); clear hK K))
  (refine drift_step (fun K hK => ?_); refine drift_callE (by first | rfl | simp [Region.wanted, yielded]) ?_; apply Exists.intro; apply Exists.intro; refine ⟨fun w' => ?_, ?_⟩; (focus (go_simp; try (first | exact ⟨rfl, rfl⟩ | rfl))); apply Exists.intro; refine ⟨fun w' hw' => HT.out.2.2.2.2.1 w', ?_⟩; go_simp; (with_reducible apply hK); clear hK K)
  (refine drift_step (fun K hK => ?_); refine drift_callE (by first | rfl | simp [Region.wanted, yielded]) ?_; apply Exists.intro; apply Exists.intro; refine ⟨fun w' => ?_, ?_⟩; (focus (go_simp; try (first | exact ⟨rfl, rfl⟩ | rfl))); apply Exists.intro; refine ⟨fun w' hw' => HT.out.2.2.2.2.2.2.2 w', ?_⟩; go_simp; (with_reducible apply hK); clear hK K)
  refine drift_nil ?_
  refine drift_newG run_alloc_wide wide_size rfl rfl (uv_one _) rfl rfl rfl rfl rfl rfl (Nat.le_of_ble_eq_true rfl) (fun v => rfl) (fun b4 w4 hb4 R4 B4 => ?_)
  have RR := Rw.trans (below_drewN (Below.refl w3.heap.size w3) 1) R4
  have K4 : Hid (Blk w4 hb 161 (uv [a0, a1, a2, r0, r1]) ∧ Blk w4 b2 172 (uv [m0l, m0h]) ∧ Rw w w4 ∧ w.heap.size ≤ b2 ∧ Blk w4 b3 172 (uv [n1l, n1h]) ∧ w.heap.size ≤ b3 ∧ Blk w4 b4 172 (uv [n2l, n2h]) ∧ w.heap.size ≤ b4) := Lib.hid ⟨D.out.rw R4, K3.out.2.1.rw RR, Rw.trans K3.out.2.2.1 RR, K3.out.2.2.2.1, K3.out.2.2.2.2.1.rw RR, K3.out.2.2.2.2.2, B4, Nat.le_trans K3.out.2.2.1.size hb4⟩
  clear D d0 d1 d2 d3 R4 B4 hb4 K3 RR
  go_simp
  go_upto_region 3 with fail
  have D : Hid (Blk w4.drew hb 161 (uv [a0, a1, a2, r0, r1])) := Lib.hid (K4.out.1.drew 1)
  have d0 : ∀ w', Rw w4.drew w' → w'.cell? ⟨hb, 2, none⟩ = some (.int .u64 (a2 : Nat)) := fun w' h => (D.out.rw h).cell 2 _ rfl
  have d3 : ∀ w', Rw w4.drew w' → w'.cell? ⟨hb, 4, none⟩ = some (.int .u64 (r1 : Nat)) := fun w' h => (D.out.rw h).cell 4 _ rfl
  (refine wp_region_drift 11 (by kernel_rfl) (by kernel_rfl) ?_; simp only [List.take_succ_cons, List.take_zero, List.drop_succ_cons, List.drop_zero])
  (iterate 10 (refine drift_step (fun K hK => ?_); refine drift_autoE (by first | rfl | simp [Region.wanted, yielded]) ?_; apply Exists.intro; refine ⟨fun w' hw' => ?_, ?_⟩; (focus (go_simp; (first | done | rfl | ((try go_ints); (try simp only [↓IntWalk.iteOmega, true_and]); (try go_simp); (first | done | rfl))))); go_simp; (with_reducible apply hK); clear hK K))
  (refine drift_step (fun K hK => ?_); refine drift_callE (by first | rfl | simp [Region.wanted, yielded]) ?_; apply Exists.intro; apply Exists.intro; refine ⟨fun w' => ?_, ?_⟩; (focus (go_simp; try (first | exact ⟨rfl, rfl⟩ | rfl))); apply Exists.intro; refine ⟨fun w' hw' => HT.out.2.2.2.2.2.1 w', ?_⟩; go_simp; (with_reducible apply hK); clear hK K)
  refine drift_nil ?_
  refine drift_newG run_alloc_wide wide_size rfl rfl (uv_one _) rfl rfl rfl rfl rfl rfl (Nat.le_of_ble_eq_true rfl) (fun v => rfl) (fun b5 w5 hb5 R5 B5 => ?_)
  have RR := Rw.trans (below_drewN (Below.refl w4.heap.size w4) 1) R5
  have K5 : Hid (Blk w5 hb 161 (uv [a0, a1, a2, r0, r1]) ∧ Rw w w5) := Lib.hid ⟨D.out.rw R5, Rw.trans K4.out.2.2.1 RR⟩
  have f0 := (K4.out.2.1.rw RR).cell 0 _ rfl
  have f1 := (K4.out.2.1.rw RR).cell 1 _ rfl
  have f2 := (K4.out.2.2.2.2.1.rw RR).cell 0 _ rfl
  have f3 := (K4.out.2.2.2.2.1.rw RR).cell 1 _ rfl
  have f4 := (K4.out.2.2.2.2.2.2.1.rw RR).cell 0 _ rfl
  have f5 := (K4.out.2.2.2.2.2.2.1.rw RR).cell 1 _ rfl
  have f6 := B5.cell 0 _ rfl
  have f7 := B5.cell 1 _ rfl
  clear D d0 d3 R5 B5 hb5 K4 RR HT
  go_simp
  have b1 := (bN_and t2 3).1
  have b1l := (bN_and t2 3).2
  have b2' := (bN_andNot t2 3).1
  have b2l := (bN_andNot t2 3).2
  obtain ⟨x2, hx2⟩ : ∃ z, z = bN .and t2 3 := ⟨_, rfl⟩
  obtain ⟨y0, hy0⟩ : ∃ z, z = bN .andNot t2 3 := ⟨_, rfl⟩
  rw [← hx2] at b1 b1l
  rw [← hy0] at b2' b2l
  have HB := Lib.hid (And.intro b1l b2l)
  have HX := Lib.hid (And.intro hx2 hy0)
  clear b1l b2l hx2 hy0
  have ST : Hid (w5.there hb 0 (uv [m0l, t1, x2]).toArray.size) := Lib.hid (blk_there K5.out.1 0 _ (by rw [uv_len]; exact Nat.le_of_ble_eq_true rfl))
  go_upto_region 9 with (first | refine wpList_store_mid rfl _ _ _ rfl hb 0 (uv [m0l, t1, x2]).toArray rfl rfl ST.out (by kernel_rfl) (by kernel_rfl) ?_ | (go_at_call 107; refine (padd_ok0 hb m0l t1 x2 r0 r1 y0 t3 HL.out.2.2.2.2.2.2.2.2 HL.out.2.2.2.2.2.1 HB.out.2 HL.out.2.2.2.2.2.2.2.1 _ (blk_three K5.out.1 _ _ _)).mono ?_; rintro e w6 ⟨rfl, B6, K6⟩; replace B6 := Lib.hid B6; replace K6 := Lib.hid K6))
  have K6' : Hid (Keeps (fun k => k = hb) w w6) := Lib.hid ((Keeps.of_below (F := fun k => k = hb) K5.out.2).trans ((keeps_setCells hb (uv [m0l, t1, x2]) 0 w5).trans K6.out (fun _ _ h => h)) (fun _ _ h => h))
  obtain ⟨s3, hs3⟩ : ∃ z, z = wN ((t3 : Int) * 4611686018427387904) := ⟨_, rfl⟩
  have g1 := (wN_val ((t3 : Int) * 4611686018427387904)).1
  rw [← hs3] at g1
  obtain ⟨z1, hz1⟩ : ∃ z, z = bN .or ((t2 : Int) / 4) (s3 : Nat) := ⟨_, rfl⟩
  have g2 := (bN_or ((t2 : Int) / 4) (s3 : Nat)).1
  have g2l := (bN_or ((t2 : Int) / 4) (s3 : Nat)).2
  rw [← hz1] at g2 g2l
  obtain ⟨q3, hq3⟩ : ∃ z, z = t3 / 4 := ⟨_, rfl⟩
  have g3 : (t3 : Int) / 4 = (q3 : Nat) := by rw [hq3]; rfl
  have g3l : q3 < W := by rw [hq3]; exact Nat.lt_of_le_of_lt (Nat.div_le_self _ _) HL.out.2.2.2.2.2.2.2.1
  have HZ := Lib.hid (And.intro (by rw [hz1, hs3] : z1 = bN .or ((t2 : Int) / 4) (wN ((t3 : Int) * 4611686018427387904))) (And.intro hq3 (And.intro g2l g3l)))
  clear hs3 hz1 hq3 g2l g3l
  go_wp2_with (go_at_call 107; refine (padd_ok0 hb _ _ _ r0 r1 z1 q3 (ad0_lt _ _) (ad1_lt _ _ _ _) HZ.out.2.2.1 HZ.out.2.2.2 _ B6.out).mono ?_; rintro e w7 ⟨rfl, B7, K7⟩; replace B7 := Lib.hid B7; replace K7 := Lib.hid K7)
  go_end0
  refine ⟨rfl, ?_, K6'.out.trans K7.out (fun _ _ h => h)⟩
  have E : tlL m0l t1 t2 t3 = enL m0l t1 x2 y0 t3 z1 q3 := by rw [HX.out.1, HX.out.2, HZ.out.1, HZ.out.2.1]; rfl
  rw [E]
  exact B7.out
namespace Pol
def lsL (a0 a1 a2 : Nat) : List Nat :=
  if sbB a2 3 (sbB a1 18446744073709551615 (sbB a0 18446744073709551611 0)) = 0 then
    [sbD a0 18446744073709551611 0, sbD a1 18446744073709551615 (sbB a0 18446744073709551611 0), sbD a2 3 (sbB a1 18446744073709551615 (sbB a0 18446744073709551611 0))]
  else [a0, a1, a2]
theorem lsL_eq (a0 a1 a2 : Nat) (h0 : a0 < W) (h1 : a1 < W) (h2 : a2 < W) : ∃ b0 b1 b2, lsL a0 a1 a2 = [b0, b1, b2] ∧ b0 < W ∧ b1 < W ∧ b2 < W := by
  unfold lsL
  split
  · exact ⟨_, _, _, rfl, sbD_lt _ _ _, sbD_lt _ _ _, sbD_lt _ _ _⟩
  · exact ⟨_, _, _, rfl, h0, h1, h2⟩
end Pol
set_option maxHeartbeats 4000000 in
theorem pless_ok (hb a0 a1 a2 r0 r1 : Nat) (w : World) (hB : Blk w hb 161 (uv [a0, a1, a2, r0, r1])) :
    Calls Tryz.prog 109 #[.pointer (some ⟨hb, 0, none⟩)] w fun e w' => e = .returned (.tuple #[]) ∧ Blk w' hb 161 (uv (lsL a0 a1 a2 ++ [r0, r1])) ∧ Keeps (fun k => k = hb) w w' := by
  unfold lsL
  have e1 : ∀ w : World, (callFunc 122 #[.int .u64 (a0 : Nat), .int .u64 18446744073709551611, .int .u64 0]).run Tryz.prog w = .ok (.value (.tuple #[.int .u64 (sbD a0 18446744073709551611 0 : Nat), .int .u64 (sbB a0 18446744073709551611 0 : Nat)])) w := fun w => run_sub64 a0 18446744073709551611 0 (by decide) w
  have h1 := sbB_le a0 18446744073709551611 0
  generalize sbB a0 18446744073709551611 0 = b0 at *
  generalize sbD a0 18446744073709551611 0 = d0 at *
  have e2 : ∀ w : World, (callFunc 122 #[.int .u64 (a1 : Nat), .int .u64 18446744073709551615, .int .u64 (b0 : Nat)]).run Tryz.prog w = .ok (.value (.tuple #[.int .u64 (sbD a1 18446744073709551615 b0 : Nat), .int .u64 (sbB a1 18446744073709551615 b0 : Nat)])) w := fun w => run_sub64 a1 18446744073709551615 b0 h1 w
  have h2 := sbB_le a1 18446744073709551615 b0
  generalize sbB a1 18446744073709551615 b0 = b1 at *
  generalize sbD a1 18446744073709551615 b0 = d1 at *
  have e3 : ∀ w : World, (callFunc 122 #[.int .u64 (a2 : Nat), .int .u64 3, .int .u64 (b1 : Nat)]).run Tryz.prog w = .ok (.value (.tuple #[.int .u64 (sbD a2 3 b1 : Nat), .int .u64 (sbB a2 3 b1 : Nat)])) w := fun w => run_sub64 a2 3 b1 h2 w
  have h3 := sbB_le a2 3 b1
  generalize sbB a2 3 b1 = b2 at *
  generalize sbD a2 3 b1 = d2 at *
  clear h1 h2
  have c0 := hB.cell 0 _ rfl
  have c1 := hB.cell 1 _ rfl
  have c2 := hB.cell 2 _ rfl
  have H0 := Lib.hid hB
  have ST : Hid (w.there hb 0 (uv [d0, d1, d2]).toArray.size) := Lib.hid (blk_there hB 0 _ (by rw [uv_len]; exact Nat.le_of_ble_eq_true rfl))
  clear hB
  go_enter Tryz.func109, Tryz.ntmps109
  obtain rfl | rfl : b2 = 0 ∨ b2 = 1 := by omega
  · go_wp2_with (refine wpList_store_mid rfl _ _ _ rfl hb 0 (uv [d0, d1, d2]).toArray rfl rfl ST.out (by kernel_rfl) (by kernel_rfl) ?_)
    go_end0
    exact ⟨rfl, blk_three H0.out _ _ _, keeps_setCells hb (uv [d0, d1, d2]) 0 w⟩
  · go_wp2_with fail
    go_end0
    exact ⟨rfl, H0.out, Keeps.refl _ _⟩
end Go.Proofs.YtcbkbjpdfanjpaaGreatDoor
