/-
edsign: the point of bytes.
-/
import Derived.Test.YtilccncddbgpbaaDoorPk45
namespace Go.Proofs.YtilccncddbgpbaaDoor
open Go.RowKit
namespace Eds
theorem inv_one : Fp.inv 1 = 1 := by
  have h := Fp.mul_inv Ed.one_ne
  generalize Fp.inv 1 = i at *
  grind
theorem mul_inv_one (x : Fp) : x * Fp.inv 1 = x := by
  rw [inv_one]; grind
/-- the top bit -/
def topL (l : List UInt8) : Bool := decide (128 ≤ (l.getD 31 0).toNat)
theorem and128 (n : Nat) (h : n < 256) : bits .and .u8 (n : Int) 128 = ((n / 128 * 128 : Nat) : Int) := by
  have : ∀ m : Fin 256, bits .and .u8 ((m.val : Nat) : Int) 128 = ((m.val / 128 * 128 : Nat) : Int) := by decide +kernel
  exact this ⟨n, h⟩
theorem and128_hi (n : Nat) (h : n < 256) (hn : 128 ≤ n) : bits .and .u8 (n : Int) 128 = 128 := by
  rw [and128 n h, show n / 128 = 1 by omega]; rfl
theorem and128_lo (n : Nat) (h : n < 256) (hn : ¬ 128 ≤ n) : bits .and .u8 (n : Int) 128 = 0 := by
  rw [and128 n h, show n / 128 = 0 by omega]; rfl
theorem ret_pt2 {fn : Func} {R : Ending → World → Prop} {a : Act} {w : World} {p q : Tmp} {b : Nat} {l : List Nat} {v : Value} (h : fn.results = #[.cell p tQ, .tmp q]) (hb : Blk w b tQ (uvals l)) (hl : l.length = 20)
    (hp : a.tmps.getD p undef = .pointer (some ⟨b, 0, none⟩)) (hq : a.tmps.getD q undef = v) (hd : a.defers = []) (hR : R (.returned (.tuple #[.agg (uvals l).toArray, v])) w) : bodyPost Tryd.prog fn R .ret a w := by
  refine bodyPost_ret ?_ hd hR
  have hp' : a.tmps[p]?.getD undef = .pointer (some ⟨b, 0, none⟩) := by simpa using hp
  have hq' : a.tmps[q]?.getD undef = v := by simpa using hq
  simp [results, h, hp', hq', asAddr, run_loadVar_row (P := Tryd.prog) w b tQ tQ (uvals l).toArray (0, 0) _ hb Tryd.underlying49 rfl (by rw [q_size]; simp [uvals_len, hl])]
set_option maxHeartbeats 4000000 in
set_option maxRecDepth 100000 in
theorem read_ok (b : Nat) (lb : List Nat) (l : List UInt8) (w : World) (hc : CvE w b lb) (hl : l.length = 32) (y x : Fp) (ok : Bool) (hy : fpOf ⟨l.toArray⟩ = y) (hr : rt (y * y - 1) (Ed.d * (y * y) + 1) = (x, ok)) (x' : Fp) (hx' : x' = if topL l then -x else x) :
    Calls Tryd.prog 29 #[.pointer (some ⟨b, 0, none⟩), .agg (bvals l).toArray] w fun e w' =>
      ∃ lp, e = .returned (.tuple #[.agg (uvals lp).toArray, .bool (ok && decide (encL x' y = l))]) ∧ Co lp x' y 1 (x' * y) ∧ Below w.heap.size w w' := by
  have HX := Lib.hid hx'
  have HY := Lib.hid hy
  have HR := Lib.hid hr
  have EL := encL_len x' y
  have EQ := fun w' => eq32 w' (encL x' y) l EL hl
  have CB : ∀ (lq : List Nat) (w' : World), Co lq x' y 1 (x' * y) → Calls Tryd.prog 22 #[.agg (uvals lq).toArray] w' fun e w'' => e = .returned (.agg (bvals (encL x' y)).toArray) ∧ Below w'.heap.size w' w'' := fun lq w' hq => by
    have h := bytes_pt lq x' y 1 (x' * y) w' hq
    rwa [mul_inv_one, mul_inv_one] at h
  generalize encL x' y = eb at *
  clear hx' hy hr
  go_enter Tryd.func29, Tryd.ntmps29
  go_upto_region 1 with fail
  refine wp_gen (fun wx => Blk wx w.heap.size tB (bvals l) ∧ Blk wx (w.heap.size + 1) tQ (uvals zero20) ∧ Below w.heap.size w wx) ⟨(Blk.new w _ _).alloc _, Blk.new2 _ _ _ _, below2 _ _ _⟩ ?_
  rintro w1 ⟨O3, O4, BW⟩
  go_wp2_with (refine conv_step hl O3 rfl rfl rfl ?_)
  refine (elOf ⟨l.toArray⟩ w1).mono ?_
  rintro e w2 ⟨vy, rfl, Ey, hb⟩
  obtain ⟨ly, rfl, Ly⟩ := Ey
  rw [HY.out] at Ly
  replace O3 := O3.below hb O3.lt
  replace O4 := O4.below hb O4.lt
  replace BW := BW.trans (hb.mono BW.size)
  clear hb
  go_upto_region 2 with (refine new1 rfl rfl rfl rfl rfl Ly.len (by go_simp) (by go_simp) (fun w3 R => ?_))
  have hb := R.2
  have O6 := R.1
  have g6 : w.heap.size + 1 < w2.heap.size := O4.lt
  replace O3 := O3.below hb O3.lt
  replace O4 := O4.below hb O4.lt
  replace BW := BW.trans (hb.mono BW.size)
  clear hb R
  generalize w2.heap.size = c6 at *
  go_simp
  go_wp2_with (first | refine load_el2 O6 Ly.len rfl rfl rfl ?_)
  refine (across_ok b _ _ lb ly _ w3 (hc.below BW) Ly).mono ?_
  rintro e w4 ⟨lx, rfl, Lx, hb⟩
  rw [HR.out] at Lx ⊢
  replace Lx : Lm lx x.val := Lx
  replace O3 := O3.below hb O3.lt
  replace O4 := O4.below hb O4.lt
  replace O6 := O6.below hb O6.lt
  replace BW := BW.trans (hb.mono BW.size)
  clear hb
  go_upto_region 3 with (refine new1 rfl rfl rfl rfl rfl Lx.len (by go_simp) (by go_simp) (fun w5 R => ?_))
  have hb := R.2
  have O7 := R.1
  have g7 : c6 < w4.heap.size := O6.lt
  replace O3 := O3.below hb O3.lt
  replace O4 := O4.below hb O4.lt
  replace O6 := O6.below hb O6.lt
  replace BW := BW.trans (hb.mono BW.size)
  clear hb R
  generalize w4.heap.size = c7 at *
  go_simp
  have c0 := O3.cell 31 _ (bvals_get l 31 (by omega))
  have h31 := (l.getD 31 0).toNat_lt
  have HT : Hid (topL l = decide (128 ≤ (l.getD 31 0).toNat)) := rfl
  generalize (l.getD 31 0).toNat = n31 at *
  by_cases ht : 128 ≤ n31
  · have HXN : Hid (x' = -x) := by show _ = _; rw [HX.out, HT.out, decide_eq_true ht]; rfl
    have A1 := and128_hi n31 h31 ht
    obtain ⟨l7, L7', C7⟩ := qNeg Lx
    have L7 : Lm l7 x'.val := by rw [HXN.out]; exact L7'
    clear ht
    go_wp2_with (first | refine load_el2 O7 Lx.len rfl rfl rfl ?_)
    refine (C7 w5).mono ?_
    rintro e w5' ⟨rfl, hb⟩
    replace O3 := O3.below hb O3.lt
    replace O4 := O4.below hb O4.lt
    replace O6 := O6.below hb O6.lt
    replace O7 := O7.below hb O7.lt
    replace BW := BW.trans (hb.mono BW.size)
    clear hb c0
    go_upto_region 5 with (refine store_el O7 (Lib.hid Lx.len) (Lib.hid L7.len) rfl rfl rfl rfl ?_)
    refine wp_gen (fun wx => Blk wx w.heap.size tB (bvals l) ∧ Blk wx (w.heap.size + 1) tQ (uvals zero20) ∧ Blk wx c6 tE (uvals ly) ∧ Blk wx c7 tE (uvals l7) ∧ Below w.heap.size w wx) ⟨O3.farRow (by omega) _, O4.farRow (by omega) _, O6.farRow (by omega) _, O7.setRow _, below_row BW _ _ (by omega)⟩ ?_
    clear O3 O4 O6 O7 BW
    rintro w6 ⟨O3, O4, O6, O7, BW⟩
    go_wp2_with (first | refine load_el2 O7 L7.len rfl rfl rfl ?_ | refine load_el2 O6 Ly.len rfl rfl rfl ?_)
    refine (flat_ok l7 ly x' y w6 L7 Ly).mono ?_
    rintro e w7 ⟨lp, rfl, HP, hb⟩
    have LP := HP.len
    have g8 : c7 < w7.heap.size := (O7.below hb O7.lt).lt
    replace O3 := O3.below hb O3.lt
    replace O4 := O4.below hb O4.lt
    replace BW := BW.trans (hb.mono BW.size)
    clear hb O6 O7
    go_upto_region 6 with (refine newQ rfl rfl rfl rfl rfl LP (by go_simp) (by go_simp) (fun w8 O9 hb => ?_))
    replace O3 := O3.below hb O3.lt
    replace O4 := O4.below hb O4.lt
    replace BW := BW.trans (hb.mono BW.size)
    clear hb
    generalize w7.heap.size = c9 at *
    go_simp
    have Dr : Below w8.heap.size w8 w8.drew := below_drewN (Below.refl _ _) 1
    have M3 := O3.below Dr O3.lt
    have M9 := O9.below Dr O9.lt
    have U9 : (uvals lp).length = 20 := by rw [uvals_len, LP]
    have CBw := fun w' => CB lp w' HP
    cases ok
    · have M4 := O4.below Dr O4.lt
      (refine Pl.wp_region_plan (fun k => k = w.heap.size + 1) [(true, 0), (true, 1), (true, 2), (true, 3), (true, 4), (true, 5), (true, 6), (true, 7), (false, 8), (true, 9)] (by kernel_rfl) (by kernel_rfl) ?_)
      (refine Pl.plan_head (i := 0) rfl (fun K hK => ?_); refine Pl.plan_load (fun w' hw' => hw'.blk M9 (by omega)) Tryd.underlying49 rfl q_size U9 (by first | rfl | simp [Region.wanted, yielded]) rfl (by go_simp) ?_; go_simp; (with_reducible apply hK); clear hK K)
      (refine Pl.plan_head (i := 1) rfl (fun K hK => ?_); refine Pl.plan_plain (.bool false) (by first | rfl | simp [Region.wanted, yielded]) (fun w' hw' => by go_simp) ?_; go_simp; (with_reducible apply hK); clear hK K)
      (refine Pl.plan_head (i := 2) rfl (fun K hK => ?_); refine Pl.plan_plain (.bool false) (by first | rfl | simp [Region.wanted, yielded]) (fun w' hw' => by go_simp) ?_; go_simp; (with_reducible apply hK); clear hK K)
      (refine Pl.plan_head (i := 3) rfl (fun K hK => ?_); refine Pl.plan_skip (by first | rfl | simp [Region.wanted, yielded]) ?_; go_simp; (with_reducible apply hK); clear hK K)
      (refine Pl.plan_head (i := 4) rfl (fun K hK => ?_); refine Pl.plan_skip (by first | rfl | simp [Region.wanted, yielded]) ?_; go_simp; (with_reducible apply hK); clear hK K)
      (refine Pl.plan_head (i := 5) rfl (fun K hK => ?_); refine Pl.plan_skip (by first | rfl | simp [Region.wanted, yielded]) ?_; go_simp; (with_reducible apply hK); clear hK K)
      (refine Pl.plan_head (i := 6) rfl (fun K hK => ?_); refine Pl.plan_skip (by first | rfl | simp [Region.wanted, yielded]) ?_; go_simp; (with_reducible apply hK); clear hK K)
      (refine Pl.plan_head (i := 7) rfl (fun K hK => ?_); refine Pl.plan_plain (.bool false) (by first | rfl | simp [Region.wanted, yielded]) (fun w' hw' => by go_simp) ?_; go_simp; (with_reducible apply hK); clear hK K)
      refine Pl.plan_sole (i := 8) rfl (fun w9 h9 Q hQ => ?_)
      have N4 := M4.below h9 M4.lt
      refine store_pt (l := lp) N4 rfl LP rfl rfl rfl rfl ?_
      unfold wpList
      refine hQ _ _ (((Keeps.refl _ _).rw h9).row _ _ (fun _ => rfl)) ?_
      clear hQ Q
      go_simp
      (refine Pl.plan_head (i := 9) rfl (fun K hK => ?_); refine Pl.plan_plain (.bool false) (by first | rfl | simp [Region.wanted, yielded]) (fun w' hw' => by go_simp) ?_; go_simp; (with_reducible apply hK); clear hK K)
      refine Pl.plan_nil (fun wz hz => ?_)
      have NZ := (N4.setRow (uvals lp)).below hz (N4.setRow (uvals lp)).lt
      have BZ := (below_row (BW.trans ((Dr.trans (h9.mono Dr.size)).mono BW.size)) (w.heap.size + 1) (uvals lp).toArray (by omega)).trans (hz.mono (by have := (BW.trans ((Dr.trans (h9.mono Dr.size)).mono BW.size)).size; simpa using this))
      clear M3 M9 M4 N4
      go_simp
      go_wp2_with fail
      exact ret_pt2 rfl NZ LP rfl rfl rfl ⟨lp, rfl, HP, BZ⟩
    · have M4 := O4.below Dr O4.lt
      (refine Pl.wp_region_plan (fun k => k = w.heap.size + 1) [(true, 0), (true, 1), (true, 2), (true, 3), (true, 4), (true, 5), (true, 6), (true, 7), (false, 8), (true, 9)] (by kernel_rfl) (by kernel_rfl) ?_)
      (refine Pl.plan_head (i := 0) rfl (fun K hK => ?_); refine Pl.plan_load (fun w' hw' => hw'.blk M9 (by omega)) Tryd.underlying49 rfl q_size U9 (by first | rfl | simp [Region.wanted, yielded]) rfl (by go_simp) ?_; go_simp; (with_reducible apply hK); clear hK K)
      (refine Pl.plan_head (i := 1) rfl (fun K hK => ?_); refine Pl.plan_plain (.bool true) (by first | rfl | simp [Region.wanted, yielded]) (fun w' hw' => by go_simp) ?_; go_simp; (with_reducible apply hK); clear hK K)
      (refine Pl.plan_head (i := 2) rfl (fun K hK => ?_); refine Pl.plan_plain (.bool true) (by first | rfl | simp [Region.wanted, yielded]) (fun w' hw' => by go_simp) ?_; go_simp; (with_reducible apply hK); clear hK K)
      (refine Pl.plan_head (i := 3) rfl (fun K hK => ?_); refine Pl.plan_load (fun w' hw' => hw'.blk M9 (by omega)) Tryd.underlying49 rfl q_size U9 (by first | rfl | simp [Region.wanted, yielded]) rfl (by go_simp) ?_; go_simp; (with_reducible apply hK); clear hK K)
      (refine Pl.plan_head (i := 4) rfl (fun K hK => ?_); refine Pl.plan_call (.agg (bvals eb).toArray) 22 #[.agg (uvals lp).toArray] (by first | rfl | simp [Region.wanted, yielded]) (fun w' => by go_simp) (fun w' hw' => CBw w') ?_; go_simp; (with_reducible apply hK); clear hK K)
      (refine Pl.plan_head (i := 5) rfl (fun K hK => ?_); refine Pl.plan_load (fun w' hw' => hw'.blk M3 (by omega)) Tryd.underlying22 rfl arr32_size (blen hl) (by first | rfl | simp [Region.wanted, yielded]) rfl (by go_simp) ?_; go_simp; (with_reducible apply hK); clear hK K)
      (refine Pl.plan_head (i := 6) rfl (fun K hK => ?_); refine Pl.plan_plain (.bool (decide (eb = l))) (by first | rfl | simp [Region.wanted, yielded]) (fun w' hw' => by have h := EQ w'; go_simp; try simp [h]) ?_; go_simp; (with_reducible apply hK); clear hK K)
      (refine Pl.plan_head (i := 7) rfl (fun K hK => ?_); refine Pl.plan_plain (.bool (decide (eb = l))) (by first | rfl | simp [Region.wanted, yielded]) (fun w' hw' => by go_simp) ?_; go_simp; (with_reducible apply hK); clear hK K)
      refine Pl.plan_sole (i := 8) rfl (fun w9 h9 Q hQ => ?_)
      have N4 := M4.below h9 M4.lt
      refine store_pt (l := lp) N4 rfl LP rfl rfl rfl rfl ?_
      unfold wpList
      refine hQ _ _ (((Keeps.refl _ _).rw h9).row _ _ (fun _ => rfl)) ?_
      clear hQ Q
      go_simp
      (refine Pl.plan_head (i := 9) rfl (fun K hK => ?_); refine Pl.plan_plain (.bool (decide (eb = l))) (by first | rfl | simp [Region.wanted, yielded]) (fun w' hw' => by go_simp) ?_; go_simp; (with_reducible apply hK); clear hK K)
      refine Pl.plan_nil (fun wz hz => ?_)
      have NZ := (N4.setRow (uvals lp)).below hz (N4.setRow (uvals lp)).lt
      have BZ := (below_row (BW.trans ((Dr.trans (h9.mono Dr.size)).mono BW.size)) (w.heap.size + 1) (uvals lp).toArray (by omega)).trans (hz.mono (by have := (BW.trans ((Dr.trans (h9.mono Dr.size)).mono BW.size)).size; simpa using this))
      clear M3 M9 M4 N4
      go_simp
      go_wp2_with fail
      exact ret_pt2 rfl NZ LP rfl rfl rfl ⟨lp, rfl, HP, BZ⟩
  · have HXN : Hid (x' = x) := by show _ = _; rw [HX.out, HT.out, decide_eq_false ht]; rfl
    have A1 := and128_lo n31 h31 ht
    have L7 : Lm lx x'.val := by rw [HXN.out]; exact Lx
    clear ht
    go_upto_region 5 with fail
    clear c0
    generalize lx = l7 at *
    refine wp_gen (fun wx => wx = w5) rfl ?_
    rintro w6 rfl
    go_wp2_with (first | refine load_el2 O7 L7.len rfl rfl rfl ?_ | refine load_el2 O6 Ly.len rfl rfl rfl ?_)
    refine (flat_ok l7 ly x' y w6 L7 Ly).mono ?_
    rintro e w7 ⟨lp, rfl, HP, hb⟩
    have LP := HP.len
    have g8 : c7 < w7.heap.size := (O7.below hb O7.lt).lt
    replace O3 := O3.below hb O3.lt
    replace O4 := O4.below hb O4.lt
    replace BW := BW.trans (hb.mono BW.size)
    clear hb O6 O7
    go_upto_region 6 with (refine newQ rfl rfl rfl rfl rfl LP (by go_simp) (by go_simp) (fun w8 O9 hb => ?_))
    replace O3 := O3.below hb O3.lt
    replace O4 := O4.below hb O4.lt
    replace BW := BW.trans (hb.mono BW.size)
    clear hb
    generalize w7.heap.size = c9 at *
    go_simp
    have Dr : Below w8.heap.size w8 w8.drew := below_drewN (Below.refl _ _) 1
    have M3 := O3.below Dr O3.lt
    have M9 := O9.below Dr O9.lt
    have U9 : (uvals lp).length = 20 := by rw [uvals_len, LP]
    have CBw := fun w' => CB lp w' HP
    cases ok
    · have M4 := O4.below Dr O4.lt
      (refine Pl.wp_region_plan (fun k => k = w.heap.size + 1) [(true, 0), (true, 1), (true, 2), (true, 3), (true, 4), (true, 5), (true, 6), (true, 7), (false, 8), (true, 9)] (by kernel_rfl) (by kernel_rfl) ?_)
      (refine Pl.plan_head (i := 0) rfl (fun K hK => ?_); refine Pl.plan_load (fun w' hw' => hw'.blk M9 (by omega)) Tryd.underlying49 rfl q_size U9 (by first | rfl | simp [Region.wanted, yielded]) rfl (by go_simp) ?_; go_simp; (with_reducible apply hK); clear hK K)
      (refine Pl.plan_head (i := 1) rfl (fun K hK => ?_); refine Pl.plan_plain (.bool false) (by first | rfl | simp [Region.wanted, yielded]) (fun w' hw' => by go_simp) ?_; go_simp; (with_reducible apply hK); clear hK K)
      (refine Pl.plan_head (i := 2) rfl (fun K hK => ?_); refine Pl.plan_plain (.bool false) (by first | rfl | simp [Region.wanted, yielded]) (fun w' hw' => by go_simp) ?_; go_simp; (with_reducible apply hK); clear hK K)
      (refine Pl.plan_head (i := 3) rfl (fun K hK => ?_); refine Pl.plan_skip (by first | rfl | simp [Region.wanted, yielded]) ?_; go_simp; (with_reducible apply hK); clear hK K)
      (refine Pl.plan_head (i := 4) rfl (fun K hK => ?_); refine Pl.plan_skip (by first | rfl | simp [Region.wanted, yielded]) ?_; go_simp; (with_reducible apply hK); clear hK K)
      (refine Pl.plan_head (i := 5) rfl (fun K hK => ?_); refine Pl.plan_skip (by first | rfl | simp [Region.wanted, yielded]) ?_; go_simp; (with_reducible apply hK); clear hK K)
      (refine Pl.plan_head (i := 6) rfl (fun K hK => ?_); refine Pl.plan_skip (by first | rfl | simp [Region.wanted, yielded]) ?_; go_simp; (with_reducible apply hK); clear hK K)
      (refine Pl.plan_head (i := 7) rfl (fun K hK => ?_); refine Pl.plan_plain (.bool false) (by first | rfl | simp [Region.wanted, yielded]) (fun w' hw' => by go_simp) ?_; go_simp; (with_reducible apply hK); clear hK K)
      refine Pl.plan_sole (i := 8) rfl (fun w9 h9 Q hQ => ?_)
      have N4 := M4.below h9 M4.lt
      refine store_pt (l := lp) N4 rfl LP rfl rfl rfl rfl ?_
      unfold wpList
      refine hQ _ _ (((Keeps.refl _ _).rw h9).row _ _ (fun _ => rfl)) ?_
      clear hQ Q
      go_simp
      (refine Pl.plan_head (i := 9) rfl (fun K hK => ?_); refine Pl.plan_plain (.bool false) (by first | rfl | simp [Region.wanted, yielded]) (fun w' hw' => by go_simp) ?_; go_simp; (with_reducible apply hK); clear hK K)
      refine Pl.plan_nil (fun wz hz => ?_)
      have NZ := (N4.setRow (uvals lp)).below hz (N4.setRow (uvals lp)).lt
      have BZ := (below_row (BW.trans ((Dr.trans (h9.mono Dr.size)).mono BW.size)) (w.heap.size + 1) (uvals lp).toArray (by omega)).trans (hz.mono (by have := (BW.trans ((Dr.trans (h9.mono Dr.size)).mono BW.size)).size; simpa using this))
      clear M3 M9 M4 N4
      go_simp
      go_wp2_with fail
      exact ret_pt2 rfl NZ LP rfl rfl rfl ⟨lp, rfl, HP, BZ⟩
    · have M4 := O4.below Dr O4.lt
      (refine Pl.wp_region_plan (fun k => k = w.heap.size + 1) [(true, 0), (true, 1), (true, 2), (true, 3), (true, 4), (true, 5), (true, 6), (true, 7), (false, 8), (true, 9)] (by kernel_rfl) (by kernel_rfl) ?_)
      (refine Pl.plan_head (i := 0) rfl (fun K hK => ?_); refine Pl.plan_load (fun w' hw' => hw'.blk M9 (by omega)) Tryd.underlying49 rfl q_size U9 (by first | rfl | simp [Region.wanted, yielded]) rfl (by go_simp) ?_; go_simp; (with_reducible apply hK); clear hK K)
      (refine Pl.plan_head (i := 1) rfl (fun K hK => ?_); refine Pl.plan_plain (.bool true) (by first | rfl | simp [Region.wanted, yielded]) (fun w' hw' => by go_simp) ?_; go_simp; (with_reducible apply hK); clear hK K)
      (refine Pl.plan_head (i := 2) rfl (fun K hK => ?_); refine Pl.plan_plain (.bool true) (by first | rfl | simp [Region.wanted, yielded]) (fun w' hw' => by go_simp) ?_; go_simp; (with_reducible apply hK); clear hK K)
      (refine Pl.plan_head (i := 3) rfl (fun K hK => ?_); refine Pl.plan_load (fun w' hw' => hw'.blk M9 (by omega)) Tryd.underlying49 rfl q_size U9 (by first | rfl | simp [Region.wanted, yielded]) rfl (by go_simp) ?_; go_simp; (with_reducible apply hK); clear hK K)
      (refine Pl.plan_head (i := 4) rfl (fun K hK => ?_); refine Pl.plan_call (.agg (bvals eb).toArray) 22 #[.agg (uvals lp).toArray] (by first | rfl | simp [Region.wanted, yielded]) (fun w' => by go_simp) (fun w' hw' => CBw w') ?_; go_simp; (with_reducible apply hK); clear hK K)
      (refine Pl.plan_head (i := 5) rfl (fun K hK => ?_); refine Pl.plan_load (fun w' hw' => hw'.blk M3 (by omega)) Tryd.underlying22 rfl arr32_size (blen hl) (by first | rfl | simp [Region.wanted, yielded]) rfl (by go_simp) ?_; go_simp; (with_reducible apply hK); clear hK K)
      (refine Pl.plan_head (i := 6) rfl (fun K hK => ?_); refine Pl.plan_plain (.bool (decide (eb = l))) (by first | rfl | simp [Region.wanted, yielded]) (fun w' hw' => by have h := EQ w'; go_simp; try simp [h]) ?_; go_simp; (with_reducible apply hK); clear hK K)
      (refine Pl.plan_head (i := 7) rfl (fun K hK => ?_); refine Pl.plan_plain (.bool (decide (eb = l))) (by first | rfl | simp [Region.wanted, yielded]) (fun w' hw' => by go_simp) ?_; go_simp; (with_reducible apply hK); clear hK K)
      refine Pl.plan_sole (i := 8) rfl (fun w9 h9 Q hQ => ?_)
      have N4 := M4.below h9 M4.lt
      refine store_pt (l := lp) N4 rfl LP rfl rfl rfl rfl ?_
      unfold wpList
      refine hQ _ _ (((Keeps.refl _ _).rw h9).row _ _ (fun _ => rfl)) ?_
      clear hQ Q
      go_simp
      (refine Pl.plan_head (i := 9) rfl (fun K hK => ?_); refine Pl.plan_plain (.bool (decide (eb = l))) (by first | rfl | simp [Region.wanted, yielded]) (fun w' hw' => by go_simp) ?_; go_simp; (with_reducible apply hK); clear hK K)
      refine Pl.plan_nil (fun wz hz => ?_)
      have NZ := (N4.setRow (uvals lp)).below hz (N4.setRow (uvals lp)).lt
      have BZ := (below_row (BW.trans ((Dr.trans (h9.mono Dr.size)).mono BW.size)) (w.heap.size + 1) (uvals lp).toArray (by omega)).trans (hz.mono (by have := (BW.trans ((Dr.trans (h9.mono Dr.size)).mono BW.size)).size; simpa using this))
      clear M3 M9 M4 N4
      go_simp
      go_wp2_with fail
      exact ret_pt2 rfl NZ LP rfl rfl rfl ⟨lp, rfl, HP, BZ⟩
end Eds
end Go.Proofs.YtilccncddbgpbaaDoor
