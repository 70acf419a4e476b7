/-
The walks of states: shift, key, mix.
-/
import Derived.Test.YteleedcpepifjaaDoorAesW
namespace Go.Proofs.YteleedcpepifjaaDoor
open Go.RowKit AesP
set_option maxRecDepth 100000
theorem cell_lt8 {w : World} {p : Addr} {v : Value} (h : w.cell? p = some v) : p.block < w.heap.size := by
  unfold World.cell? at h
  rcases Nat.lt_or_ge p.block w.heap.size with h1 | h1
  · exact h1
  · rw [Array.getElem?_eq_none h1] at h; cases h
def shO (T : List Nat) (b : Nat) (a : List Nat) (i : Nat) : Nat := T.getD (a.getD (shI b i) 0) 0
set_option maxHeartbeats 8000000 in
theorem shift1_ok (a T : List Nat) (t o : Nat) (la : a.length = 16) (ha : By a) (hTb : By T) (w : World) (hT : ∀ x, x < 256 → w.cell? ⟨t, o + x, none⟩ = some (.int .u8 (T.getD x 0 : Nat))) :
    Calls Tryd.prog 25 #[.agg (b8 a).toArray, .pointer (some ⟨t, o, none⟩), .int .i64 1] w fun e w' => e = .returned (.agg (b8 (shF T 1 a)).toArray) ∧ Below w.heap.size w w' := by
  have HA := Lib.hid (And.intro ha la)
  have HT := Lib.hid hT
  have HB := Lib.hid hTb
  clear ha la hT hTb
  go_enter Tryd.func25, Tryd.ntmps25
  go_upto_region 2 with fail
  refine wp_gen (fun wx => Blk wx w.heap.size 54 (b8 a) ∧ Blk wx (w.heap.size + 1) 54 (b8 z16) ∧ Blk wx (w.heap.size + 2) 54 (b8 z16) ∧ Below w.heap.size w wx) ⟨((Blk.new w _ (b8 a)).alloc _).alloc _, (Blk.new2 _ _ _ (b8 z16)).alloc _, Blk.new3 _ _ _ _ (b8 z16), below3 _ _ _ _⟩ ?_
  intro w1 H1
  have H2 := Lib.hid H1
  clear H1
  rw [show w.heap.size + 1 + 1 = w.heap.size + 2 from rfl]
  go_wp2_with fail
  go_loopw [10] (fun v wr => ∃ c : Nat, v = .int .i64 c ∧ c ≤ 4 ∧ Hid (Blk wr w.heap.size 54 (b8 a) ∧ Blk wr (w.heap.size + 1) 54 (b8 z16) ∧ Blk wr (w.heap.size + 2) 54 (b8 (bl (shO T 1 a) (fun i => z16.getD i 0) (4 * c) 16)) ∧ Below w.heap.size w wr)) (fun v _ => 4 - (intOf v).toNat)
  case atStart => exact ⟨0, rfl, by omega, by rw [bl_zero, ml_eta (by rfl)]; exact H2.out⟩
  case round =>
    obtain ⟨c, rfl, hc, hr⟩ := hrel
    clear H2
    rcases Nat.lt_or_ge c 4 with h | h
    · go_wp2_with fail
      rw [show decide ((c : Int) < 4) = true from decide_eq_true (by omega)]
      go_loopw [13] (fun v wr => ∃ r : Nat, v = .int .i64 r ∧ r ≤ 4 ∧ Hid (Blk wr w.heap.size 54 (b8 a) ∧ Blk wr (w.heap.size + 1) 54 (b8 z16) ∧ Blk wr (w.heap.size + 2) 54 (b8 (bl (shO T 1 a) (fun i => z16.getD i 0) (4 * c + r) 16)) ∧ Below w.heap.size w wr)) (fun v _ => 4 - (intOf v).toNat)
      case atStart => exact ⟨0, rfl, by omega, hr.out⟩
      case round =>
        obtain ⟨r, rfl, hrr, hq⟩ := hrel
        clear hr
        rcases Nat.lt_or_ge r 4 with h2 | h2
        · obtain ⟨O1, O2, O3, BW⟩ := hq.out
          have hI : shI 1 (4 * c + r) = (c + r) % 4 * 4 + r := by unfold shI; omega
          have hi16 : 4 * c + r < 16 := by omega
          have c1 := O1.b8cell ((c + r) % 4 * 4 + r) (by rw [HA.out.2]; omega)
          have hx := HA.out.1.get ((c + r) % 4 * 4 + r)
          have c3 := O3.b8cell (4 * c + r) (by rw [bl_len]; omega)
          have f3 := O3.free (4 * c + r)
          have hoff : c * 4 + r = 4 * c + r := by omega
          have k2 := HT.out _ hx
          replace k2 : wr.cell? _ = _ := (BW.cell (cell_lt8 k2)).trans k2
          have hO : shO T 1 a (4 * c + r) = T.getD (a.getD ((c + r) % 4 * 4 + r) 0) 0 := by unfold shO; rw [hI]
          have S1 := Blk.b8set (w := wr.drew) O3 (4 * c + r) (shO T 1 a (4 * c + r))
          rw [show (bl (shO T 1 a) (fun i => z16.getD i 0) (4 * c + r) 16).set (4 * c + r) (shO T 1 a (4 * c + r)) = bl (shO T 1 a) (fun i => z16.getD i 0) (4 * c + (r + 1)) 16 from bl_set _ _, hO] at S1
          generalize a.getD ((c + r) % 4 * 4 + r) 0 = x at *
          have hy := HB.out.get x
          generalize T.getD x 0 = y at *
          generalize (bl (shO T 1 a) (fun i => z16.getD i 0) (4 * c + r) 16).getD (4 * c + r) 0 = z at *
          have HS := Lib.hid (And.intro (Blk.far (w := wr.drew) O1 (show w.heap.size ≠ w.heap.size + 2 by omega) (4 * c + r) (.int .u8 (y : Nat))) (And.intro (Blk.far (w := wr.drew) O2 (show w.heap.size + 1 ≠ w.heap.size + 2 by omega) (4 * c + r) (.int .u8 (y : Nat))) (And.intro S1 (below_set' (below_drewN BW 1) (w.heap.size + 2) (4 * c + r) (.int .u8 (y : Nat)) (by omega)))))
          clear O1 O2 O3 BW S1 hI hO
          go_upto_region 8 with fail
          (refine still_tail 18 (by kernel_rfl) (by kernel_rfl) ?_; simp only [List.take_succ_cons, List.take_zero, List.drop_succ_cons, List.drop_zero]; repeat (refine wpStill_step (fun K hK => ?_); go_simp; (try go_ints); (try simp only [↓IntWalk.iteOmega, true_and]); (with_reducible apply hK); clear hK K)); refine wpStill_nil ?_
          go_wp2_with fail
          go_roundw

          case rel => exact ⟨r + 1, by go_num, by omega, HS.out⟩
          case measure => simp [intOf]; omega
        · have h4 : r = 4 := by omega
          rw [h4, show 4 * c + 4 = 4 * (c + 1) by omega] at hq
          clear h4
          go_wp2_with fail
          go_roundw
          case rel => exact ⟨c + 1, by go_num, by omega, hq.out⟩
          case measure => simp [intOf]; omega
    · have h4 : c = 4 := by omega
      rw [h4, show 4 * 4 = 16 by rfl, bl_full] at hr
      clear h4
      have LX : Hid ((b8 (shF T 1 a)).length = 16) := by rw [b8_len]; exact ml_len _ _
      go_wp2_with (first | refine load_blk hr.out.2.2.1 Tryd.underlying54 rfl state_size LX.out rfl rfl rfl ?_ | refine store_blk hr.out.2.1 state_size LX.out rfl (b8_one _) rfl rfl rfl rfl ?_)
      exact ret_blk rfl (Blk.setRow hr.out.2.1 _) Tryd.underlying54 rfl state_size LX.out rfl rfl ⟨rfl, below_row hr.out.2.2.2 _ _ (by omega)⟩
set_option maxHeartbeats 8000000 in
theorem shift3_ok (a T : List Nat) (t o : Nat) (la : a.length = 16) (ha : By a) (hTb : By T) (w : World) (hT : ∀ x, x < 256 → w.cell? ⟨t, o + x, none⟩ = some (.int .u8 (T.getD x 0 : Nat))) :
    Calls Tryd.prog 25 #[.agg (b8 a).toArray, .pointer (some ⟨t, o, none⟩), .int .i64 3] w fun e w' => e = .returned (.agg (b8 (shF T 3 a)).toArray) ∧ Below w.heap.size w w' := by
  have HA := Lib.hid (And.intro ha la)
  have HT := Lib.hid hT
  have HB := Lib.hid hTb
  clear ha la hT hTb
  go_enter Tryd.func25, Tryd.ntmps25
  go_upto_region 2 with fail
  refine wp_gen (fun wx => Blk wx w.heap.size 54 (b8 a) ∧ Blk wx (w.heap.size + 1) 54 (b8 z16) ∧ Blk wx (w.heap.size + 2) 54 (b8 z16) ∧ Below w.heap.size w wx) ⟨((Blk.new w _ (b8 a)).alloc _).alloc _, (Blk.new2 _ _ _ (b8 z16)).alloc _, Blk.new3 _ _ _ _ (b8 z16), below3 _ _ _ _⟩ ?_
  intro w1 H1
  have H2 := Lib.hid H1
  clear H1
  rw [show w.heap.size + 1 + 1 = w.heap.size + 2 from rfl]
  go_wp2_with fail
  go_loopw [10] (fun v wr => ∃ c : Nat, v = .int .i64 c ∧ c ≤ 4 ∧ Hid (Blk wr w.heap.size 54 (b8 a) ∧ Blk wr (w.heap.size + 1) 54 (b8 z16) ∧ Blk wr (w.heap.size + 2) 54 (b8 (bl (shO T 3 a) (fun i => z16.getD i 0) (4 * c) 16)) ∧ Below w.heap.size w wr)) (fun v _ => 4 - (intOf v).toNat)
  case atStart => exact ⟨0, rfl, by omega, by rw [bl_zero, ml_eta (by rfl)]; exact H2.out⟩
  case round =>
    obtain ⟨c, rfl, hc, hr⟩ := hrel
    clear H2
    rcases Nat.lt_or_ge c 4 with h | h
    · go_wp2_with fail
      rw [show decide ((c : Int) < 4) = true from decide_eq_true (by omega)]
      go_loopw [13] (fun v wr => ∃ r : Nat, v = .int .i64 r ∧ r ≤ 4 ∧ Hid (Blk wr w.heap.size 54 (b8 a) ∧ Blk wr (w.heap.size + 1) 54 (b8 z16) ∧ Blk wr (w.heap.size + 2) 54 (b8 (bl (shO T 3 a) (fun i => z16.getD i 0) (4 * c + r) 16)) ∧ Below w.heap.size w wr)) (fun v _ => 4 - (intOf v).toNat)
      case atStart => exact ⟨0, rfl, by omega, hr.out⟩
      case round =>
        obtain ⟨r, rfl, hrr, hq⟩ := hrel
        clear hr
        rcases Nat.lt_or_ge r 4 with h2 | h2
        · obtain ⟨O1, O2, O3, BW⟩ := hq.out
          have hI : shI 3 (4 * c + r) = (c + 3 * r) % 4 * 4 + r := by unfold shI; omega
          have hi16 : 4 * c + r < 16 := by omega
          have c1 := O1.b8cell ((c + 3 * r) % 4 * 4 + r) (by rw [HA.out.2]; omega)
          have hx := HA.out.1.get ((c + 3 * r) % 4 * 4 + r)
          have c3 := O3.b8cell (4 * c + r) (by rw [bl_len]; omega)
          have f3 := O3.free (4 * c + r)
          have hoff : c * 4 + r = 4 * c + r := by omega
          have k2 := HT.out _ hx
          replace k2 : wr.cell? _ = _ := (BW.cell (cell_lt8 k2)).trans k2
          have hO : shO T 3 a (4 * c + r) = T.getD (a.getD ((c + 3 * r) % 4 * 4 + r) 0) 0 := by unfold shO; rw [hI]
          have S1 := Blk.b8set (w := wr.drew) O3 (4 * c + r) (shO T 3 a (4 * c + r))
          rw [show (bl (shO T 3 a) (fun i => z16.getD i 0) (4 * c + r) 16).set (4 * c + r) (shO T 3 a (4 * c + r)) = bl (shO T 3 a) (fun i => z16.getD i 0) (4 * c + (r + 1)) 16 from bl_set _ _, hO] at S1
          generalize a.getD ((c + 3 * r) % 4 * 4 + r) 0 = x at *
          have hy := HB.out.get x
          generalize T.getD x 0 = y at *
          generalize (bl (shO T 3 a) (fun i => z16.getD i 0) (4 * c + r) 16).getD (4 * c + r) 0 = z at *
          have HS := Lib.hid (And.intro (Blk.far (w := wr.drew) O1 (show w.heap.size ≠ w.heap.size + 2 by omega) (4 * c + r) (.int .u8 (y : Nat))) (And.intro (Blk.far (w := wr.drew) O2 (show w.heap.size + 1 ≠ w.heap.size + 2 by omega) (4 * c + r) (.int .u8 (y : Nat))) (And.intro S1 (below_set' (below_drewN BW 1) (w.heap.size + 2) (4 * c + r) (.int .u8 (y : Nat)) (by omega)))))
          clear O1 O2 O3 BW S1 hI hO
          go_upto_region 8 with fail
          (refine still_tail 18 (by kernel_rfl) (by kernel_rfl) ?_; simp only [List.take_succ_cons, List.take_zero, List.drop_succ_cons, List.drop_zero]; repeat (refine wpStill_step (fun K hK => ?_); go_simp; (try go_ints); (try simp only [↓IntWalk.iteOmega, true_and]); (with_reducible apply hK); clear hK K)); refine wpStill_nil ?_
          go_wp2_with fail
          go_roundw

          case rel => exact ⟨r + 1, by go_num, by omega, HS.out⟩
          case measure => simp [intOf]; omega
        · have h4 : r = 4 := by omega
          rw [h4, show 4 * c + 4 = 4 * (c + 1) by omega] at hq
          clear h4
          go_wp2_with fail
          go_roundw
          case rel => exact ⟨c + 1, by go_num, by omega, hq.out⟩
          case measure => simp [intOf]; omega
    · have h4 : c = 4 := by omega
      rw [h4, show 4 * 4 = 16 by rfl, bl_full] at hr
      clear h4
      have LX : Hid ((b8 (shF T 3 a)).length = 16) := by rw [b8_len]; exact ml_len _ _
      go_wp2_with (first | refine load_blk hr.out.2.2.1 Tryd.underlying54 rfl state_size LX.out rfl rfl rfl ?_ | refine store_blk hr.out.2.1 state_size LX.out rfl (b8_one _) rfl rfl rfl rfl ?_)
      exact ret_blk rfl (Blk.setRow hr.out.2.1 _) Tryd.underlying54 rfl state_size LX.out rfl rfl ⟨rfl, below_row hr.out.2.2.2 _ _ (by omega)⟩
end Go.Proofs.YteleedcpepifjaaDoor
