/-
The walks of words and states: xor, all, read, bytes, key, shift, mix.
-/
import Derived.Test.YteleedcpepifjaaDoorAesL
import Derived.Deep.MidRow
namespace Go.Proofs.YteleedcpepifjaaDoor
open Go.RowKit AesP
set_option maxRecDepth 100000
def z4 : List Nat := [0, 0, 0, 0]
def z16 : List Nat := [0, 0, 0, 0, 0, 0, 0, 0, 0, 0, 0, 0, 0, 0, 0, 0]
theorem word_size : (Tryd.prog.info? 50).map (·.size) = some 4 := by kernel_rfl
theorem state_size : (Tryd.prog.info? 54).map (·.size) = some 16 := by kernel_rfl
theorem blk_size : (Tryd.prog.info? 25).map (·.size) = some 16 := by kernel_rfl
def xw (a b : List Nat) : List Nat := ml 4 fun i => a.getD i 0 ^^^ b.getD i 0
set_option maxHeartbeats 4000000 in
theorem wxor_ok (a b : List Nat) (la : a.length = 4) (lb : b.length = 4) (ha : By a) (hb : By b) (w : World) :
    Calls Tryd.prog 22 #[.agg (b8 a).toArray, .agg (b8 b).toArray] w fun e w' => e = .returned (.agg (b8 (xw a b)).toArray) ∧ Below w.heap.size w w' := by
  have HA := Lib.hid (And.intro ha (And.intro hb (And.intro la lb)))
  clear ha hb la lb
  go_enter Tryd.func22, Tryd.ntmps22
  go_upto_region 1 with fail
  refine wp_gen (fun wx => Blk wx w.heap.size 50 (b8 a) ∧ Blk wx (w.heap.size + 1) 50 (b8 b) ∧ Blk wx (w.heap.size + 2) 50 (b8 z4) ∧ Below w.heap.size w wx) ⟨((Blk.new w _ (b8 a)).alloc _).alloc _, (Blk.new2 _ _ _ (b8 b)).alloc _, Blk.new3 _ _ _ _ (b8 z4), below3 _ _ _ _⟩ ?_
  intro w1 H1
  have H2 := Lib.hid H1
  clear H1
  go_wp2_with fail
  go_loopw [6] (fun v wr => ∃ i : Nat, v = .int .i64 i ∧ i ≤ 4 ∧ Hid (Blk wr w.heap.size 50 (b8 (bl (fun i => a.getD i 0 ^^^ b.getD i 0) (fun i => a.getD i 0) i 4)) ∧ Blk wr (w.heap.size + 1) 50 (b8 b) ∧ Blk wr (w.heap.size + 2) 50 (b8 z4) ∧ Below w.heap.size w wr)) (fun v _ => 4 - (intOf v).toNat)
  case atStart => exact ⟨0, rfl, by omega, by rw [bl_zero, ml_eta HA.out.2.2.1]; exact H2.out⟩
  case round =>
    obtain ⟨i, rfl, hi, hr⟩ := hrel
    clear H2
    rcases Nat.lt_or_ge i 4 with h | h
    · obtain ⟨O1, O2, O3, BW⟩ := hr.out
      have c1 := O1.b8cell i (by rw [bl_len]; exact h)
      rw [bl_old _ _ (Nat.le_refl i) h] at c1
      have c2 := O2.b8cell i (by rw [HA.out.2.2.2]; exact h)
      have f1 := O1.free i
      have hx := HA.out.1.get i
      have hy := HA.out.2.1.get i
      have S1 := Blk.b8set (w := wr.drew) O1 i (a.getD i 0 ^^^ b.getD i 0)
      rw [show (bl (fun i => a.getD i 0 ^^^ b.getD i 0) (fun i => a.getD i 0) i 4).set i (a.getD i 0 ^^^ b.getD i 0) = bl (fun i => a.getD i 0 ^^^ b.getD i 0) (fun i => a.getD i 0) (i + 1) 4 from bl_set _ _] at S1
      generalize a.getD i 0 = x at *
      generalize b.getD i 0 = y at *
      have hxy := xor8 x y hx hy
      have HS := Lib.hid (And.intro S1 (And.intro (Blk.far (w := wr.drew) O2 (show w.heap.size + 1 ≠ w.heap.size by omega) i (.int .u8 (x ^^^ y : Nat))) (And.intro (Blk.far (w := wr.drew) O3 (show w.heap.size + 2 ≠ w.heap.size by omega) i (.int .u8 (x ^^^ y : Nat))) (below_set' (below_drewN BW 1) w.heap.size i (.int .u8 (x ^^^ y : Nat)) (Nat.le_refl _)))))
      clear O1 O2 O3 BW S1
      go_upto_region 4 with fail
      (refine still_tail 8 (by kernel_rfl) (by kernel_rfl) ?_; simp only [List.take_succ_cons, List.take_zero, List.drop_succ_cons, List.drop_zero]; repeat (refine wpStill_step (fun K hK => ?_); go_simp; (try go_ints); (try simp only [↓IntWalk.iteOmega, true_and]); (with_reducible apply hK); clear hK K)); refine wpStill_nil ?_
      go_wp2_with fail
      go_roundw
      case rel => exact ⟨i + 1, by go_num, by omega, HS.out⟩
      case measure => simp [intOf]; omega
    · have h4 : i = 4 := by omega
      rw [h4, bl_full] at hr
      clear h4
      have LX : Hid ((b8 (xw a b)).length = 4) := by rw [b8_len]; exact ml_len _ _
      go_wp2_with (first | refine load_blk hr.out.1 Tryd.underlying50 rfl word_size LX.out rfl rfl rfl ?_ | refine store_blk hr.out.2.2.1 word_size LX.out rfl (b8_one _) rfl rfl rfl rfl ?_)
      exact ret_blk rfl (Blk.setRow hr.out.2.2.1 _) Tryd.underlying50 rfl word_size LX.out rfl rfl ⟨rfl, below_row hr.out.2.2.2 _ _ (by omega)⟩
/-- a cipher: its block, its tables -/
def Tab (w : World) (t : Nat) : Prop := Blk w t 61 (b8 (sbT ++ bkT))
theorem sbT_len : sbT.length = 256 := sbL_len _
theorem bkT_len : bkT.length = 256 := bkL_len _
theorem getD_app1 (a b : List Nat) {i : Nat} (h : i < a.length) : (a ++ b).getD i 0 = a.getD i 0 := by rw [List.getD_eq_getElem?_getD, List.getD_eq_getElem?_getD, List.getElem?_append_left h]
theorem getD_app2 (a b : List Nat) (i : Nat) : (a ++ b).getD (a.length + i) 0 = b.getD i 0 := by rw [List.getD_eq_getElem?_getD, List.getD_eq_getElem?_getD, List.getElem?_append_right (by omega), Nat.add_sub_cancel_left]
theorem Tab.sb {w : World} {t : Nat} (h : Tab w t) {x : Nat} (hx : x < 256) : w.cell? ⟨t, x, none⟩ = some (.int .u8 (sbT.getD x 0 : Nat)) := by
  have := Blk.b8cell h x (by rw [List.length_append, sbT_len]; omega)
  rwa [getD_app1 _ _ (by rw [sbT_len]; exact hx)] at this
theorem Tab.bk {w : World} {t : Nat} (h : Tab w t) {x : Nat} (hx : x < 256) : w.cell? ⟨t, 256 + x, none⟩ = some (.int .u8 (bkT.getD x 0 : Nat)) := by
  have := Blk.b8cell h (256 + x) (by rw [List.length_append, sbT_len, bkT_len]; omega)
  have e := getD_app2 sbT bkT x
  rw [sbT_len] at e
  rwa [e] at this
def sw (a : List Nat) : List Nat := ml 4 fun i => sbT.getD (a.getD i 0) 0
set_option maxHeartbeats 4000000 in
theorem all_ok (c t : Nat) (vw : Value) (a : List Nat) (la : a.length = 4) (ha : By a) (w : World) (hC : Blk w c 48 [.pointer (some ⟨t, 0, none⟩), vw]) (hT : Tab w t) :
    Calls Tryd.prog 20 #[.pointer (some ⟨c, 0, none⟩), .agg (b8 a).toArray] w fun e w' => e = .returned (.agg (b8 (sw a)).toArray) ∧ Below w.heap.size w w' := by
  have HA := Lib.hid (And.intro ha la)
  have HC := Lib.hid hC
  have HT := Lib.hid hT
  have hc : c < w.heap.size := hC.lt
  have ht : t < w.heap.size := Blk.lt hT
  clear ha la hC hT
  go_enter Tryd.func20, Tryd.ntmps20
  go_upto_region 1 with fail
  refine wp_gen (fun wx => Blk wx w.heap.size 50 (b8 a) ∧ Blk wx (w.heap.size + 1) 50 (b8 z4) ∧ Below w.heap.size w wx) ⟨(Blk.new w _ (b8 a)).alloc _, Blk.new2 _ _ _ (b8 z4), below2 _ _ _⟩ ?_
  intro w1 H1
  have H2 := Lib.hid H1
  clear H1
  go_wp2_with fail
  go_loopw [6] (fun v wr => ∃ i : Nat, v = .int .i64 i ∧ i ≤ 4 ∧ Hid (Blk wr w.heap.size 50 (b8 (bl (fun i => sbT.getD (a.getD i 0) 0) (fun i => a.getD i 0) i 4)) ∧ Blk wr (w.heap.size + 1) 50 (b8 z4) ∧ Below w.heap.size w wr)) (fun v _ => 4 - (intOf v).toNat)
  case atStart => exact ⟨0, rfl, by omega, by rw [bl_zero, ml_eta HA.out.2]; exact H2.out⟩
  case round =>
    obtain ⟨i, rfl, hi, hr⟩ := hrel
    clear H2
    rcases Nat.lt_or_ge i 4 with h | h
    · obtain ⟨O1, O3, BW⟩ := hr.out
      have c1 := O1.b8cell i (by rw [bl_len]; exact h)
      rw [bl_old _ _ (Nat.le_refl i) h] at c1
      have f1 := O1.free i
      have hx := HA.out.1.get i
      have C1 := HC.out.below BW hc
      have k1 := C1.cell 0 _ rfl
      have T1 : Tab wr t := Blk.below HT.out BW ht
      have k2 := T1.sb hx
      have S1 := Blk.b8set (w := wr.drew) O1 i (sbT.getD (a.getD i 0) 0)
      rw [show (bl (fun i => sbT.getD (a.getD i 0) 0) (fun i => a.getD i 0) i 4).set i (sbT.getD (a.getD i 0) 0) = bl (fun i => sbT.getD (a.getD i 0) 0) (fun i => a.getD i 0) (i + 1) 4 from bl_set _ _] at S1
      generalize a.getD i 0 = x at *
      generalize sbT.getD x 0 = y at *
      have HS := Lib.hid (And.intro S1 (And.intro (Blk.far (w := wr.drew) O3 (show w.heap.size + 1 ≠ w.heap.size by omega) i (.int .u8 (y : Nat))) (below_set' (below_drewN BW 1) w.heap.size i (.int .u8 (y : Nat)) (Nat.le_refl _))))
      clear O1 O3 BW S1 C1 T1
      go_upto_region 4 with fail
      (refine still_tail 13 (by kernel_rfl) (by kernel_rfl) ?_; simp only [List.take_succ_cons, List.take_zero, List.drop_succ_cons, List.drop_zero]; repeat (refine wpStill_step (fun K hK => ?_); go_simp; (try go_ints); (try simp only [↓IntWalk.iteOmega, true_and]); (with_reducible apply hK); clear hK K)); refine wpStill_nil ?_
      go_wp2_with fail
      go_roundw
      case rel => exact ⟨i + 1, by go_num, by omega, HS.out⟩
      case measure => simp [intOf]; omega
    · have h4 : i = 4 := by omega
      rw [h4, bl_full] at hr
      clear h4
      have LX : Hid ((b8 (sw a)).length = 4) := by rw [b8_len]; exact ml_len _ _
      go_wp2_with (first | refine load_blk hr.out.1 Tryd.underlying50 rfl word_size LX.out rfl rfl rfl ?_ | refine store_blk hr.out.2.1 word_size LX.out rfl (b8_one _) rfl rfl rfl rfl ?_)
      exact ret_blk rfl (Blk.setRow hr.out.2.1 _) Tryd.underlying50 rfl word_size LX.out rfl rfl ⟨rfl, below_row hr.out.2.2 _ _ (by omega)⟩
set_option maxHeartbeats 4000000 in
theorem read_ok (a : List Nat) (la : a.length = 16) (ha : By a) (w : World) :
    Calls Tryd.prog 23 #[.agg (b8 a).toArray] w fun e w' => e = .returned (.agg (b8 a).toArray) ∧ Below w.heap.size w w' := by
  have HA := Lib.hid (And.intro ha la)
  clear ha la
  go_enter Tryd.func23, Tryd.ntmps23
  go_upto_region 2 with fail
  refine wp_gen (fun wx => Blk wx w.heap.size 25 (b8 a) ∧ Blk wx (w.heap.size + 1) 54 (b8 z16) ∧ Blk wx (w.heap.size + 2) 54 (b8 z16) ∧ Below w.heap.size w wx) ⟨((Blk.new w _ (b8 a)).alloc _).alloc _, (Blk.new2 _ _ _ (b8 z16)).alloc _, Blk.new3 _ _ _ _ (b8 z16), below3 _ _ _ _⟩ ?_
  intro w1 H1
  have H2 := Lib.hid H1
  clear H1
  rw [show w.heap.size + 1 + 1 = w.heap.size + 2 from rfl]
  go_wp2_with fail
  go_loopw [5] (fun v wr => ∃ i : Nat, v = .int .i64 i ∧ i ≤ 16 ∧ Hid (Blk wr w.heap.size 25 (b8 a) ∧ Blk wr (w.heap.size + 1) 54 (b8 z16) ∧ Blk wr (w.heap.size + 2) 54 (b8 (bl (fun i => a.getD i 0) (fun i => z16.getD i 0) i 16)) ∧ Below w.heap.size w wr)) (fun v _ => 16 - (intOf v).toNat)
  case atStart => exact ⟨0, rfl, by omega, by rw [bl_zero, ml_eta (by rfl)]; exact H2.out⟩
  case round =>
    obtain ⟨i, rfl, hi, hr⟩ := hrel
    clear H2
    rcases Nat.lt_or_ge i 16 with h | h
    · obtain ⟨O1, O2, O3, BW⟩ := hr.out
      have c1 := O1.b8cell i (by rw [HA.out.2]; exact h)
      have c3 := O3.b8cell i (by rw [bl_len]; exact h)
      have f3 := O3.free i
      have hx := HA.out.1.get i
      have S1 := Blk.b8set (w := wr.drew) O3 i (a.getD i 0)
      rw [show (bl (fun i => a.getD i 0) (fun i => z16.getD i 0) i 16).set i (a.getD i 0) = bl (fun i => a.getD i 0) (fun i => z16.getD i 0) (i + 1) 16 from bl_set _ _] at S1
      generalize a.getD i 0 = x at *
      generalize (bl (fun i => a.getD i 0) (fun i => z16.getD i 0) i 16).getD i 0 = y at *
      have HS := Lib.hid (And.intro (Blk.far (w := wr.drew) O1 (show w.heap.size ≠ w.heap.size + 2 by omega) i (.int .u8 (x : Nat))) (And.intro (Blk.far (w := wr.drew) O2 (show w.heap.size + 1 ≠ w.heap.size + 2 by omega) i (.int .u8 (x : Nat))) (And.intro S1 (below_set' (below_drewN BW 1) (w.heap.size + 2) i (.int .u8 (x : Nat)) (by omega)))))
      clear O1 O2 O3 BW S1
      have hoff : i / 4 * 4 + i % 4 = i := by omega
      go_upto_region 5 with fail
      (refine still_tail 9 (by kernel_rfl) (by kernel_rfl) ?_; simp only [List.take_succ_cons, List.take_zero, List.drop_succ_cons, List.drop_zero]; repeat (refine wpStill_step (fun K hK => ?_); go_simp; (try go_ints); (try simp only [↓IntWalk.iteOmega, true_and]); (with_reducible apply hK); clear hK K)); refine wpStill_nil ?_
      go_wp2_with fail
      go_roundw
      case rel => exact ⟨i + 1, by go_num, by omega, HS.out⟩
      case measure => simp [intOf]; omega
    · have h4 : i = 16 := by omega
      rw [h4, bl_full, ml_eta HA.out.2] at hr
      clear h4
      have LX : Hid ((b8 a).length = 16) := by rw [b8_len]; exact HA.out.2
      go_wp2_with (first | refine load_blk hr.out.2.2.1 Tryd.underlying54 rfl state_size LX.out rfl rfl rfl ?_ | refine store_blk hr.out.2.1 state_size LX.out rfl (b8_one _) rfl rfl rfl rfl ?_)
      exact ret_blk rfl (Blk.setRow hr.out.2.1 _) Tryd.underlying54 rfl state_size LX.out rfl rfl ⟨rfl, below_row hr.out.2.2.2 _ _ (by omega)⟩
set_option maxHeartbeats 4000000 in
theorem bytes_ok (a : List Nat) (la : a.length = 16) (ha : By a) (w : World) :
    Calls Tryd.prog 26 #[.agg (b8 a).toArray] w fun e w' => e = .returned (.agg (b8 a).toArray) ∧ Below w.heap.size w w' := by
  have HA := Lib.hid (And.intro ha la)
  clear ha la
  go_enter Tryd.func26, Tryd.ntmps26
  go_upto_region 2 with fail
  refine wp_gen (fun wx => Blk wx w.heap.size 54 (b8 a) ∧ Blk wx (w.heap.size + 1) 25 (b8 z16) ∧ Blk wx (w.heap.size + 2) 25 (b8 z16) ∧ Below w.heap.size w wx) ⟨((Blk.new w _ (b8 a)).alloc _).alloc _, (Blk.new2 _ _ _ (b8 z16)).alloc _, Blk.new3 _ _ _ _ (b8 z16), below3 _ _ _ _⟩ ?_
  intro w1 H1
  have H2 := Lib.hid H1
  clear H1
  rw [show w.heap.size + 1 + 1 = w.heap.size + 2 from rfl]
  go_wp2_with fail
  go_loopw [5] (fun v wr => ∃ i : Nat, v = .int .i64 i ∧ i ≤ 16 ∧ Hid (Blk wr w.heap.size 54 (b8 a) ∧ Blk wr (w.heap.size + 1) 25 (b8 z16) ∧ Blk wr (w.heap.size + 2) 25 (b8 (bl (fun i => a.getD i 0) (fun i => z16.getD i 0) i 16)) ∧ Below w.heap.size w wr)) (fun v _ => 16 - (intOf v).toNat)
  case atStart => exact ⟨0, rfl, by omega, by rw [bl_zero, ml_eta (by rfl)]; exact H2.out⟩
  case round =>
    obtain ⟨i, rfl, hi, hr⟩ := hrel
    clear H2
    rcases Nat.lt_or_ge i 16 with h | h
    · obtain ⟨O1, O2, O3, BW⟩ := hr.out
      have c1 := O1.b8cell i (by rw [HA.out.2]; exact h)
      have c3 := O3.b8cell i (by rw [bl_len]; exact h)
      have f3 := O3.free i
      have hx := HA.out.1.get i
      have S1 := Blk.b8set O3 i (a.getD i 0)
      rw [show (bl (fun i => a.getD i 0) (fun i => z16.getD i 0) i 16).set i (a.getD i 0) = bl (fun i => a.getD i 0) (fun i => z16.getD i 0) (i + 1) 16 from bl_set _ _] at S1
      generalize a.getD i 0 = x at *
      generalize (bl (fun i => a.getD i 0) (fun i => z16.getD i 0) i 16).getD i 0 = y at *
      have HS := Lib.hid (And.intro (Blk.far O1 (show w.heap.size ≠ w.heap.size + 2 by omega) i (.int .u8 (x : Nat))) (And.intro (Blk.far O2 (show w.heap.size + 1 ≠ w.heap.size + 2 by omega) i (.int .u8 (x : Nat))) (And.intro S1 (below_set' BW (w.heap.size + 2) i (.int .u8 (x : Nat)) (by omega)))))
      clear O1 O2 O3 BW S1
      have hoff : i / 4 * 4 + i % 4 = i := by omega
      go_wp2_with fail
      go_roundw
      case rel => exact ⟨i + 1, by go_num, by omega, HS.out⟩
      case measure => simp [intOf]; omega
    · have h4 : i = 16 := by omega
      rw [h4, bl_full, ml_eta HA.out.2] at hr
      clear h4
      have LX : Hid ((b8 a).length = 16) := by rw [b8_len]; exact HA.out.2
      go_wp2_with (first | refine load_blk hr.out.2.2.1 Tryd.underlying25 rfl blk_size LX.out rfl rfl rfl ?_ | refine store_blk hr.out.2.1 blk_size LX.out rfl (b8_one _) rfl rfl rfl rfl ?_)
      exact ret_blk rfl (Blk.setRow hr.out.2.1 _) Tryd.underlying25 rfl blk_size LX.out rfl rfl ⟨rfl, below_row hr.out.2.2.2 _ _ (by omega)⟩
end Go.Proofs.YteleedcpepifjaaDoor
