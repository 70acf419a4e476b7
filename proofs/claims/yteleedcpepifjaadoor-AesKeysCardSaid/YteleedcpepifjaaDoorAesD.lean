/-
The walk of Back.
-/
import Derived.Test.YteleedcpepifjaaDoorAesE
namespace Go.Proofs.YteleedcpepifjaaDoor
open Go.RowKit AesP
set_option maxRecDepth 100000
theorem bkT_by : By bkT := by
  rw [← ml_eta (n := 256) (l := bkT) bkT_len]
  exact By.ml fun i hi => bk_lt hi
theorem m14_by' : By m14 := by intro x hx; simp only [m14, List.mem_cons, List.not_mem_nil, or_false] at hx; omega
theorem Ci.bk {w : World} {c t bw o n cap : Nat} {W : List Nat} (h : Ci w c t bw o n cap W) : ∀ x, x < 256 → w.cell? ⟨t, 256 + x, none⟩ = some (.int .u8 (bkT.getD x 0 : Nat)) := fun _ hx => h.2.1.bk hx
/-- words from word a on -/
theorem Ci.from {w : World} {c t bw o n cap : Nat} {W : List Nat} (h : Ci w c t bw o n cap W) {a : Nat} (ha : a ≤ n) : WAt w (.slice (some ⟨bw, o + a * 4, none⟩) (n - a) (cap - a)) (W.drop (4 * a)) := by
  have := h.at (m := a) (l := n - a) (cp := cap - a) (by have := h.2.2.1; omega) (by have := h.2.2.2.1; omega)
  rwa [Nat.mul_comm 4 a] at this ⊢
set_option maxHeartbeats 8000000 in
theorem back_ok (c t bw o n cap r : Nat) (W b : List Nat) (hr : n = 4 * (r + 1)) (hr1 : 1 ≤ r) (hsm : n ≤ 1000) (lb : b.length = 16) (hb : By b) (w : World) (hC : Ci w c t bw o n cap W) :
    Calls Tryd.prog 13 #[.pointer (some ⟨c, 0, none⟩), .agg (b8 b).toArray] w fun e w' => e = .returned (.agg (b8 (back bkT W r b)).toArray) ∧ Below w.heap.size w w' := by
  have HB := Lib.hid (And.intro hb lb)
  have HC := Lib.hid hC
  have lW : W.length = 4 * n := hC.2.2.1
  have hcap : n ≤ cap := hC.2.2.2.1
  have HW : Hid (By W) := hC.2.2.2.2.2
  have LW16 : 16 ≤ W.length := by omega
  have HR := Lib.hid hr
  have HR1 := Lib.hid hr1
  have hn4 : 8 ≤ n := by omega
  have ce := Lib.hid (hC.1.cell 1 _ rfl)
  clear hb lb hC hr hr1
  go_enter Tryd.func13, Tryd.ntmps13
  go_upto_region 1 with fail
  refine wp_gen (fun wx => Blk wx w.heap.size 25 (b8 b) ∧ Blk wx (w.heap.size + 1) 25 (b8 z16) ∧ Below w.heap.size w wx) ⟨(Blk.new w _ (b8 b)).alloc _, Blk.new2 _ _ _ (b8 z16), below2 _ _ _⟩ ?_
  rintro w1 ⟨O1, O2, BW⟩
  have C1 := (HC.out.below BW).1.cell 1 _ rfl
  go_upto_region 2 with fail
  clear C1
  have D0 : Below w1.heap.size w1 w1.drew := below_drewN (Below.refl _ _) 1
  have C1 := (HC.out.below BW).below D0
  have DO1 := O1.below D0 O1.lt
  have HC1 := Lib.hid C1
  clear C1
  obtain ⟨la, hla⟩ : ∃ la, la = n - 4 := ⟨_, rfl⟩
  have hla4 : la + 4 = n := by omega
  rw [show ((n : Int) - 4) = (la : Int) by omega]
  have HLA := Lib.hid hla
  clear hla
  have KW : ∀ w', Below w1.drew.heap.size w1.drew w' → WAt w' (.slice (some ⟨bw, o + la * 4, none⟩) (n - la) (cap - la)) (W.drop (4 * la)) := fun w' hw' => (HC1.out.below hw').from (by omega)
  have HKW := Lib.hid KW
  clear KW
  have LWD : Hid (16 ≤ (W.drop (4 * la)).length) := by rw [List.length_drop]; show 16 ≤ _; omega
  have HWD : Hid (By (W.drop (4 * la))) := HW.out.drop _
  (refine wp_region_drift 16 (by kernel_rfl) (by kernel_rfl) ?_; simp only [List.take_succ_cons, List.take_zero, List.drop_succ_cons, List.drop_zero])
  (refine drift_step (fun K hK => ?_); refine drift_load (fun w' hw' => DO1.below hw' DO1.lt) Tryd.underlying25 rfl blk_size (by rw [b8_len]; exact HB.out.2) (by first | rfl | simp [Region.wanted, yielded]) rfl (by go_simp) ?_; go_simp; (with_reducible apply hK); clear hK K)
  (refine drift_step (fun K hK => ?_); refine drift_call (.agg (b8 b).toArray) 23 #[.agg (b8 b).toArray] (by first | rfl | simp [Region.wanted, yielded]) (fun w' => by go_simp) (fun w' hw' => (read_ok b HB.out.2 HB.out.1 w').mono (by rintro e w'' ⟨rfl, hb⟩; exact ⟨rfl, hb⟩)) ?_; go_simp; (with_reducible apply hK); clear hK K)
  (refine drift_step (fun K hK => ?_); refine drift_plain (.pointer (some ⟨c, 0, none⟩)) (by first | rfl | simp [Region.wanted, yielded]) (fun w' hw' => by go_simp) ?_; go_simp; (with_reducible apply hK); clear hK K)
  (refine drift_step (fun K hK => ?_); refine drift_plain (.pointer (some ⟨c, 0, none⟩)) (by first | rfl | simp [Region.wanted, yielded]) (fun w' hw' => by go_simp) ?_; go_simp; (with_reducible apply hK); clear hK K)
  (refine drift_step (fun K hK => ?_); refine drift_plain (.pointer (some ⟨c, 1, none⟩)) (by first | rfl | simp [Region.wanted, yielded]) (fun w' hw' => by go_simp) ?_; go_simp; (with_reducible apply hK); clear hK K)
  (refine drift_step (fun K hK => ?_); refine drift_plain (.slice (some ⟨bw, o, none⟩) n cap) (by first | rfl | simp [Region.wanted, yielded]) (fun w' hw' => by have e := (HC1.out.below hw').1.cell 1 _ rfl; go_simp; try simp [e]) ?_; go_simp; (with_reducible apply hK); clear hK K)
  (refine drift_step (fun K hK => ?_); refine drift_plain (.int .i64 la) (by first | rfl | simp [Region.wanted, yielded]) (fun w' hw' => by go_simp) ?_; go_simp; (with_reducible apply hK); clear hK K)
  (refine drift_step (fun K hK => ?_); refine drift_plain (.slice (some ⟨bw, o + la * 4, none⟩) (n - la) (cap - la)) (by first | rfl | simp [Region.wanted, yielded]) (fun w' hw' => by have i1 : la ≤ n := (by omega); have i2 : (cap = la) = False := eq_false (by omega); go_simp; try simp [i1, i2]) ?_; go_simp; (with_reducible apply hK); clear hK K)
  (refine drift_step (fun K hK => ?_); refine drift_call (.agg (b8 (keyF b (W.drop (4 * la)))).toArray) 24 #[.agg (b8 b).toArray, .slice (some ⟨bw, o + la * 4, none⟩) (n - la) (cap - la)] (by first | rfl | simp [Region.wanted, yielded]) (fun w' => by go_simp) (fun w' hw' => (key_ok b (W.drop (4 * la)) _ HB.out.2 HB.out.1 LWD.out HWD.out w' (HKW.out w' hw')).mono (by rintro e w'' ⟨rfl, hb⟩; exact ⟨rfl, hb⟩)) ?_; go_simp; (with_reducible apply hK); clear hK K)
  (refine drift_step (fun K hK => ?_); refine drift_plain (.pointer (some ⟨c, 0, none⟩)) (by first | rfl | simp [Region.wanted, yielded]) (fun w' hw' => by go_simp) ?_; go_simp; (with_reducible apply hK); clear hK K)
  (refine drift_step (fun K hK => ?_); refine drift_plain (.pointer (some ⟨c, 0, none⟩)) (by first | rfl | simp [Region.wanted, yielded]) (fun w' hw' => by go_simp) ?_; go_simp; (with_reducible apply hK); clear hK K)
  (refine drift_step (fun K hK => ?_); refine drift_plain (.pointer (some ⟨c, 0, none⟩)) (by first | rfl | simp [Region.wanted, yielded]) (fun w' hw' => by go_simp) ?_; go_simp; (with_reducible apply hK); clear hK K)
  (refine drift_step (fun K hK => ?_); refine drift_plain (.pointer (some ⟨t, 0, none⟩)) (by first | rfl | simp [Region.wanted, yielded]) (fun w' hw' => by have e := (HC1.out.below hw').1.cell 0 _ rfl; go_simp; try simp [e]) ?_; go_simp; (with_reducible apply hK); clear hK K)
  (refine drift_step (fun K hK => ?_); refine drift_plain (.pointer (some ⟨t, 0, none⟩)) (by first | rfl | simp [Region.wanted, yielded]) (fun w' hw' => by go_simp) ?_; go_simp; (with_reducible apply hK); clear hK K)
  (refine drift_step (fun K hK => ?_); refine drift_plain (.pointer (some ⟨t, 256, none⟩)) (by first | rfl | simp [Region.wanted, yielded]) (fun w' hw' => by go_simp) ?_; go_simp; (with_reducible apply hK); clear hK K)
  (refine drift_step (fun K hK => ?_); refine drift_call (.agg (b8 (shF bkT 3 (keyF b (W.drop (4 * la))))).toArray) 25 #[.agg (b8 (keyF b (W.drop (4 * la)))).toArray, .pointer (some ⟨t, 256, none⟩), .int .i64 3] (by first | rfl | simp [Region.wanted, yielded]) (fun w' => by go_simp) (fun w' hw' => (shift3_ok (keyF b (W.drop (4 * la))) bkT t 256 (key_len _ _) (key_by HB.out.1 HWD.out) bkT_by w' (HC1.out.below hw').bk).mono (by rintro e w'' ⟨rfl, hb⟩; exact ⟨rfl, hb⟩)) ?_; go_simp; (with_reducible apply hK); clear hK K)
  refine drift_nil ?_
  refine driftT_alloc8 run_alloc_st (Rw.refl _) rfl rfl rfl (fun c5 v1 h1 k1 b1 => ?_)
  go_simp
  refine driftT_store8 (b := c5) (l := shF bkT 3 (keyF b (W.drop (4 * la)))) state_size h1 b1 rfl (ml_len _ _) k1 rfl rfl rfl (by go_simp) (by go_simp) (fun v2 h2 b2 => ?_)
  refine driftT_nil (fun w3 h3 => ?_)
  have B13 : Below w1.heap.size w1 w3 := D0.trans (Below.mono (Rw.trans h2 h3) D0.size)
  have BW3 := BW.trans (B13.mono BW.size)
  have O23 := O2.below B13 O2.lt
  have O53 := b2.below h3 b2.lt
  have g5 : w.heap.size + 1 < c5 := by
    have := O2.lt
    have e : w1.heap.size ≤ c5 := k1
    omega
  have H3 := Lib.hid (And.intro O53 (And.intro O23 BW3))
  clear B13 BW3 O23 O53 h1 h2 h3 b1 b2 k1 D0 DO1 HC1 O1 O2 BW HKW
  go_simp
  have HL : Hid (4 * la = 16 * r) := by show 4 * la = 16 * r; have := HR.out; omega
  have hst : dec bkT W (r - 1) (shF bkT 3 (keyF b (W.drop (4 * la)))) = back bkT W r b := by unfold back; rw [HL.out]
  have hsb : By (shF bkT 3 (keyF b (W.drop (4 * la)))) := bsh_by (key_by HB.out.1 HWD.out) 3
  have hsl : (shF bkT 3 (keyF b (W.drop (4 * la)))).length = 16 := ml_len _ _
  have HST := Lib.hid (And.intro hst (And.intro hsb hsl))
  clear hst hsb hsl
  go_wp2_with fail
  go_loopw [7] (fun v wr => ∃ (m a : Nat) (s : List Nat), v = .int .i64 a ∧ a = 4 * m ∧ m ≤ r - 1 ∧ Hid (dec bkT W m s = back bkT W r b ∧ By s ∧ s.length = 16) ∧ Hid (Blk wr c5 54 (b8 s) ∧ Blk wr (w.heap.size + 1) 25 (b8 z16) ∧ Below w.heap.size w wr)) (fun v _ => (intOf v).toNat)
  case atStart => exact ⟨r - 1, 4 * (r - 1), _, congrArg (Value.int .i64) (by have := HR.out; have := HR1.out; omega), rfl, Nat.le_refl _, HST.out, H3.out⟩
  case round =>
    obtain ⟨m, a, s, rfl, ham, hm, hs, hh⟩ := hrel
    clear H3 HST
    have HAM := Lib.hid ham
    rcases Nat.eq_zero_or_pos m with h0 | h0
    · have D1 : Below wr.heap.size wr wr.drew := below_drewN (Below.refl _ _) 1
      obtain ⟨O5, O2, BW⟩ := hh.out
      have S5 := Lib.hid (O5.below D1 O5.lt)
      have CD := Lib.hid ((HC.out.below BW).below D1)
      have LS : Hid (s.length = 16) := hs.out.2.2
      have BS : Hid (By s) := hs.out.2.1
      have HBK : Hid (keyF s W = back bkT W r b) := by have e := hs.out.1; rw [h0] at e; exact e
      have BKL : Hid ((back bkT W r b).length = 16) := dec_len _ _ _ _
      have BKB : Hid (By (back bkT W r b)) := back_by HW.out HB.out.1 r
      have LB8 : Hid ((b8 (back bkT W r b)).length = 16) := by rw [b8_len]; exact BKL.out
      have KC := fun w' (hw' : Below wr.drew.heap.size wr.drew w') => key_ok s W _ LS.out BS.out LW16 HW.out w' (CD.out.below hw').wat
      rw [HBK.out] at KC
      have HKC := Lib.hid KC
      clear O5 O2 BW KC
      go_upto_region 7 with fail
      (refine wp_region_quiet_tail (C := fun w' => Below wr.drew.heap.size wr.drew w') 7 (by kernel_rfl) (by kernel_rfl) (Below.refl _ _) ?_; simp only [List.take_succ_cons, List.take_zero, List.drop_succ_cons, List.drop_zero])
      ((with_reducible refine wpQuiet_step (fun K hK => ?_)); refine quiet_loadB (fun w' hw' => S5.out.below hw' S5.out.lt) Tryd.underlying54 rfl state_size (by rw [b8_len]; exact LS.out) (by first | rfl | simp [Region.wanted, yielded]) rfl (by go_simp) ?_; go_simp; (with_reducible apply hK); clear hK K)
      ((with_reducible refine wpQuiet_step (fun K hK => ?_)); refine quiet_plainG (.pointer (some ⟨c, 0, none⟩)) (by first | rfl | simp [Region.wanted, yielded]) (fun w' hw' => by go_simp) ?_; go_simp; (with_reducible apply hK); clear hK K)
      ((with_reducible refine wpQuiet_step (fun K hK => ?_)); refine quiet_plainG (.pointer (some ⟨c, 0, none⟩)) (by first | rfl | simp [Region.wanted, yielded]) (fun w' hw' => by go_simp) ?_; go_simp; (with_reducible apply hK); clear hK K)
      ((with_reducible refine wpQuiet_step (fun K hK => ?_)); refine quiet_plainG (.pointer (some ⟨c, 1, none⟩)) (by first | rfl | simp [Region.wanted, yielded]) (fun w' hw' => by go_simp) ?_; go_simp; (with_reducible apply hK); clear hK K)
      ((with_reducible refine wpQuiet_step (fun K hK => ?_)); refine quiet_plainG (.slice (some ⟨bw, o, none⟩) n cap) (by first | rfl | simp [Region.wanted, yielded]) (fun w' hw' => by have e := (CD.out.below hw').1.cell 1 _ rfl; go_simp; try simp [e]) ?_; go_simp; (with_reducible apply hK); clear hK K)
      ((with_reducible refine wpQuiet_step (fun K hK => ?_)); refine quiet_callG (.agg (b8 (back bkT W r b)).toArray) 24 #[.agg (b8 s).toArray, .slice (some ⟨bw, o, none⟩) n cap] (by first | rfl | simp [Region.wanted, yielded]) (fun w' => by go_simp) (fun w' hw' => (HKC.out w' hw').mono (by rintro e w'' ⟨rfl, hb⟩; exact ⟨rfl, hw'.trans (hb.mono hw'.size)⟩)) ?_; go_simp; (with_reducible apply hK); clear hK K)
      ((with_reducible refine wpQuiet_step (fun K hK => ?_)); refine quiet_callG (.agg (b8 (back bkT W r b)).toArray) 26 #[.agg (b8 (back bkT W r b)).toArray] (by first | rfl | simp [Region.wanted, yielded]) (fun w' => by go_simp) (fun w' hw' => (bytes_ok _ BKL.out BKB.out w').mono (by rintro e w'' ⟨rfl, hb⟩; exact ⟨rfl, hw'.trans (hb.mono hw'.size)⟩)) ?_; go_simp; (with_reducible apply hK); clear hK K)
      refine wpQuiet_nil ?_
      intro w5 hw5
      have B5 := D1.trans hw5
      have R5 := Lib.hid (hh.out.2.1.below B5 hh.out.2.1.lt)
      have BW5 := Lib.hid (hh.out.2.2.trans (B5.mono hh.out.2.2.size))
      clear B5 hw5 D1 S5 CD HKC hh hs
      go_wp2_with (refine store_blk R5.out blk_size LB8.out rfl (b8_one _) rfl rfl rfl rfl ?_)
      exact ret_blk rfl (Blk.setRow R5.out _) Tryd.underlying25 rfl blk_size LB8.out rfl rfl ⟨rfl, below_row BW5.out _ _ (by omega)⟩
    · obtain ⟨m, rfl⟩ : ∃ m', m = m' + 1 := ⟨m - 1, by omega⟩
      have D1 : Below wr.heap.size wr wr.drew := below_drewN (Below.refl _ _) 1
      obtain ⟨O5, O2, BW⟩ := hh.out
      have S5 := Lib.hid (O5.below D1 O5.lt)
      have CD := Lib.hid ((HC.out.below BW).below D1)
      have LS : Hid (s.length = 16) := hs.out.2.2
      have BS : Hid (By s) := hs.out.2.1
      have han : a + 4 ≤ n := by have := HR.out; have := HR1.out; omega
      have LV : Hid (16 ≤ (W.drop (4 * a)).length) := by rw [List.length_drop]; show 16 ≤ _; omega
      have BV : Hid (By (W.drop (4 * a))) := HW.out.drop _
      have BK1 : Hid (By (keyF s (W.drop (4 * a)))) := key_by BS.out BV.out
      have BM1 : Hid (By (mixF m14 (keyF s (W.drop (4 * a))))) := m14_by BK1.out
      have BS1 : Hid (By (shF bkT 3 (mixF m14 (keyF s (W.drop (4 * a)))))) := bsh_by BM1.out 3
      have HD1 : Hid (dec bkT W m (shF bkT 3 (mixF m14 (keyF s (W.drop (4 * a))))) = back bkT W r b) := by
        have e := hs.out.1
        rw [dec, show 16 * (m + 1) = 4 * a by omega] at e
        exact e
      have LS1 : Hid ((b8 (shF bkT 3 (mixF m14 (keyF s (W.drop (4 * a)))))).length = 16) := by rw [b8_len]; exact ml_len _ _
      have LS0 : Hid ((b8 s).length = 16) := by rw [b8_len]; exact LS.out
      clear O5 O2 BW ham
      have hap : 0 < a := by have := HAM.out; omega
      go_upto_region 6 with fail
      (refine wp_region_quiet_tail (C := fun w' => Below wr.drew.heap.size wr.drew w') 17 (by kernel_rfl) (by kernel_rfl) (Below.refl _ _) ?_; simp only [List.take_succ_cons, List.take_zero, List.drop_succ_cons, List.drop_zero])
      ((with_reducible refine wpQuiet_step (fun K hK => ?_)); refine quiet_loadB (fun w' hw' => S5.out.below hw' S5.out.lt) Tryd.underlying54 rfl state_size LS0.out (by first | rfl | simp [Region.wanted, yielded]) rfl (by go_simp) ?_; go_simp; (with_reducible apply hK); clear hK K)
      ((with_reducible refine wpQuiet_step (fun K hK => ?_)); refine quiet_plainG (.pointer (some ⟨c, 0, none⟩)) (by first | rfl | simp [Region.wanted, yielded]) (fun w' hw' => by go_simp) ?_; go_simp; (with_reducible apply hK); clear hK K)
      ((with_reducible refine wpQuiet_step (fun K hK => ?_)); refine quiet_plainG (.pointer (some ⟨c, 0, none⟩)) (by first | rfl | simp [Region.wanted, yielded]) (fun w' hw' => by go_simp) ?_; go_simp; (with_reducible apply hK); clear hK K)
      ((with_reducible refine wpQuiet_step (fun K hK => ?_)); refine quiet_plainG (.pointer (some ⟨c, 1, none⟩)) (by first | rfl | simp [Region.wanted, yielded]) (fun w' hw' => by go_simp) ?_; go_simp; (with_reducible apply hK); clear hK K)
      ((with_reducible refine wpQuiet_step (fun K hK => ?_)); refine quiet_plainG (.slice (some ⟨bw, o, none⟩) n cap) (by first | rfl | simp [Region.wanted, yielded]) (fun w' hw' => by have e := (CD.out.below hw').1.cell 1 _ rfl; go_simp; try simp [e]) ?_; go_simp; (with_reducible apply hK); clear hK K)
      ((with_reducible refine wpQuiet_step (fun K hK => ?_)); refine quiet_plainG (.int .i64 a) (by first | rfl | simp [Region.wanted, yielded]) (fun w' hw' => by go_simp) ?_; go_simp; (with_reducible apply hK); clear hK K)
      ((with_reducible refine wpQuiet_step (fun K hK => ?_)); refine quiet_plainG (.slice (some ⟨bw, o + a * 4, none⟩) (n - a) (cap - a)) (by first | rfl | simp [Region.wanted, yielded]) (fun w' hw' => by have i1 : a ≤ n := (by omega); have i2 : (cap = a) = False := eq_false (by omega); go_simp; try simp [i1, i2]) ?_; go_simp; (with_reducible apply hK); clear hK K)
      ((with_reducible refine wpQuiet_step (fun K hK => ?_)); refine quiet_callG (.agg (b8 (keyF s (W.drop (4 * a)))).toArray) 24 #[.agg (b8 s).toArray, .slice (some ⟨bw, o + a * 4, none⟩) (n - a) (cap - a)] (by first | rfl | simp [Region.wanted, yielded]) (fun w' => by go_simp) (fun w' hw' => (key_ok s (W.drop (4 * a)) _ LS.out BS.out LV.out BV.out w' ((CD.out.below hw').from (by omega))).mono (by rintro e w'' ⟨rfl, hb⟩; exact ⟨rfl, hw'.trans (hb.mono hw'.size)⟩)) ?_; go_simp; (with_reducible apply hK); clear hK K)
      ((with_reducible refine wpQuiet_step (fun K hK => ?_)); refine quiet_plainG (.agg (b8 m14).toArray) (by first | rfl | simp [Region.wanted, yielded]) (fun w' hw' => by go_simp; rfl) ?_; go_simp; (with_reducible apply hK); clear hK K)
      ((with_reducible refine wpQuiet_step (fun K hK => ?_)); refine quiet_callG (.agg (b8 (mixF m14 (keyF s (W.drop (4 * a))))).toArray) 27 #[.agg (b8 (keyF s (W.drop (4 * a)))).toArray, .agg (b8 m14).toArray] (by first | rfl | simp [Region.wanted, yielded]) (fun w' => by go_simp) (fun w' hw' => (mix_ok m14 (keyF s (W.drop (4 * a))) rfl m14_by' (key_len _ _) BK1.out w').mono (by rintro e w'' ⟨rfl, hb⟩; exact ⟨rfl, hw'.trans (hb.mono hw'.size)⟩)) ?_; go_simp; (with_reducible apply hK); clear hK K)
      ((with_reducible refine wpQuiet_step (fun K hK => ?_)); refine quiet_plainG (.pointer (some ⟨c, 0, none⟩)) (by first | rfl | simp [Region.wanted, yielded]) (fun w' hw' => by go_simp) ?_; go_simp; (with_reducible apply hK); clear hK K)
      ((with_reducible refine wpQuiet_step (fun K hK => ?_)); refine quiet_plainG (.pointer (some ⟨c, 0, none⟩)) (by first | rfl | simp [Region.wanted, yielded]) (fun w' hw' => by go_simp) ?_; go_simp; (with_reducible apply hK); clear hK K)
      ((with_reducible refine wpQuiet_step (fun K hK => ?_)); refine quiet_plainG (.pointer (some ⟨c, 0, none⟩)) (by first | rfl | simp [Region.wanted, yielded]) (fun w' hw' => by go_simp) ?_; go_simp; (with_reducible apply hK); clear hK K)
      ((with_reducible refine wpQuiet_step (fun K hK => ?_)); refine quiet_plainG (.pointer (some ⟨t, 0, none⟩)) (by first | rfl | simp [Region.wanted, yielded]) (fun w' hw' => by have e := (CD.out.below hw').1.cell 0 _ rfl; go_simp; try simp [e]) ?_; go_simp; (with_reducible apply hK); clear hK K)
      ((with_reducible refine wpQuiet_step (fun K hK => ?_)); refine quiet_plainG (.pointer (some ⟨t, 0, none⟩)) (by first | rfl | simp [Region.wanted, yielded]) (fun w' hw' => by go_simp) ?_; go_simp; (with_reducible apply hK); clear hK K)
      ((with_reducible refine wpQuiet_step (fun K hK => ?_)); refine quiet_plainG (.pointer (some ⟨t, 256, none⟩)) (by first | rfl | simp [Region.wanted, yielded]) (fun w' hw' => by go_simp) ?_; go_simp; (with_reducible apply hK); clear hK K)
      ((with_reducible refine wpQuiet_step (fun K hK => ?_)); refine quiet_callG (.agg (b8 (shF bkT 3 (mixF m14 (keyF s (W.drop (4 * a)))))).toArray) 25 #[.agg (b8 (mixF m14 (keyF s (W.drop (4 * a))))).toArray, .pointer (some ⟨t, 256, none⟩), .int .i64 3] (by first | rfl | simp [Region.wanted, yielded]) (fun w' => by go_simp) (fun w' hw' => (shift3_ok (mixF m14 (keyF s (W.drop (4 * a)))) bkT t 256 (ml_len _ _) BM1.out bkT_by w' (CD.out.below hw').bk).mono (by rintro e w'' ⟨rfl, hb⟩; exact ⟨rfl, hw'.trans (hb.mono hw'.size)⟩)) ?_; go_simp; (with_reducible apply hK); clear hK K)
      refine wpQuiet_nil ?_
      intro w5 hw5
      have B5 := D1.trans hw5
      have S55 := Lib.hid (S5.out.below hw5 S5.out.lt)
      have O25 := hh.out.2.1.below B5 hh.out.2.1.lt
      have BW5 := hh.out.2.2.trans (B5.mono hh.out.2.2.size)
      obtain ⟨V, hV⟩ : ∃ V, V = shF bkT 3 (mixF m14 (keyF s (W.drop (4 * a)))) := ⟨_, rfl⟩
      rw [← hV] at LS1 BS1 HD1
      rw [← hV]
      have LV16 : Hid (V.length = 16) := by rw [hV]; exact ml_len _ _
      have H5 := Lib.hid (And.intro (S55.out.setRow (b8 V)) (And.intro (O25.farRow (show w.heap.size + 1 ≠ c5 by omega) (b8 V).toArray) (below_row BW5 c5 (b8 V).toArray (by omega))))
      clear B5 O25 BW5 hw5 D1 S5 CD hh hs hV
      go_wp2_with (refine store_blk S55.out state_size LS1.out LS0.out (b8_one _) rfl rfl rfl rfl ?_)
      go_roundw
      case rel => exact ⟨m, a - 4, V, congrArg (Value.int .i64) (by have := HAM.out; omega), by have := HAM.out; omega, by omega, Lib.hid ⟨HD1.out, BS1.out, LV16.out⟩, H5.out⟩
      case measure => simp [intOf]; omega
end Go.Proofs.YteleedcpepifjaaDoor
