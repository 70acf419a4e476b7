/-
poly: filled, count, mark, Seal.
-/
import Derived.Test.YtcbkbjpdfanjpaaGreatDoorPk14
import Derived.Test.YtcbkbjpdfanjpaaGreatDoorPk08
namespace Go.Proofs.YtcbkbjpdfanjpaaGreatDoor
open Go.RowKit Pol Cha
set_option maxRecDepth 100000
theorem rep0 (c : Nat) : (⟨(Lib.repeatL (ByteArray.data ⟨#[0]⟩).toList c).toArray⟩ : ByteArray) = by8 (List.replicate c 0) := by
  show (⟨(Lib.repeatL [0] c).toArray⟩ : ByteArray) = _
  have := Lib.repeatL_replicate 0 1 c
  rw [Nat.mul_one] at this
  rw [show ([0] : List UInt8) = List.replicate 1 0 from rfl, this]
  rfl
namespace Pol
def padL (l : List UInt8) : List UInt8 := l ++ List.replicate ((16 - l.length % 16) % 16) 0
theorem padL_len (l : List UInt8) : (padL l).length ≤ l.length + 15 := by
  unfold padL
  have : (16 - l.length % 16) % 16 < 16 := Nat.mod_lt _ (by decide)
  rw [List.length_append, List.length_replicate]; omega
def cntF (n j : Nat) : UInt8 := lo8 ((n : Int) / 2 ^ (8 * j))
def cntL (n : Nat) : List UInt8 := upto8 (cntF n) (fun _ => 0) 8 8
theorem cntL_len (n : Nat) : (cntL n).length = 8 := upto8_len _ _ _ _
end Pol
theorem filled_ok (l : List UInt8) (hl : l.length ≤ 100000) (w : World) : Calls Tryz.prog 92 #[.string (by8 l)] w fun e w' => e = .returned (.string (by8 (padL l))) ∧ Rw w w' := by
  obtain ⟨n, hn⟩ : ∃ n, n = l.length := ⟨_, rfl⟩
  have hS : (by8 l).size = n := by rw [by8_size, hn]
  obtain ⟨r, hr⟩ : ∃ r, r = n % 16 := ⟨_, rfl⟩
  have e1 : (n : Int).tmod 16 = (r : Nat) := by rw [Int.tmod_eq_emod_of_nonneg (Int.natCast_nonneg _)]; omega
  have e1' : (n : Int) % 16 = (r : Nat) := by omega
  obtain ⟨c, hc⟩ : ∃ c, c = (16 - r) % 16 := ⟨_, rfl⟩
  have e2 : ((16 : Int) - r).tmod 16 = (c : Nat) := by rw [Int.tmod_eq_emod_of_nonneg (by omega)]; omega
  have e2' : ((16 : Int) - r) % 16 = (c : Nat) := by omega
  have hc16 : c < 16 := by omega
  have hn1 : n ≤ 100000 := by omega
  have hr16 : r < 16 := by omega
  have HA : Hid (by8 l ++ by8 (List.replicate c 0) = by8 (padL l)) := Lib.hid (by rw [by8_app, hc, hr, hn]; rfl)
  have HREP := Lib.hid (fun w => sh_repeat ⟨#[0]⟩ c w (by omega) (by show 1 * c ≤ _; omega))
  have hsz2 := by8_size (List.replicate c (0 : UInt8))
  rw [List.length_replicate] at hsz2
  clear hn hr hc hl
  go_enter Tryz.func92, Tryz.ntmps92
  go_wp2_with (go_at_call 29; refine (HREP.out _).mono ?_; rw [rep0]; rintro e w4 ⟨rfl, hb4⟩)
  go_ret
  exact ⟨by rw [HA.out]; rfl, hb4⟩
theorem count_ok (n : Nat) (hn : n ≤ 100000) (w : World) : Calls Tryz.prog 93 #[.int .i64 n] w fun e w' => e = .returned (.string (by8 (cntL n))) ∧ Rw w w' := by
  obtain ⟨F, hF⟩ : ∃ F : Nat → UInt8, F = cntF n := ⟨_, rfl⟩
  have HF := Lib.hid hF
  clear hF
  go_enter Tryz.func93, Tryz.ntmps93
  go_upto_region 2 with fail
  have H1 : Hid (Blk (w.alloc (.cells (byv (upto8 F (fun _ => 0) 8 0)).toArray 163)) w.heap.size 163 (byv (upto8 F (fun _ => 0) 8 0)) ∧ Below w.heap.size w (w.alloc (.cells (byv (upto8 F (fun _ => 0) 8 0)).toArray 163))) := Lib.hid ⟨Blk.new _ _ _, below1 _ _⟩
  change Code.wp _ _ _ _ (w.alloc (.cells (byv (upto8 F (fun _ => 0) 8 0)).toArray 163))
  generalize w.alloc (.cells (byv (upto8 F (fun _ => 0) 8 0)).toArray 163) = w1 at *
  go_wp2_with fail
  go_loopw [5] (fun v5 wx => ∃ j : Nat, v5 = .int .i64 j ∧ j ≤ 8 ∧ Hid (Blk wx w.heap.size 163 (byv (upto8 F (fun _ => 0) 8 j)) ∧ Below w.heap.size w wx)) (fun v _ => 8 - (intOf v).toNat)
  case atStart => exact ⟨0, rfl, by omega, H1⟩
  case round =>
    obtain ⟨j, rfl, hj, hs⟩ := hrel
    clear H1
    rcases Nat.lt_or_ge j 8 with h16 | h16
    · have c0 := hs.out.1.cell j _ (byv_get _ j (by rw [upto8_len]; exact h16))
      have f0 := hs.out.1.free j
      have hv : (n : Int) / 2 ^ (8 * j) % 256 = ((F j).toNat : Nat) := by rw [HF.out]; exact lo8_val' _
      go_upto_region 6 with fail
      rw [hv]
      have HN2 : Hid (Blk (wr.setCell ⟨w.heap.size, j, none⟩ (.int .u8 ((F j).toNat : Nat))) w.heap.size 163 (byv (upto8 F (fun _ => 0) 8 (j + 1))) ∧ Below w.heap.size w (wr.setCell ⟨w.heap.size, j, none⟩ (.int .u8 ((F j).toNat : Nat)))) := Lib.hid (by
        obtain ⟨h2, h1⟩ := hs.out
        refine ⟨?_, below_set' h1 _ _ _ (Nat.le_refl _)⟩
        have := h2.set j (.int .u8 ((F j).toNat : Nat))
        rw [byv_set, upto8_set] at this
        exact this)
      clear hv c0 f0 hs
      go_wp2_with fail
      go_roundw
      case rel => exact ⟨j + 1, val_int (by omega), by omega, HN2⟩
      case measure => simp [intOf]; omega
    · obtain rfl : j = 8 := by omega
      have hcv := hs.out.1.str8 8 (by rw [upto8_len])
      go_wp2_with fail
      go_ret
      exact ⟨by rw [HF.out]; rfl, hs.out.2⟩
namespace Pol
def allL (x extra : List UInt8) : List UInt8 := padL extra ++ padL x ++ cntL extra.length ++ cntL x.length
def mrkL (Bg : List Int) (Or : List Nat) (key nonce x extra : List UInt8) : List UInt8 := sumP ((blockF Bg Or key 0 nonce).take 32) (allL x extra)
theorem mrkL_len (Bg : List Int) (Or : List Nat) (key nonce x extra : List UInt8) : (mrkL Bg Or key nonce x extra).length = 16 := sumP_len _ _
def sealL (Bg : List Int) (Or : List Nat) (key nonce text extra : List UInt8) : List UInt8 :=
  xorF Bg Or key 1 nonce text ++ mrkL Bg Or key nonce (xorF Bg Or key 1 nonce text) extra
end Pol
theorem run_alloc16 (w : World) : (Instr.alloc 136 true (.tuple #[])).run Tryz.prog w = .ok (.pointer (some ⟨w.heap.size, 0, none⟩)) (w.alloc (.cells (byv (List.replicate 16 0)).toArray 136)) := by kernel_rfl
set_option maxHeartbeats 4000000 in
theorem mark_ok (Bg : List Int) (Or : List Nat) (key nonce x extra : List UInt8) (hx : x.length ≤ 90000) (he : extra.length ≤ 90000) (w : World) (hT : ChaT w Bg Or) (hk : key.length = 32) (hn : nonce.length = 12) (hg : 8 < w.heap.size ∧ 9 < w.heap.size) :
    Calls Tryz.prog 68 #[.agg (byv key).toArray, .agg (byv nonce).toArray, .string (by8 x), .string (by8 extra)] w fun e w' => e = .returned (.string (by8 (mrkL Bg Or key nonce x extra))) ∧ Below w.heap.size w w' := by
  have hbk : Hid (∀ w', Below w.heap.size w w' → Calls Tryz.prog 90 #[.agg (byv key).toArray, .int .u32 0, .agg (byv nonce).toArray] w' fun e w'' => e = .returned (.agg (byv (blockF Bg Or key 0 nonce)).toArray) ∧ Below w'.heap.size w' w'') := Lib.hid fun w' hb => by
    have := hb.size
    exact block_ok Bg Or key nonce 0 w' (hT.below hb) hk hn ⟨by omega, by omega⟩
  obtain ⟨B, hB⟩ : ∃ B, B = blockF Bg Or key 0 nonce := ⟨_, rfl⟩
  have hB64 : B.length = 64 := by rw [hB]; exact block_len _ _ _ _ _
  rw [← hB] at hbk
  obtain ⟨R, hR⟩ : ∃ R, R = sumP (B.take 32) (allL x extra) := ⟨_, rfl⟩
  have hgoal : mrkL Bg Or key nonce x extra = R := by rw [hR, hB]; rfl
  rw [hgoal]
  have h16 : R.length = 16 := by rw [hR]; exact sumP_len _ _
  have S1 : ∀ w, Calls Tryz.prog 91 #[.agg (byv (B.take 32)).toArray, .string (by8 (padL extra) ++ by8 (padL x) ++ by8 (cntL extra.length) ++ by8 (cntL x.length))] w fun e w' => e = .returned (.agg (byv R).toArray) ∧ Rw w w' := fun w => by
    have := psum_ok (B.take 32) (allL x extra) (by rw [List.length_take]; omega) (by
      have h1 := padL_len extra; have h2 := padL_len x
      unfold allL
      simp only [List.length_append, cntL_len]; omega) w
    rw [← hR] at this
    rw [by8_app, by8_app, by8_app]
    exact this
  have f1 := filled_ok extra (by omega)
  have f2 := filled_ok x (by omega)
  have c1 := count_ok extra.length (by omega)
  have c2 := count_ok x.length (by omega)
  have z1 : (by8 (padL extra)).size ≤ 90015 := by rw [by8_size]; have := padL_len extra; omega
  have z2 : (by8 (padL x)).size ≤ 90015 := by rw [by8_size]; have := padL_len x; omega
  have z3 : (by8 (cntL extra.length)).size = 8 := by rw [by8_size, cntL_len]
  have z4 : (by8 (cntL x.length)).size = 8 := by rw [by8_size, cntL_len]
  have s1 : (by8 extra).size = extra.length := by8_size _
  have s2 : (by8 x).size = x.length := by8_size _
  generalize padL extra = p1 at *
  generalize padL x = p2 at *
  generalize cntL extra.length = q1 at *
  generalize cntL x.length = q2 at *
  generalize extra.length = n1 at *
  generalize x.length = n2 at *
  have LK : Hid ((byv key).length = 32) := Lib.hid (by rw [byv_len]; exact hk)
  have LN : Hid ((byv nonce).length = 12) := Lib.hid (by rw [byv_len]; exact hn)
  have LB : Hid ((byv B).length = 64) := Lib.hid (by rw [byv_len]; exact hB64)
  have LR : Hid ((byv R).length = 16) := Lib.hid (by rw [byv_len]; exact h16)
  have LT : Hid ((byv (B.take 32)).length = 32) := Lib.hid (by rw [byv_len, List.length_take]; omega)
  have HC := Lib.hid (And.intro S1 (And.intro f1 (And.intro f2 (And.intro c1 (And.intro c2 h16)))))
  clear hB hB64 hR hgoal S1 f1 f2 c1 c2 hx he hT hk hn hg h16
  go_enter Tryz.func68, Tryz.ntmps68
  go_upto_region 1 with fail
  refine wp_gen (fun wx => Blk wx w.heap.size 23 (byv key) ∧ Blk wx (w.heap.size + 1) 79 (byv nonce) ∧ Below w.heap.size w wx) ⟨(Blk.new w _ (byv key)).alloc _, Blk.new2 _ _ _ (byv nonce), below2 _ _ _⟩ ?_
  rintro w1 ⟨B1, B2, BW⟩
  have H1 := Lib.hid (And.intro B1 (And.intro B2 BW))
  clear B1 B2 BW
  have hZ64 : Hid ((byv (List.replicate 64 (0 : UInt8))).length = 64) := Lib.hid rfl
  go_upto_region 2 with (first
    | refine wpList_load_mid rfl 23 _ rfl w.heap.size 0 rfl (byv key) _ (blk_range H1.out.1) Tryz.underlying23 rfl (by rw [LK.out]; exact arr32_size') ?_
    | refine wpList_load_mid rfl 79 _ rfl (w.heap.size + 1) 0 rfl (byv nonce) _ (blk_range H1.out.2.1) Tryz.underlying79 rfl (by rw [LN.out]; exact arr12_size) ?_
    | (go_at_call 90; refine (hbk.out _ H1.out.2.2).mono ?_; rintro e w2 ⟨rfl, hb2⟩; have H2 := Lib.hid (Rw.out H1.out.2.2 hb2); clear hb2)
    | refine store_blk (Blk.new w2 134 (byv (List.replicate 64 0))) arr64_size LB.out hZ64.out (byv_one _) rfl rfl rfl rfl ?_)
  refine wp_gen (fun wx => Blk wx w2.heap.size 134 (byv B) ∧ Below w.heap.size w wx) ⟨(Blk.new w2 134 (byv (List.replicate 64 0))).setRow (byv B), below_row (Rw.out H2.out (below1 _ _)) _ _ H2.out.size⟩ ?_
  rintro w3 ⟨B3, BW3⟩
  have H3 := Lib.hid (And.intro B3 BW3)
  clear B3 BW3 H1 H2 hbk hZ64
  generalize w2.heap.size = bb at *
  have hat := fun w' => run_arrayAt (P := Tryz.prog) Tryz.underlying23 ⟨bb, 0, none⟩ 32 64 (Nat.le_refl _) w'
  have D : Hid (∀ w', Rw w3.drew w' → w'.rangeAt bb 0 (byv (B.take 32))) := Lib.hid fun w' h => ((H3.out.1.drew 1).rw h).range 0 _ (fun j v hj => by
    rw [Nat.zero_add]
    rw [show byv (B.take 32) = (byv B).take 32 by simp [byv, List.map_take]] at hj
    rw [List.getElem?_take] at hj
    split at hj
    · exact hj
    · cases hj)
  (refine wp_region_drift 17 (by kernel_rfl) (by kernel_rfl) ?_; simp only [List.take_succ_cons, List.take_zero, List.drop_succ_cons, List.drop_zero])
  (iterate 2 (refine drift_step (fun K hK => ?_); refine drift_autoE (by first | rfl | simp [Region.wanted, yielded]) ?_; apply Exists.intro; refine ⟨fun w' hw' => ?_, ?_⟩; (focus (go_simp; (first | done | rfl | ((try go_ints); (try simp only [↓IntWalk.iteOmega, true_and]); (try go_simp); (first | done | rfl))))); go_simp; (with_reducible apply hK); clear hK K))
  (refine drift_step (fun K hK => ?_); refine drift_loadN (fun w' hw' => D.out w' hw') Tryz.underlying23 rfl (by rw [LT.out]; exact arr32_size') (by first | rfl | simp [Region.wanted, yielded]) rfl (by go_simp) ?_; go_simp; (with_reducible apply hK); clear hK K)
  (iterate 1 (refine drift_step (fun K hK => ?_); refine drift_autoE (by first | rfl | simp [Region.wanted, yielded]) ?_; apply Exists.intro; refine ⟨fun w' hw' => ?_, ?_⟩; (focus (go_simp; (first | done | rfl | ((try go_ints); (try simp only [↓IntWalk.iteOmega, true_and]); (try go_simp); (first | done | rfl))))); go_simp; (with_reducible apply hK); clear hK K))
  (refine drift_step (fun K hK => ?_); refine drift_callE (by first | rfl | simp [Region.wanted, yielded]) ?_; apply Exists.intro; apply Exists.intro; refine ⟨fun w' => ?_, ?_⟩; (focus (go_simp; try (first | exact ⟨rfl, rfl⟩ | rfl))); apply Exists.intro; refine ⟨fun w' hw' => HC.out.2.1 w', ?_⟩; go_simp; (with_reducible apply hK); clear hK K)
  (iterate 1 (refine drift_step (fun K hK => ?_); refine drift_autoE (by first | rfl | simp [Region.wanted, yielded]) ?_; apply Exists.intro; refine ⟨fun w' hw' => ?_, ?_⟩; (focus (go_simp; (first | done | rfl | ((try go_ints); (try simp only [↓IntWalk.iteOmega, true_and]); (try go_simp); (first | done | rfl))))); go_simp; (with_reducible apply hK); clear hK K))
  (refine drift_step (fun K hK => ?_); refine drift_callE (by first | rfl | simp [Region.wanted, yielded]) ?_; apply Exists.intro; apply Exists.intro; refine ⟨fun w' => ?_, ?_⟩; (focus (go_simp; try (first | exact ⟨rfl, rfl⟩ | rfl))); apply Exists.intro; refine ⟨fun w' hw' => HC.out.2.2.1 w', ?_⟩; go_simp; (with_reducible apply hK); clear hK K)
  (iterate 3 (refine drift_step (fun K hK => ?_); refine drift_autoE (by first | rfl | simp [Region.wanted, yielded]) ?_; apply Exists.intro; refine ⟨fun w' hw' => ?_, ?_⟩; (focus (go_simp; (first | done | rfl | ((try go_ints); (try simp only [↓IntWalk.iteOmega]); (try go_simp); (first | done | rfl))))); go_simp; (with_reducible apply hK); clear hK K))
  (refine drift_step (fun K hK => ?_); refine drift_callE (by first | rfl | simp [Region.wanted, yielded]) ?_; apply Exists.intro; apply Exists.intro; refine ⟨fun w' => ?_, ?_⟩; (focus (go_simp; try (first | exact ⟨rfl, rfl⟩ | rfl))); apply Exists.intro; refine ⟨fun w' hw' => HC.out.2.2.2.1 w', ?_⟩; go_simp; (with_reducible apply hK); clear hK K)
  (iterate 3 (refine drift_step (fun K hK => ?_); refine drift_autoE (by first | rfl | simp [Region.wanted, yielded]) ?_; apply Exists.intro; refine ⟨fun w' hw' => ?_, ?_⟩; (focus (go_simp; (first | done | rfl | ((try go_ints); (try simp only [↓IntWalk.iteOmega]); (try go_simp); (first | done | rfl))))); go_simp; (with_reducible apply hK); clear hK K))
  (refine drift_step (fun K hK => ?_); refine drift_callE (by first | rfl | simp [Region.wanted, yielded]) ?_; apply Exists.intro; apply Exists.intro; refine ⟨fun w' => ?_, ?_⟩; (focus (go_simp; try (first | exact ⟨rfl, rfl⟩ | rfl))); apply Exists.intro; refine ⟨fun w' hw' => HC.out.2.2.2.2.1 w', ?_⟩; go_simp; (with_reducible apply hK); clear hK K)
  (iterate 1 (refine drift_step (fun K hK => ?_); refine drift_autoE (by first | rfl | simp [Region.wanted, yielded]) ?_; apply Exists.intro; refine ⟨fun w' hw' => ?_, ?_⟩; (focus (go_simp; (first | done | rfl | ((try go_ints); (try simp only [↓IntWalk.iteOmega]); (try go_simp); (first | done | rfl))))); go_simp; (with_reducible apply hK); clear hK K))
  (refine drift_step (fun K hK => ?_); refine drift_callE (by first | rfl | simp [Region.wanted, yielded]) ?_; apply Exists.intro; apply Exists.intro; refine ⟨fun w' => ?_, ?_⟩; (focus (go_simp; try (first | exact ⟨rfl, rfl⟩ | rfl))); apply Exists.intro; refine ⟨fun w' hw' => HC.out.1 w', ?_⟩; go_simp; (with_reducible apply hK); clear hK K)
  refine drift_nil ?_
  refine drift_newG run_alloc16 arr16_size rfl LR.out (byv_one _) rfl rfl rfl rfl rfl rfl (Nat.le_of_ble_eq_true rfl) (fun v => rfl) (fun b4 w4 hb4 R4 B4 => ?_)
  have H4 : Hid (Below w.heap.size w w4) := Lib.hid (Rw.out (Rw.out H3.out.2 (below_drewN (Below.refl _ _) 1)) R4)
  have hcv := B4.str8 16 HC.out.2.2.2.2.2.symm
  clear R4 hb4
  go_simp
  go_wp2_with fail
  go_ret
  exact ⟨rfl, H4.out⟩
end Go.Proofs.YtcbkbjpdfanjpaaGreatDoor
