/-
hmac.Same of equals; poly: Seal, Open.
-/
import Derived.Test.YtcbkbjpdfanjpaaGreatDoorPk15
namespace Go.Proofs.YtcbkbjpdfanjpaaGreatDoor
open Go.RowKit Pol Cha
set_option maxRecDepth 100000
theorem xor_self8 (a : UInt8) : bits .xor .u8 (a.toNat : Int) (a.toNat : Int) = 0 := by
  rw [show bits .xor .u8 (a.toNat : Int) (a.toNat : Int) = (((a ^^^ a).toNat : Nat) : Int) from xor_u8 a a, UInt8.xor_self]; rfl
theorem or_00 : bits .or .u8 0 0 = 0 := by decide
theorem same_ok (l : List UInt8) (hl : l.length ≤ 100000) (w : World) : Calls Tryz.prog 100 #[.string (by8 l), .string (by8 l)] w fun e w' => e = .returned (.bool true) ∧ Rw w w' := by
  obtain ⟨n, hn⟩ : ∃ n, n = l.length := ⟨_, rfl⟩
  have hs : (by8 l).size = n := by rw [by8_size, hn]
  have hn1 : n ≤ 100000 := by omega
  have HX : Hid (∀ j (h : j < (by8 l).size), bits .xor .u8 (((by8 l)[j]'h).toNat : Int) (((by8 l)[j]'h).toNat : Int) = 0) := Lib.hid fun j h => xor_self8 _
  clear hn hl
  have ho := or_00
  go_enter Tryz.func100, Tryz.ntmps100
  go_wp2_with fail
  go_loopw [5, 14] (fun v5 v14 wx => ∃ j : Nat, v5 = .int .u8 0 ∧ v14 = .int .i64 j ∧ j ≤ n ∧ Hid (Rw w wx)) (fun _ v _ => n - (intOf v).toNat)
  case atStart => exact ⟨0, rfl, rfl, by omega, Lib.hid (Rw.refl _)⟩
  case round =>
    obtain ⟨j, rfl, rfl, hj, hr⟩ := hrel
    rcases Nat.lt_or_ge j n with h | h
    · have hk : j < (by8 l).size := by omega
      have hx := HX.out j hk
      go_upto_region 7 with fail
      (refine region_quiet (C := fun w' => Rw (wr.drewN 1) w') (by kernel_rfl) (by kernel_rfl) (Rw.refl _) ?_)
      (repeat ((with_reducible refine wpQuiet_step (fun K hK => ?_)); refine quiet_autoE (by first | rfl | simp [Region.wanted, yielded]) ?_; apply Exists.intro; refine ⟨fun w' hw' => ?_, ?_⟩; (focus (go_simp; (first | done | rfl | ((try go_ints); (try simp only [↓IntWalk.iteOmega, true_and]); (try go_simp); (first | done | rfl))))); go_simp; (with_reducible apply hK); clear hK K))
      refine wpQuiet_nil ?_
      intro w5 h5
      have H5 : Hid (Rw w w5) := Lib.hid (Rw.trans hr.out (Rw.trans (below_drewN (Below.refl _ _) 1) h5))
      clear h5 hr
      go_wp2_with fail
      go_roundw
      case rel => exact ⟨j + 1, rfl, val_int (by omega), by omega, H5⟩
      case measure => simp [intOf]; omega
    · obtain rfl : j = n := by omega
      go_wp2_with fail
      go_ret
      exact ⟨rfl, hr.out⟩
set_option maxHeartbeats 4000000 in
theorem seal_ok (Bg : List Int) (Or : List Nat) (key nonce text extra : List UInt8) (hx : text.length ≤ 90000) (he : extra.length ≤ 90000) (w : World) (hT : ChaT w Bg Or) (hk : key.length = 32) (hn : nonce.length = 12) (hg : 8 < w.heap.size ∧ 9 < w.heap.size) :
    Calls Tryz.prog 31 #[.agg (byv key).toArray, .agg (byv nonce).toArray, .string (by8 text), .string (by8 extra)] w fun e w' => e = .returned (.string (by8 (sealL Bg Or key nonce text extra))) ∧ Below w.heap.size w w' := by
  obtain ⟨X, hX⟩ : ∃ X, X = xorF Bg Or key 1 nonce text := ⟨_, rfl⟩
  have hXl : X.length = text.length := by rw [hX]; exact xorF_len _ _ _ _ _ _
  obtain ⟨M, hM⟩ : ∃ M, M = mrkL Bg Or key nonce X extra := ⟨_, rfl⟩
  have hxo : Hid (∀ w', Below w.heap.size w w' → Calls Tryz.prog 67 #[.agg (byv key).toArray, .int .u32 1, .agg (byv nonce).toArray, .string (by8 text)] w' fun e w'' => e = .returned (.string (by8 X)) ∧ Below w'.heap.size w' w'') := Lib.hid fun w' hb => by
    have := hb.size
    rw [hX]
    exact xor_ok Bg Or key nonce 1 text (by omega) w' (hT.below hb) hk hn ⟨by omega, by omega⟩
  have hmk : Hid (∀ w', Below w.heap.size w w' → Calls Tryz.prog 68 #[.agg (byv key).toArray, .agg (byv nonce).toArray, .string (by8 X), .string (by8 extra)] w' fun e w'' => e = .returned (.string (by8 M)) ∧ Below w'.heap.size w' w'') := Lib.hid fun w' hb => by
    have := hb.size
    rw [hM]
    exact mark_ok Bg Or key nonce X extra (by omega) he w' (hT.below hb) hk hn ⟨by omega, by omega⟩
  have hgoal : sealL Bg Or key nonce text extra = X ++ M := by rw [hM, hX]; rfl
  rw [hgoal]
  have sX : (by8 X).size ≤ 90000 := by rw [by8_size]; omega
  have sM : (by8 M).size = 16 := by rw [by8_size, hM]; exact mrkL_len _ _ _ _ _ _
  have HA : Hid (by8 X ++ by8 M = by8 (X ++ M)) := Lib.hid (by8_app _ _)
  have LK : Hid ((byv key).length = 32) := Lib.hid (by rw [byv_len]; exact hk)
  have LN : Hid ((byv nonce).length = 12) := Lib.hid (by rw [byv_len]; exact hn)
  clear hX hXl hM hgoal hx he hT hk hn hg
  go_enter Tryz.func31, Tryz.ntmps31
  go_upto_region 1 with fail
  refine wp_gen (fun wx => Blk wx w.heap.size 23 (byv key) ∧ Blk wx (w.heap.size + 1) 79 (byv nonce) ∧ Below w.heap.size w wx) ⟨(Blk.new w _ (byv key)).alloc _, Blk.new2 _ _ _ (byv nonce), below2 _ _ _⟩ ?_
  rintro w1 ⟨B1, B2, BW⟩
  have H1 := Lib.hid (And.intro B1 (And.intro B2 BW))
  clear B1 B2 BW
  go_upto_region 2 with (first
    | refine wpList_load_mid rfl 23 _ rfl w.heap.size 0 rfl (byv key) _ (blk_range H1.out.1) Tryz.underlying23 rfl (by rw [LK.out]; exact arr32_size') ?_
    | refine wpList_load_mid rfl 79 _ rfl (w.heap.size + 1) 0 rfl (byv nonce) _ (blk_range H1.out.2.1) Tryz.underlying79 rfl (by rw [LN.out]; exact arr12_size) ?_
    | (go_at_call 67; refine (hxo.out _ H1.out.2.2).mono ?_; rintro e w2 ⟨rfl, hb2⟩; have H2 := Lib.hid (And.intro (H1.out.1.rw hb2) (And.intro (H1.out.2.1.rw hb2) (Rw.out H1.out.2.2 hb2))); clear hb2))
  go_wp2_with (first
    | refine wpList_load_mid rfl 23 _ rfl w.heap.size 0 rfl (byv key) _ (blk_range H2.out.1) Tryz.underlying23 rfl (by rw [LK.out]; exact arr32_size') ?_
    | refine wpList_load_mid rfl 79 _ rfl (w.heap.size + 1) 0 rfl (byv nonce) _ (blk_range H2.out.2.1) Tryz.underlying79 rfl (by rw [LN.out]; exact arr12_size) ?_
    | (go_at_call 68; refine (hmk.out _ H2.out.2.2).mono ?_; rintro e w3 ⟨rfl, hb3⟩; have H3 := Lib.hid (Rw.out H2.out.2.2 hb3); clear hb3))
  go_ret
  exact ⟨by rw [HA.out]; rfl, H3.out⟩
set_option maxHeartbeats 4000000 in
theorem popen_ok (Bg : List Int) (Or : List Nat) (key nonce X extra : List UInt8) (hx : X.length ≤ 90000) (he : extra.length ≤ 90000) (w : World) (hT : ChaT w Bg Or) (hk : key.length = 32) (hn : nonce.length = 12) (hg : 8 < w.heap.size ∧ 9 < w.heap.size) :
    Calls Tryz.prog 80 #[.agg (byv key).toArray, .agg (byv nonce).toArray, .string (by8 (X ++ mrkL Bg Or key nonce X extra)), .string (by8 extra)] w fun e w' => e = .returned (.tuple #[.string (by8 (xorF Bg Or key 1 nonce X)), .nilIface]) ∧ Below w.heap.size w w' := by
  obtain ⟨T, hT'⟩ : ∃ T, T = xorF Bg Or key 1 nonce X := ⟨_, rfl⟩
  obtain ⟨M, hM⟩ : ∃ M, M = mrkL Bg Or key nonce X extra := ⟨_, rfl⟩
  have hxo : Hid (∀ w', Below w.heap.size w w' → Calls Tryz.prog 67 #[.agg (byv key).toArray, .int .u32 1, .agg (byv nonce).toArray, .string (by8 X)] w' fun e w'' => e = .returned (.string (by8 T)) ∧ Below w'.heap.size w' w'') := Lib.hid fun w' hb => by
    have := hb.size
    rw [hT']
    exact xor_ok Bg Or key nonce 1 X (by omega) w' (hT.below hb) hk hn ⟨by omega, by omega⟩
  have hmk : Hid (∀ w', Below w.heap.size w w' → Calls Tryz.prog 68 #[.agg (byv key).toArray, .agg (byv nonce).toArray, .string (by8 X), .string (by8 extra)] w' fun e w'' => e = .returned (.string (by8 M)) ∧ Below w'.heap.size w' w'') := Lib.hid fun w' hb => by
    have := hb.size
    rw [hM]
    exact mark_ok Bg Or key nonce X extra hx he w' (hT.below hb) hk hn ⟨by omega, by omega⟩
  rw [← hT', ← hM]
  have hMl : M.length = 16 := by rw [hM]; exact mrkL_len _ _ _ _ _ _
  obtain ⟨q, hq⟩ : ∃ q, q = X.length := ⟨_, rfl⟩
  have hq1 : q ≤ 90000 := by omega
  have sS : (by8 (X ++ M)).size = q + 16 := by rw [by8_size, List.length_append]; omega
  have eq16 : ((q + 16 : Nat) : Int) - 16 = (q : Nat) := by omega
  have x0 : (by8 (X ++ M)).extract 0 q = by8 X := by rw [by8_take, hq, List.take_left']; rfl
  have x1 : (by8 (X ++ M)).extract q (q + 16) = by8 M := by rw [by8_drop _ _ _ (by rw [List.length_append]; omega), hq, List.drop_left']; rfl
  have HSM := Lib.hid (same_ok M (by omega))
  have LK : Hid ((byv key).length = 32) := Lib.hid (by rw [byv_len]; exact hk)
  have LN : Hid ((byv nonce).length = 12) := Lib.hid (by rw [byv_len]; exact hn)
  generalize by8 (X ++ M) = SS at *
  clear hM hx he hT' hT hk hn hg hMl hq
  go_enter Tryz.func80, Tryz.ntmps80
  go_upto_region 1 with fail
  refine wp_gen (fun wx => Blk wx w.heap.size 23 (byv key) ∧ Blk wx (w.heap.size + 1) 79 (byv nonce) ∧ Below w.heap.size w wx) ⟨(Blk.new w _ (byv key)).alloc _, Blk.new2 _ _ _ (byv nonce), below2 _ _ _⟩ ?_
  rintro w1 ⟨B1, B2, BW⟩
  have H1 := Lib.hid (And.intro B1 (And.intro B2 BW))
  clear B1 B2 BW
  go_upto_region 4 with fail
  have H1' := Lib.hid (And.intro (H1.out.1.drew 1) (H1.out.2.1.drew 1))
  have BW1 : Hid (Below w.heap.size w (w1.drewN 1)) := Lib.hid (Rw.out H1.out.2.2 (below_drewN (Below.refl _ _) 1))
  (refine region_quiet (C := fun w' => Rw (w1.drewN 1) w') (by kernel_rfl) (by kernel_rfl) (Rw.refl _) ?_)
  (iterate 3 ((with_reducible refine wpQuiet_step (fun K hK => ?_)); refine quiet_autoE (by first | rfl | simp [Region.wanted, yielded]) ?_; apply Exists.intro; refine ⟨fun w' hw' => ?_, ?_⟩; (focus (go_simp; (first | done | rfl | ((try go_ints); (try simp only [↓IntWalk.iteOmega]); (try go_simp); (first | done | rfl))))); go_simp; (with_reducible apply hK); clear hK K))
  (with_reducible refine wpQuiet_step (fun K hK => ?_)); refine quiet_loadB (n := 32) (fun w' hw' => H1'.out.1.rw hw') Tryz.underlying23 rfl arr32_size' LK.out (by first | rfl | simp [Region.wanted, yielded]) rfl (by go_simp) ?_; go_simp; (with_reducible apply hK); clear hK K
  (with_reducible refine wpQuiet_step (fun K hK => ?_)); refine quiet_loadB (n := 12) (fun w' hw' => H1'.out.2.rw hw') Tryz.underlying79 rfl arr12_size LN.out (by first | rfl | simp [Region.wanted, yielded]) rfl (by go_simp) ?_; go_simp; (with_reducible apply hK); clear hK K
  (iterate 4 ((with_reducible refine wpQuiet_step (fun K hK => ?_)); refine quiet_autoE (by first | rfl | simp [Region.wanted, yielded]) ?_; apply Exists.intro; refine ⟨fun w' hw' => ?_, ?_⟩; (focus (go_simp; (first | done | rfl | ((try go_ints); (try simp only [↓IntWalk.iteOmega]); (try go_simp); (first | done | rfl))))); go_simp; (with_reducible apply hK); clear hK K))
  ((with_reducible refine wpQuiet_step (fun K hK => ?_)); refine quiet_callE (by first | rfl | simp [Region.wanted, yielded]) ?_; apply Exists.intro; apply Exists.intro; refine ⟨fun w' => ?_, ?_⟩; (focus (go_simp; try (first | exact ⟨rfl, rfl⟩ | rfl))); apply Exists.intro; refine ⟨fun w' hw' => quiet_below hw' (hmk.out w' (Rw.out BW1.out hw')), ?_⟩; go_simp; (with_reducible apply hK); clear hK K)
  ((with_reducible refine wpQuiet_step (fun K hK => ?_)); refine quiet_callE (by first | rfl | simp [Region.wanted, yielded]) ?_; apply Exists.intro; apply Exists.intro; refine ⟨fun w' => ?_, ?_⟩; (focus (go_simp; try (first | exact ⟨rfl, rfl⟩ | rfl))); apply Exists.intro; refine ⟨fun w' hw' => quiet_below hw' (HSM.out w'), ?_⟩; go_simp; (with_reducible apply hK); clear hK K)
  (repeat ((with_reducible refine wpQuiet_step (fun K hK => ?_)); refine quiet_autoE (by first | rfl | simp [Region.wanted, yielded]) ?_; apply Exists.intro; refine ⟨fun w' hw' => ?_, ?_⟩; (focus (go_simp; (first | done | rfl | ((try go_ints); (try simp only [↓IntWalk.iteOmega, true_and]); (try go_simp); (first | done | rfl))))); go_simp; (with_reducible apply hK); clear hK K))
  refine wpQuiet_nil ?_
  intro w2 h2
  have H2 := Lib.hid (And.intro (H1'.out.1.rw h2) (And.intro (H1'.out.2.rw h2) (Rw.out BW1.out h2)))
  clear h2 H1' BW1 H1
  go_upto_region 6 with fail
  have H2' := Lib.hid (And.intro (H2.out.1.drew 1) (H2.out.2.1.drew 1))
  have BW2 : Hid (Below w.heap.size w (w2.drewN 1)) := Lib.hid (Rw.out H2.out.2.2 (below_drewN (Below.refl _ _) 1))
  (refine region_quiet (C := fun w' => Rw (w2.drewN 1) w') (by kernel_rfl) (by kernel_rfl) (Rw.refl _) ?_)
  (with_reducible refine wpQuiet_step (fun K hK => ?_)); refine quiet_loadB (n := 32) (fun w' hw' => H2'.out.1.rw hw') Tryz.underlying23 rfl arr32_size' LK.out (by first | rfl | simp [Region.wanted, yielded]) rfl (by go_simp) ?_; go_simp; (with_reducible apply hK); clear hK K
  (with_reducible refine wpQuiet_step (fun K hK => ?_)); refine quiet_loadB (n := 12) (fun w' hw' => H2'.out.2.rw hw') Tryz.underlying79 rfl arr12_size LN.out (by first | rfl | simp [Region.wanted, yielded]) rfl (by go_simp) ?_; go_simp; (with_reducible apply hK); clear hK K
  (iterate 3 ((with_reducible refine wpQuiet_step (fun K hK => ?_)); refine quiet_autoE (by first | rfl | simp [Region.wanted, yielded]) ?_; apply Exists.intro; refine ⟨fun w' hw' => ?_, ?_⟩; (focus (go_simp; (first | done | rfl | ((try go_ints); (try simp only [↓IntWalk.iteOmega]); (try go_simp); (first | done | rfl))))); go_simp; (with_reducible apply hK); clear hK K))
  ((with_reducible refine wpQuiet_step (fun K hK => ?_)); refine quiet_callE (by first | rfl | simp [Region.wanted, yielded]) ?_; apply Exists.intro; apply Exists.intro; refine ⟨fun w' => ?_, ?_⟩; (focus (go_simp; try (first | exact ⟨rfl, rfl⟩ | rfl))); apply Exists.intro; refine ⟨fun w' hw' => quiet_below hw' (hxo.out w' (Rw.out BW2.out hw')), ?_⟩; go_simp; (with_reducible apply hK); clear hK K)
  (repeat ((with_reducible refine wpQuiet_step (fun K hK => ?_)); refine quiet_autoE (by first | rfl | simp [Region.wanted, yielded]) ?_; apply Exists.intro; refine ⟨fun w' hw' => ?_, ?_⟩; (focus (go_simp; (first | done | rfl | ((try go_ints); (try simp only [↓IntWalk.iteOmega, true_and]); (try go_simp); (first | done | rfl))))); go_simp; (with_reducible apply hK); clear hK K))
  refine wpQuiet_nil ?_
  intro w3 h3
  have H3 := Lib.hid (Rw.out BW2.out h3)
  clear h3
  go_wp2_with fail
  go_ret2
  exact ⟨rfl, H3.out⟩
end Go.Proofs.YtcbkbjpdfanjpaaGreatDoor
