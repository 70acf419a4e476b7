/-
KeeperBacksOff, walked.
-/
import Derived.Test.YtaenfkekdhnakaaKBacks0
namespace Go.Proofs.Ytaenfkekdhnakaa
open Go.RowKit

set_option maxHeartbeats 4000000 in
set_option maxRecDepth 100000 in
theorem backs_ok (x y z : Int) (w : World) :
    Calls Try.prog 4 #[.int .i64 x, .int .i64 y, .int .i64 z] w fun e w' => e = .returned (.bool true) ∧ Below w.heap.size w w' := by
  obtain ⟨F, hF1, hF2, hcF⟩ : ∃ F : Nat, 1 ≤ F ∧ F ≤ 40 ∧ ((40 < x ∧ (F : Int) = 40) ∨ (x ≤ 40 ∧ 1 < x ∧ (F : Int) = x) ∨ (x ≤ 40 ∧ x ≤ 1 ∧ (F : Int) = 1)) := ⟨(max 1 (min x 40)).toNat, by omega, by omega, by omega⟩
  obtain ⟨N, hN1, hcN⟩ : ∃ N : Nat, N ≤ 9 ∧ ((9 < z ∧ (N : Int) = 9) ∨ (z ≤ 9 ∧ 0 < z ∧ (N : Int) = z) ∨ (z ≤ 9 ∧ z ≤ 0 ∧ (N : Int) = 0)) := ⟨(max 0 (min z 9)).toNat, by omega, by omega⟩
  go_enter Try.func4, Try.ntmps4
  go_wp2_with fail
  refine (awake_ok w).mono ?_
  rintro e w1 ⟨rfl, b1⟩
  go_upto_region 3 with fail
  go_cut [7] (fun v7 wx => v7 = .pointer (some ⟨w1.heap.size, 0, none⟩) ∧ Blk wx w1.heap.size 24 [.slice none 0 0, .int .i64 F, .int .i64 y, .int .i64 9] ∧ Below w.heap.size w wx)
  case first =>
    clear hcN
    rcases hcF with ⟨q1, q2⟩ | ⟨q1, q0, q2⟩ | ⟨q1, q0, q2⟩
    all_goals
      have Y := Lib.hid q2
      clear q2
      go_wp2_with fail
      go_meet
      refine ⟨rfl, ?_, b1.alloc (by have := b1.size; omega) _⟩
      rw [Y.out]
      exact Blk.new w1 _ _
  case rest =>
  obtain ⟨rfl, p7, hb2⟩ := hcut
  rename World => w2
  clear hcF
  have hs7 : w.heap.size ≤ w1.heap.size := b1.size
  clear b1
  go_upto_region 4 with fail
  obtain ⟨M, hM⟩ : ∃ M, M = (max (F : Int) (min y 1048576)).toNat := ⟨_, rfl⟩
  have hM1 : F ≤ M ∧ M ≤ 1048576 := by omega
  have hN : Hid (newS [] F y 9 = bo F M 0 0 1 0) := by rw [hM]; exact bo_new F y hF1 hF2
  clear hM
  go_cut [8, 9] (fun v8 v9 wx => ∃ b b9 an cn ai ci, v8 = .pointer (some ⟨b, 0, none⟩) ∧ v9 = .pointer (some ⟨b9, 0, none⟩) ∧ BK w wx b b9 (kcells (bo F M 0 0 1 0) (.slice an 0 cn) (.slice ai 0 ci) (.slice none 0 0)) (bo F M 0 0 1 0))
  case first =>
    have c0 := p7.cell 0 _ rfl
    have c1 := p7.cell 1 _ rfl
    have c2 := p7.cell 2 _ rfl
    have c3 := p7.cell 3 _ rfl
    have hlt : w1.heap.size < w2.heap.size := p7.lt
    have P7 : Blk w2.drew w1.heap.size 24 [.slice none 0 0, .int .i64 F, .int .i64 y, .int .i64 9] := p7.drew 1
    have HB2 : Below w.heap.size w w2.drew := below_drewN hb2 1
    have P7a : Blk (w2.alloc (.cells #[.slice none 0 0, .int .i64 0, .int .i64 0, .int .i64 0, .int .i64 0, .int .i64 0, .int .i64 0, .int .i64 0, .int .i64 0, .slice none 0 0, .slice none 0 0] 31)).drew w1.heap.size 24 [.slice none 0 0, .int .i64 F, .int .i64 y, .int .i64 9] := (p7.alloc _).drew 1
    have HB2a : Below w.heap.size w (w2.alloc (.cells #[.slice none 0 0, .int .i64 0, .int .i64 0, .int .i64 0, .int .i64 0, .int .i64 0, .int .i64 0, .int .i64 0, .int .i64 0, .slice none 0 0, .slice none 0 0] 31)).drew := below_drewN (hb2.alloc hb2.size _) 1
    have ZA : Blk (w2.alloc (.cells #[.slice none 0 0, .int .i64 0, .int .i64 0, .int .i64 0, .int .i64 0, .int .i64 0, .int .i64 0, .int .i64 0, .int .i64 0, .slice none 0 0, .slice none 0 0] 31)).drew w2.heap.size 31 kzero := (Blk.new w2 31 kzero).drew 1
    clear p7 hb2
    go_region_held3 (fun wx => wx.cell? ⟨w1.heap.size, 0, none⟩ = some (.slice none 0 0) ∧ wx.cell? ⟨w1.heap.size, 1, none⟩ = some (.int .i64 F) ∧ wx.cell? ⟨w1.heap.size, 2, none⟩ = some (.int .i64 y) ∧ wx.cell? ⟨w1.heap.size, 3, none⟩ = some (.int .i64 9))
      (first
        | with_reducible exact cfg_cells P7
        | with_reducible exact cfg_cells P7a
        | with_reducible exact cfg_cells Q3
        | with_reducible exact cfg_cells Q3a
        | with_reducible exact cfg_cells Q4
        | with_reducible exact cfg_cells (Q4.alloc _)
        | with_reducible exact cfg_cells (far11 Q4 hne _ _ _ _ _ _ _ _ _ _ _)
        | fail)
      (first
        | (go_at_call 10
           refine (newB F y w _ w1.heap.size [.slice none 0 0, .int .i64 F, .int .i64 y, .int .i64 9] ?_ ?_).mono ?_
           (first | with_reducible exact P7 | with_reducible exact P7a | fail)
           (first | with_reducible exact HB2 | with_reducible exact HB2a | fail)
           rintro e w3 ⟨b, rfl, K3, L3, Q3, M3⟩
           have Q3a : Blk (w3.alloc (.cells #[.slice none 0 0, .int .i64 0, .int .i64 0, .int .i64 0, .int .i64 0, .int .i64 0, .int .i64 0, .int .i64 0, .int .i64 0, .slice none 0 0, .slice none 0 0] 31)) w1.heap.size 24 [.slice none 0 0, .int .i64 F, .int .i64 y, .int .i64 9] := Q3.alloc _
           have ZB : Blk (w3.alloc (.cells #[.slice none 0 0, .int .i64 0, .int .i64 0, .int .i64 0, .int .i64 0, .int .i64 0, .int .i64 0, .int .i64 0, .int .i64 0, .slice none 0 0, .slice none 0 0] 31)) w3.heap.size 31 kzero := Blk.new w3 _ _
           have hne3 : w1.heap.size ≠ w3.heap.size := Nat.ne_of_lt Q3.lt
           (first | have Z3 := by with_reducible exact Blk.below ZA L3 ZA.lt | skip))
        | (go_at_call 11
           refine (rnewB F M y _ hN.out).mono ?_
           rintro e w4 ⟨an, cn, ai, ci, rfl, L4⟩
           (first | have Q4 := by with_reducible exact Blk.below Q3 L4 Q3.lt | have Q4 := by with_reducible exact Blk.below Q3a L4 Q3a.lt | fail)
           (first
             | (have Z4 := by with_reducible exact Blk.below Z3 L4 Z3.lt
                have hne : w1.heap.size ≠ w2.heap.size := Nat.ne_of_lt hlt)
             | (have Z4 := by with_reducible exact Blk.below ZB L4 ZB.lt
                have hne := hne3)
             | skip)
           (first
             | (have z0 := Z4.cell 0 _ rfl
                have z1 := Z4.cell 1 _ rfl
                have z2 := Z4.cell 2 _ rfl
                have z3 := Z4.cell 3 _ rfl
                have z4 := Z4.cell 4 _ rfl
                have z5 := Z4.cell 5 _ rfl
                have z6 := Z4.cell 6 _ rfl
                have z7 := Z4.cell 7 _ rfl
                have z8 := Z4.cell 8 _ rfl
                have z9 := Z4.cell 9 _ rfl
                have z10 := Z4.cell 10 _ rfl
                have y0 := Z4.free 0
                have y1 := Z4.free 1
                have y2 := Z4.free 2
                have y3 := Z4.free 3
                have y4 := Z4.free 4
                have y5 := Z4.free 5
                have y6 := Z4.free 6
                have y7 := Z4.free 7
                have y8 := Z4.free 8
                have y9 := Z4.free 9
                have y10 := Z4.free 10)
             | skip)))
    all_goals
      go_wp2_with fail
      go_meet
      refine ⟨b, _, an, cn, ai, ci, rfl, rfl, ?_⟩
      rw [hN.out] at K3
      have zm := M3.size
    all_goals
      have hz2 : w.heap.size ≤ w2.heap.size := HB2.size
      have hza : w2.heap.size < (w2.alloc (.cells #[.slice none 0 0, .int .i64 0, .int .i64 0, .int .i64 0, .int .i64 0, .int .i64 0, .int .i64 0, .int .i64 0, .int .i64 0, .slice none 0 0, .slice none 0 0] 31)).drew.heap.size := by simp
      have A3 : Below w3.heap.size w3 (w3.alloc (.cells #[.slice none 0 0, .int .i64 0, .int .i64 0, .int .i64 0, .int .i64 0, .int .i64 0, .int .i64 0, .int .i64 0, .int .i64 0, .slice none 0 0, .slice none 0 0] 31)) := (Below.refl _ _).alloc (Nat.le_refl _) _
    · exact BK.make K3 HB2 (.inr L4.size) L4 ((Keeps.refl _ w4).alloc _) (Blk.new w4 _ _) ((M3.trans (L4.mono zm)).alloc (Nat.le_trans zm L4.size) _)
    · have PB := put_blk Z4 rfl (.slice an 0 cn) (.int .i64 F) (.int .i64 M) (.int .i64 9) (.int .i64 0) (.int .i64 0) (.int .i64 0) (.int .i64 1) (.int .i64 0) (.slice ai 0 ci) (.slice none 0 0)
      have L34 := A3.trans (L4.mono A3.size)
      exact BK.make K3 HB2 (.inr (Nat.le_refl _)) L34 PB.2 PB.1 ((M3.trans (L34.mono zm)).trans (PB.2.below (Nat.le_trans zm L34.size) (fun k hk e => by omega)))
    · have PB := put_blk Z4 rfl (.slice an 0 cn) (.int .i64 F) (.int .i64 M) (.int .i64 9) (.int .i64 0) (.int .i64 0) (.int .i64 0) (.int .i64 1) (.int .i64 0) (.slice ai 0 ci) (.slice none 0 0)
      exact BK.make K3 HB2a (.inl hza) L4 PB.2 PB.1 ((M3.trans (L4.mono zm)).trans (PB.2.below (Nat.le_trans zm L4.size) (fun k hk e => by omega)))
  case rest =>
  obtain ⟨b, b9, an, cn, ai, ci, rfl, rfl, hk0⟩ := hcut
  rename World => w3
  clear p7 hb2 hs7 hN
  go_upto_region 7 with fail
  go_cut [31, 32] (fun v31 v32 wx => v31 = .int .i64 N ∧ v32 = .int .i64 0 ∧ wx = w3)
  case first =>
    rcases hcN with ⟨q1, q2⟩ | ⟨q1, q0, q2⟩ | ⟨q1, q0, q2⟩
    all_goals
      have Y := Lib.hid q2
      clear q2
      go_wp2_with fail
      go_meet
      exact ⟨by rw [Y.out], rfl, rfl⟩
  case rest =>
  obtain ⟨rfl, rfl, rfl⟩ := hcut
  clear hcN
  go_wp2_with fail
  go_loopw [32] (fun vf wr => ∃ f c si : Nat, vf = .int .i64 f ∧ f ≤ N ∧ c ≤ 200 * f ∧ BK w wr b b9 (kcells (bo F M 0 0 1 0) (.slice an 0 cn) (.slice ai 0 ci) (.slice none 0 0)) (bo F M c si (c + wait0 F M f) f)) (fun vf _ => N - (intOf vf).toNat)
  case atStart => exact ⟨0, 0, 0, rfl, by omega, by omega, hk0⟩
  case round =>
    clear hk0
    obtain ⟨f, c, si, rfl, hf, hc, hk⟩ := hrel
    by_cases hgo : f < N
    · have gq : ((f : Int) < N) = True := eq_true (by omega)
      obtain ⟨W, hW⟩ : ∃ W, W = wait0 F M f := ⟨_, rfl⟩
      have hW1 : 1 ≤ W := by rw [hW]; exact wait0_pos F M f hF1 (by omega)
      rw [← hW] at hk
      go_upto_if 36 with fail
      go_cut [11] (fun v wx => v = .int .i64 (min W 200 : Nat) ∧ BK w wx b b9 (kcells (bo F M 0 0 1 0) (.slice an 0 cn) (.slice ai 0 ci) (.slice none 0 0)) (bo F M c si (c + W) f))
      case first =>
        rcases Nat.eq_zero_or_pos f with h0 | h0
        · have g3 : decide (0 < f) = false := decide_eq_false (by omega)
          have e1 : Hid (min W 200 = 1) := by rw [hW, h0]; rfl
          rw [g3]
          clear h0 hW
          go_wp2_with fail
          go_meet
          exact ⟨by rw [e1.out]; rfl, hk⟩
        · obtain ⟨f', rfl⟩ : ∃ f', f = f' + 1 := ⟨f - 1, by omega⟩
          have g1 : ((0 : Int) < (f' : Int) + 1) = True := eq_true (by omega)
          have g2 : (0 < f' + 1) = True := eq_true (by omega)
          have hWw : Hid (wt F M f' = W) := hW.symm
          have c0 := hk.blk.cell 0 _ rfl
          have c1 : wr.cell? ⟨b9, 1, none⟩ = some (.int .i64 F) := hk.blk.cell 1 _ rfl
          have c2 : wr.cell? ⟨b9, 2, none⟩ = some (.int .i64 M) := hk.blk.cell 2 _ rfl
          have c3 : wr.cell? ⟨b9, 3, none⟩ = some (.int .i64 9) := hk.blk.cell 3 _ rfl
          have c4 : wr.cell? ⟨b9, 4, none⟩ = some (.int .i64 0) := hk.blk.cell 4 _ rfl
          have c5 : wr.cell? ⟨b9, 5, none⟩ = some (.int .i64 0) := hk.blk.cell 5 _ rfl
          have c6 : wr.cell? ⟨b9, 6, none⟩ = some (.int .i64 0) := hk.blk.cell 6 _ rfl
          have c7 : wr.cell? ⟨b9, 7, none⟩ = some (.int .i64 1) := hk.blk.cell 7 _ rfl
          have c8 : wr.cell? ⟨b9, 8, none⟩ = some (.int .i64 0) := hk.blk.cell 8 _ rfl
          have c9 := hk.blk.cell 9 _ rfl
          have c10 := hk.blk.cell 10 _ rfl
          clear hW
          go_wp2_with fail
          refine (waitB F M f' an ai cn ci _ (by omega) hF1 hM1.1 hM1.2).mono ?_
          rintro e w5 ⟨rfl, b5⟩
          have h5 := hk.below b5
          rw [hWw.out]
          clear hk c0 c1 c2 c3 c4 c5 c6 c7 c8 c9 c10 b5
          have hmin : (W ≤ 200 ∧ min W 200 = W) ∨ (200 < W ∧ min W 200 = 200) := by omega
          rcases hmin with ⟨m1, m2⟩ | ⟨m1, m2⟩
          all_goals
            have m3 := Lib.hid m2
            clear m2
            go_wp2_with fail
            go_meet
            exact ⟨by rw [m3.out]; try rfl, h5⟩
      case rest =>
      obtain ⟨rfl, hk1⟩ := hcut
      clear hk
      go_wp2_with fail
      obtain ⟨V, hV⟩ : ∃ V, V = min W 200 := ⟨_, rfl⟩
      have hVa : V ≤ W := by omega
      have hVb : V ≤ 200 := by omega
      have hVc : 1 ≤ V := by omega
      have HV : Hid ((W ≤ 200 → V = W) ∧ (200 < W → V = 200)) := Lib.hid (by omega)
      rw [← hV]
      have HW := Lib.hid hW
      clear hV hW
      go_loopw [12] (fun vt wr => ∃ i : Nat, vt = .int .i64 i ∧ 1 ≤ i ∧ i ≤ V + 1 ∧ BK w wr b b9 (kcells (bo F M 0 0 1 0) (.slice an 0 cn) (.slice ai 0 ci) (.slice none 0 0)) (if W ≤ 200 ∧ V < i then { bo F M (c + W) (c + W) (c + W) f with state := 1 } else bo F M (c + (i - 1)) si (c + W) f)) (fun vt _ => V + 1 - (intOf vt).toNat)
      case atStart => exact ⟨1, rfl, by omega, by omega, by rw [if_neg (by omega)]; exact hk1⟩
      case round =>
        clear hk1
        obtain ⟨i, rfl, hi1, hi2, hk2⟩ := hrel
        by_cases hgo2 : i ≤ V
        · obtain ⟨k, hk3⟩ : ∃ k, k + 1 = i := ⟨i - 1, by omega⟩
          rw [if_neg (by omega), show i - 1 = k by omega] at hk2
          go_wp2_with fail
          refine (tickB w b b9 _ _ _ hk2 (by show c + k < 1000000000000; omega)).mono ?_
          rintro e w5 ⟨vo, rfl, h5, o5⟩
          clear hk2
          go_upto_region 17 with fail
          go_cut [57] (fun v wx => v = .bool (decide (200 < W)) ∧ BK w wx b b9 (kcells (bo F M 0 0 1 0) (.slice an 0 cn) (.slice ai 0 ci) (.slice none 0 0)) (bo F M (c + k) si (c + W) f).tick.1 ∧ Sg wx 2 vo (bo F M (c + k) si (c + W) f).tick.2.length (avals (bo F M (c + k) si (c + W) f).tick.2))
          case first =>
            rcases Nat.eq_zero_or_pos f with h0 | h0
            · have g3 : decide (200 < W) = false := decide_eq_false (by rw [HW.out, h0]; show ¬ 200 < 1; omega)
              have g4 : ((0 : Int) < f) = False := eq_false (by omega)
              have g5 : (0 < f) = False := eq_false (by omega)
              clear h0
              have G3 := Lib.hid g3
              clear g3
              go_wp2_with fail
              go_meet
              exact ⟨by rw [G3.out], h5, o5⟩
            · obtain ⟨f', hf'⟩ : ∃ f', f = f' + 1 := ⟨f - 1, by omega⟩
              have hWw : Hid (wt F M f' = W) := by rw [HW.out, hf']; exact Lib.hid rfl
              have g1 : ((0 : Int) < f) = True := eq_true (by omega)
              have g2 : (0 < f) = True := eq_true (by omega)
              have g7 : ((f : Int) - 1) = f' := by omega
              have c0 : w5.cell? ⟨b9, 0, none⟩ = some (.slice an 0 cn) := h5.blk.cell 0 _ rfl
              have c1 : w5.cell? ⟨b9, 1, none⟩ = some (.int .i64 F) := h5.blk.cell 1 _ rfl
              have c2 : w5.cell? ⟨b9, 2, none⟩ = some (.int .i64 M) := h5.blk.cell 2 _ rfl
              have c3 : w5.cell? ⟨b9, 3, none⟩ = some (.int .i64 9) := h5.blk.cell 3 _ rfl
              have c4 : w5.cell? ⟨b9, 4, none⟩ = some (.int .i64 0) := h5.blk.cell 4 _ rfl
              have c5 : w5.cell? ⟨b9, 5, none⟩ = some (.int .i64 0) := h5.blk.cell 5 _ rfl
              have c6 : w5.cell? ⟨b9, 6, none⟩ = some (.int .i64 0) := h5.blk.cell 6 _ rfl
              have c7 : w5.cell? ⟨b9, 7, none⟩ = some (.int .i64 1) := h5.blk.cell 7 _ rfl
              have c8 : w5.cell? ⟨b9, 8, none⟩ = some (.int .i64 0) := h5.blk.cell 8 _ rfl
              have c9 : w5.cell? ⟨b9, 9, none⟩ = some (.slice ai 0 ci) := h5.blk.cell 9 _ rfl
              have c10 : w5.cell? ⟨b9, 10, none⟩ = some (.slice none 0 0) := h5.blk.cell 10 _ rfl
              have hf9 : f' ≤ 9 := by omega
              clear hf'
              go_wp2_with fail
              refine (waitB F M f' an ai cn ci _ (by omega) hF1 hM1.1 hM1.2).mono ?_
              rintro e w7 ⟨rfl, b7⟩
              have h7 := h5.below b7
              have o7 := o5.below b7
              rw [hWw.out]
              clear h5 c0 c1 c2 c3 c4 c5 c6 c7 c8 c9 c10 b7
              have hd : decide ((200 : Int) < W) = decide (200 < W) := by by_cases q : 200 < W <;> simp [q] <;> omega
              go_wp2_with fail
              go_meet
              exact ⟨by first | rfl | simp, h7, o7⟩
          case rest =>
          clear h5 o5
          obtain ⟨rfl, h6, o5⟩ := hcut
          rename World => w6
          by_cases hbig : 200 < W
          · have hd : decide (200 < W) = true := decide_eq_true hbig
            rw [bo_quiet F M c si (c + W) f k (by omega)] at h6 o5
            obtain ⟨ao, cap, rfl⟩ : ∃ ao cap, vo = .slice ao 0 cap := o5.shape
            clear o5
            rw [hd]
            clear hd
            go_wp2_with fail
            go_roundw
            case rel => exact ⟨i + 1, by go_num, by omega, by omega, by rw [if_neg (by omega), Nat.add_sub_cancel, ← hk3]; exact h6⟩
            case measure => first | (simp [intOf]; done) | (simp [intOf]; omega)
          · have hd : decide (200 < W) = false := decide_eq_false hbig
            rw [hd]
            clear hd
            by_cases hlt : i < V
            · rw [bo_quiet F M c si (c + W) f k (by omega)] at h6 o5
              obtain ⟨ao, cap, rfl⟩ : ∃ ao cap, vo = .slice ao 0 cap := o5.shape
              have g1 : ((i : Int) < V) = True := eq_true (by omega)
              have g2 : ((i : Int) == V) = false := beq_false_of_ne (by omega)
              have g3 : ((i : Int) = V) = False := eq_false (by omega)
              clear o5
              go_wp2_with fail
              go_roundw
              case rel => exact ⟨i + 1, by go_num, by omega, by omega, by rw [if_neg (by omega), Nat.add_sub_cancel, ← hk3]; exact h6⟩
              case measure => first | (simp [intOf]; done) | (simp [intOf]; omega)
            · rw [bo_connect F M c si (c + W) f k (by have hv := HV.out; omega)] at h6 o5
              have g1 : ((i : Int) < V) = False := eq_false (by omega)
              have g2 : ((i : Int) == V) = true := by simp; omega
              have hiw : V < i + 1 ∧ W ≤ 200 := by omega
              go_wp2_with fail
              refine (same_ok [(1, emp)] [(1, emp)] vo _ _ (o5.below ?_) (lit_acts w6 _ 1 emp) (by show 1 ≤ 100; omega) (by show 1 ≤ 100; omega)).mono ?_
              · exact (Below.refl _ _).alloc (Nat.le_refl _) _
              rintro e w8 ⟨rfl, b8⟩
              have h8 := (h6.below ((Below.refl _ _).alloc (Nat.le_refl _) (.cells #[.int .i64 1, .string emp] 45))).below b8
              rw [decide_eq_true rfl]
              clear h6 o5 b8
              go_wp2_with fail
              go_roundw
              case rel => exact ⟨i + 1, by go_num, by omega, by omega, by rw [if_pos ⟨hiw.2, hiw.1⟩]; exact h8⟩
              case measure => first | (simp [intOf]; done) | (simp [intOf]; omega)
        · have hst : (if W ≤ 200 ∧ V < i then { bo F M (c + W) (c + W) (c + W) f with state := 1 } else bo F M (c + (i - 1)) si (c + W) f) = (if W ≤ 200 then { bo F M (c + W) (c + W) (c + W) f with state := 1 } else bo F M (c + 200) si (c + W) f) := by
            have hv := HV.out
            by_cases q : W ≤ 200
            · rw [if_pos ⟨q, by omega⟩, if_pos q]
            · rw [if_neg (by omega), if_neg q, show i - 1 = 200 by omega]
          rw [hst] at hk2
          clear hst
          go_upto_region 22 with fail
          go_cut [89] (fun v wx => v = .bool (decide (200 < W)) ∧ BK w wx b b9 (kcells (bo F M 0 0 1 0) (.slice an 0 cn) (.slice ai 0 ci) (.slice none 0 0)) (if W ≤ 200 then { bo F M (c + W) (c + W) (c + W) f with state := 1 } else bo F M (c + 200) si (c + W) f))
          case first =>
            rcases Nat.eq_zero_or_pos f with h0 | h0
            · have g3 : decide (200 < W) = false := decide_eq_false (by rw [HW.out, h0]; show ¬ 200 < 1; omega)
              have g4 : ((0 : Int) < f) = False := eq_false (by omega)
              have g5 : (0 < f) = False := eq_false (by omega)
              clear h0
              have G3 := Lib.hid g3
              clear g3
              go_wp2_with fail
              go_meet
              exact ⟨by rw [G3.out], hk2⟩
            · obtain ⟨f', hf'⟩ : ∃ f', f = f' + 1 := ⟨f - 1, by omega⟩
              have hWw : Hid (wt F M f' = W) := by rw [HW.out, hf']; exact Lib.hid rfl
              have g1 : ((0 : Int) < f) = True := eq_true (by omega)
              have g2 : (0 < f) = True := eq_true (by omega)
              have g7 : ((f : Int) - 1) = f' := by omega
              have c0 : wr.cell? ⟨b9, 0, none⟩ = some (.slice an 0 cn) := hk2.blk.cell 0 _ rfl
              have c1 : wr.cell? ⟨b9, 1, none⟩ = some (.int .i64 F) := hk2.blk.cell 1 _ rfl
              have c2 : wr.cell? ⟨b9, 2, none⟩ = some (.int .i64 M) := hk2.blk.cell 2 _ rfl
              have c3 : wr.cell? ⟨b9, 3, none⟩ = some (.int .i64 9) := hk2.blk.cell 3 _ rfl
              have c4 : wr.cell? ⟨b9, 4, none⟩ = some (.int .i64 0) := hk2.blk.cell 4 _ rfl
              have c5 : wr.cell? ⟨b9, 5, none⟩ = some (.int .i64 0) := hk2.blk.cell 5 _ rfl
              have c6 : wr.cell? ⟨b9, 6, none⟩ = some (.int .i64 0) := hk2.blk.cell 6 _ rfl
              have c7 : wr.cell? ⟨b9, 7, none⟩ = some (.int .i64 1) := hk2.blk.cell 7 _ rfl
              have c8 : wr.cell? ⟨b9, 8, none⟩ = some (.int .i64 0) := hk2.blk.cell 8 _ rfl
              have c9 : wr.cell? ⟨b9, 9, none⟩ = some (.slice ai 0 ci) := hk2.blk.cell 9 _ rfl
              have c10 : wr.cell? ⟨b9, 10, none⟩ = some (.slice none 0 0) := hk2.blk.cell 10 _ rfl
              have hf9 : f' ≤ 9 := by omega
              clear hf'
              go_wp2_with fail
              refine (waitB F M f' an ai cn ci _ (by omega) hF1 hM1.1 hM1.2).mono ?_
              rintro e w7 ⟨rfl, b7⟩
              have h7 := hk2.below b7
              rw [hWw.out]
              clear hk2 c0 c1 c2 c3 c4 c5 c6 c7 c8 c9 c10 b7
              have hd : decide ((200 : Int) < W) = decide (200 < W) := by by_cases q : 200 < W <;> simp [q] <;> omega
              go_wp2_with fail
              go_meet
              exact ⟨by first | rfl | simp, h7⟩
          case rest =>
          clear hk2
          obtain ⟨rfl, h6⟩ := hcut
          rename World => w6
          by_cases hbig : 200 < W
          · rw [if_neg (by omega)] at h6
            rw [decide_eq_true hbig]
            go_wp2_with fail
            refine (varsBo w b b9 _ F M _ _ _ f w6 h6).mono ?_
            rintro e w7 ⟨x1, x2, x3, vh, rfl, hx3, h7⟩
            have hb7 := h7.bel
            have hf0 := vars_state 0 x1 x2 x3 0 vh
            clear h6 h7 hx3
            go_wp2_with fail
            go_ret
            exact ⟨rfl, hb7⟩
          · rw [if_pos (by omega)] at h6
            rw [decide_eq_false hbig]
            go_wp2_with fail
            refine (toldB w b b9 _ _ 2 w6 h6).mono ?_
            rintro e w7 ⟨vo, rfl, h7, o7⟩
            rw [bo_lost F M (c + W) f (by omega)] at h7 o7
            obtain ⟨ao, cap, rfl⟩ : ∃ ao cap, vo = .slice ao 0 cap := o7.shape
            clear h6 o7
            go_wp2_with fail
            refine (varsBo w b b9 _ F M _ _ _ (f + 1) w7 h7).mono ?_
            rintro e w8 ⟨x1, x2, x3, vh, rfl, hx3, h8⟩
            rw [Int.natCast_add] at hx3
            have hx4 : x3 = (f : Int) + 1 := hx3
            subst hx4
            have hf3 := vars_fails 0 x1 x2 ((f : Int) + 1) 0 vh
            clear h7 hx3
            go_wp2_with fail
            go_roundw
            case rel => exact ⟨f + 1, c + W, c + W, by go_num, by omega, by omega, h8⟩
            case measure => first | (simp [intOf]; done) | (simp [intOf]; omega)
    · have hfN : f = N := by omega
      have hb := hk.bel
      clear hk
      have gq : ((f : Int) < N) = False := eq_false (by omega)
      clear hfN
      go_wp2_with fail
      go_ret
      exact ⟨rfl, hb⟩
end Go.Proofs.Ytaenfkekdhnakaa
