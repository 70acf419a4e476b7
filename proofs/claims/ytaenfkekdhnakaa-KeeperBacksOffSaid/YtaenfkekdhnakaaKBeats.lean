/-
KeeperBeats, walked.
-/
import Derived.Test.YtaenfkekdhnakaaKTries
namespace Go.Proofs.Ytaenfkekdhnakaa
open Go.RowKit

def bS (B c q : Nat) (a : List Int) : KS := { names := [], first := 1, most := 1, beat := B, state := 2, clock := c + q, since := c, due := 1, fails := 0, wants := [], asked := a }
theorem beat_new (f : Nat) (hf : f < 16) : (newS [] 1 1 (1 + f)).tick.1 = { bS (1 + f) 1 0 [] with state := 1 } ∧ (newS [] 1 1 (1 + f)).tick.2.length = 1 := by
  have e : newS [] 1 1 (1 + f) = { bS (1 + f) 1 0 [] with state := 0, clock := 0, since := 0 } := by
    unfold newS bS clampN
    simp
    omega
  rw [e]; exact ⟨rfl, rfl⟩
theorem beat_in (B : Nat) : ({ bS B 1 0 [] with state := 1 } : KS).told 1 = (bS B 1 0 [], []) := by
  unfold KS.told
  rw [if_pos ⟨rfl, rfl⟩]
  rfl
theorem beat_quiet (B c k : Nat) (a : List Int) (h : k + 1 < B) : (bS B c k a).tick = (bS B c (k + 1) a, []) := by
  rw [tick_q2 rfl (by show c + k + 1 < c + B; omega)]
  rfl
theorem beat_ping (B c k : Nat) (h : k + 1 = B) : (bS B c k []).tick = (bS B (c + B) 0 [-1], [(3, emp)]) := by
  rw [tick_p2 rfl (by show c + B ≤ c + k + 1; omega) rfl]
  subst h
  rfl
theorem beat_hang (B c k : Nat) (h : k + 1 = B) : (bS B c k [-1]).tick.2 = [(4, emp)] ∧ (bS B c k [-1]).tick.1.state = 0 ∧ (bS B c k [-1]).tick.1.fails = 1 ∧ (bS B c k [-1]).tick.1.dueV = (bS B c k [-1]).tick.1.clock + 1 ∧ (bS B c k [-1]).tick.1.asked = [] ∧ (bS B c k [-1]).tick.1.clock = c + B := by
  rw [tick_h2 rfl (by show c + B ≤ c + k + 1; omega) (by simp [bS])]
  subst h
  exact ⟨rfl, rfl, rfl, rfl, rfl, rfl⟩
theorem beat_told (B c : Nat) (what : Int) (h : what = 3 ∨ what = 4) : (bS B c 0 [-1]).told what = (bS B c 0 [], []) := by
  unfold KS.told
  rw [if_neg (by omega), if_neg (by omega), if_pos ⟨h, rfl, by simp [bS]⟩]
  rfl

set_option maxHeartbeats 1000000 in
set_option maxRecDepth 100000 in
theorem beats_ok (x y z : Int) (w : World) :
    Calls Try.prog 5 #[.int .i64 x, .int .i64 y, .int .i64 z] w fun e w' => e = .returned (.bool true) ∧ Below w.heap.size w w' := by
  obtain ⟨f, hf, ef⟩ := i64_low 4 (by omega) x 15 (by decide)
  obtain ⟨g, hg, eg⟩ := i64_low 3 (by omega) y 7 (by decide)
  obtain ⟨t, ht, et⟩ := i64_low 1 (by omega) z 1 (by decide)
  simp only [Nat.reducePow] at hf hg ht
  go_enter Try.func5, Try.ntmps5
  go_wp2_with fail
  refine (awake_ok w).mono ?_
  rintro e w1 ⟨rfl, b1⟩
  go_wp2_with fail
  refine (newP [] _ 1 1 (1 + f) w w1 b1 (Sg.nil _ _) (by show 0 ≤ 1000; omega)).mono ?_
  rintro e w2 ⟨b, rfl, h2⟩
  clear b1
  go_wp2_with fail
  refine (tickP w b _ w2 h2 (by show 0 < 1000000000000; omega)).mono ?_
  rintro e w3 ⟨vo, rfl, h3, o3⟩
  rw [(beat_new f hf).1] at h3
  clear h2 o3
  go_wp2_with fail
  refine (toldP w b _ 1 w3 h3).mono ?_
  rintro e w4 ⟨vo, rfl, h4, o4⟩
  rw [beat_in] at h4
  clear h3 o4
  go_wp2_with fail
  go_loopw [32] (fun vt wr => ∃ n c : Nat, vt = .int .i64 (n : Nat) ∧ n ≤ g + 1 ∧ c ≤ 1 + 16 * n ∧ KP w wr b (bS (1 + f) c 0 (if n = g + 1 then [-1] else []))) (fun vt _ => g + 1 - (intOf vt).toNat)
  case atStart => exact ⟨0, 1, rfl, by omega, by omega, by rw [if_neg (by omega)]; exact h4⟩
  case round =>
    clear h4
    obtain ⟨n, c, rfl, hn, hc, hk⟩ := hrel
    by_cases hgo : n < g + 1
    · rw [if_neg (by omega)] at hk
      have gq : ((n : Int) < (g : Int) + 1) = True := eq_true (by omega)
      go_wp2_with fail
      go_loopw [9] (fun vt wr => ∃ i : Nat, vt = .int .i64 (i : Nat) ∧ 1 ≤ i ∧ i ≤ 1 + f + 1 ∧ KP w wr b (if i ≤ 1 + f then bS (1 + f) c (i - 1) [] else bS (1 + f) (c + (1 + f)) 0 [-1])) (fun vt _ => 1 + f + 1 - (intOf vt).toNat)
      case atStart => exact ⟨1, rfl, by omega, by omega, by rw [if_pos (by omega)]; exact hk⟩
      case round =>
        clear hk
        obtain ⟨i, rfl, hi1, hi2, hk⟩ := hrel
        by_cases hgo2 : i ≤ 1 + f
        · obtain ⟨k, hk1⟩ : ∃ k, k + 1 = i := ⟨i - 1, by omega⟩
          rw [if_pos hgo2, show i - 1 = k by omega] at hk
          go_wp2_with fail
          refine (tickP w b _ _ hk (by show c + k < 1000000000000; omega)).mono ?_
          rintro e w5 ⟨vo, rfl, h5, o5⟩
          clear hk
          by_cases hlt : i < 1 + f
          · rw [beat_quiet _ _ _ _ (by omega), hk1] at h5 o5
            obtain ⟨ao, cap, rfl⟩ : ∃ ao cap, vo = .slice ao 0 cap := by
              obtain ⟨_, ao, cap, hv, _⟩ := o5
              exact ⟨ao, cap, hv⟩
            clear o5
            have g1 : ((i : Int) < 1 + f) = True := eq_true (by omega)
            have g2 : ((i : Int) == 1 + f) = false := beq_false_of_ne (by omega)
            have g3 : ((i : Int) = 1 + f) = False := eq_false (by omega)
            go_wp2_with fail
            go_roundw
            case rel => exact ⟨i + 1, by go_num, by omega, by omega, by rw [if_pos (by omega)]; exact h5⟩
            case measure => first | (simp [intOf]; done) | (simp [intOf]; omega)
          · have him : i = 1 + f := by omega
            rw [beat_ping _ _ _ (by omega)] at h5 o5
            have g1 : ((i : Int) < 1 + f) = False := eq_false (by omega)
            have g2 : ((i : Int) == 1 + f) = true := by simp; omega
            have g3 : ((i : Int) = 1 + f) = True := eq_true (by omega)
            go_wp2_with fail
            refine (same_ok [(3, emp)] [(3, emp)] vo _ _ (o5.below ?_) (lit_acts w5 _ 3 emp) (by show 1 ≤ 100; omega) (by show 1 ≤ 100; omega)).mono ?_
            · exact (Below.refl _ _).alloc (Nat.le_refl _) _
            rintro e w6 ⟨rfl, b6⟩
            have h6 := (h5.below ((Below.refl _ _).alloc (Nat.le_refl _) (.cells #[.int .i64 3, .string emp] 45))).below b6
            rw [decide_eq_true rfl]
            clear h5 o5 b6
            go_wp2_with fail
            go_roundw
            case rel => exact ⟨i + 1, by go_num, by omega, by omega, by rw [if_neg (by omega)]; exact h6⟩
            case measure => first | (simp [intOf]; done) | (simp [intOf]; omega)
        · obtain rfl : i = 1 + f + 1 := by omega
          rw [if_neg hgo2] at hk
          by_cases hng : n < g
          · go_wp2_with fail
            refine (toldP w b _ (3 + t) _ hk).mono ?_
            rintro e w5 ⟨vo, rfl, h5, o5⟩
            rw [beat_told _ _ _ (by omega)] at h5
            clear hk o5
            go_wp2_with fail
            go_roundw
            case rel => exact ⟨n + 1, c + (1 + f), by go_num, by omega, by omega, by rw [if_neg (by omega)]; exact h5⟩
            case measure => first | (simp [intOf]; done) | (simp [intOf]; omega)
          · obtain rfl : n = g := by omega
            have g1 : ((n : Int) < n) = False := eq_false (by omega)
            go_wp2_with fail
            go_roundw
            case rel => exact ⟨n + 1, c + (1 + f), by go_num, by omega, by omega, by rw [if_pos rfl]; exact hk⟩
            case measure => first | (simp [intOf]; done) | (simp [intOf]; omega)
    · rw [if_pos (show n = g + 1 by omega)] at hk
      have gq : ((n : Int) < (g : Int) + 1) = False := eq_false (by omega)
      go_wp2_with fail
      go_loopw [11] (fun vt wr => ∃ i : Nat, vt = .int .i64 (i : Nat) ∧ 1 ≤ i ∧ i ≤ 1 + f + 1 ∧ KP w wr b (if i ≤ 1 + f then bS (1 + f) c (i - 1) [-1] else (bS (1 + f) c f [-1]).tick.1)) (fun vt _ => 1 + f + 1 - (intOf vt).toNat)
      case atStart => exact ⟨1, rfl, by omega, by omega, by rw [if_pos (by omega)]; exact hk⟩
      case round =>
        clear hk
        obtain ⟨i, rfl, hi1, hi2, hk⟩ := hrel
        by_cases hgo2 : i ≤ 1 + f
        · obtain ⟨k, hk1⟩ : ∃ k, k + 1 = i := ⟨i - 1, by omega⟩
          rw [if_pos hgo2, show i - 1 = k by omega] at hk
          go_wp2_with fail
          refine (tickP w b _ _ hk (by show c + k < 1000000000000; omega)).mono ?_
          rintro e w5 ⟨vo, rfl, h5, o5⟩
          clear hk
          by_cases hlt : i < 1 + f
          · rw [beat_quiet _ _ _ _ (by omega), hk1] at h5 o5
            obtain ⟨ao, cap, rfl⟩ : ∃ ao cap, vo = .slice ao 0 cap := by
              obtain ⟨_, ao, cap, hv, _⟩ := o5
              exact ⟨ao, cap, hv⟩
            clear o5
            have g1 : ((i : Int) < 1 + f) = True := eq_true (by omega)
            have g2 : ((i : Int) == 1 + f) = false := beq_false_of_ne (by omega)
            have g3 : ((i : Int) = 1 + f) = False := eq_false (by omega)
            go_wp2_with fail
            go_roundw
            case rel => exact ⟨i + 1, by go_num, by omega, by omega, by rw [if_pos (by omega)]; exact h5⟩
            case measure => first | (simp [intOf]; done) | (simp [intOf]; omega)
          · have him : i = 1 + f := by omega
            rw [(beat_hang _ _ _ (by omega)).1] at o5
            have g1 : ((i : Int) < 1 + f) = False := eq_false (by omega)
            have g2 : ((i : Int) == 1 + f) = true := by simp; omega
            have g3 : ((i : Int) = 1 + f) = True := eq_true (by omega)
            go_wp2_with fail
            refine (same_ok [(4, emp)] [(4, emp)] vo _ _ (o5.below ?_) (lit_acts w5 _ 4 emp) (by show 1 ≤ 100; omega) (by show 1 ≤ 100; omega)).mono ?_
            · exact (Below.refl _ _).alloc (Nat.le_refl _) _
            rintro e w6 ⟨rfl, b6⟩
            have h6 := (h5.below ((Below.refl _ _).alloc (Nat.le_refl _) (.cells #[.int .i64 4, .string emp] 45))).below b6
            rw [decide_eq_true rfl, show k = f by omega] at *
            clear h5 o5 b6
            go_wp2_with fail
            go_roundw
            case rel => exact ⟨i + 1, by go_num, by omega, by omega, by rw [if_neg (by omega)]; exact h6⟩
            case measure => first | (simp [intOf]; done) | (simp [intOf]; omega)
        · obtain rfl : i = 1 + f + 1 := by omega
          rw [if_neg hgo2] at hk
          obtain ⟨_, z1, z2, z3, z4, z5⟩ := beat_hang (1 + f) c f (by omega)
          obtain ⟨s, hs⟩ : ∃ s, s = (bS (1 + f) c f [-1]).tick.1 := ⟨_, rfl⟩
          rw [← hs] at z1 z2 z3 z4 z5 hk
          have hz5 : s.clock ≤ 1000 := by omega
          clear hs z5
          go_wp2_with fail
          refine (varsP w b s _ hk).mono ?_
          rintro e w5 ⟨vh, rfl, g5, h5⟩
          clear hk
          unfold vcells
          obtain ⟨ao, cap, rfl⟩ : ∃ ao cap, vh = .slice ao s.held.length cap := by
            obtain ⟨_, ao, cap, hv, _⟩ := g5
            exact ⟨ao, cap, hv⟩
          have hb5 := h5.bel
          rw [z1, z2, z3, z4]
          clear g5 h5
          go_upto_region 29 with fail
          refine wp_gen (fun wx => Blk wx w5.heap.size 47 [.int .i64 0, .int .i64 s.clock, .int .i64 (s.clock + 1), .int .i64 1, .int .i64 0, .slice ao s.held.length cap] ∧ Below w.heap.size w wx) ⟨Blk.new w5 _ _, hb5.alloc (by have := hb5.size; omega) _⟩ ?_
          rintro w9 ⟨p9, hb9⟩
          have c0 := p9.cell 0 _ rfl
          have c1 := p9.cell 1 _ rfl
          have c2 := p9.cell 2 _ rfl
          have c3 := p9.cell 3 _ rfl
          have c4 := p9.cell 4 _ rfl
          clear hb5 p9 z1 z2 z3 z4
          go_wp2_with fail
          go_ret
          exact ⟨rfl, hb9⟩
end Go.Proofs.Ytaenfkekdhnakaa
