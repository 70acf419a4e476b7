/-
KeeperTries, walked.
-/
import Derived.Test.YtaenfkekdhnakaaKAwake
namespace Go.Proofs.Ytaenfkekdhnakaa
open Go.RowKit

theorem i64_low (k : Nat) (hk : k ≤ 6) (n c : Int) (hc : (BitVec.ofInt 64 c).toNat = 2 ^ k - 1) : ∃ m : Nat, m < 2 ^ k ∧ bits .and .i64 n c = (m : Int) := by
  have key : (BitVec.ofInt 64 n &&& BitVec.ofInt 64 c).toNat = (BitVec.ofInt 64 n).toNat % 2 ^ k := by
    rw [BitVec.toNat_and, hc, Nat.and_two_pow_sub_one_eq_mod]
  have hp : 2 ^ k ≤ 2 ^ 6 := Nat.pow_le_pow_right (by omega) hk
  have hm : (BitVec.ofInt 64 n).toNat % 2 ^ k < 2 ^ k := Nat.mod_lt _ (Nat.pow_pos (by omega))
  refine ⟨(BitVec.ofInt 64 n).toNat % 2 ^ k, hm, ?_⟩
  show IntKind.i64.wrap ((BitVec.ofInt 64 n &&& BitVec.ofInt 64 c).toNat : Nat) = _
  rw [key, IntKind.wrap_i64]
  omega
def trS (F M k : Nat) : KS := { names := [], first := F, most := M, beat := 1, state := 1, clock := 1 + k, since := 1, due := 1, fails := 0, wants := [], asked := [] }
def trN (F M k : Nat) : KS := if k < M then trS F M k else (trS F M (M - 1)).tick.1
theorem tr_new (f m : Nat) (hf : f < 16) (hm : m < 32) : (newS [] (1 + f) (1 + f + m) 1).tick = (trS (1 + f) (1 + f + m) 0, [(1, emp)]) := by
  have e : newS [] (1 + f) (1 + f + m) 1 = { trS (1 + f) (1 + f + m) 0 with state := 0, clock := 0, since := 0 } := by
    unfold newS trS clampN
    simp
    omega
  rw [e]; rfl
theorem tick_q1 {s : KS} (h : s.state = 1) (h2 : s.clock + 1 < s.since + s.most) : s.tick = (s.tick1, []) := by
  unfold KS.tick
  rw [if_neg (by omega), if_pos h, if_neg (by omega)]
theorem tick_h1 {s : KS} (h : s.state = 1) (h2 : s.since + s.most ≤ s.clock + 1) : s.tick = (s.tick1.fail, [(4, emp)]) := by
  unfold KS.tick
  rw [if_neg (by omega), if_pos h, if_pos h2]
theorem tick_q0 {s : KS} (h : s.state = 0) (h2 : s.clock + 1 < s.due) : s.tick = (s.tick1, []) := by
  unfold KS.tick
  rw [if_pos h, if_neg (by omega)]
theorem tick_c0 {s : KS} (h : s.state = 0) (h2 : s.due ≤ s.clock + 1) : s.tick = ({ s with clock := s.clock + 1, state := 1, since := s.clock + 1 }, [(1, emp)]) := by
  unfold KS.tick
  rw [if_pos h, if_pos h2]
theorem tick_q2 {s : KS} (h : s.state = 2) (h2 : s.clock + 1 < s.since + s.beat) : s.tick = (s.tick1, []) := by
  unfold KS.tick
  rw [if_neg (by omega), if_neg (by omega), if_neg (by omega)]
theorem tick_p2 {s : KS} (h : s.state = 2) (h2 : s.since + s.beat ≤ s.clock + 1) (h3 : s.asked = []) : s.tick = (s.pinged.askAt (· == 2) s.pinged.names.length, (3, emp) :: (s.pinged.askN (· == 2) s.pinged.names.length).2.2) := by
  unfold KS.tick
  rw [if_neg (by omega), if_neg (by omega), if_pos h2, if_pos h3]
theorem tick_h2 {s : KS} (h : s.state = 2) (h2 : s.since + s.beat ≤ s.clock + 1) (h3 : s.asked ≠ []) : s.tick = (s.tick1.fail, [(4, emp)]) := by
  unfold KS.tick
  rw [if_neg (by omega), if_neg (by omega), if_pos h2, if_neg h3]
theorem tr_quiet (F M k : Nat) (h : k + 1 < M) : (trN F M k).tick = (trN F M (k + 1), []) := by
  unfold trN
  rw [if_pos (by omega), if_pos h, tick_q1 rfl (by show 1 + k + 1 < 1 + M; omega)]
  rfl
theorem tr_hang (F M k : Nat) (h : k + 1 = M) : (trN F M k).tick = (trN F M M, [(4, emp)]) := by
  unfold trN
  rw [if_pos (by omega), if_neg (Nat.lt_irrefl _), show M - 1 = k by omega, tick_h1 rfl (by show 1 + M ≤ 1 + k + 1; omega)]
theorem tr_end (F M : Nat) (h1 : 1 ≤ F) (h : F ≤ M) : (trN F M M).state = 0 ∧ (trN F M M).dueV = (trN F M M).clock + F ∧ (trN F M M).fails = 1 ∧ (trN F M M).clock < 2 + M := by
  unfold trN
  rw [if_neg (Nat.lt_irrefl _), tick_h1 rfl (by show 1 + M ≤ 1 + (M - 1) + 1; omega)]
  refine ⟨rfl, ?_, rfl, ?_⟩
  · show 1 + (M - 1) + 1 + min F M = 1 + (M - 1) + 1 + F
    omega
  · show 1 + (M - 1) + 1 < _
    omega
theorem told_idle (s : KS) (h : s.state = 0) (what : Int) : s.told what = (s, []) := by
  unfold KS.told
  rw [if_neg (by omega), if_neg (by omega), if_neg (by omega)]

theorem KF.bound {w : World} {F : Nat → Prop} {b : Nat} {s : KS} (h : KF w F b s) : KF w (fun k => F k ∧ k < w.heap.size) b s := by
  obtain ⟨⟨vn, vw, va, hkp, hb, hn, hw, ha⟩, ho⟩ := h
  exact ⟨⟨vn, vw, va, hkp, ⟨hb, hkp.blk.lt⟩, fun g hg => ⟨hn g hg, hkp.names.lt hg⟩, fun g hg => ⟨hw g hg, hkp.wants.lt hg⟩, fun g hg => ⟨ha g hg, hkp.asked.lt hg⟩⟩, ho⟩
set_option maxHeartbeats 1000000 in
set_option maxRecDepth 100000 in
theorem tries_ok (x y z : Int) (w : World) :
    Calls Try.prog 7 #[.int .i64 x, .int .i64 y, .int .i64 z] w fun e w' => e = .returned (.bool true) ∧ Below w.heap.size w w' := by
  obtain ⟨f, hf, ef⟩ := i64_low 4 (by omega) x 15 (by decide)
  obtain ⟨m, hm, em⟩ := i64_low 5 (by omega) y 31 (by decide)
  obtain ⟨t, ht, et⟩ := i64_low 2 (by omega) z 3 (by decide)
  simp only [Nat.reducePow] at hf hm ht
  go_enter Try.func7, Try.ntmps7
  go_wp2_with fail
  refine (awake_ok w).mono ?_
  rintro e w1 ⟨rfl, b1⟩
  go_wp2_with fail
  refine (newP [] _ (1 + f) (1 + f + m) 1 w w1 b1 (Sg.nil _ _) (by show 0 ≤ 1000; omega)).mono ?_
  rintro e w2 ⟨b, rfl, h2⟩
  clear b1
  go_wp2_with fail
  refine (tickP w b _ w2 h2 (by show 0 < 1000000000000; omega)).mono ?_
  rintro e w3 ⟨vo, rfl, h3, o3⟩
  rw [tr_new f m hf hm] at h3 o3
  clear h2
  go_wp2_with fail
  refine (same_ok [(1, emp)] [(1, emp)] vo _ _ (o3.below ?_) (lit_acts w3 _ 1 emp) (by show 1 ≤ 100; omega) (by show 1 ≤ 100; omega)).mono ?_
  · exact (Below.refl _ _).alloc (Nat.le_refl _) _
  rintro e w4 ⟨rfl, b4⟩
  have h4 := (h3.below ((Below.refl _ _).alloc (Nat.le_refl _) (.cells #[.int .i64 1, .string emp] 45))).below b4
  rw [decide_eq_true rfl]
  clear h3 o3 b4
  have h0 : KP w w4 b (trN (1 + f) (1 + f + m) 0) := by
    unfold trN
    rw [if_pos (by omega)]; exact h4
  clear h4
  go_wp2_with fail
  go_loopw [8] (fun vt wr => ∃ i : Nat, vt = .int .i64 (i : Nat) ∧ 1 ≤ i ∧ i ≤ 1 + f + m + 1 ∧ KP w wr b (trN (1 + f) (1 + f + m) (i - 1))) (fun vt _ => 1 + f + m + 1 - (intOf vt).toNat)
  case atStart => exact ⟨1, rfl, by omega, by omega, h0⟩
  case round =>
    clear h0
    obtain ⟨i, rfl, hi1, hi2, hk⟩ := hrel
    by_cases hgo : i ≤ 1 + f + m
    · obtain ⟨k, hk1⟩ : ∃ k, k + 1 = i := ⟨i - 1, by omega⟩
      rw [show i - 1 = k by omega] at hk
      have hcl : (trN (1 + f) (1 + f + m) k).clock < 1000000000000 := by
        unfold trN
        rw [if_pos (by omega)]
        show 1 + k < 1000000000000
        omega
      go_wp2_with fail
      refine (tickP w b _ wr hk hcl).mono ?_
      rintro e w5 ⟨vo, rfl, h5, o5⟩
      clear hk hcl
      by_cases hlt : i < 1 + f + m
      · rw [tr_quiet _ _ _ (by omega), hk1] at h5 o5
        obtain ⟨ao, cap, rfl⟩ : ∃ ao cap, vo = .slice ao 0 cap := by
          obtain ⟨_, ao, cap, hv, _⟩ := o5
          exact ⟨ao, cap, hv⟩
        clear o5
        have g1 : ((i : Int) < 1 + f + m) = True := eq_true (by omega)
        have g2 : ((i : Int) == 1 + f + m) = false := beq_false_of_ne (by omega)
        have g3 : ((i : Int) = 1 + f + m) = False := eq_false (by omega)
        go_wp2_with fail
        go_roundw
        case rel => exact ⟨i + 1, by go_num, by omega, by omega, h5⟩
        case measure => simp [intOf]; omega
      · have him : i = 1 + f + m := by omega
        rw [tr_hang _ _ _ (by omega)] at h5 o5
        have g1 : ((i : Int) < 1 + f + m) = False := eq_false (by omega)
        have g2 : ((i : Int) == 1 + f + m) = true := by simp; omega
        have g3 : ((i : Int) = 1 + f + m) = True := eq_true (by omega)
        go_wp2_with fail
        refine (same_ok [(4, emp)] [(4, emp)] vo _ _ (o5.below ?_) (lit_acts w5 _ 4 emp) (by show 1 ≤ 100; omega) (by show 1 ≤ 100; omega)).mono ?_
        · exact (Below.refl _ _).alloc (Nat.le_refl _) _
        rintro e w6 ⟨rfl, b6⟩
        have h6 := (h5.below ((Below.refl _ _).alloc (Nat.le_refl _) (.cells #[.int .i64 4, .string emp] 45))).below b6
        rw [decide_eq_true rfl]
        clear h5 o5 b6
        go_wp2_with fail
        go_roundw
        case rel => exact ⟨i + 1, by go_num, by omega, by omega, by rw [Nat.add_sub_cancel, him]; exact h6⟩
        case measure => simp [intOf]; omega
    · obtain rfl : i = 1 + f + m + 1 := by omega
      rw [Nat.add_sub_cancel] at hk
      obtain ⟨z1, z2, z3, z4⟩ := tr_end (1 + f) (1 + f + m) (by omega) (by omega)
      obtain ⟨s, hs⟩ : ∃ s, s = trN (1 + f) (1 + f + m) (1 + f + m) := ⟨_, rfl⟩
      rw [← hs] at z1 z2 z3 z4 hk
      clear hs
      go_wp2_with fail
      refine (varsP w b s wr hk).mono ?_
      rintro e w5 ⟨vh, rfl, g5, h5⟩
      clear hk
      unfold vcells
      obtain ⟨ao, cap, rfl⟩ : ∃ ao cap, vh = .slice ao s.held.length cap := by
        obtain ⟨_, ao, cap, hv, _⟩ := g5
        exact ⟨ao, cap, hv⟩
      clear g5
      go_wp2_with fail
      have H5 : Below w5.heap.size w5 (w5.alloc (.cells (#[.int .i64 0, .int .i64 s.clock, .int .i64 (s.clock + (1 + f)), .int .i64 1, .int .i64 s.asked.length, .slice ao s.held.length cap]) 47)) := (Below.refl _ _).alloc (Nat.le_refl _) _
      have B6 : Blk (w5.alloc (.cells (#[.int .i64 0, .int .i64 s.clock, .int .i64 (s.clock + (1 + f)), .int .i64 1, .int .i64 s.asked.length, .slice ao s.held.length cap]) 47)) w5.heap.size 47 [.int .i64 0, .int .i64 s.clock, .int .i64 (s.clock + (1 + f)), .int .i64 1, .int .i64 s.asked.length, .slice ao s.held.length cap] := Blk.new w5 _ _
      generalize hw6 : w5.alloc (.cells (#[.int .i64 0, .int .i64 s.clock, .int .i64 (s.clock + (1 + f)), .int .i64 1, .int .i64 s.asked.length, .slice ao s.held.length cap]) 47) = w6 at *
      have k6 := h5.kf.bound.below H5
      have hb6 := h5.bel.trans (H5.mono h5.bel.size)
      clear hw6 h5 H5
      refine (toldF _ b s (1 + t) w6 k6).mono ?_
      rintro e w7 ⟨vo, rfl, a7⟩
      rw [told_idle s z1] at a7
      have B7 := a7.keeps.blk B6 (fun h => Nat.lt_irrefl _ h.2)
      have hb7 : Below w.heap.size w w7 := below_of_keeps hb6 (a7.keeps.mono fun k _ h => h.1)
      have h7 : KP w w7 b s := ⟨a7.kp.mono fun k h => h.elim (fun h => h.1) (fun h => by have := hb6.size; omega), hb7⟩
      have o7 := a7.out
      obtain ⟨ao2, cap2, rfl⟩ : ∃ ao cap, vo = .slice ao 0 cap := by
        obtain ⟨_, ao, cap, hv, _⟩ := o7
        exact ⟨ao, cap, hv⟩
      clear a7 k6 hb6 B6 o7 hb7
      go_wp2_with fail
      refine (varsF _ b s w7 h7.kf).mono ?_
      rintro e w8 ⟨vh, rfl, g8, _, H8⟩
      have B8 := B7.below H8 B7.lt
      have hb8 := h7.bel.trans (H8.mono h7.bel.size)
      obtain ⟨ao3, cap3, rfl⟩ : ∃ ao cap, vh = .slice ao s.held.length cap := by
        obtain ⟨_, ao, cap, hv, _⟩ := g8
        exact ⟨ao, cap, hv⟩
      unfold vcells
      rw [z1, z2, z3]
      clear g8 h7 B7 H8
      go_upto_region 18 with fail
      refine wp_gen (fun wx => Blk wx w5.heap.size 47 [.int .i64 0, .int .i64 s.clock, .int .i64 (s.clock + (1 + f)), .int .i64 1, .int .i64 s.asked.length, .slice ao s.held.length cap] ∧
        Blk wx w8.heap.size 47 [.int .i64 0, .int .i64 s.clock, .int .i64 (s.clock + (1 + f)), .int .i64 1, .int .i64 s.asked.length, .slice ao3 s.held.length cap3] ∧ Below w.heap.size w wx) ⟨B8.alloc _, Blk.new w8 _ _, hb8.alloc (by have := hb8.size; omega) _⟩ ?_
      rintro w9 ⟨p9, q9, hb9⟩
      have c0 := p9.cell 0 _ rfl
      have c1 := p9.cell 1 _ rfl
      have c2 := p9.cell 2 _ rfl
      have d0 := q9.cell 0 _ rfl
      have d2 := q9.cell 2 _ rfl
      have d3 := q9.cell 3 _ rfl
      clear B8 hb8 p9 q9
      go_wp2_with fail
      go_ret
      exact ⟨rfl, hb9⟩
end Go.Proofs.Ytaenfkekdhnakaa
