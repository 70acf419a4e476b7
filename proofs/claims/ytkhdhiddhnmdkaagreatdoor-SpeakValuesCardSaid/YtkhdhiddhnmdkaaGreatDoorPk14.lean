/-
The field's powers.
The field's elements of bytes, and their bytes.
The document's answer for layer 5: its numbers modulo p.
The document's numbers modulo p: Cut, Of, sums, products.
The document's numbers modulo p: Of, Add, Sub, Mul, Odd, Bytes, Power.
The document's numbers modulo p: Power, Invert, Minus1, Root.
The document's root.
-/
import Derived.Deep.LoopGhost
import Derived.Test.YtkhdhiddhnmdkaaGreatDoorPk13
import Derived.Test.YtkhdhiddhnmdkaaGreatDoorPk09
import Derived.Test.YtkhdhiddhnmdkaaGreatDoorPk10
namespace Go.Proofs.YtkhdhiddhnmdkaaGreatDoor
open Go.RowKit

theorem pw_step (a : List Nat) (E j : Nat) (hj : j < 255) : pwN a E (255 - j) = if E / 2 ^ j % 2 = 1 then mulF (mulF (pwN a E (254 - j)) (pwN a E (254 - j))) a else mulF (pwN a E (254 - j)) (pwN a E (254 - j)) := by
  rw [show 255 - j = (254 - j) + 1 by omega]
  show (if E / 2 ^ (254 - (254 - j)) % 2 = 1 then _ else _) = _
  rw [show 254 - (254 - j) = j by omega]
theorem expN_lt (less : Nat) (h : 1 ≤ less) : expN less < 2 ^ 255 := by
  have : 0 < 2 ^ 255 := Nat.pow_pos (by decide)
  unfold expN; omega
set_option maxHeartbeats 4000000 in
set_option maxRecDepth 100000 in
theorem el_power_ok (a : List Nat) (less shift : Nat) (w : World) (ha : Lm a (lv a % pP)) (h1 : 1 ≤ less) (h2 : less ≤ 256) (h3 : shift ≤ 8) :
    Calls Tryz.prog 73 #[ev a, .int .u64 less, .int .i64 shift] w fun e w' => e = .returned (ev (pwN a (expN less) (255 - shift))) ∧ Below w.heap.size w w' := by
  have HA := Lib.hid ha
  have HL := Lib.hid ha.len
  have PW := Lib.hid (fun n hn => ha.pow (expN less) (expN_lt less h1) n hn)
  have BH := Lib.hid (fun i => bit_high less i h1 h2)
  have BL := Lib.hid (fun i => bit_low less i h1 h2)
  clear ha
  show Calls _ _ #[.agg (uvals a).toArray, .int .u64 less, .int .i64 shift] _ _
  go_enter Tryz.func73, Tryz.ntmps73
  go_upto_region 1 with fail
  refine wp_gen (fun w0 => Hid (Blk w0 w.heap.size 70 (uvals a)) ∧ Hid (Blk w0 (w.heap.size + 1) 70 (uvals zero5)) ∧ Below w.heap.size w w0) ⟨((Blk.new w _ (uvals a)).alloc _), (Blk.new2 _ _ _ (uvals zero5)), below2 _ _ _⟩ ?_
  rintro w0 ⟨P0, P1, BB⟩
  have h00 := P1.out.lt
  go_wp2_with fail
  have hs1 : Calls Tryz.prog 37 #[.int .u64 1] w0 fun e w' => e = .returned (ev (smallN 1)) ∧ Below w0.heap.size w0 w' := el_small_ok 1 w0 (by decide)
  refine hs1.mono ?_
  rintro e w1 ⟨rfl, b1⟩
  obtain ⟨b7, hb7⟩ : ∃ b7, b7 = w1.heap.size := ⟨_, rfl⟩
  have hz1 := b1.size
  have hb73 : w.heap.size + 1 < b7 := by omega
  have EQ : Hid (ev (smallN 1) = .agg #[.int .u64 1, .int .u64 0, .int .u64 0, .int .u64 0, .int .u64 0]) := rfl
  rw [EQ.out]
  go_upto_region 2 with fail
  rw [← hb7]
  refine wp_gen (fun w2 => Hid (Blk w2 w.heap.size 70 (uvals a)) ∧ Hid (Blk w2 (w.heap.size + 1) 70 (uvals zero5)) ∧ Hid (Blk w2 b7 70 (uvals (pwN a (expN less) 0))) ∧ Below w.heap.size w w2) ⟨(P0.out.below b1 P0.out.lt).alloc _, (P1.out.below b1 P1.out.lt).alloc _, by rw [hb7]; exact Blk.new _ _ (uvals (smallN 1)), (BB.trans (b1.mono BB.size)).alloc (by omega) _⟩ ?_
  rintro w2 ⟨Q0, Q1, Q2, QB⟩
  clear P0 P1 BB b1 hb7 hz1 h00 EQ hs1
  have hlow : (256 : Int) - less = ((256 - less : Nat) : Int) := by omega
  have hlw : 256 - less < 256 := by omega
  go_wp2_with fail
  go_loopw [9] (fun vi wr => ∃ k : Nat, vi = .int .i64 ((k : Int) - 1) ∧ shift ≤ k ∧ k ≤ 255 ∧ Hid (Blk wr w.heap.size 70 (uvals a)) ∧ Hid (Blk wr (w.heap.size + 1) 70 (uvals zero5)) ∧ Hid (Blk wr b7 70 (uvals (pwN a (expN less) (255 - k)))) ∧ Below w.heap.size w wr) (fun vi _ => (intOf vi + 1).toNat)
  case atStart => exact ⟨255, rfl, by omega, by omega, Q0, Q1, Q2, QB⟩
  case round =>
    clear Q0 Q1 Q2 QB
    obtain ⟨k, rfl, hk1, hk2, q0, q1, q2, qb⟩ := hrel
    by_cases hgo : shift < k
    · obtain ⟨j, rfl⟩ : ∃ j, k = j + 1 := ⟨k - 1, by omega⟩
      rw [show ((j + 1 : Nat) : Int) - 1 = (j : Int) by omega]
      rw [show 255 - (j + 1) = 254 - j by omega] at q2
      have ST := Lib.hid (pw_step a (expN less) j (by omega))
      have LP := Lib.hid (PW.out (254 - j) (by omega))
      have LL := Lib.hid LP.out.len
      have L2 := Lib.hid (LP.out.mul LP.out)
      have LL2 := Lib.hid L2.out.len
      have LL3 := Lib.hid (L2.out.mul HA.out).len
      generalize pwN a (expN less) (254 - j) = o at *
      have hbit : (8 ≤ j ∧ Hid (expN less / 2 ^ j % 2 = 1)) ∨ (j < 8 ∧ bits .and .u64 (((256 - less : Nat) : Int) / 2 ^ j) 1 = 1 ∧ Hid (expN less / 2 ^ j % 2 = 1)) ∨ (j < 8 ∧ bits .and .u64 (((256 - less : Nat) : Int) / 2 ^ j) 1 = 0 ∧ Hid (¬ expN less / 2 ^ j % 2 = 1)) := by
        rcases Nat.lt_or_ge j 8 with h8 | h8
        · have h := bits_and_u64_nat ((256 - less) / 2 ^ j) 1 (Nat.lt_of_le_of_lt (Nat.div_le_self ..) (by omega)) (by omega)
          rw [Nat.and_one_is_mod, Int.natCast_ediv, Int.natCast_pow] at h
          have h' : bits .and .u64 (((256 - less : Nat) : Int) / 2 ^ j) 1 = (((256 - less) / 2 ^ j % 2 : Nat) : Int) := h
          have hl := BL.out j h8
          by_cases e : (256 - less) / 2 ^ j % 2 = 1
          · rw [e] at h' hl
            exact .inr (.inl ⟨h8, h', hl⟩)
          · have e0 : (256 - less) / 2 ^ j % 2 = 0 := by omega
            rw [e0] at h' hl
            exact .inr (.inr ⟨h8, h', fun e => by unfold expN at e; omega⟩)
        · exact .inl ⟨h8, BH.out j h8 (by omega)⟩
      generalize 256 - less = lw at *
      go_wp2_with (refine load_el q2 LL rfl rfl rfl ?_)
      refine (el_square_ok o wr LP.out.own).mono ?_
      rintro e w3 ⟨rfl, b3⟩
      unfold ev
      have r0 := Lib.hid (q0.out.below b3 q0.out.lt)
      have r1 := Lib.hid (q1.out.below b3 q1.out.lt)
      have r2 := Lib.hid (q2.out.below b3 q2.out.lt)
      have rb := qb.trans (b3.mono qb.size)
      clear q0 q1 q2 qb b3
      go_upto_region 7 with (refine store_el r2 LL LL2 rfl rfl rfl rfl ?_)
      refine wp_gen (fun w4 => Hid (Blk w4 w.heap.size 70 (uvals a)) ∧ Hid (Blk w4 (w.heap.size + 1) 70 (uvals zero5)) ∧ Hid (Blk w4 b7 70 (uvals (mulF o o))) ∧ Below w.heap.size w w4) ⟨r0.out.farRow (by omega) _, r1.out.farRow (by omega) _, r2.out.setRow _, below_row rb _ _ (by omega)⟩ ?_
      rintro w4 ⟨q0, q1, q2, qb⟩
      clear r0 r1 r2 rb
      rcases hbit with ⟨h8, hb⟩ | ⟨h8, hbv, hb⟩ | ⟨h8, hbv, hb⟩
      · have SS : Hid (pwN a (expN less) (255 - j) = mulF (mulF o o) a) := by show _ = _; rw [ST.out, if_pos hb.out]
        have hd : decide ((8 : Int) ≤ j) = true := decide_eq_true (by omega)
        go_wp2_with (first | refine load_el q2 LL2 rfl rfl rfl ?_ | refine load_el q0 HL rfl rfl rfl ?_)
        refine (el_mul_ok (mulF o o) a w4 L2.out.own HA.out).mono ?_
        rintro e w5 ⟨rfl, b5⟩
        unfold ev
        have r0 := Lib.hid (q0.out.below b5 q0.out.lt)
        have r1 := Lib.hid (q1.out.below b5 q1.out.lt)
        have r2 := Lib.hid (q2.out.below b5 q2.out.lt)
        have rb := qb.trans (b5.mono qb.size)
        clear q0 q1 q2 qb b5
        go_wp2_with (refine store_el r2 LL2 LL3 rfl rfl rfl rfl ?_)
        go_roundw
        case rel => exact ⟨j, by go_num, by omega, by omega, r0.out.farRow (by omega) _, r1.out.farRow (by omega) _, by rw [SS.out]; exact r2.out.setRow _, below_row rb _ _ (by omega)⟩
        case measure => simp [intOf]
      · have SS : Hid (pwN a (expN less) (255 - j) = mulF (mulF o o) a) := by show _ = _; rw [ST.out, if_pos hb.out]
        have hd : decide ((8 : Int) ≤ j) = false := decide_eq_false (by omega)
        go_wp2_with (first | refine load_el q2 LL2 rfl rfl rfl ?_ | refine load_el q0 HL rfl rfl rfl ?_)
        refine (el_mul_ok (mulF o o) a w4 L2.out.own HA.out).mono ?_
        rintro e w5 ⟨rfl, b5⟩
        unfold ev
        have r0 := Lib.hid (q0.out.below b5 q0.out.lt)
        have r1 := Lib.hid (q1.out.below b5 q1.out.lt)
        have r2 := Lib.hid (q2.out.below b5 q2.out.lt)
        have rb := qb.trans (b5.mono qb.size)
        clear q0 q1 q2 qb b5
        go_wp2_with (refine store_el r2 LL2 LL3 rfl rfl rfl rfl ?_)
        go_roundw
        case rel => exact ⟨j, by go_num, by omega, by omega, r0.out.farRow (by omega) _, r1.out.farRow (by omega) _, by rw [SS.out]; exact r2.out.setRow _, below_row rb _ _ (by omega)⟩
        case measure => simp [intOf]
      · have SS : Hid (pwN a (expN less) (255 - j) = mulF o o) := by show _ = _; rw [ST.out, if_neg hb.out]
        have hd : decide ((8 : Int) ≤ j) = false := decide_eq_false (by omega)
        go_wp2_with fail
        go_roundw
        case rel => exact ⟨j, by go_num, by omega, by omega, q0, q1, by rw [SS.out]; exact q2, qb⟩
        case measure => simp [intOf]
    · obtain rfl : k = shift := by omega
      have LP := Lib.hid (PW.out (255 - k) (by omega))
      have LL := Lib.hid LP.out.len
      obtain ⟨o, ho⟩ : ∃ o, o = pwN a (expN less) (255 - k) := ⟨_, rfl⟩
      rw [← ho] at LP LL q2
      have HO := Lib.hid ho
      clear ho
      go_wp2_with (first | refine load_el q2 LL rfl rfl rfl ?_ | refine store_el q1 hz5 LL rfl rfl rfl rfl ?_)
      exact ret_el rfl (q1.out.setRow _) LL.out rfl rfl ⟨by rw [HO.out], below_row qb _ _ (by omega)⟩
end Go.Proofs.YtkhdhiddhnmdkaaGreatDoor

namespace Go.Proofs.YtkhdhiddhnmdkaaGreatDoor
open Go.RowKit

theorem le8_bit' (l : List UInt8) (i : Nat) (h : i < 8 * l.length) : (l.getD (i / 8) 0).toNat / 2 ^ (i % 8) % 2 = le8 l / 2 ^ i % 2 := by
  have h2 : i / 8 < l.length := by omega
  have e : le8 l = le8 (l.take (i / 8)) + 256 ^ (i / 8) * ((l.getD (i / 8) 0).toNat + 256 * le8 (l.drop (i / 8 + 1))) := by
    conv => lhs; rw [← List.take_append_drop (i / 8) l]
    rw [le8_append, List.length_take, Nat.min_eq_left (Nat.le_of_lt h2), List.drop_eq_getElem_cons h2, le8]
    simp [h2]
  have hlt := le8_lt (l.take (i / 8))
  rw [List.length_take, Nat.min_eq_left (Nat.le_of_lt h2)] at hlt
  have ep : 2 ^ i = 256 ^ (i / 8) * 2 ^ (i % 8) := by
    rw [show (256 : Nat) = 2 ^ 8 from rfl, ← Nat.pow_mul, ← Nat.pow_add]
    congr 1; omega
  rw [e, ep, ← Nat.div_div_eq_div_mul, Nat.add_mul_div_left _ _ (Nat.pow_pos (by decide)), Nat.div_eq_of_lt hlt, Nat.zero_add]
  generalize (l.getD (i / 8) 0).toNat = x
  generalize le8 (l.drop (i / 8 + 1)) = y
  have h8 : i % 8 < 8 := Nat.mod_lt _ (by omega)
  obtain ⟨c, hc⟩ : ∃ c, 8 = i % 8 + (c + 1) := ⟨7 - i % 8, by omega⟩
  generalize i % 8 = r at *
  have e2 : 256 * y = 2 ^ r * (2 * (2 ^ c * y)) := by
    rw [show (256 : Nat) = 2 ^ 8 from rfl, hc, Nat.pow_add, Nat.pow_succ]
    simp only [Nat.mul_assoc, Nat.mul_left_comm]
  rw [e2, Nat.add_mul_div_left _ _ (Nat.pow_pos (by decide)), Nat.add_mul_mod_self_left]
/-- the bytes that count -/
def ofB (s : ByteArray) : Nat := le8 (s.data.toList.take 32)
theorem u64_or_low (x y k : Nat) (hx : x < 2 ^ k) (hk : k ≤ 62) (hy : y < 2) : bits .or .u64 (x : Int) ((y : Int) * 2 ^ k) = ((x + y * 2 ^ k : Nat) : Int) := by
  have hp : 2 ^ k ≤ 2 ^ 62 := Nat.pow_le_pow_right (by decide) hk
  have hy2 : y * 2 ^ k ≤ 1 * 2 ^ k := Nat.mul_le_mul_right _ (by omega)
  have h := bits_or_u64_nat x (y * 2 ^ k) (by omega) (by omega)
  have e : x ||| y * 2 ^ k = x + y * 2 ^ k := by
    rw [Nat.or_comm, Nat.mul_comm, ← Nat.two_pow_add_eq_or_of_lt hx, Nat.add_comm]
  rw [e] at h
  rw [← h]; simp

theorem bits_and_u8_one (a : Nat) (h : a < 256) : bits .and .u8 (a : Int) 1 = ((a % 2 : Nat) : Int) := by
  have := u8_and_nat a 1 h (by omega)
  rw [Nat.and_one_is_mod] at this
  exact this
set_option maxHeartbeats 4000000 in
set_option maxRecDepth 100000 in
theorem of_el (s : ByteArray) (w : World) :
    Calls Tryz.prog 36 #[.string s] w fun e w' => e = .returned (ev (ofN (ofB s))) ∧ Below w.heap.size w w' := by
  obtain ⟨n, hn, hn32, hns, hns2⟩ : ∃ n : Nat, min (s.size : Int) 32 = n ∧ n ≤ 32 ∧ n ≤ s.size ∧ (n = 32 ∨ n = s.size) := ⟨min s.size 32, by omega, by omega, by omega, by omega⟩
  have HBIT : Hid (∀ i, i < 8 * n → (s.data.toList.getD (i / 8) 0).toNat / 2 ^ (i % 8) % 2 = ofB s / 2 ^ i % 2) := fun i hi => by
    have h := le8_bit' (s.data.toList.take 32) i (by rw [List.length_take, Array.length_toList]; show i < 8 * min 32 s.size; omega)
    unfold ofB
    rw [← h, List.getD_eq_getElem?_getD, List.getD_eq_getElem?_getD, List.getElem?_take_of_lt (by omega)]
  have HLT : Hid (ofB s < 2 ^ (8 * n)) := by
    show _ < _
    have h := le8_lt (s.data.toList.take 32)
    rw [List.length_take, Array.length_toList, show (256 : Nat) = 2 ^ 8 from rfl, ← Nat.pow_mul] at h
    have e : min 32 s.data.size = n := by show min 32 s.size = n; omega
    rw [e] at h
    exact h
  have BYT := Lib.hid (byte_at s)
  have EOF' : Hid (ofN (ofB s) = digs 51 5 (ofB s % 2 ^ 255)) := rfl
  generalize ofB s = N at *
  go_enter Tryz.func36, Tryz.ntmps36
  go_upto_region 2 with fail
  refine wp_gen (fun w0 => Hid (Blk w0 w.heap.size 70 (uvals zero5)) ∧ Hid (Blk w0 (w.heap.size + 1) 70 (uvals (digs 51 5 (N % 2 ^ 0)))) ∧ Below w.heap.size w w0) ⟨((Blk.new w _ (uvals zero5)).alloc _), by rw [Nat.pow_zero, Nat.mod_one]; exact (Blk.new2 _ _ _ (uvals zero5)), below2 _ _ _⟩ ?_
  rintro w0 ⟨P0, P1, BB⟩
  clear hn
  go_cut [9, 10] (fun v9 v10 wx => v9 = .int .i64 n ∧ v10 = .int .i64 0 ∧ wx = w0)
  case first =>
    rcases Nat.lt_or_ge 32 s.size with h32 | h32
    all_goals
      go_wp2_with fail
      go_meet
      exact ⟨elval_int (by omega), rfl, rfl⟩
  case rest =>
  obtain ⟨rfl, rfl, rfl⟩ := hcut
  rename World => w0
  go_wp2_with fail
  go_loopw [10] (fun vi wr => ∃ i : Nat, i ≤ n ∧ vi = .int .i64 i ∧ Hid (Blk wr w.heap.size 70 (uvals zero5)) ∧ Hid (Blk wr (w.heap.size + 1) 70 (uvals (digs 51 5 (N % 2 ^ (min (8 * i) 255))))) ∧ Below w.heap.size w wr) (fun vi _ => n - (intOf vi).toNat)
  case atStart => exact ⟨0, by omega, rfl, P0, P1, BB⟩
  case round =>
    clear P0 P1 BB
    obtain ⟨i, hi, rfl, q0, q1, qb⟩ := hrel
    by_cases hgo : i < n
    · have hby := BYT.out i (by omega)
      have his : i < s.size := by omega
      have hltb := (s[i]).toNat_lt
      go_wp2_with fail
      go_loopw [13] (fun vk wr => ∃ k : Nat, k ≤ 8 ∧ vk = .int .i64 k ∧ Hid (Blk wr w.heap.size 70 (uvals zero5)) ∧ Hid (Blk wr (w.heap.size + 1) 70 (uvals (digs 51 5 (N % 2 ^ (min (8 * i + k) 255))))) ∧ Below w.heap.size w wr) (fun vk _ => 8 - (intOf vk).toNat)
      case atStart => exact ⟨0, by omega, rfl, q0, q1, qb⟩
      case round =>
        clear q0 q1 qb
        obtain ⟨k, hk, rfl, q0, q1, qb⟩ := hrel
        by_cases hgk : k < 8
        · have HB := HBIT.out (8 * i + k) (by omega)
          rw [show (8 * i + k) / 8 = i by omega, show (8 * i + k) % 8 = k by omega, hby] at HB
          go_upto_region 9 with fail
          obtain ⟨t, ht⟩ : ∃ t, t = 8 * i + k := ⟨_, rfl⟩
          rw [show (8 * (i : Int) + k) = (t : Int) by omega]
          rw [← ht] at HB q1
          have HT := Lib.hid ht
          by_cases ht255 : t < 255
          · rw [Nat.min_eq_left (by omega)] at q1
            obtain ⟨D1, D2⟩ := digs_bit 51 5 (N % 2 ^ t) (N / 2 ^ t % 2) t (by omega) (Nat.mod_lt _ (Nat.pow_pos (by decide))) (by omega) (by omega)
            rw [mod_next] at D1
            have c0 := q1.out.ucell (t / 51) (by rw [digs_length]; omega)
            have f0 := q1.out.free (t / 51)
            have hb2 : N / 2 ^ t % 2 < 2 := Nat.mod_lt _ (by omega)
            have h51 : t % 51 < 51 := Nat.mod_lt _ (by omega)
            have hor := u64_or_low ((digs 51 5 (N % 2 ^ t)).getD (t / 51) 0) (N / 2 ^ t % 2) (t % 51) D2 (by omega) hb2
            have hand : bits .and .u8 (((s[i]).toNat : Int) / 2 ^ k) 1 = ((N / 2 ^ t % 2 : Nat) : Int) := by
              have h := bits_and_u8_one ((s[i]).toNat / 2 ^ k) (Nat.lt_of_le_of_lt (Nat.div_le_self ..) hltb)
              rw [HB, Int.natCast_ediv, Int.natCast_pow] at h
              exact h
            have N1 := Lib.hid (q1.out.uset (t / 51) ((digs 51 5 (N % 2 ^ t)).getD (t / 51) 0 + N / 2 ^ t % 2 * 2 ^ (t % 51)))
            rw [D1] at N1
            have hx51 : (digs 51 5 (N % 2 ^ t)).getD (t / 51) 0 < 2251799813685248 := by
              have : 2 ^ (t % 51) ≤ 2 ^ 51 := Nat.pow_le_pow_right (by decide) (by omega)
              omega
            have hwr : IntKind.u64.wrap (((N / 2 ^ t % 2 : Nat) : Int) * 2 ^ (t % 51)) = ((N / 2 ^ t % 2 : Nat) : Int) * 2 ^ (t % 51) := by
              have hp : 2 ^ (t % 51) ≤ 2 ^ 51 := Nat.pow_le_pow_right (by decide) (by omega)
              have hq : N / 2 ^ t % 2 * 2 ^ (t % 51) ≤ 1 * 2 ^ (t % 51) := Nat.mul_le_mul_right _ (by omega)
              have e : ((N / 2 ^ t % 2 : Nat) : Int) * 2 ^ (t % 51) = ((N / 2 ^ t % 2 * 2 ^ (t % 51) : Nat) : Int) := by simp
              rw [e]
              show (_ : Int) % 18446744073709551616 = _
              omega
            generalize (digs 51 5 (N % 2 ^ t)).getD (t / 51) 0 = x at *
            generalize N / 2 ^ t % 2 = bt at *
            have M0 := Lib.hid ((q0.out.far (show w.heap.size ≠ w.heap.size + 1 by omega) (t / 51) (.int .u64 (x + bt * 2 ^ (t % 51) : Nat))).drew 1)
            have M1 := Lib.hid (N1.out.drew 1)
            have M2 := below_drewN (below_set' qb (w.heap.size + 1) (t / 51) (.int .u64 (x + bt * 2 ^ (t % 51) : Nat)) (by omega)) 1
            generalize x + bt * 2 ^ (t % 51) = z at *
            clear D1 D2 HB ht N1 q0 q1 qb
            go_wp2_with fail
            (refine still_tail 18 (by kernel_rfl) (by kernel_rfl) ?_; simp only [List.take_succ_cons, List.take_zero, List.drop_succ_cons, List.drop_zero]; repeat (refine wpStill_step (fun K hK => ?_); go_simp; (try go_ints); (try simp only [↓IntWalk.iteOmega, true_and]); (with_reducible apply hK); clear hK K)); refine wpStill_nil ?_
            go_wp2_with fail
            go_roundw
            case rel => exact ⟨k + 1, by omega, by go_num, M0, by rw [Nat.min_eq_left (by have := HT.out; omega), show 8 * i + (k + 1) = t + 1 by have := HT.out; omega]; exact M1, M2⟩
            case measure => simp [intOf]; omega
          · rw [Nat.min_eq_right (by omega)] at q1
            clear HB ht
            go_wp2_with fail
            go_roundw
            case rel => exact ⟨k + 1, by omega, by go_num, q0, by rw [Nat.min_eq_right (by have := HT.out; omega)]; exact q1, qb⟩
            case measure => simp [intOf]; omega
        · obtain rfl : k = 8 := by omega
          go_wp2_with fail
          go_roundw
          case rel => exact ⟨i + 1, by omega, by go_num, q0, by rw [show 8 * (i + 1) = 8 * i + 8 by omega]; exact q1, qb⟩
          case measure => simp [intOf]; omega
    · obtain rfl : i = n := by omega
      have LL : Hid ((digs 51 5 (N % 2 ^ (min (8 * i) 255))).length = 5) := digs_length _ _ _
      have EE : Hid (digs 51 5 (N % 2 ^ (min (8 * i) 255)) = ofN N) := by
        show _ = _
        rw [EOF'.out]
        congr 1
        rcases Nat.le_total (8 * i) 255 with h | h
        · rw [Nat.min_eq_left h, Nat.mod_eq_of_lt HLT.out, Nat.mod_eq_of_lt (Nat.lt_of_lt_of_le HLT.out (Nat.pow_le_pow_right (by decide) h))]
        · rw [Nat.min_eq_right h]
      obtain ⟨z, hz⟩ : ∃ z, z = digs 51 5 (N % 2 ^ (min (8 * i) 255)) := ⟨_, rfl⟩
      rw [← hz] at LL EE q1
      clear hz HBIT HLT EOF'
      go_wp2_with (first | refine load_el q1 LL rfl rfl rfl ?_ | refine store_el q0 hz5 LL rfl rfl rfl rfl ?_)
      exact ret_el rfl (q0.out.setRow _) LL.out rfl rfl ⟨by rw [EE.out], below_row qb _ _ (by omega)⟩
end Go.Proofs.YtkhdhiddhnmdkaaGreatDoor

namespace Go.Proofs.YtkhdhiddhnmdkaaGreatDoor
open Go.RowKit

def Lim : Nat := 65536 ^ 64
theorem num_nil (w : World) : Num w (.slice none 0 0) 0 := ⟨[], ⟨Sm.nil, none, 0, rfl, Nat.le_refl _, Nat.zero_le _, fun _i hi => absurd hi (Nat.not_lt_zero _)⟩, Can.nil, rfl⟩
theorem lim_p : pP < Lim := by decide
theorem lim_of {x : Nat} (h : x < pP) : x < Lim := Nat.lt_trans h lim_p

theorem getD_set' (w : List Nat) (i d j : Nat) (hi : i < w.length) : (w.set i d).getD j 0 = if j = i then d else w.getD j 0 := by
  rw [List.getD_eq_getElem?_getD]
  by_cases e : j = i
  · subst e; rw [if_pos rfl, List.getElem?_set_self hi]; rfl
  · rw [if_neg e, List.getElem?_set_ne (Ne.symm e), List.getD_eq_getElem?_getD]
/-! ### the lowest 255 bits -/
def lowL (l : List Nat) : List Nat := (l.take 16).set 15 ((l.take 16).getD 15 0 % 32768)
theorem lowL_val {l : List Nat} (hs : Sm l) (h : 16 ≤ l.length) : bv (lowL l) = bv l % 2 ^ 255 ∧ Sm (lowL l) ∧ (lowL l).length = 16 := by
  have hl : (l.take 16).length = 16 := by rw [List.length_take]; omega
  have hst := hs.take 16
  refine ⟨?_, hst.set 15 _ (by omega), by unfold lowL; rw [List.length_set, hl]⟩
  have h1 := bv_set (l.take 16) 15 ((l.take 16).getD 15 0 % 32768) (by omega)
  have h2 := bv_take_drop l 16 h
  have h3 := bv_take_drop (l.take 16) 15 (by omega)
  have hd : (l.take 16).drop 15 = [(l.take 16).getD 15 0] := by
    rw [List.drop_eq_getElem_cons (by omega), List.drop_of_length_le (by omega)]
    simp [List.getD_eq_getElem?_getD, hl]
  rw [hd, bv_cons, bv_nil, Nat.mul_zero, Nat.add_zero] at h3
  have h4 := bv_lt (hst.take 15)
  rw [List.length_take, hl] at h4
  have h5 : min 15 16 = 15 := rfl
  rw [h5] at h4
  have e1 : (65536 : Nat) ^ 15 = 2 ^ 240 := by decide
  have e2 : (65536 : Nat) ^ 16 = 2 ^ 256 := by decide
  rw [e1] at h1 h3 h4
  rw [e2] at h2
  unfold lowL
  generalize (l.take 16).getD 15 0 = d at *
  generalize bv ((l.take 16).set 15 (d % 32768)) = X at *
  generalize bv (List.take 15 (l.take 16)) = Y at *
  generalize bv (l.take 16) = Z at *
  generalize bv (l.drop 16) = W at *
  omega
theorem can_255 {l : List Nat} (h : Can l) : (16 < l.length ∨ l.length = 16 ∧ 32768 ≤ l.getD 15 0) ↔ 2 ^ 255 ≤ bv l := by
  have e1 : (65536 : Nat) ^ 15 = 2 ^ 240 := by decide
  have e2 : (65536 : Nat) ^ 16 = 2 ^ 256 := by decide
  rcases Nat.lt_trichotomy l.length 16 with h1 | h1 | h1
  · have h2 := bv_lt h.1
    have h3 : 65536 ^ l.length ≤ 65536 ^ 15 := Nat.pow_le_pow_right (by decide) (by omega)
    rw [e1] at h3
    omega
  · have h3 := bv_take_drop l 15 (by omega)
    have hd : l.drop 15 = [l.getD 15 0] := by
      rw [List.drop_eq_getElem_cons (by omega), List.drop_of_length_le (by omega)]
      simp [List.getD_eq_getElem?_getD, h1]
    rw [hd, bv_cons, bv_nil, Nat.mul_zero, Nat.add_zero, e1] at h3
    have h4 := bv_lt (h.1.take 15)
    rw [List.length_take, h1, show min 15 16 = 15 from rfl, e1] at h4
    generalize l.getD 15 0 = d at *
    generalize bv (l.take 15) = Y at *
    omega
  · have h2 := h.lower (fun e => by rw [e] at h1; simp at h1)
    have h3 : 65536 ^ 16 ≤ 65536 ^ (l.length - 1) := Nat.pow_le_pow_right (by decide) (by omega)
    rw [e2] at h3
    omega
theorem wp_gen5 {P : Program} {c : Code} {Q : Exit → Act → World → Prop} {a : Act} {W : World} (R : World → Prop) (h : R W) (k : ∀ w1, R w1 → Code.wp P c Q a w1) : Code.wp P c Q a W := k W h
end Go.Proofs.YtkhdhiddhnmdkaaGreatDoor

namespace Go.Proofs.YtkhdhiddhnmdkaaGreatDoor
open Go.RowKit

theorem cut_step {A : Nat} (h : 2 ^ 255 ≤ A) : (A % 2 ^ 255 + A / 2 ^ 255 * 19) % pP = A % pP ∧ A % 2 ^ 255 + A / 2 ^ 255 * 19 < A := by
  have e := Nat.mod_add_div A (2 ^ 255)
  have e2 := pP_eq
  refine ⟨?_, ?_⟩
  · have e3 : A = (A % 2 ^ 255 + A / 2 ^ 255 * 19) + pP * (A / 2 ^ 255) := by
      have h1 : 2 ^ 255 * (A / 2 ^ 255) = pP * (A / 2 ^ 255) + 19 * (A / 2 ^ 255) := by rw [← Nat.add_mul, e2]
      omega
    conv => rhs; rw [e3]
    rw [Nat.add_mul_mod_self_left]
  · omega
theorem cut_end {A : Nat} (h : A < 2 ^ 255) : A % pP = if pP ≤ A then A - pP else A := by
  have e := pP_eq
  have hb := pP_big
  split
  · rename_i h1
    rw [Nat.mod_eq_sub_mod h1, Nat.mod_eq_of_lt (by omega)]
  · rename_i h1
    exact Nat.mod_eq_of_lt (by omega)
end Go.Proofs.YtkhdhiddhnmdkaaGreatDoor

namespace Go.Proofs.YtkhdhiddhnmdkaaGreatDoor
open Go.RowKit

theorem lim_256 {x : Nat} (h : x < 2 ^ 256) : x < Lim := Nat.lt_trans h (by decide)
theorem lim_255 {x : Nat} (h : x < 2 ^ 255) : x < Lim := Nat.lt_trans h (by decide)
theorem p_255 {x : Nat} (h : x < pP) : x < 2 ^ 255 := by have := pP_eq; omega
theorem lim_mul {x y : Nat} (h : x < 2 ^ 256) (g : y < 2 ^ 256) : x * y < Lim := by
  have : x * y < 2 ^ 256 * 2 ^ 256 := by
    rcases Nat.eq_zero_or_pos y with rfl | hy
    · simp
    · exact Nat.lt_of_lt_of_le (Nat.mul_lt_mul_of_pos_right h hy) (Nat.mul_le_mul_left _ (Nat.le_of_lt g))
  exact Nat.lt_trans this (by decide)
theorem num_odd_facts {w : World} {va : Value} {a : Nat} (h : Num w va a) : ∃ l : List Nat, DigAt w va l ∧ (a = 0 ↔ l = []) ∧ (l.getD 0 0 % 2 = a % 2) := by
  obtain ⟨l, d, c, rfl⟩ := h
  refine ⟨l, d, ⟨fun h => ?_, fun h => by rw [h]; rfl⟩, ?_⟩
  · cases l with
    | nil => rfl
    | cons x t =>
      have := c.lower (by simp)
      rw [h] at this
      have hp : 0 < 65536 ^ ((x :: t).length - 1) := Nat.pow_pos (by decide)
      omega
  · cases l with
    | nil => rfl
    | cons x t => simp [bv_cons]; omega
/-! ### powers: the digits' bits, highest first -/
theorem dig_bit {l : List Nat} (h : Sm l) (i : Nat) (hi : i < 16 * l.length) : l.getD (i / 16) 0 / 2 ^ (i % 16) % 2 = bv l / 2 ^ i % 2 := by
  have h1 := bv_take_drop l (i / 16) (by omega)
  have h2 := bv_lt (h.take (i / 16))
  rw [List.length_take, Nat.min_eq_left (by omega)] at h2
  have hd : l.drop (i / 16) = l.getD (i / 16) 0 :: l.drop (i / 16 + 1) := by
    rw [List.drop_eq_getElem_cons (by omega)]
    simp [List.getD_eq_getElem?_getD, show i / 16 < l.length by omega]
  rw [hd, bv_cons] at h1
  have h3 : l.getD (i / 16) 0 < 65536 := h.getD _
  generalize l.getD (i / 16) 0 = d at *
  generalize bv (l.drop (i / 16 + 1)) = R at *
  generalize bv (l.take (i / 16)) = L at *
  have e1 : (65536 : Nat) ^ (i / 16) = 2 ^ (16 * (i / 16)) := by rw [show (65536 : Nat) = 2 ^ 16 by decide, ← Nat.pow_mul]
  rw [e1] at h1 h2
  have e2 : 2 ^ i = 2 ^ (16 * (i / 16)) * 2 ^ (i % 16) := by rw [← Nat.pow_add, Nat.div_add_mod]
  rw [e2, ← Nat.div_div_eq_div_mul, h1, Nat.add_mul_div_left _ _ (Nat.pow_pos (by decide)), Nat.div_eq_of_lt h2, Nat.zero_add]
  have hm : i % 16 < 16 := Nat.mod_lt _ (by decide)
  have e3 : 65536 * R = 2 ^ (i % 16) * (2 * (2 ^ (15 - i % 16) * R)) := by
    have : (65536 : Nat) = 2 ^ (i % 16) * (2 * 2 ^ (15 - i % 16)) := by
      rw [← Nat.pow_succ', ← Nat.pow_add, show i % 16 + (15 - i % 16 + 1) = 16 by omega]
    conv => lhs; rw [this]
    rw [Nat.mul_assoc, Nat.mul_assoc]
  rw [e3, Nat.add_mul_div_left _ _ (Nat.pow_pos (by decide)), Nat.add_mul_mod_self_left]
end Go.Proofs.YtkhdhiddhnmdkaaGreatDoor

namespace Go.Proofs.YtkhdhiddhnmdkaaGreatDoor
open Go.RowKit

theorem pow_step (a E k : Nat) (h : E / 2 ^ k % 2 = 1) : a ^ (E / 2 ^ (k + 1)) % pP * (a ^ (E / 2 ^ (k + 1)) % pP) % pP * (a % pP) % pP = a ^ (E / 2 ^ k) % pP := by
  have e0 : E / 2 ^ (k + 1) = E / 2 ^ k / 2 := by rw [Nat.div_div_eq_div_mul, Nat.pow_succ]
  rw [e0]
  generalize E / 2 ^ k = X at *
  have e : X = X / 2 + X / 2 + 1 := by omega
  conv => rhs; rw [e, Nat.pow_succ, Nat.pow_add]
  rw [← Nat.mul_mod (a ^ (X / 2)), ← Nat.mul_mod]
theorem pow_step0 (a E k : Nat) (h : E / 2 ^ k % 2 = 0) : a ^ (E / 2 ^ (k + 1)) % pP * (a ^ (E / 2 ^ (k + 1)) % pP) % pP = a ^ (E / 2 ^ k) % pP := by
  have e0 : E / 2 ^ (k + 1) = E / 2 ^ k / 2 := by rw [Nat.div_div_eq_div_mul, Nat.pow_succ]
  rw [e0]
  generalize E / 2 ^ k = X at *
  have e : X = X / 2 + X / 2 := by omega
  conv => rhs; rw [e, Nat.pow_add]
  rw [← Nat.mul_mod]
theorem below_num {w w1 : World} {v : Value} {a : Nat} (h : Hid (Num w v a)) (b : Below w.heap.size w w1) : Hid (Num w1 v a) := h.out.below b
/-- two quotients are like only when they are the same -/
theorem cmp_ne (a b : Nat) : (cmpOf a b != 0) = decide (a ≠ b) := by
  unfold cmpOf
  split
  · rename_i h; rw [decide_eq_true (by omega)]; rfl
  · split
    · rename_i h1 h; rw [decide_eq_true (by omega)]; rfl
    · rename_i h1 h; rw [decide_eq_false (by omega)]; rfl
def evenR (r : Nat) : Nat := if r % 2 = 1 then (pP - r) % pP else r
theorem evenR_lt {r : Nat} (h : r < pP) : evenR r < pP := by unfold evenR; split; exact Nat.mod_lt _ pP_pos; exact h
def rM1 : Nat := evenR (2 ^ (pP / 2 ^ 2) % pP)
theorem rM1_lt : rM1 < pP := evenR_lt (Nat.mod_lt _ pP_pos)
def rRoot0 (x : Nat) : Nat := x ^ ((pP + 3) / 8) % pP
def rRoot1 (x : Nat) : Nat := if rRoot0 x * rRoot0 x % pP = x then rRoot0 x else rRoot0 x * rM1 % pP
theorem rRoot0_lt (x : Nat) : rRoot0 x < pP := Nat.mod_lt _ pP_pos
theorem rRoot1_lt (x : Nat) : rRoot1 x < pP := by unfold rRoot1; split; exact rRoot0_lt x; exact Nat.mod_lt _ pP_pos
def rGood (x : Nat) : Bool := decide (rRoot1 x * rRoot1 x % pP = x)
def rRoot (x : Nat) : Nat := if rGood x then evenR (rRoot1 x) else 0
end Go.Proofs.YtkhdhiddhnmdkaaGreatDoor

namespace Go.Proofs.YtkhdhiddhnmdkaaGreatDoor
open Go.RowKit

end Go.Proofs.YtkhdhiddhnmdkaaGreatDoor
