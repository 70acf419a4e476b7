/-
The document's products and its Sub.
-/
import Derived.Test.YteleedcpepifjaaDoorAesD
namespace Go.Proofs.YteleedcpepifjaaDoor
open Go.RowKit AesP
set_option maxRecDepth 100000
theorem dbl_fin : ∀ o : Fin 256, (if 255 < o.val * 2 then (o.val * 2) ^^^ 283 else o.val * 2) = tw o.val := by decide +kernel
theorem dbl_hi {o : Nat} (h : o < 256) (h2 : 255 < o * 2) : (o * 2) ^^^ 283 = tw o := by have := dbl_fin ⟨o, h⟩; dsimp only at this; rwa [if_pos h2] at this
theorem dbl_lo {o : Nat} (h : o < 256) (h2 : ¬ 255 < o * 2) : o * 2 = tw o := by have := dbl_fin ⟨o, h⟩; dsimp only at this; rwa [if_neg h2] at this
theorem mul_step (a b n o : Nat) : mulR a b (n + 1) o = mulR a b n (if b / 2 ^ n % 2 = 1 then tw o ^^^ a else tw o) := rfl
set_option maxHeartbeats 4000000 in
theorem rmul_ok (x y : Nat) (hx : x < 256) (w : World) : Calls Tryd.prog 30 #[.int .i64 x, .int .i64 y] w fun e w' => e = .returned (.int .i64 (mul x y : Nat)) ∧ w = w' := by
  go_enter Tryd.func30, Tryd.ntmps30
  go_wp2
  go_loop [5, 6] (fun o v => ∃ n ov : Nat, o = .int .i64 ov ∧ v = .int .i64 ((n : Int) - 1) ∧ n ≤ 8 ∧ ov < 256 ∧ Hid (mulR x y n ov = mul x y)) (fun _ v => (intOf v + 1).toNat)
  case atStart => exact ⟨8, 0, rfl, rfl, by omega, by decide, rfl⟩
  case round =>
    obtain ⟨n, ov, rfl, rfl, hn, ho, hm⟩ := hrel
    rcases Nat.eq_zero_or_pos n with h0 | h0
    · subst h0
      have e := hm.out
      rw [mulR] at e
      go_wp2_with fail
      go_ret
      exact ⟨by rw [← e]; rfl, rfl⟩
    · obtain ⟨k, rfl⟩ : ∃ k, n = k + 1 := ⟨n - 1, by omega⟩
      rw [show ((k + 1 : Nat) : Int) - 1 = (k : Int) by omega]
      have hst := hm.out
      rw [mul_step] at hst
      go_upto_if 14 with fail
      go_cut [5] (fun v wx => v = .int .i64 (tw ov : Nat) ∧ w = wx)
      case first =>
        by_cases h2 : 255 < ov * 2
        · have e1 := xor64 (ov * 2) 283 (by omega) (by decide)
          rw [dbl_hi ho h2] at e1
          push_cast at e1
          have E1 := Lib.hid e1
          clear e1
          go_wp2_with fail
          go_meet
          exact ⟨congrArg (Value.int .i64) E1.out, rfl⟩
        · have e1 := dbl_lo ho h2
          go_wp2_with fail
          go_meet
          exact ⟨congrArg (Value.int .i64) (by rw [← e1]; push_cast; rfl), rfl⟩
      case rest =>
        obtain ⟨rfl, rfl⟩ := hcut
        have ht := tw_lt ho
        have hd : ((y : Int) / 2 ^ k).tmod 2 = ((y / 2 ^ k % 2 : Nat) : Int) := by
          have e : (y : Int) / 2 ^ k = ((y / 2 ^ k : Nat) : Int) := by push_cast; rfl
          rw [e, Int.tmod_eq_emod_of_nonneg (Int.natCast_nonneg _)]
          push_cast; rfl
        have hxo := xor64 (tw ov) x (by omega) (by omega)
        have hxl := xor_lt ht hx
        have HXO := Lib.hid (And.intro hxo hxl)
        clear hxo hxl
        rcases Nat.mod_two_eq_zero_or_one (y / 2 ^ k) with hb | hb
        · rw [hb] at hd hst
          rw [if_neg (by decide)] at hst
          have HST := Lib.hid hst
          clear hst hb hm
          go_wp2_with fail
          go_round
          case rel => exact ⟨k, tw ov, rfl, rfl, by omega, ht, HST.out⟩
          case measure => simp [intOf]
        · rw [hb] at hd hst
          rw [if_pos rfl] at hst
          have HST := Lib.hid hst
          clear hst hb hm
          go_wp2_with fail
          go_round
          case rel => exact ⟨k, tw ov ^^^ x, congrArg (Value.int .i64) HXO.out.1, rfl, by omega, HXO.out.2, HST.out⟩
          case measure => simp [intOf]
theorem mulR_lt (a b : Nat) (ha : a < 256) : ∀ n o, o < 256 → mulR a b n o < 256
  | 0, _, h => h
  | n + 1, o, h => by
    rw [mul_step]
    refine mulR_lt a b ha n _ ?_
    split
    · exact xor_lt (tw_lt h) ha
    · exact tw_lt h
theorem mul_lt {a : Nat} (b : Nat) (ha : a < 256) : mul a b < 256 := mulR_lt a b ha 8 0 (by decide)
theorem powR_lt (x : Nat) : ∀ n, powR x n < 256
  | 0 => by show 1 < 256; decide
  | n + 1 => mul_lt _ (powR_lt x n)
theorem rot_lt {y : Nat} (h : y < 256) : rot y < 256 := by unfold rot; split <;> omega
theorem affR_step (n o y : Nat) : affR (n + 1) o y = affR n (o ^^^ y) (rot y) := rfl
set_option maxHeartbeats 4000000 in
theorem rsub_ok (x : Nat) (w : World) : Calls Tryd.prog 29 #[.int .i64 x] w fun e w' => e = .returned (.int .i64 (subN x : Nat)) ∧ w = w' := by
  go_enter Tryd.func29, Tryd.ntmps29
  go_wp2
  go_loop [3, 4] (fun y v => ∃ n : Nat, y = .int .i64 (powR x n : Nat) ∧ v = .int .i64 n ∧ n ≤ 254) (fun _ v => 254 - (intOf v).toNat)
  case atStart => exact ⟨0, rfl, rfl, by omega⟩
  case round =>
    obtain ⟨n, rfl, rfl, hn⟩ := hrel
    have hp := powR_lt x n
    have hstep : mul (powR x n) x = powR x (n + 1) := rfl
    have HSTEP := Lib.hid hstep
    clear hstep
    rcases Nat.lt_or_ge n 254 with h | h
    · go_wp2_with (go_at_call 30; refine (rmul_ok (powR x n) x hp _).mono ?_; rintro e w' ⟨rfl, rfl⟩)
      go_round
      case rel => exact ⟨n + 1, by rw [HSTEP.out], by go_num, by omega⟩
      case measure => simp [intOf]; omega
    · have h254 : n = 254 := by omega
      have hs : subN x = affR 5 99 (powR x n) := by rw [h254]; rfl
      have HS := Lib.hid hs
      clear HSTEP h254 hs
      generalize powR x n = y0 at *
      go_wp2_with fail
      go_loop [3, 5, 6] (fun y o v => ∃ k yv ov : Nat, y = .int .i64 yv ∧ o = .int .i64 ov ∧ v = .int .i64 ((5 : Int) - k) ∧ k ≤ 5 ∧ yv < 256 ∧ ov < 256 ∧ Hid (subN x = affR k ov yv)) (fun _ _ v => 5 - (intOf v).toNat)
      case atStart => exact ⟨5, y0, 99, rfl, rfl, rfl, by omega, hp, by decide, HS.out⟩
      case round =>
        obtain ⟨k, yv, ov, rfl, rfl, rfl, hk, hy, ho, hm⟩ := hrel
        rcases Nat.eq_zero_or_pos k with h0 | h0
        · subst h0
          go_wp2_with fail
          go_ret
          have e := hm.out
          rw [affR] at e
          exact ⟨by rw [e]; rfl, rfl⟩
        · obtain ⟨k, rfl⟩ : ∃ j, k = j + 1 := ⟨k - 1, by omega⟩
          rw [show (5 : Int) - ((k + 1 : Nat) : Int) = 4 - (k : Int) by omega]
          have hst := hm.out
          rw [affR_step] at hst
          have hxo := xor64 ov yv (by omega) (by omega)
          have hxl := xor_lt ho hy
          have hr := rot_lt hy
          have HST := Lib.hid (And.intro hst (And.intro hxo (And.intro hxl hr)))
          clear hst hxo hxl hr hm
          by_cases h2 : 255 < yv * 2
          · have hrot : rot yv = yv * 2 - 255 := by unfold rot; rw [if_pos h2]
            go_wp2_with fail
            go_round
            case rel => exact ⟨k, rot yv, ov ^^^ yv, congrArg (Value.int .i64) (by omega), congrArg (Value.int .i64) HST.out.2.1, congrArg (Value.int .i64) (by omega), by omega, HST.out.2.2.2, HST.out.2.2.1, HST.out.1⟩
            case measure => simp [intOf]; omega
          · have hrot : rot yv = yv * 2 := by unfold rot; rw [if_neg h2]
            go_wp2_with fail
            go_round
            case rel => exact ⟨k, rot yv, ov ^^^ yv, congrArg (Value.int .i64) (by omega), congrArg (Value.int .i64) HST.out.2.1, congrArg (Value.int .i64) (by omega), by omega, HST.out.2.2.2, HST.out.2.2.1, HST.out.1⟩
            case measure => simp [intOf]; omega
end Go.Proofs.YteleedcpepifjaaDoor
