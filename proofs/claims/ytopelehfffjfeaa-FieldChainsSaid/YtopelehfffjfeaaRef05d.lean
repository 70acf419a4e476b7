/-
The document's numbers modulo p: Power, Invert, Minus1, Root.
-/
import Derived.Test.YtopelehfffjfeaaRef05c
namespace Go.Proofs.Ytopelehfffjfeaa
open Go.RowKit

theorem pow_step (a E k : Nat) (h : E / 2 ^ k % 2 = 1) : a ^ (E / 2 ^ (k + 1)) % pP * (a ^ (E / 2 ^ (k + 1)) % pP) % pP * (a % pP) % pP = a ^ (E / 2 ^ k) % pP := by
  have e0 : E / 2 ^ (k + 1) = E / 2 ^ k / 2 := by rw [Nat.div_div_eq_div_mul, Nat.pow_succ]
  rw [e0]
  generalize E / 2 ^ k = X at *
  have e : X = X / 2 + X / 2 + 1 := by omega
  conv => rhs; rw [e, Nat.pow_succ, Nat.pow_add]
  rw [← Nat.mul_mod (a ^ (X / 2)), ← Nat.mul_mod]
theorem pow_step0 (a E k : Nat) (h : E / 2 ^ k % 2 = 0) : a ^ (E / 2 ^ (k + 1)) % pP * (a ^ (E / 2 ^ (k + 1)) % pP) % pP = a ^ (E / 2 ^ k) % pP := by
  have e0 : E / 2 ^ (k + 1) = E / 2 ^ k / 2 := by rw [Nat.div_div_eq_div_mul, Nat.pow_succ]
  rw [e0]
  generalize E / 2 ^ k = X at *
  have e : X = X / 2 + X / 2 := by omega
  conv => rhs; rw [e, Nat.pow_add]
  rw [← Nat.mul_mod]
set_option maxHeartbeats 2000000 in
set_option maxRecDepth 100000 in
theorem refPower_ok (va vn : Value) (a E : Nat) (w : World) (ha : Num w va a) (hn : Num w vn E) (la : a < pP) (le : E < Lim) :
    Calls Try.prog 50 #[va, vn] w fun e w' => ∃ v', e = .returned v' ∧ Num w' v' (a ^ E % pP) ∧ Below w.heap.size w w' := by
  have ha0 : a % pP = a := Nat.mod_eq_of_lt la
  have S1 := Lib.hid (fun k h => by have := pow_step a E k h; rw [ha0] at this; exact this)
  have S0 := Lib.hid (pow_step0 a E)
  have HA := Lib.hid ha
  have LA := Lib.hid la
  have HN := Lib.hid hn
  obtain ⟨l, hd, hc, hbv, hl64⟩ := num_digs (N := 64) hn le
  obtain ⟨hs, ao, cap, rfl, hlc, hcm, hcell⟩ := hd
  have HC := Lib.hid hcell
  have BIT := Lib.hid (fun i hi => by have := dig_bit hs i hi; rw [hbv] at this; exact this)
  have HS := Lib.hid hs
  have E0 : Hid (E / 2 ^ (16 * l.length) = 0) := Nat.div_eq_of_lt (by
    have := bv_lt hs
    rw [show (65536 : Nat) = 2 ^ 16 by decide, ← Nat.pow_mul, hbv] at this
    exact this)
  clear ha hn hbv hcell hs hc la le ha0
  go_enter Try.func50, Try.ntmps50
  go_wp2_with fail
  have hs1 : Calls Try.prog 53 #[.int .i64 1] w fun e w' => ∃ v', e = .returned v' ∧ Num w' v' 1 ∧ Below w.heap.size w w' := small_ok 1 w (by omega)
  refine hs1.mono ?_
  rintro e w1 ⟨v1, rfl, n1, b1⟩
  have N1 := Lib.hid n1
  clear hs1 n1
  go_wp2_with fail
  go_loopg [5, 6] (16 * l.length) (fun gk v5 v6 wr => v6 = .int .i64 ((gk : Int) - 1) ∧ gk ≤ 16 * l.length ∧ Hid (Num wr v5 (a ^ (E / 2 ^ gk) % pP)) ∧ Below w.heap.size w wr)
  case atStart => exact ⟨by go_num, Nat.le_refl _, by rw [E0.out, Nat.pow_zero]; exact N1.out, b1⟩
  case round =>
    clear N1 b1
    obtain ⟨rfl, hgk, hnum, hB⟩ := hrel
    cases gk with
    | zero =>
      have hd : decide ((0 : Int) ≤ ((0 : Nat) : Int) - 1) = false := rfl
      go_wp2_with fail
      go_ret
      exact ⟨_, rfl, by have := hnum.out; rw [Nat.pow_zero, Nat.div_one] at this; exact this, hB⟩
    | succ k =>
      rw [show ((k + 1 : Nat) : Int) - 1 = (k : Int) by omega]
      obtain ⟨b, off, rfl, hc0⟩ := HC.out (k / 16) (by omega)
      have BK := Lib.hid (BIT.out k (by omega))
      have LP : Hid (a ^ (E / 2 ^ (k + 1)) % pP < pP) := Nat.mod_lt _ pP_pos
      have LP2 : Hid (a ^ (E / 2 ^ (k + 1)) % pP * (a ^ (E / 2 ^ (k + 1)) % pP) % pP < pP) := Nat.mod_lt _ pP_pos
      have S1k := Lib.hid (S1.out k)
      have S0k := Lib.hid (S0.out k)
      generalize a ^ (E / 2 ^ (k + 1)) % pP = x at *
      have hk0 : Hid (l.getD (k / 16) 0 < 65536) := HS.out.getD _
      generalize hdg : l.getD (k / 16) 0 = d at *
      clear hdg
      have hk16 : k / 16 < l.length := by omega
      go_wp2_with fail
      refine (refMul_ok _ _ x x wr hnum.out hnum.out LP.out LP.out).mono ?_
      rintro e w2 ⟨v2, rfl, n2, b2⟩
      have N2 := Lib.hid n2
      have hB2 := hB.trans (b2.mono hB.size)
      clear n2 b2
      have c2 : w2.cell? ⟨b, off + k / 16, none⟩ = some (.int .i64 d) := by rw [hB2.cell (cell_lt hc0).1]; exact hc0
      clear hc0
      obtain ⟨q, hq⟩ : ∃ q, q = k / 16 := ⟨_, rfl⟩
      obtain ⟨r, hr⟩ : ∃ r, r = k % 16 := ⟨_, rfl⟩
      have hr16 : r < 16 := by omega
      have iq : (k : Int) / 16 = q := by omega
      have ir : (k : Int) % 16 = r := by omega
      rw [← hq] at c2 hk16
      rw [← hr] at BK
      clear hq hr
      have hbit : ((((d : Int) / 2 ^ r).tmod 2 == 1) = true ∧ Hid (E / 2 ^ k % 2 = 1)) ∨ ((((d : Int) / 2 ^ r).tmod 2 == 1) = false ∧ Hid (E / 2 ^ k % 2 = 0)) := by
        rw [← BK.out]
        have e : ((d : Int) / 2 ^ r).tmod 2 = ((d / 2 ^ r % 2 : Nat) : Int) := by
          rw [show (d : Int) / 2 ^ r = ((d / 2 ^ r : Nat) : Int) by rw [Int.natCast_ediv, Int.natCast_pow]; rfl]
          rfl
        rw [e]
        rcases Nat.mod_two_eq_zero_or_one (d / 2 ^ r) with h | h
        · right; rw [h]; exact ⟨rfl, rfl⟩
        · left; rw [h]; exact ⟨rfl, rfl⟩
      clear BK
      rcases hbit with ⟨hb, hB1⟩ | ⟨hb, hB0⟩
      · have X1 := Lib.hid (S1k.out hB1.out)
        go_wp2_with fail
        refine (refMul_ok _ _ _ _ w2 N2.out (HA.out.below hB2) LP2.out LA.out).mono ?_
        rintro e w3 ⟨v3, rfl, n3, b3⟩
        rw [X1.out] at n3
        have N3 := Lib.hid n3
        have hB3 := hB2.trans (b3.mono hB2.size)
        clear n3 b3
        go_wp2_with fail
        go_roundg k
        case rel => exact ⟨by go_num, by omega, N3, hB3⟩
        case measure => omega
      · have X0 := Lib.hid (S0k.out hB0.out)
        go_wp2_with fail
        go_roundg k
        case rel => exact ⟨by go_num, by omega, by rw [← X0.out]; exact N2, hB2⟩
        case measure => omega
theorem below_num {w w1 : World} {v : Value} {a : Nat} (h : Hid (Num w v a)) (b : Below w.heap.size w w1) : Hid (Num w1 v a) := h.out.below b
/-- two quotients are like only when they are the same -/
theorem cmp_ne (a b : Nat) : (cmpOf a b != 0) = decide (a ≠ b) := by
  unfold cmpOf
  split
  · rename_i h; rw [decide_eq_true (by omega)]; rfl
  · split
    · rename_i h1 h; rw [decide_eq_true (by omega)]; rfl
    · rename_i h1 h; rw [decide_eq_false (by omega)]; rfl
set_option maxRecDepth 20000 in
theorem refInvert_ok (va : Value) (a : Nat) (w : World) (ha : Num w va a) (la : a < pP) :
    Calls Try.prog 24 #[va] w fun e w' => ∃ v', e = .returned v' ∧ Num w' v' (a ^ (pP - 2) % pP) ∧ Below w.heap.size w w' := by
  have HA := Lib.hid ha
  have LA := Lib.hid la
  clear ha la
  obtain ⟨E, hE⟩ : ∃ E, E = pP - 2 := ⟨_, rfl⟩
  have LE : Hid (E < Lim) := by show _ < _; rw [hE]; exact Nat.lt_of_le_of_lt (Nat.sub_le _ _) lim_p
  rw [← hE]
  have HE := Lib.hid hE.symm
  clear hE
  go_enter Try.func24, Try.ntmps24
  go_wp2_with fail
  refine (refP_ok w).mono ?_
  rintro e w1 ⟨v1, rfl, n1, b1⟩
  have N1 := Lib.hid n1
  clear n1
  go_wp2_with fail
  have h2 : Calls Try.prog 53 #[.int .i64 2] w1 fun e w' => ∃ v', e = .returned v' ∧ Num w' v' 2 ∧ Below w1.heap.size w1 w' := small_ok 2 w1 (by omega)
  refine h2.mono ?_
  rintro e w2 ⟨v2, rfl, n2, b2⟩
  have N2 := Lib.hid n2
  clear h2 n2
  go_wp2_with fail
  refine (numSub_ok v1 v2 pP 2 w2 (N1.out.below b2) N2.out lim_p (by decide)).mono ?_
  rintro e w3 ⟨v3, rfl, n3, b3⟩
  rw [HE.out] at n3
  have N3 := Lib.hid n3
  clear n3
  go_wp2_with fail
  refine (refPower_ok va v3 a E w3 (((HA.out.below b1).below b2).below b3) N3.out LA.out LE.out).mono ?_
  rintro e w4 ⟨v4, rfl, n4, b4⟩
  have N4 := Lib.hid n4
  have hB4 : Below w.heap.size w w4 := b1.trans ((b2.trans ((b3.trans (b4.mono b3.size)).mono b2.size)).mono b1.size)
  clear n4 b1 b2 b3 b4
  go_wp2_with fail
  go_ret
  exact ⟨_, rfl, N4.out, hB4⟩
def evenR (r : Nat) : Nat := if r % 2 = 1 then (pP - r) % pP else r
theorem evenR_lt {r : Nat} (h : r < pP) : evenR r < pP := by unfold evenR; split; exact Nat.mod_lt _ pP_pos; exact h
def rM1 : Nat := evenR (2 ^ (pP / 2 ^ 2) % pP)
theorem rM1_lt : rM1 < pP := evenR_lt (Nat.mod_lt _ pP_pos)
set_option maxRecDepth 20000 in
theorem refMinus1_ok (w : World) :
    Calls Try.prog 61 #[] w fun e w' => ∃ v', e = .returned v' ∧ Num w' v' rM1 ∧ Below w.heap.size w w' := by
  obtain ⟨E, hE⟩ : ∃ E, E = pP / 2 ^ 2 := ⟨_, rfl⟩
  have LE : Hid (E < Lim) := by show _ < _; rw [hE]; exact Nat.lt_of_le_of_lt (Nat.div_le_self _ _) lim_p
  have HE := Lib.hid hE.symm
  obtain ⟨M, hM⟩ : ∃ M, M = rM1 := ⟨_, rfl⟩
  obtain ⟨r, hr⟩ : ∃ r, r = 2 ^ E % pP := ⟨_, rfl⟩
  have HM : Hid (M = evenR r) := by show _ = _; rw [hM, hr, hE, rM1]
  rw [← hM]
  have HR := Lib.hid hr.symm
  have LR : Hid (r < pP) := by show _ < _; rw [hr]; exact Nat.mod_lt _ pP_pos
  clear hM hE hr
  go_enter Try.func61, Try.ntmps61
  go_wp2_with fail
  have h1 : Calls Try.prog 53 #[.int .i64 2] w fun e w' => ∃ v', e = .returned v' ∧ Num w' v' 2 ∧ Below w.heap.size w w' := small_ok 2 w (by omega)
  refine h1.mono ?_
  rintro e w1 ⟨v1, rfl, n1, b1⟩
  have N1 := Lib.hid n1
  clear h1 n1
  go_wp2_with fail
  refine (refP_ok w1).mono ?_
  rintro e w2 ⟨v2, rfl, n2, b2⟩
  have N2 := Lib.hid n2
  clear n2
  go_wp2_with fail
  have h3 : Calls Try.prog 60 #[v2, .int .i64 2] w2 fun e w' => ∃ v', e = .returned v' ∧ Num w' v' (pP / 2 ^ 2) ∧ Below w2.heap.size w2 w' := numHalf_ok v2 pP 2 w2 N2.out lim_p (by omega)
  refine h3.mono ?_
  rintro e w3 ⟨v3, rfl, n3, b3⟩
  rw [HE.out] at n3
  have N3 := Lib.hid n3
  clear h3 n3
  go_wp2_with fail
  refine (refPower_ok v1 v3 2 E w3 ((N1.out.below b2).below b3) N3.out (by decide) LE.out).mono ?_
  rintro e w4 ⟨v4, rfl, n4, b4⟩
  rw [HR.out] at n4
  have N4 := Lib.hid n4
  have hB4 : Below w.heap.size w w4 := b1.trans ((b2.trans ((b3.trans (b4.mono b3.size)).mono b2.size)).mono b1.size)
  clear n4 b1 b2 b3 b4
  go_wp2_with fail
  refine (refOdd_ok v4 r w4 N4.out).mono ?_
  rintro e w5 ⟨rfl, rfl⟩
  by_cases ho : r % 2 = 1
  · have HO : Hid ((pP - r) % pP = M) := by show _ = _; rw [HM.out]; unfold evenR; rw [if_pos ho]
    rw [decide_eq_true ho]
    clear ho
    go_wp2_with fail
    have h6 : Calls Try.prog 30 #[.slice none 0 0, v4] w5 fun e w' => ∃ v', e = .returned v' ∧ Num w' v' ((pP - r) % pP) ∧ Below w5.heap.size w5 w' := by
      have h := refSub_ok (.slice none 0 0) v4 0 r w5 (num_nil _) N4.out pP_pos LR.out
      rw [Nat.zero_add] at h
      exact h
    refine h6.mono ?_
    rintro e w6 ⟨v6, rfl, n6, b6⟩
    rw [HO.out] at n6
    have N6 := Lib.hid n6
    have hB6 : Below w.heap.size w w6 := hB4.trans (b6.mono hB4.size)
    clear n6 b6 h6
    go_wp2_with fail
    go_ret
    exact ⟨_, rfl, N6.out, hB6⟩
  · have HO : Hid (r = M) := by show _ = _; rw [HM.out]; unfold evenR; rw [if_neg ho]
    rw [decide_eq_false ho]
    clear ho
    go_wp2_with fail
    go_ret
    exact ⟨_, rfl, by rw [← HO.out]; exact N4.out, hB4⟩
def rRoot0 (x : Nat) : Nat := x ^ ((pP + 3) / 8) % pP
def rRoot1 (x : Nat) : Nat := if rRoot0 x * rRoot0 x % pP = x then rRoot0 x else rRoot0 x * rM1 % pP
theorem rRoot0_lt (x : Nat) : rRoot0 x < pP := Nat.mod_lt _ pP_pos
theorem rRoot1_lt (x : Nat) : rRoot1 x < pP := by unfold rRoot1; split; exact rRoot0_lt x; exact Nat.mod_lt _ pP_pos
def rGood (x : Nat) : Bool := decide (rRoot1 x * rRoot1 x % pP = x)
def rRoot (x : Nat) : Nat := if rGood x then evenR (rRoot1 x) else 0
end Go.Proofs.Ytopelehfffjfeaa
