/-
The document's numbers modulo p: Of, Add, Sub, Mul, Odd, Bytes, Power.
-/
import Derived.Test.YtopelehfffjfeaaRef05b
import Derived.Test.YtopelehfffjfeaaFOf
namespace Go.Proofs.Ytopelehfffjfeaa
open Go.RowKit

theorem lim_256 {x : Nat} (h : x < 2 ^ 256) : x < Lim := Nat.lt_trans h (by decide)
theorem lim_255 {x : Nat} (h : x < 2 ^ 255) : x < Lim := Nat.lt_trans h (by decide)
theorem p_255 {x : Nat} (h : x < pP) : x < 2 ^ 255 := by have := pP_eq; omega
theorem lim_mul {x y : Nat} (h : x < 2 ^ 256) (g : y < 2 ^ 256) : x * y < Lim := by
  have : x * y < 2 ^ 256 * 2 ^ 256 := by
    rcases Nat.eq_zero_or_pos y with rfl | hy
    · simp
    · exact Nat.lt_of_lt_of_le (Nat.mul_lt_mul_of_pos_right h hy) (Nat.mul_le_mul_left _ (Nat.le_of_lt g))
  exact Nat.lt_trans this (by decide)
theorem refAdd_ok (va vb : Value) (a b : Nat) (w : World) (ha : Num w va a) (hb : Num w vb b) (la : a < pP) (lb : b < pP) :
    Calls Try.prog 29 #[va, vb] w fun e w' => ∃ v', e = .returned v' ∧ Num w' v' ((a + b) % pP) ∧ Below w.heap.size w w' := by
  have LS : Hid (a + b < Lim) := lim_256 (by have := pP_eq; omega)
  have LA := Lib.hid (lim_of la)
  have LB := Lib.hid (lim_of lb)
  have HA := Lib.hid ha
  have HB := Lib.hid hb
  clear la lb ha hb
  go_enter Try.func29, Try.ntmps29
  go_wp2_with fail
  refine (numAdd_ok va vb a b w HA.out HB.out LA.out LB.out).mono ?_
  rintro e w1 ⟨v1, rfl, n1, b1⟩
  have N1 := Lib.hid n1
  clear n1
  go_wp2_with fail
  refine (refCut_ok v1 (a + b) w1 N1.out LS.out).mono ?_
  rintro e w2 ⟨v2, rfl, n2, b2⟩
  have N2 := Lib.hid n2
  have hB2 : Below w.heap.size w w2 := b1.trans (b2.mono b1.size)
  clear n2 b1 b2
  go_wp2_with fail
  go_ret
  exact ⟨_, rfl, N2.out, hB2⟩
theorem refMul_ok (va vb : Value) (a b : Nat) (w : World) (ha : Num w va a) (hb : Num w vb b) (la : a < pP) (lb : b < pP) :
    Calls Try.prog 32 #[va, vb] w fun e w' => ∃ v', e = .returned v' ∧ Num w' v' (a * b % pP) ∧ Below w.heap.size w w' := by
  have LS : Hid (a * b < Lim) := lim_mul (by have := pP_eq; omega) (by have := pP_eq; omega)
  have LA := Lib.hid (lim_of la)
  have LB := Lib.hid (lim_of lb)
  have HA := Lib.hid ha
  have HB := Lib.hid hb
  clear la lb ha hb
  generalize hm : a * b = m at *
  go_enter Try.func32, Try.ntmps32
  go_wp2_with fail
  refine (numMul_ok va vb a b w HA.out HB.out LA.out LB.out).mono ?_
  rintro e w1 ⟨v1, rfl, n1, b1⟩
  rw [hm] at n1
  have N1 := Lib.hid n1
  clear n1 hm
  go_wp2_with fail
  refine (refCut_ok v1 m w1 N1.out LS.out).mono ?_
  rintro e w2 ⟨v2, rfl, n2, b2⟩
  have N2 := Lib.hid n2
  have hB2 : Below w.heap.size w w2 := b1.trans (b2.mono b1.size)
  clear n2 b1 b2
  go_wp2_with fail
  go_ret
  exact ⟨_, rfl, N2.out, hB2⟩
theorem refSub_ok (va vb : Value) (a b : Nat) (w : World) (ha : Num w va a) (hb : Num w vb b) (la : a < pP) (lb : b < pP) :
    Calls Try.prog 30 #[va, vb] w fun e w' => ∃ v', e = .returned v' ∧ Num w' v' ((a + (pP - b)) % pP) ∧ Below w.heap.size w w' := by
  have LS : Hid (a + pP < Lim) := lim_256 (by have := pP_eq; omega)
  have LD : Hid (a + (pP - b) < Lim) := lim_256 (by have := pP_eq; omega)
  have LE : Hid (b ≤ a + pP) := by show b ≤ _; omega
  have ED : Hid (a + pP - b = a + (pP - b)) := by show _ = _; omega
  have LA := Lib.hid (lim_of la)
  have HA := Lib.hid ha
  have HB := Lib.hid hb
  clear la lb ha hb
  go_enter Try.func30, Try.ntmps30
  go_wp2_with fail
  refine (refP_ok w).mono ?_
  rintro e w0 ⟨v0, rfl, n0, b0⟩
  have N0 := Lib.hid n0
  clear n0
  go_wp2_with fail
  refine (numAdd_ok va v0 a pP w0 (HA.out.below b0) N0.out LA.out lim_p).mono ?_
  rintro e w1 ⟨v1, rfl, n1, b1⟩
  have N1 := Lib.hid n1
  clear n1
  go_wp2_with fail
  refine (numSub_ok v1 vb (a + pP) b w1 N1.out ((HB.out.below b0).below b1) LS.out LE.out).mono ?_
  rintro e w2 ⟨v2, rfl, n2, b2⟩
  rw [ED.out] at n2
  have N2 := Lib.hid n2
  clear n2
  go_wp2_with fail
  refine (refCut_ok v2 _ w2 N2.out LD.out).mono ?_
  rintro e w3 ⟨v3, rfl, n3, b3⟩
  have N3 := Lib.hid n3
  have hB3 : Below w.heap.size w w3 := b0.trans ((b1.trans ((b2.trans (b3.mono b2.size)).mono b1.size)).mono b0.size)
  clear n3 b0 b1 b2 b3
  go_wp2_with fail
  go_ret
  exact ⟨_, rfl, N3.out, hB3⟩
theorem refBytes_ok (va : Value) (a : Nat) (w : World) (ha : Num w va a) (la : a < Lim) :
    Calls Try.prog 46 #[va] w fun e w' => e = .returned (.string ⟨(leBytes a 32).toArray⟩) ∧ Below w.heap.size w w' := by
  have h : Calls Try.prog 66 #[va, .int .i64 32] w fun e w' => e = .returned (.string ⟨(leBytes a 32).toArray⟩) ∧ Below w.heap.size w w' := numBytes_ok va a 32 w ha la (by omega)
  clear ha la
  generalize leBytes a 32 = L at *
  go_enter Try.func46, Try.ntmps46
  go_wp2_with fail
  refine h.mono ?_
  rintro e w1 ⟨rfl, b1⟩
  clear h
  go_wp2_with fail
  go_ret
  exact ⟨rfl, b1⟩
theorem refOf_ok (s : ByteArray) (w : World) :
    Calls Try.prog 15 #[.string s] w fun e w' => ∃ v', e = .returned v' ∧ Num w' v' (ofB s % 2 ^ 255 % pP) ∧ Below w.heap.size w w' := by
  have LM : Hid (ofB s % 2 ^ 255 < Lim) := lim_255 (Nat.mod_lt _ (by decide))
  have core : ∀ (s' : ByteArray), le8 s'.data.toList = ofB s → s'.size ≤ 32 → Hid (s'.size ≤ 65536 ∧ le8 s'.data.toList = ofB s ∧ ofB s < Lim) := fun s' h1 h2 => ⟨by omega, h1, by
    rw [← h1]
    refine Nat.lt_of_lt_of_le (le8_lt _) (Nat.le_trans (Nat.pow_le_pow_right (by decide) (show _ ≤ 32 by simp; omega)) (by decide))⟩
  have hz : s.data.toList.length = s.size := by simp
  by_cases h32 : s.size ≤ 32
  · have C := core s (by unfold ofB; rw [List.take_of_length_le (by omega)]) h32
    clear core hz
    go_enter Try.func15, Try.ntmps15
    go_wp2_with fail
    refine (of_ok s w C.out.1).mono ?_
    rintro e w1 ⟨v1, rfl, n1, b1⟩
    rw [C.out.2.1] at n1
    have N1 := Lib.hid n1
    clear n1
    go_wp2_with fail
    refine (refLow_ok v1 _ w1 N1.out C.out.2.2).mono ?_
    rintro e w2 ⟨v2, rfl, n2, b2⟩
    have N2 := Lib.hid n2
    clear n2
    go_wp2_with fail
    refine (refCut_ok v2 _ w2 N2.out LM.out).mono ?_
    rintro e w3 ⟨v3, rfl, n3, b3⟩
    have N3 := Lib.hid n3
    have hB3 : Below w.heap.size w w3 := b1.trans ((b2.trans (b3.mono b2.size)).mono b1.size)
    clear n3 b1 b2 b3
    go_wp2_with fail
    go_ret
    exact ⟨_, rfl, N3.out, hB3⟩
  · have C := core (s.extract 0 32) (by unfold ofB; simp) (by simp; omega)
    clear core hz
    go_enter Try.func15, Try.ntmps15
    go_wp2_with fail
    generalize hs' : s.extract 0 32 = s' at *
    refine (of_ok s' w C.out.1).mono ?_
    rintro e w1 ⟨v1, rfl, n1, b1⟩
    rw [C.out.2.1] at n1
    have N1 := Lib.hid n1
    clear n1 hs'
    go_wp2_with fail
    refine (refLow_ok v1 _ w1 N1.out C.out.2.2).mono ?_
    rintro e w2 ⟨v2, rfl, n2, b2⟩
    have N2 := Lib.hid n2
    clear n2
    go_wp2_with fail
    refine (refCut_ok v2 _ w2 N2.out LM.out).mono ?_
    rintro e w3 ⟨v3, rfl, n3, b3⟩
    have N3 := Lib.hid n3
    have hB3 : Below w.heap.size w w3 := b1.trans ((b2.trans (b3.mono b2.size)).mono b1.size)
    clear n3 b1 b2 b3
    go_wp2_with fail
    go_ret
    exact ⟨_, rfl, N3.out, hB3⟩
theorem num_odd_facts {w : World} {va : Value} {a : Nat} (h : Num w va a) : ∃ l : List Nat, DigAt w va l ∧ (a = 0 ↔ l = []) ∧ (l.getD 0 0 % 2 = a % 2) := by
  obtain ⟨l, d, c, rfl⟩ := h
  refine ⟨l, d, ⟨fun h => ?_, fun h => by rw [h]; rfl⟩, ?_⟩
  · cases l with
    | nil => rfl
    | cons x t =>
      have := c.lower (by simp)
      rw [h] at this
      have hp : 0 < 65536 ^ ((x :: t).length - 1) := Nat.pow_pos (by decide)
      omega
  · cases l with
    | nil => rfl
    | cons x t => simp [bv_cons]; omega
set_option maxRecDepth 20000 in
theorem refOdd_ok (va : Value) (a : Nat) (w : World) (ha : Num w va a) :
    Calls Try.prog 19 #[va] w fun e w' => e = .returned (.bool (decide (a % 2 = 1))) ∧ w' = w := by
  obtain ⟨l, d, h0, h1⟩ := num_odd_facts ha
  rw [← h1]
  clear ha h0 h1
  obtain ⟨hs, ao, cap, rfl, hlc, hcm, hcell⟩ := d
  cases l with
  | nil =>
    clear hcell hcm hs
    go_enter Try.func19, Try.ntmps19
    go_wp2_with fail
    go_ret
    exact ⟨rfl, rfl⟩
  | cons x t =>
    obtain ⟨b, off, rfl, hc0⟩ := hcell 0 (by simp)
    have hx : x < 65536 := hs.getD 0 
    rw [Nat.add_zero] at hc0
    simp only [List.getD_cons_zero] at hc0 ⊢
    clear hcell hcm hs
    generalize hn : (x :: t).length = n at *
    have hn0 : 0 < n := by rw [← hn]; simp
    clear hn
    go_enter Try.func19, Try.ntmps19
    go_wp2_with fail
    go_ret
    refine ⟨?_, rfl⟩
    show Ending.returned (Value.bool ((x : Int) % 2 == 1)) = _
    congr 2
    by_cases hx2 : x % 2 = 1
    · simp [hx2]; omega
    · simp [hx2]; omega
/-! ### powers: the digits' bits, highest first -/
theorem dig_bit {l : List Nat} (h : Sm l) (i : Nat) (hi : i < 16 * l.length) : l.getD (i / 16) 0 / 2 ^ (i % 16) % 2 = bv l / 2 ^ i % 2 := by
  have h1 := bv_take_drop l (i / 16) (by omega)
  have h2 := bv_lt (h.take (i / 16))
  rw [List.length_take, Nat.min_eq_left (by omega)] at h2
  have hd : l.drop (i / 16) = l.getD (i / 16) 0 :: l.drop (i / 16 + 1) := by
    rw [List.drop_eq_getElem_cons (by omega)]
    simp [List.getD_eq_getElem?_getD, show i / 16 < l.length by omega]
  rw [hd, bv_cons] at h1
  have h3 : l.getD (i / 16) 0 < 65536 := h.getD _
  generalize l.getD (i / 16) 0 = d at *
  generalize bv (l.drop (i / 16 + 1)) = R at *
  generalize bv (l.take (i / 16)) = L at *
  have e1 : (65536 : Nat) ^ (i / 16) = 2 ^ (16 * (i / 16)) := by rw [show (65536 : Nat) = 2 ^ 16 by decide, ← Nat.pow_mul]
  rw [e1] at h1 h2
  have e2 : 2 ^ i = 2 ^ (16 * (i / 16)) * 2 ^ (i % 16) := by rw [← Nat.pow_add, Nat.div_add_mod]
  rw [e2, ← Nat.div_div_eq_div_mul, h1, Nat.add_mul_div_left _ _ (Nat.pow_pos (by decide)), Nat.div_eq_of_lt h2, Nat.zero_add]
  have hm : i % 16 < 16 := Nat.mod_lt _ (by decide)
  have e3 : 65536 * R = 2 ^ (i % 16) * (2 * (2 ^ (15 - i % 16) * R)) := by
    have : (65536 : Nat) = 2 ^ (i % 16) * (2 * 2 ^ (15 - i % 16)) := by
      rw [← Nat.pow_succ', ← Nat.pow_add, show i % 16 + (15 - i % 16 + 1) = 16 by omega]
    conv => lhs; rw [this]
    rw [Nat.mul_assoc, Nat.mul_assoc]
  rw [e3, Nat.add_mul_div_left _ _ (Nat.pow_pos (by decide)), Nat.add_mul_mod_self_left]
end Go.Proofs.Ytopelehfffjfeaa
