/-
The document's numbers modulo p: Cut, Of, sums, products.
-/
import Derived.Test.YtopelehfffjfeaaRef05
namespace Go.Proofs.Ytopelehfffjfeaa
open Go.RowKit

theorem cut_step {A : Nat} (h : 2 ^ 255 ≤ A) : (A % 2 ^ 255 + A / 2 ^ 255 * 19) % pP = A % pP ∧ A % 2 ^ 255 + A / 2 ^ 255 * 19 < A := by
  have e := Nat.mod_add_div A (2 ^ 255)
  have e2 := pP_eq
  refine ⟨?_, ?_⟩
  · have e3 : A = (A % 2 ^ 255 + A / 2 ^ 255 * 19) + pP * (A / 2 ^ 255) := by
      have h1 : 2 ^ 255 * (A / 2 ^ 255) = pP * (A / 2 ^ 255) + 19 * (A / 2 ^ 255) := by rw [← Nat.add_mul, e2]
      omega
    conv => rhs; rw [e3]
    rw [Nat.add_mul_mod_self_left]
  · omega
theorem cut_end {A : Nat} (h : A < 2 ^ 255) : A % pP = if pP ≤ A then A - pP else A := by
  have e := pP_eq
  have hb := pP_big
  split
  · rename_i h1
    rw [Nat.mod_eq_sub_mod h1, Nat.mod_eq_of_lt (by omega)]
  · rename_i h1
    exact Nat.mod_eq_of_lt (by omega)
set_option maxHeartbeats 2000000 in
set_option maxRecDepth 100000 in
theorem refCut_ok (va : Value) (a : Nat) (w : World) (ha : Num w va a) (la : a < Lim) :
    Calls Try.prog 44 #[va] w fun e w' => ∃ v', e = .returned v' ∧ Num w' v' (a % pP) ∧ Below w.heap.size w w' := by
  have HA := Lib.hid ha
  have LA := Lib.hid la
  clear ha la
  go_enter Try.func44, Try.ntmps44
  go_wp2_with fail
  go_loopg [0] (a + 1) (fun gk v0 wr => ∃ A : Nat, Hid (Num wr v0 A) ∧ Hid (A % pP = a % pP) ∧ Hid (A < Lim) ∧ Below w.heap.size w wr ∧ Hid (A < gk))
  case atStart => exact ⟨a, HA, rfl, LA, Below.refl _ _, Nat.lt_succ_self a⟩
  case round =>
    obtain ⟨A, hn, hm, hl, hB, hg⟩ := hrel
    obtain ⟨l, hd, hc, hbv, hl64⟩ := num_digs (N := 64) hn.out hl.out
    have CAN := Lib.hid (can_255 hc)
    obtain ⟨hs, ao, cap, hv, hlc, hcm, hcell⟩ := hd
    subst hv
    have HBV := Lib.hid hbv
    have HCELL := Lib.hid hcell
    have HSM := Lib.hid hs
    clear hc hbv hcell hcm hs
    by_cases hge : 2 ^ 255 ≤ A
    · have hlen : 16 < l.length ∨ (Hid (l.length = 16) ∧ 16 ≤ l.length ∧ l.length ≤ 16 ∧ 32768 ≤ l.getD 15 0) := by
        rcases CAN.out.2 (by rw [HBV.out]; exact hge) with h | ⟨h, h2⟩
        · exact .inl h
        · exact .inr ⟨h, by omega, by omega, h2⟩
      obtain ⟨b, off, rfl, hc15⟩ := HCELL.out 15 (by omega)
      rw [← Nat.zero_add 15] at hc15
      have ST := Lib.hid (cut_step hge)
      have NL := Lib.hid hn.out
      have rest : ∀ (K : Prop), True := fun _ => trivial
      clear hge rest
      have hc15' : wr.cell? ⟨b, off + 15, none⟩ = some (.int .i64 (l.getD 15 0 : Nat)) := by simpa using hc15
      clear hc15
      generalize hdd : l.getD 15 0 = d at *
      clear hdd
      have LM : Hid (A % 2 ^ 255 < Lim) := Nat.lt_of_le_of_lt (Nat.mod_le _ _) hl.out
      have LQ : Hid (A / 2 ^ 255 < Lim) := Nat.lt_of_le_of_lt (Nat.div_le_self _ _) hl.out
      have LQ19 : Hid (A / 2 ^ 255 * 19 < Lim) := by show _ < _; have := hl.out; have := ST.out.2; omega
      rcases hlen with h16 | ⟨hL, h16a, h16b, h16d⟩
      · go_wp2_with fail
        refine (refLow_ok _ A wr NL.out hl.out).mono ?_
        rintro e w1 ⟨v1, rfl, n1, b1⟩
        have N1 := Lib.hid n1
        clear n1
        go_wp2_with fail
        have hh : Calls Try.prog 60 #[.slice (some ⟨b, off, none⟩) l.length cap, .int .i64 255] w1 fun e w' => ∃ v', e = .returned v' ∧ Num w' v' (A / 2 ^ 255) ∧ Below w1.heap.size w1 w' := numHalf_ok _ A 255 w1 (NL.out.below b1) hl.out (by omega)
        refine hh.mono ?_
        rintro e w2 ⟨v2, rfl, n2, b2⟩
        have N2 := Lib.hid n2
        clear hh n2
        go_wp2_with fail
        have hs2 : Calls Try.prog 53 #[.int .i64 19] w2 fun e w' => ∃ v', e = .returned v' ∧ Num w' v' 19 ∧ Below w2.heap.size w2 w' := small_ok 19 w2 (by omega)
        refine hs2.mono ?_
        rintro e w3 ⟨v3, rfl, n3, b3⟩
        have N3 := Lib.hid n3
        clear hs2 n3
        go_wp2_with fail
        refine (numMul_ok v2 v3 _ 19 w3 (N2.out.below b3) N3.out LQ.out (by decide)).mono ?_
        rintro e w4 ⟨v4, rfl, n4, b4⟩
        have N4 := Lib.hid n4
        clear n4
        go_wp2_with fail
        refine (numAdd_ok v1 v4 _ _ w4 (((N1.out.below b2).below b3).below b4) N4.out LM.out LQ19.out).mono ?_
        rintro e w5 ⟨v5, rfl, n5, b5⟩
        have N5 := Lib.hid n5
        have hB5 : Below w.heap.size w w5 := hB.trans (((b1.trans ((b2.trans ((b3.trans ((b4.trans (b5.mono b4.size)).mono b3.size)).mono b2.size)).mono b1.size))).mono hB.size)
        clear n5 b1 b2 b3 b4 b5
        go_wp2_with fail
        go_roundg A
        case rel => exact ⟨_, N5, by rw [ST.out.1]; exact hm.out, Lib.hid (Nat.lt_trans ST.out.2 hl.out), hB5, Lib.hid ST.out.2⟩
        case measure => exact hg.out
      · have hb16 : (((l.length : Nat) : Int) == 16) = true := by simp; omega
        have hd32 : decide ((32768 : Int) ≤ d) = true := decide_eq_true (by omega)
        go_wp2_with fail
        refine (refLow_ok _ A wr NL.out hl.out).mono ?_
        rintro e w1 ⟨v1, rfl, n1, b1⟩
        have N1 := Lib.hid n1
        clear n1
        go_wp2_with fail
        have hh : Calls Try.prog 60 #[.slice (some ⟨b, off, none⟩) l.length cap, .int .i64 255] w1 fun e w' => ∃ v', e = .returned v' ∧ Num w' v' (A / 2 ^ 255) ∧ Below w1.heap.size w1 w' := numHalf_ok _ A 255 w1 (NL.out.below b1) hl.out (by omega)
        refine hh.mono ?_
        rintro e w2 ⟨v2, rfl, n2, b2⟩
        have N2 := Lib.hid n2
        clear hh n2
        go_wp2_with fail
        have hs2 : Calls Try.prog 53 #[.int .i64 19] w2 fun e w' => ∃ v', e = .returned v' ∧ Num w' v' 19 ∧ Below w2.heap.size w2 w' := small_ok 19 w2 (by omega)
        refine hs2.mono ?_
        rintro e w3 ⟨v3, rfl, n3, b3⟩
        have N3 := Lib.hid n3
        clear hs2 n3
        go_wp2_with fail
        refine (numMul_ok v2 v3 _ 19 w3 (N2.out.below b3) N3.out LQ.out (by decide)).mono ?_
        rintro e w4 ⟨v4, rfl, n4, b4⟩
        have N4 := Lib.hid n4
        clear n4
        go_wp2_with fail
        refine (numAdd_ok v1 v4 _ _ w4 (((N1.out.below b2).below b3).below b4) N4.out LM.out LQ19.out).mono ?_
        rintro e w5 ⟨v5, rfl, n5, b5⟩
        have N5 := Lib.hid n5
        have hB5 : Below w.heap.size w w5 := hB.trans (((b1.trans ((b2.trans ((b3.trans ((b4.trans (b5.mono b4.size)).mono b3.size)).mono b2.size)).mono b1.size))).mono hB.size)
        clear n5 b1 b2 b3 b4 b5
        go_wp2_with fail
        go_roundg A
        case rel => exact ⟨_, N5, by rw [ST.out.1]; exact hm.out, Lib.hid (Nat.lt_trans ST.out.2 hl.out), hB5, Lib.hid ST.out.2⟩
        case measure => exact hg.out
    · have CE := Lib.hid (cut_end (Nat.lt_of_not_le hge))
      have NL := Lib.hid hn.out
      have hlen : l.length < 16 ∨ (l.length = 16 ∧ l.getD 15 0 < 32768) := by
        rcases Nat.lt_trichotomy l.length 16 with h | h | h
        · exact .inl h
        · refine .inr ⟨h, Nat.lt_of_not_le fun h2 => hge ?_⟩
          rw [← HBV.out]; exact CAN.out.1 (.inr ⟨h, h2⟩)
        · exact absurd (by rw [← HBV.out]; exact CAN.out.1 (.inl h)) hge
      clear hge
      have fin : ∀ K : Prop, True := fun _ => trivial
      clear fin
      rcases hlen with h16 | ⟨hL, h16d⟩
      · go_wp2_with fail
        refine (refP_ok wr).mono ?_
        rintro e w1 ⟨v1, rfl, n1, b1⟩
        have N1 := Lib.hid n1
        clear n1
        go_wp2_with fail
        refine (numCmp_ok _ v1 A pP w1 (NL.out.below b1) N1.out hl.out).mono ?_
        rintro e w2 ⟨rfl, b2⟩
        by_cases hp : pP ≤ A
        · have hc0 : decide ((0 : Int) ≤ cmpOf A pP) = true := decide_eq_true (by unfold cmpOf; split <;> (try split) <;> omega)
          rw [if_pos hp] at CE
          generalize cmpOf A pP = cc at *
          go_wp2_with fail
          refine (refP_ok w2).mono ?_
          rintro e w3 ⟨v3, rfl, n3, b3⟩
          have N3 := Lib.hid n3
          clear n3
          go_wp2_with fail
          refine (numSub_ok _ v3 A pP w3 (((NL.out.below b1).below b2).below b3) N3.out hl.out hp).mono ?_
          rintro e w4 ⟨v4, rfl, n4, b4⟩
          have N4 := Lib.hid n4
          have hB4 : Below w.heap.size w w4 := hB.trans ((b1.trans ((b2.trans ((b3.trans (b4.mono b3.size)).mono b2.size)).mono b1.size)).mono hB.size)
          clear n4 b1 b2 b3 b4
          go_wp2_with fail
          go_ret
          exact ⟨_, rfl, by rw [← hm.out, CE.out]; exact N4.out, hB4⟩
        · have hc0 : decide ((0 : Int) ≤ cmpOf A pP) = false := decide_eq_false (by unfold cmpOf; split <;> (try split) <;> omega)
          rw [if_neg hp] at CE
          generalize cmpOf A pP = cc at *
          have hB2 : Below w.heap.size w w2 := hB.trans ((b1.trans (b2.mono b1.size)).mono hB.size)
          have N2 := Lib.hid ((NL.out.below b1).below b2)
          clear b1 b2
          go_wp2_with fail
          go_ret
          exact ⟨_, rfl, by rw [← hm.out, CE.out]; exact N2.out, hB2⟩
      · have h16a : 16 ≤ l.length := Nat.le_of_eq hL.symm
        have h16b : l.length ≤ 16 := Nat.le_of_eq hL
        have HL := Lib.hid hL
        obtain ⟨b, off, rfl, hc15⟩ := HCELL.out 15 (by omega)
        generalize hdd : l.getD 15 0 = d at *
        clear hdd hL
        have hb16 : (((l.length : Nat) : Int) == 16) = true := by simp; omega
        have hd32 : decide ((32768 : Int) ≤ d) = false := decide_eq_false (by omega)
        go_wp2_with fail
        refine (refP_ok wr).mono ?_
        rintro e w1 ⟨v1, rfl, n1, b1⟩
        have N1 := Lib.hid n1
        clear n1
        go_wp2_with fail
        refine (numCmp_ok _ v1 A pP w1 (NL.out.below b1) N1.out hl.out).mono ?_
        rintro e w2 ⟨rfl, b2⟩
        by_cases hp : pP ≤ A
        · have hc0 : decide ((0 : Int) ≤ cmpOf A pP) = true := decide_eq_true (by unfold cmpOf; split <;> (try split) <;> omega)
          rw [if_pos hp] at CE
          generalize cmpOf A pP = cc at *
          go_wp2_with fail
          refine (refP_ok w2).mono ?_
          rintro e w3 ⟨v3, rfl, n3, b3⟩
          have N3 := Lib.hid n3
          clear n3
          go_wp2_with fail
          refine (numSub_ok _ v3 A pP w3 (((NL.out.below b1).below b2).below b3) N3.out hl.out hp).mono ?_
          rintro e w4 ⟨v4, rfl, n4, b4⟩
          have N4 := Lib.hid n4
          have hB4 : Below w.heap.size w w4 := hB.trans ((b1.trans ((b2.trans ((b3.trans (b4.mono b3.size)).mono b2.size)).mono b1.size)).mono hB.size)
          clear n4 b1 b2 b3 b4
          go_wp2_with fail
          go_ret
          exact ⟨_, rfl, by rw [← hm.out, CE.out]; exact N4.out, hB4⟩
        · have hc0 : decide ((0 : Int) ≤ cmpOf A pP) = false := decide_eq_false (by unfold cmpOf; split <;> (try split) <;> omega)
          rw [if_neg hp] at CE
          generalize cmpOf A pP = cc at *
          have hB2 : Below w.heap.size w w2 := hB.trans ((b1.trans (b2.mono b1.size)).mono hB.size)
          have N2 := Lib.hid ((NL.out.below b1).below b2)
          clear b1 b2
          go_wp2_with fail
          go_ret
          exact ⟨_, rfl, by rw [← hm.out, CE.out]; exact N2.out, hB2⟩
end Go.Proofs.Ytopelehfffjfeaa
