/-
The document's numbers in digits of 16 bits: what is left of one by another.
-/
import Derived.Test.YtomdldjamdkhoaaDoorRefNum4
import Derived.Deep.LoopGhost
namespace Go.Proofs.YtomdldjamdkhoaaDoor
open Go.RowKit

theorem num_len {l : List Nat} {N : Nat} (h : Can l) (hb : bv l < 65536 ^ N) : l.length ≤ N := by
  rcases Nat.lt_or_ge N l.length with hlt | hge
  · exfalso
    have h1 := h.lower (fun e => by rw [e] at hlt; exact Nat.not_lt_zero _ hlt)
    have h2 : 65536 ^ N ≤ 65536 ^ (l.length - 1) := Nat.pow_le_pow_right (by decide) (by omega)
    omega
  · exact hge
theorem pow_digits (z : Nat) : 2 ^ z < 65536 ^ (z / 16 + 1) := by
  rw [show (65536 : Nat) = 2 ^ 16 from rfl, ← Nat.pow_mul]
  exact Nat.pow_lt_pow_right (by decide) (by omega)
theorem mod_start {la lm : List Nat} (hs : Sm la) (hc : Can lm) (hpos : 0 < bv lm) : bv la < bv lm * 2 ^ ((16 * (la.length : Int) - 16 * lm.length + 16) + 1).toNat := by
  have h1 := bv_lt hs
  have hne : lm ≠ [] := fun e => by rw [e] at hpos; simp at hpos
  have h2 := hc.lower hne
  have hl : 0 < lm.length := by
    rcases Nat.eq_zero_or_pos lm.length with h | h
    · exact absurd (List.length_eq_zero_iff.1 h) hne
    · exact h
  generalize ht : ((16 * (la.length : Int) - 16 * lm.length + 16) + 1).toNat = t
  have h3 : 65536 ^ la.length ≤ 65536 ^ (lm.length - 1) * 2 ^ t := by
    rw [show (65536 : Nat) = 2 ^ 16 from rfl, ← Nat.pow_mul, ← Nat.pow_mul, ← Nat.pow_add]
    exact Nat.pow_le_pow_right (by decide) (by omega)
  have h4 : 65536 ^ (lm.length - 1) * 2 ^ t ≤ bv lm * 2 ^ t := Nat.mul_le_mul_right _ h2
  omega
theorem mod_sub {A M z : Nat} (h : A < M * 2 ^ (z + 1)) (hle : M * 2 ^ z ≤ A) : A - M * 2 ^ z < M * 2 ^ z ∧ (A - M * 2 ^ z) % M = A % M := by
  rw [Nat.pow_succ, ← Nat.mul_assoc] at h
  refine ⟨by omega, ?_⟩
  have e : A = (A - M * 2 ^ z) + M * 2 ^ z := by omega
  conv => rhs; rw [e]
  exact (Nat.add_mul_mod_self_left ..).symm

set_option maxHeartbeats 2000000 in
set_option maxRecDepth 100000 in
theorem mod_ok (la lm : List Nat) (va vm : Value) (w : World) (ha : DigAt w va la) (hm : DigAt w vm lm) (hca : Can la) (hcm : Can lm) (hla : la.length ≤ 4096) (hlm : lm.length ≤ 4096) (hpos : 0 < bv lm) :
    Calls Tryd.prog 20 #[va, vm] w fun e w' => ∃ v', e = .returned v' ∧ Num w' v' (bv la % bv lm) ∧ Below w.heap.size w w' := by
  have HA := Lib.hid ha
  have HM := Lib.hid hm
  have hst := mod_start ha.1 hcm hpos
  have ST := Lib.hid hst
  have hnum : Num w va (bv la) := ⟨la, ha, hca, rfl⟩
  have NUM := Lib.hid hnum
  have CM := Lib.hid hcm
  have hbl := bv_lt ha.1
  have BL := Lib.hid hbl
  obtain ⟨_, aa, ca, rfl, _, _, _⟩ := ha
  obtain ⟨_, am, cm, rfl, _, _, _⟩ := hm
  generalize hA : bv la = A at *
  generalize hM : bv lm = M at *
  have HMM := Lib.hid hM
  clear hca hcm hst hnum hbl hA hM
  go_enter Tryd.func20, Tryd.ntmps20
  go_wp2
  go_loopg [0, 5] 400000 (fun gk v0 vi wr => ∃ (A' : Nat) (z : Int), vi = .int .i64 z ∧ -100000 ≤ z ∧ z ≤ 100000 ∧ Hid (Num wr v0 A') ∧ A' ≤ A ∧ Hid (A' % M = A % M) ∧ Hid (A' < M * 2 ^ (z + 1).toNat) ∧ Below w.heap.size w wr ∧
    Hid (2 * (z + 1).toNat + (if M * 2 ^ z.toNat ≤ A' then 1 else 0) < gk))
  case atStart =>
    refine ⟨A, _, rfl, by omega, by omega, NUM.out, Nat.le_refl _, rfl, ST.out, Below.refl _ _, ?_⟩
    show _ < _
    split <;> omega
  case round =>
    obtain ⟨A', z, rfl, hz1, hz2, hn, hle, hmod, hlt, hBw, hgk⟩ := hrel
    rcases Int.lt_or_le z 0 with hz | hz
    · have hfin : A' = A % M := by
        have h := hlt.out
        rw [show (z + 1).toNat = 0 from by omega, Nat.pow_zero, Nat.mul_one] at h
        rw [← hmod.out, Nat.mod_eq_of_lt h]
      have HF := Lib.hid hfin
      clear hmod hlt hfin hgk
      go_wp2
      go_ret
      exact ⟨_, rfl, HF.out ▸ hn.out, hBw⟩
    · obtain ⟨k, rfl⟩ := Int.eq_ofNat_of_zero_le hz
      obtain ⟨l', hd', hc', hb'⟩ := hn.out
      have hlen' : l'.length ≤ 4096 := Nat.le_trans (num_len hc' (by rw [hb']; exact Nat.lt_of_le_of_lt hle BL.out)) hla
      have HD := Lib.hid hd'
      have HB := Lib.hid hb'
      clear hd' hb'
      go_wp2_with fail
      refine (power_ok k _ (by omega)).mono ?_
      rintro e w1 ⟨vp, rfl, hnp, hb1⟩
      obtain ⟨lp, hdp, hcp, hbp⟩ := hnp
      have hlp : lp.length ≤ k / 16 + 1 := num_len hcp (by rw [hbp]; exact pow_digits k)
      have hBx := hBw.trans (hb1.mono hBw.size)
      have HDP := Lib.hid hdp
      have HBP := Lib.hid hbp
      clear hdp hbp
      go_wp2_with fail
      refine (mul_ok lm lp _ vp _ (HM.out.below hBx) HDP.out (by omega) (by omega)).mono ?_
      rintro e w2 ⟨vx, rfl, hnx, hb2⟩
      have hBy := hBx.trans (hb2.mono hBx.size)
      obtain ⟨lx, hdx, hcx, hbx⟩ := hnx
      rw [HMM.out, HBP.out] at hbx
      have HDX := Lib.hid hdx
      have HBX := Lib.hid hbx
      have hd2 := (HD.out.below hb1).below hb2
      have HD2 := Lib.hid hd2
      clear hdx hbx hd2 hb1 hb2
      go_wp2_with fail
      refine (cmp_ok l' lx _ vx _ HD2.out HDX.out (by omega)).mono ?_
      rintro e w3 ⟨rfl, n3, rfl⟩
      rw [HB.out, HBX.out]
      by_cases hsub : M * 2 ^ k ≤ A'
      · have hcm : (0 : Int) ≤ cmpOf A' (M * 2 ^ k) := by unfold cmpOf; rw [if_neg (by omega)]; split <;> omega
        have hms := mod_sub (M := M) (z := k) (by have h := hlt.out; rwa [show ((k : Int) + 1).toNat = k + 1 from by omega] at h) hsub
        have HMS := Lib.hid hms
        have hgk2 : 2 * (k + 1) + 1 < gk := by
          have h := hgk.out
          rw [if_pos (by simpa using hsub)] at h
          omega
        have hleq : bv lx ≤ bv l' := by rw [HB.out, HBX.out]; exact hsub
        have HLE := Lib.hid hleq
        have hcz : cmpOf A' (M * 2 ^ k) = cmpOf A' (M * 2 ^ k) := rfl
        generalize cmpOf A' (M * 2 ^ k) = cz at hcm ⊢
        have hd3 : DigAt (w2.drewN n3) _ l' := HD2.out
        have hx3 : DigAt (w2.drewN n3) vx lx := HDX.out
        have HD3 := Lib.hid hd3
        have HX3 := Lib.hid hx3
        have hBz : Below w.heap.size w (w2.drewN n3) := below_drewN hBy _
        have hA2 : A' - M * 2 ^ k ≤ A := by omega
        clear hms hgk hlt hleq hcz hd3 hx3 hsub
        generalize hT : M * 2 ^ k = T at *
        have HT := Lib.hid hT
        clear hT
        go_wp2_with fail
        refine (sub_ok l' lx _ vx _ HD3.out HX3.out (by omega) HLE.out).mono ?_
        rintro e w4 ⟨v4, rfl, hn4, hb4⟩
        rw [HB.out, HBX.out] at hn4
        have HN4 := Lib.hid hn4
        have hB4 := hBz.trans (hb4.mono hBz.size)
        clear hn4 hb4
        go_wp2_with fail
        go_roundg (2 * (k + 1) + 1)
        case measure => exact hgk2
        case rel =>
          refine ⟨A' - T, k, rfl, by omega, by omega, HN4.out, hA2, ?_, ?_, hB4, ?_⟩
          · exact HMS.out.2.trans hmod.out
          · show _ < _
            rw [show ((k : Int) + 1).toNat = k + 1 from by omega, Nat.pow_succ, ← Nat.mul_assoc, HT.out]
            have := HMS.out.1
            omega
          · show _ < _
            have := HMS.out.1
            rw [show ((k : Int) + 1).toNat = k + 1 from by omega, Int.toNat_natCast, HT.out, if_neg (by omega)]
            omega
      · have hcm : ¬ (0 : Int) ≤ cmpOf A' (M * 2 ^ k) := by unfold cmpOf; rw [if_pos (by omega)]; omega
        have hgk2 : 2 * (k + 1) < gk := by
          have h := hgk.out
          split at h <;> omega
        have hlt2 : A' < M * 2 ^ k := by omega
        have HLT := Lib.hid hlt2
        have hN3 : Num (w2.drewN n3) _ A' := ⟨l', HD2.out, hc', HB.out⟩
        have HN3 := Lib.hid hN3
        have hBz : Below w.heap.size w (w2.drewN n3) := below_drewN hBy _
        generalize cmpOf A' (M * 2 ^ k) = cz at hcm ⊢
        clear hgk hlt hsub hlt2 hN3
        go_wp2_with fail
        go_roundg (2 * (k + 1))
        case measure => exact hgk2
        case rel =>
          refine ⟨A', k - 1, rfl, by omega, by omega, HN3.out, hle, hmod, ?_, hBz, ?_⟩
          · show _ < _
            rw [show ((k : Int) - 1 + 1).toNat = k from by omega]
            exact HLT.out
          · show _ < _
            rw [show ((k : Int) - 1 + 1).toNat = k from by omega]
            split <;> omega
end Go.Proofs.YtomdldjamdkhoaaDoor
