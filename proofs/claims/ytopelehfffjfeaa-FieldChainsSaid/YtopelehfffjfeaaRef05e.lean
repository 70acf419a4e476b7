/-
The document's root.
-/
import Derived.Test.YtopelehfffjfeaaRef05d
namespace Go.Proofs.Ytopelehfffjfeaa
open Go.RowKit

set_option maxHeartbeats 2000000 in
set_option maxRecDepth 20000 in
theorem refRoot_ok (va : Value) (x : Nat) (w : World) (ha : Num w va x) (la : x < pP) :
    Calls Try.prog 37 #[va] w fun e w' => ∃ v', e = .returned (.tuple #[v', .bool (rGood x)]) ∧ Num w' v' (rRoot x) ∧ Below w.heap.size w w' := by
  have HA := Lib.hid ha
  have LA := Lib.hid la
  clear ha la
  obtain ⟨E, hE⟩ : ∃ E, E = (pP + 3) / 2 ^ 3 := ⟨_, rfl⟩
  obtain ⟨r, hr⟩ : ∃ r, r = rRoot0 x := ⟨_, rfl⟩
  have HR : Hid (x ^ E % pP = r) := by show _ = _; rw [hr, hE, rRoot0]
  have LE : Hid (E < Lim) := by show _ < _; rw [hE]; exact Nat.lt_of_le_of_lt (Nat.div_le_self _ _) (by decide)
  have LR : Hid (r < pP) := by show _ < _; rw [hr]; exact rRoot0_lt x
  have HE := Lib.hid hE.symm
  obtain ⟨r1, hr1⟩ : ∃ r1, r1 = rRoot1 x := ⟨_, rfl⟩
  have LR1 : Hid (r1 < pP) := by show _ < _; rw [hr1]; exact rRoot1_lt x
  have H1 : Hid (r1 = if r * r % pP = x then r else r * rM1 % pP) := by show _ = _; rw [hr1, hr, rRoot1]
  obtain ⟨g, hg⟩ : ∃ g, g = rGood x := ⟨_, rfl⟩
  obtain ⟨o, ho⟩ : ∃ o, o = rRoot x := ⟨_, rfl⟩
  have HG : Hid (g = decide (r1 * r1 % pP = x)) := by show _ = _; rw [hg, hr1, rGood]
  have HO : Hid (o = if g then evenR r1 else 0) := by show _ = _; rw [ho, hg, hr1, rRoot]
  have LM : Hid (rM1 < pP) := rM1_lt
  obtain ⟨M, hM⟩ : ∃ M, M = rM1 := ⟨_, rfl⟩
  have HM := Lib.hid hM.symm
  rw [← hM] at LM H1
  clear hM
  rw [← hg, ← ho]
  clear hr hE hr1 hg ho
  go_enter Try.func37, Try.ntmps37
  go_wp2_with fail
  refine (refP_ok w).mono ?_
  rintro e w1 ⟨v1, rfl, n1, b1⟩
  have N1 := Lib.hid n1
  clear n1
  go_wp2_with fail
  have h2 : Calls Try.prog 53 #[.int .i64 3] w1 fun e w' => ∃ v', e = .returned v' ∧ Num w' v' 3 ∧ Below w1.heap.size w1 w' := small_ok 3 w1 (by omega)
  refine h2.mono ?_
  rintro e w2 ⟨v2, rfl, n2, b2⟩
  have N2 := Lib.hid n2
  clear h2 n2
  go_wp2_with fail
  refine (numAdd_ok v1 v2 pP 3 w2 (N1.out.below b2) N2.out lim_p (by decide)).mono ?_
  rintro e w3 ⟨v3, rfl, n3, b3⟩
  have N3 := Lib.hid n3
  clear n3
  go_wp2_with fail
  have h4 : Calls Try.prog 60 #[v3, .int .i64 3] w3 fun e w' => ∃ v', e = .returned v' ∧ Num w' v' ((pP + 3) / 2 ^ 3) ∧ Below w3.heap.size w3 w' := numHalf_ok v3 (pP + 3) 3 w3 N3.out (by decide) (by omega)
  refine h4.mono ?_
  rintro e w4 ⟨v4, rfl, n4, b4⟩
  rw [HE.out] at n4
  have N4 := Lib.hid n4
  clear h4 n4
  go_wp2_with fail
  refine (refPower_ok va v4 x E w4 ((((HA.out.below b1).below b2).below b3).below b4) N4.out LA.out LE.out).mono ?_
  rintro e w5 ⟨v5, rfl, n5, b5⟩
  rw [HR.out] at n5
  have N5 := Lib.hid n5
  have hB5 : Below w.heap.size w w5 := b1.trans ((b2.trans ((b3.trans ((b4.trans (b5.mono b4.size)).mono b3.size)).mono b2.size)).mono b1.size)
  clear n5 b1 b2 b3 b4 b5 N1 N2 N3 N4
  go_wp2_with fail
  refine (refMul_ok v5 v5 r r w5 N5.out N5.out LR.out LR.out).mono ?_
  rintro e w6 ⟨v6, rfl, n6, b6⟩
  have N6 := Lib.hid n6
  have hB6 := hB5.trans (b6.mono hB5.size)
  have N56 := Lib.hid (N5.out.below b6)
  clear n6 b6 N5 hB5
  go_wp2_with fail
  refine (numCmp_ok v6 va (r * r % pP) x w6 N6.out (HA.out.below hB6) (lim_of (Nat.mod_lt _ pP_pos))).mono ?_
  rintro e w7 ⟨rfl, b7⟩
  have hB7 := hB6.trans (b7.mono hB6.size)
  have N7 := Lib.hid (N56.out.below b7)
  clear b7 N56 hB6
  have hc := cmp_ne (r * r % pP) x
  generalize cmpOf (r * r % pP) x = c at *
  by_cases hsq : r * r % pP = x
  · have HX : Hid (r1 = r) := by show _ = _; rw [H1.out, if_pos hsq]
    rw [decide_eq_false (by simpa using hsq)] at hc
    clear hsq
    have NX : Hid (Num w7 v5 r1) := by rw [HX.out]; exact N7
    go_wp2_with fail
    refine (refMul_ok v5 v5 r1 r1 w7 NX.out NX.out LR1.out LR1.out).mono ?_
    rintro e wa ⟨va1, rfl, na, ba⟩
    have NA := Lib.hid na
    have hBA := hB7.trans (ba.mono hB7.size)
    have NB := Lib.hid (NX.out.below ba)
    clear na ba NX hB7
    go_wp2_with fail
    refine (numCmp_ok va1 va (r1 * r1 % pP) x wa NA.out (HA.out.below hBA) (lim_of (Nat.mod_lt _ pP_pos))).mono ?_
    rintro e wb ⟨rfl, bb⟩
    have hBC := hBA.trans (bb.mono hBA.size)
    have NC := Lib.hid (NB.out.below bb)
    clear bb NB hBA NA
    have hd := cmp_ne (r1 * r1 % pP) x
    generalize cmpOf (r1 * r1 % pP) x = d at *
    by_cases hs : r1 * r1 % pP = x
    · have hg : Hid (g = true) := by show _ = _; rw [HG.out, decide_eq_true hs]
      rw [decide_eq_false (by simpa using hs)] at hd
      clear hs
      go_wp2_with fail
      refine (refOdd_ok v5 r1 wb NC.out).mono ?_
      rintro e wc ⟨rfl, rfl⟩
      by_cases hodd : r1 % 2 = 1
      · have HQ : Hid ((pP - r1) % pP = o) := by show _ = _; rw [HO.out, hg.out, if_pos rfl, evenR, if_pos hodd]
        rw [decide_eq_true hodd]
        clear hodd
        go_wp2_with fail
        have h6 : Calls Try.prog 30 #[.slice none 0 0, v5] wc fun e w' => ∃ v', e = .returned v' ∧ Num w' v' ((pP - r1) % pP) ∧ Below wc.heap.size wc w' := by
          have h := refSub_ok (.slice none 0 0) v5 0 r1 wc (num_nil _) NC.out pP_pos LR1.out
          rw [Nat.zero_add] at h
          exact h
        refine h6.mono ?_
        rintro e wd ⟨vd, rfl, nd, bd⟩
        rw [HQ.out] at nd
        have ND := Lib.hid nd
        have hBD : Below w.heap.size w wd := hBC.trans (bd.mono hBC.size)
        clear nd bd h6
        go_wp2_with fail
        go_ret2
        exact ⟨_, by rw [hg.out]; rfl, ND.out, hBD⟩
      · have HQ : Hid (r1 = o) := by show _ = _; rw [HO.out, hg.out, if_pos rfl, evenR, if_neg hodd]
        rw [decide_eq_false hodd]
        clear hodd
        go_wp2_with fail
        go_ret2
        exact ⟨_, by rw [hg.out]; rfl, by rw [← HQ.out]; exact NC.out, hBC⟩
    · have hg : Hid (g = false) := by show _ = _; rw [HG.out, decide_eq_false hs]
      rw [decide_eq_true (by simpa using hs)] at hd
      clear hs
      go_wp2_with fail
      go_ret2
      exact ⟨_, by rw [hg.out]; rfl, by rw [HO.out, hg.out]; exact num_nil _, hBC⟩
  · have HX : Hid (r1 = r * M % pP) := by show _ = _; rw [H1.out, if_neg hsq]
    rw [decide_eq_true (by simpa using hsq)] at hc
    clear hsq
    go_wp2_with fail
    refine (refMinus1_ok w7).mono ?_
    rintro e w8 ⟨v8, rfl, n8, b8⟩
    rw [HM.out] at n8
    have N8 := Lib.hid n8
    have hB8 := hB7.trans (b8.mono hB7.size)
    have N78 := Lib.hid (N7.out.below b8)
    clear n8 b8 N7 hB7
    go_wp2_with fail
    refine (refMul_ok v5 v8 r M w8 N78.out N8.out LR.out LM.out).mono ?_
    rintro e w9 ⟨v9, rfl, n9, b9⟩
    rw [← HX.out] at n9
    have N9 := Lib.hid n9
    have hB9 := hB8.trans (b9.mono hB8.size)
    clear n9 b9 N78 hB8 N8
    go_wp2_with fail
    refine (refMul_ok v9 v9 r1 r1 w9 N9.out N9.out LR1.out LR1.out).mono ?_
    rintro e wa ⟨va1, rfl, na, ba⟩
    have NA := Lib.hid na
    have hBA := hB9.trans (ba.mono hB9.size)
    have NB := Lib.hid (N9.out.below ba)
    clear na ba N9 hB9
    go_wp2_with fail
    refine (numCmp_ok va1 va (r1 * r1 % pP) x wa NA.out (HA.out.below hBA) (lim_of (Nat.mod_lt _ pP_pos))).mono ?_
    rintro e wb ⟨rfl, bb⟩
    have hBC := hBA.trans (bb.mono hBA.size)
    have NC := Lib.hid (NB.out.below bb)
    clear bb NB hBA NA
    have hd := cmp_ne (r1 * r1 % pP) x
    generalize cmpOf (r1 * r1 % pP) x = d at *
    by_cases hs : r1 * r1 % pP = x
    · have hg : Hid (g = true) := by show _ = _; rw [HG.out, decide_eq_true hs]
      rw [decide_eq_false (by simpa using hs)] at hd
      clear hs
      go_wp2_with fail
      refine (refOdd_ok v9 r1 wb NC.out).mono ?_
      rintro e wc ⟨rfl, rfl⟩
      by_cases hodd : r1 % 2 = 1
      · have HQ : Hid ((pP - r1) % pP = o) := by show _ = _; rw [HO.out, hg.out, if_pos rfl, evenR, if_pos hodd]
        rw [decide_eq_true hodd]
        clear hodd
        go_wp2_with fail
        have h6 : Calls Try.prog 30 #[.slice none 0 0, v9] wc fun e w' => ∃ v', e = .returned v' ∧ Num w' v' ((pP - r1) % pP) ∧ Below wc.heap.size wc w' := by
          have h := refSub_ok (.slice none 0 0) v9 0 r1 wc (num_nil _) NC.out pP_pos LR1.out
          rw [Nat.zero_add] at h
          exact h
        refine h6.mono ?_
        rintro e wd ⟨vd, rfl, nd, bd⟩
        rw [HQ.out] at nd
        have ND := Lib.hid nd
        have hBD : Below w.heap.size w wd := hBC.trans (bd.mono hBC.size)
        clear nd bd h6
        go_wp2_with fail
        go_ret2
        exact ⟨_, by rw [hg.out]; rfl, ND.out, hBD⟩
      · have HQ : Hid (r1 = o) := by show _ = _; rw [HO.out, hg.out, if_pos rfl, evenR, if_neg hodd]
        rw [decide_eq_false hodd]
        clear hodd
        go_wp2_with fail
        go_ret2
        exact ⟨_, by rw [hg.out]; rfl, by rw [← HQ.out]; exact NC.out, hBC⟩
    · have hg : Hid (g = false) := by show _ = _; rw [HG.out, decide_eq_false hs]
      rw [decide_eq_true (by simpa using hs)] at hd
      clear hs
      go_wp2_with fail
      go_ret2
      exact ⟨_, by rw [hg.out]; rfl, by rw [HO.out, hg.out]; exact num_nil _, hBC⟩
end Go.Proofs.Ytopelehfffjfeaa
