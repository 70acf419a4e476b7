/-
The document's answer for layer 5: its numbers modulo p.
-/
import Derived.Test.YtopelehfffjfeaaRefHalf
import Derived.Test.YtopelehfffjfeaaLimb
import Derived.Deep.LoopGhost
namespace Go.Proofs.Ytopelehfffjfeaa
open Go.RowKit

def Lim : Nat := 65536 ^ 64
theorem numAdd_ok (va vb : Value) (a b : Nat) (w : World) (ha : Num w va a) (hb : Num w vb b) (la : a < Lim) (lb : b < Lim) :
    Calls Try.prog 58 #[va, vb] w fun e w' => ∃ v', e = .returned v' ∧ Num w' v' (a + b) ∧ Below w.heap.size w w' := by
  obtain ⟨l1, d1, c1, rfl, h1⟩ := num_digs (N := 64) ha la
  obtain ⟨l2, d2, c2, rfl, h2⟩ := num_digs (N := 64) hb lb
  exact add_ok l1 l2 va vb w d1 d2 (by omega) (by omega)
theorem numSub_ok (va vb : Value) (a b : Nat) (w : World) (ha : Num w va a) (hb : Num w vb b) (la : a < Lim) (hle : b ≤ a) :
    Calls Try.prog 51 #[va, vb] w fun e w' => ∃ v', e = .returned v' ∧ Num w' v' (a - b) ∧ Below w.heap.size w w' := by
  obtain ⟨l1, d1, c1, rfl, h1⟩ := num_digs (N := 64) ha la
  obtain ⟨l2, d2, c2, rfl⟩ := hb
  exact sub_ok l1 l2 va vb w d1 d2 (by omega) hle
theorem numMul_ok (va vb : Value) (a b : Nat) (w : World) (ha : Num w va a) (hb : Num w vb b) (la : a < Lim) (lb : b < Lim) :
    Calls Try.prog 59 #[va, vb] w fun e w' => ∃ v', e = .returned v' ∧ Num w' v' (a * b) ∧ Below w.heap.size w w' := by
  obtain ⟨l1, d1, c1, rfl, h1⟩ := num_digs (N := 64) ha la
  obtain ⟨l2, d2, c2, rfl, h2⟩ := num_digs (N := 64) hb lb
  exact mul_ok l1 l2 va vb w d1 d2 (by omega) (by omega)
theorem numCmp_ok (va vb : Value) (a b : Nat) (w : World) (ha : Num w va a) (hb : Num w vb b) (la : a < Lim) :
    Calls Try.prog 34 #[va, vb] w fun e w' => e = .returned (.int .i64 (cmpOf a b)) ∧ Below w.heap.size w w' := by
  obtain ⟨l1, d1, c1, rfl, h1⟩ := num_digs (N := 64) ha la
  obtain ⟨l2, d2, c2, rfl⟩ := hb
  refine (cmp_ok l1 l2 va vb w d1 d2 (by omega)).mono ?_
  rintro e w' ⟨rfl, n, rfl⟩
  exact ⟨rfl, below_drewN (Below.refl _ _) n⟩
theorem numHalf_ok (va : Value) (a n : Nat) (w : World) (ha : Num w va a) (la : a < Lim) (hn : n ≤ 100000) :
    Calls Try.prog 60 #[va, .int .i64 n] w fun e w' => ∃ v', e = .returned v' ∧ Num w' v' (a / 2 ^ n) ∧ Below w.heap.size w w' := by
  obtain ⟨l1, d1, c1, rfl, h1⟩ := num_digs (N := 64) ha la
  exact half_ok l1 va n w d1 (by omega) hn
theorem numBytes_ok (va : Value) (a n : Nat) (w : World) (ha : Num w va a) (la : a < Lim) (hn : n ≤ 65536) :
    Calls Try.prog 66 #[va, .int .i64 n] w fun e w' => e = .returned (.string ⟨(leBytes a n).toArray⟩) ∧ Below w.heap.size w w' := by
  obtain ⟨l1, d1, c1, rfl, h1⟩ := num_digs (N := 64) ha la
  exact bytes_ok l1 va n w d1 hn (by omega)
theorem num_nil (w : World) : Num w (.slice none 0 0) 0 := ⟨[], ⟨Sm.nil, none, 0, rfl, Nat.le_refl _, Nat.zero_le _, fun i hi => absurd hi (Nat.not_lt_zero _)⟩, Can.nil, rfl⟩
theorem lim_p : pP < Lim := by decide
theorem lim_of {x : Nat} (h : x < pP) : x < Lim := Nat.lt_trans h lim_p

set_option maxHeartbeats 1000000 in
theorem refP_ok (w : World) : Calls Try.prog 52 #[] w fun e w' => ∃ v', e = .returned v' ∧ Num w' v' pP ∧ Below w.heap.size w w' := by
  have E : Hid (2 ^ 255 - 19 = pP) := rfl
  go_enter Try.func52, Try.ntmps52
  go_wp2_with fail
  have h1 : Calls Try.prog 67 #[.int .i64 255] w fun e w' => ∃ v', e = .returned v' ∧ Num w' v' (2 ^ 255) ∧ Below w.heap.size w w' := power_ok 255 w (by omega)
  refine h1.mono ?_
  rintro e w1 ⟨v1, rfl, n1, b1⟩
  have N1 := Lib.hid n1
  clear h1 n1
  go_wp2_with fail
  have h2 : Calls Try.prog 53 #[.int .i64 19] w1 fun e w' => ∃ v', e = .returned v' ∧ Num w' v' 19 ∧ Below w1.heap.size w1 w' := small_ok 19 w1 (by omega)
  refine h2.mono ?_
  rintro e w2 ⟨v2, rfl, n2, b2⟩
  have N2 := Lib.hid n2
  clear h2 n2
  go_wp2_with fail
  refine (numSub_ok v1 v2 (2 ^ 255) 19 w2 (N1.out.below b2) N2.out (by decide) (by decide)).mono ?_
  rintro e w3 ⟨v3, rfl, n3, b3⟩
  rw [E.out] at n3
  have N3 := Lib.hid n3
  have B3 := (b1.trans (b2.mono b1.size)).trans (b3.mono (Nat.le_trans b1.size b2.size))
  clear n3 b1 b2 b3
  go_wp2_with fail
  go_ret
  exact ⟨_, rfl, N3.out, B3⟩

theorem getD_set' (w : List Nat) (i d j : Nat) (hi : i < w.length) : (w.set i d).getD j 0 = if j = i then d else w.getD j 0 := by
  rw [List.getD_eq_getElem?_getD]
  by_cases e : j = i
  · subst e; rw [if_pos rfl, List.getElem?_set_self hi]; rfl
  · rw [if_neg e, List.getElem?_set_ne (Ne.symm e), List.getD_eq_getElem?_getD]
/-! ### the lowest 255 bits -/
def lowL (l : List Nat) : List Nat := (l.take 16).set 15 ((l.take 16).getD 15 0 % 32768)
theorem lowL_val {l : List Nat} (hs : Sm l) (h : 16 ≤ l.length) : bv (lowL l) = bv l % 2 ^ 255 ∧ Sm (lowL l) ∧ (lowL l).length = 16 := by
  have hl : (l.take 16).length = 16 := by rw [List.length_take]; omega
  have hst := hs.take 16
  refine ⟨?_, hst.set 15 _ (by omega), by unfold lowL; rw [List.length_set, hl]⟩
  have h1 := bv_set (l.take 16) 15 ((l.take 16).getD 15 0 % 32768) (by omega)
  have h2 := bv_take_drop l 16 h
  have h3 := bv_take_drop (l.take 16) 15 (by omega)
  have hd : (l.take 16).drop 15 = [(l.take 16).getD 15 0] := by
    rw [List.drop_eq_getElem_cons (by omega), List.drop_of_length_le (by omega)]
    simp [List.getD_eq_getElem?_getD, hl]
  rw [hd, bv_cons, bv_nil, Nat.mul_zero, Nat.add_zero] at h3
  have h4 := bv_lt (hst.take 15)
  rw [List.length_take, hl] at h4
  have h5 : min 15 16 = 15 := rfl
  rw [h5] at h4
  have e1 : (65536 : Nat) ^ 15 = 2 ^ 240 := by decide
  have e2 : (65536 : Nat) ^ 16 = 2 ^ 256 := by decide
  rw [e1] at h1 h3 h4
  rw [e2] at h2
  unfold lowL
  generalize (l.take 16).getD 15 0 = d at *
  generalize bv ((l.take 16).set 15 (d % 32768)) = X at *
  generalize bv (List.take 15 (l.take 16)) = Y at *
  generalize bv (l.take 16) = Z at *
  generalize bv (l.drop 16) = W at *
  omega
theorem can_255 {l : List Nat} (h : Can l) : (16 < l.length ∨ l.length = 16 ∧ 32768 ≤ l.getD 15 0) ↔ 2 ^ 255 ≤ bv l := by
  have e1 : (65536 : Nat) ^ 15 = 2 ^ 240 := by decide
  have e2 : (65536 : Nat) ^ 16 = 2 ^ 256 := by decide
  rcases Nat.lt_trichotomy l.length 16 with h1 | h1 | h1
  · have h2 := bv_lt h.1
    have h3 : 65536 ^ l.length ≤ 65536 ^ 15 := Nat.pow_le_pow_right (by decide) (by omega)
    rw [e1] at h3
    omega
  · have h3 := bv_take_drop l 15 (by omega)
    have hd : l.drop 15 = [l.getD 15 0] := by
      rw [List.drop_eq_getElem_cons (by omega), List.drop_of_length_le (by omega)]
      simp [List.getD_eq_getElem?_getD, h1]
    rw [hd, bv_cons, bv_nil, Nat.mul_zero, Nat.add_zero, e1] at h3
    have h4 := bv_lt (h.1.take 15)
    rw [List.length_take, h1, show min 15 16 = 15 from rfl, e1] at h4
    generalize l.getD 15 0 = d at *
    generalize bv (l.take 15) = Y at *
    omega
  · have h2 := h.lower (fun e => by rw [e] at h1; simp at h1)
    have h3 : 65536 ^ 16 ≤ 65536 ^ (l.length - 1) := Nat.pow_le_pow_right (by decide) (by omega)
    rw [e2] at h3
    omega
theorem wp_gen5 {P : Program} {c : Code} {Q : Exit → Act → World → Prop} {a : Act} {W : World} (R : World → Prop) (h : R W) (k : ∀ w1, R w1 → Code.wp P c Q a w1) : Code.wp P c Q a W := k W h
set_option maxHeartbeats 1000000 in
set_option maxRecDepth 100000 in
theorem refLow_ok (va : Value) (a : Nat) (w : World) (ha : Num w va a) (la : a < Lim) :
    Calls Try.prog 45 #[va] w fun e w' => ∃ v', e = .returned v' ∧ Num w' v' (a % 2 ^ 255) ∧ Below w.heap.size w w' := by
  obtain ⟨l, hd, hc, rfl, hl⟩ := num_digs (N := 64) ha la
  have HN := Lib.hid ha
  have HC := Lib.hid hc
  obtain ⟨hs, ao, cap, rfl, hlc, hcm, hcell⟩ := hd
  clear ha hc la
  rcases Nat.lt_or_ge l.length 16 with h16 | h16
  · have hz : Hid (bv l % 2 ^ 255 = bv l) := Nat.mod_eq_of_lt (by
      exact Classical.byContradiction fun h => by have := (can_255 HC.out).2 (Nat.le_of_not_lt h); omega)
    clear hcell hcm
    go_enter Try.func45, Try.ntmps45
    go_wp2_with fail
    go_ret
    exact ⟨_, rfl, by rw [hz.out]; exact HN.out, Below.refl _ _⟩
  · obtain ⟨V1, V2, V3⟩ := lowL_val hs h16
    obtain ⟨b, off, rfl, hc0⟩ := hcell 0 (by omega)
    have hbl : b < w.heap.size := (cell_lt hc0).1
    have HCE : Hid (∀ i, i < l.length → w.cell? ⟨b, off + i, none⟩ = some (.int .i64 (l.getD i 0 : Nat))) := fun i hi => by
      obtain ⟨b', off', e, h⟩ := hcell i hi
      simp only [Option.some.injEq, Addr.mk.injEq, and_true] at e
      obtain ⟨rfl, rfl⟩ := e
      exact h
    obtain ⟨i0, hi, hz0, hz1, hz2⟩ := info_parts digInfo
    have I := Lib.hid hi
    have I0 := Lib.hid hz0
    have I1 := Lib.hid hz1
    have I2 := Lib.hid hz2
    have VV := Lib.hid (show bv (lowL l) = bv l % 2 ^ 255 from V1)
    have VS := Lib.hid V2
    have VL := Lib.hid V3
    unfold maxLen at hcm
    have hS := Lib.hid hs
    clear V1 V2 V3 hc0 hcell hi hz0 hz1 hz2 hs
    go_enter Try.func45, Try.ntmps45
    go_wp2_with (at_builtin; refine wpList_append_own _ rfl _ _ 25 rfl w.heap.size 3 i0 (.int .i64 0) 1 8 Try.underlying25 I.out I0.out I1.out I2.out rfl (by decide) _ 0 [] rfl (World.ownsRow_made _ _ _ (Nat.le_refl _) (Nat.zero_le _) rfl) ⟨b, off, none⟩ 16 _ (dvals (l.take 16)) rfl (by simp [dvals]; omega) ?c1 ?c2 (by unfold maxLen; omega) (by omega) (by simp) ?grow)
    case c1 =>
      intro j u hj
      have hj16 : j < 16 := by
        have := (List.getElem?_eq_some_iff.1 hj).1
        simp [dvals] at this; omega
      rw [Addr.add_lit]
      have h := HCE.out j (by omega)
      have e : (dvals (l.take 16))[j]? = some (.int .i64 (l.getD j 0 : Nat)) := by
        unfold dvals
        rw [List.getElem?_map, List.getElem?_take_of_lt hj16, List.getElem?_eq_getElem (by omega)]
        simp [List.getD_eq_getElem?_getD, show j < l.length by omega]
      rw [e] at hj
      obtain rfl := Option.some.inj hj
      rw [World.cell?_alloc_past _ _ _ hbl]
      exact h
    case c2 =>
      intro u hu
      obtain ⟨d, _, rfl⟩ := List.mem_map.1 hu
      rfl
    case grow =>
      intro v' w1 hown' hgrow _
      have hb1 : Below w.heap.size w w1 := ((Below.refl _ w).alloc (Nat.le_refl _) (.cells #[] 3)).grown hgrow (by simp) (fun k hk => by simp [Value.ownBlock] at hk; omega)
      obtain ⟨g, c', cur, rfl, hgb, hcell, hlen⟩ : ∃ g c' cur, v' = .slice (some ⟨g, 0, none⟩) 16 c' ∧ w.heap.size ≤ g ∧ w1.heap[g]? = some (.cells cur 3 (0, 0)) ∧ (16 ≤ c' ∧ c' ≤ maxLen ∧ cur.size = c' ∧ cur.toList.take 16 = dvals (l.take 16)) := by
        obtain ⟨hlen, h⟩ := hown'
        rcases h with ⟨_, h0⟩ | ⟨g, cap', cur, rfl, hb, hg, hnc, hm, hsz, htk⟩
        · omega
        · exact ⟨g, cap', cur, rfl, hb, hg, by omega, hm, by simpa using hsz, by simpa using htk⟩
      obtain ⟨hc16, hcm2, hcs, htk⟩ := hlen
      unfold maxLen at hcm2
      have HB : Blk w1 g 3 cur.toList := by unfold Blk; simpa using hcell
      have hget : ∀ j, j < 16 → cur.toList[j]? = some (.int .i64 ((l.take 16).getD j 0 : Nat)) := fun j hj => by
        have h : (cur.toList.take 16)[j]? = (dvals (l.take 16))[j]? := by rw [htk]
        rw [List.getElem?_take_of_lt hj] at h
        rw [h]
        have hl16 : j < (l.take 16).length := by rw [List.length_take]; omega
        unfold dvals
        rw [List.getElem?_map, List.getElem?_eq_getElem hl16, List.getD_eq_getElem?_getD, List.getElem?_eq_getElem hl16]; rfl
      have c15 := HB.cell 15 _ (hget 15 (by omega))
      have f15 := HB.free 15
      have DN : Hid (DigAt (w1.setCell ⟨g, 15, none⟩ (.int .i64 ((l.take 16).getD 15 0 % 32768 : Nat))) (.slice (some ⟨g, 0, none⟩) 16 c') (lowL l)) := by
        refine ⟨VS.out, some ⟨g, 0, none⟩, c', by rw [VL.out], by rw [VL.out]; exact hc16, by unfold maxLen; exact hcm2, fun j hj => ⟨g, 0, rfl, ?_⟩⟩
        rw [VL.out] at hj
        rw [Nat.zero_add]
        have hB2 := HB.set 15 (.int .i64 ((l.take 16).getD 15 0 % 32768 : Nat))
        refine hB2.cell j _ ?_
        have hsz : 15 < cur.toList.length := by simp; omega
        have hl16 : (l.take 16).length = 16 := by rw [List.length_take]; omega
        unfold lowL
        by_cases hj15 : j = 15
        · subst hj15
          rw [List.getElem?_set_self hsz, getD_set' _ _ _ _ (by omega), if_pos rfl]
        · rw [List.getElem?_set_ne (Ne.symm hj15), hget j hj, getD_set' _ _ _ _ (by omega), if_neg hj15]
      have hB3 := below_set' hb1 g 15 (.int .i64 ((l.take 16).getD 15 0 % 32768 : Nat)) hgb
      have hsm := hS.out.take 16
      have hd15 := hsm.getD 15
      generalize (l.take 16).getD 15 0 = d at *
      clear hget HB htk hcell hown' hgrow hb1 hsm hcs
      go_upto_region 5 with fail
      refine wp_gen5 (fun w2 => Hid (DigAt w2 (.slice (some ⟨g, 0, none⟩) 16 c') (lowL l)) ∧ Below w.heap.size w w2) ⟨DN, hB3⟩ ?_
      rintro w2 ⟨D2, hB2⟩
      clear DN hB3 c15 f15
      go_wp2_with fail
      refine (add_ok (lowL l) [] _ _ w2 D2.out ⟨Sm.nil, none, 0, rfl, Nat.le_refl _, Nat.zero_le _, fun i hi => absurd hi (Nat.not_lt_zero _)⟩ (by rw [VL.out]; omega) (by simp)).mono ?_
      rintro e w3 ⟨v3, rfl, n3, b3⟩
      rw [VV.out, bv_nil, Nat.add_zero] at n3
      have N3 := Lib.hid n3
      have B3 := hB2.trans (b3.mono hB2.size)
      clear n3 b3
      go_wp2_with fail
      go_ret
      exact ⟨_, rfl, N3.out, B3⟩
end Go.Proofs.Ytopelehfffjfeaa
