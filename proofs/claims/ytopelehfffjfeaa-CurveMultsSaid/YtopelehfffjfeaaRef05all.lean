/-
The document's answer for layer 5: its numbers modulo p.
The document's numbers modulo p: Cut, Of, sums, products.
The document's numbers modulo p: Of, Add, Sub, Mul, Odd, Bytes, Power.
The document's numbers modulo p: Power, Invert, Minus1, Root.
The document's root.
-/
import Derived.Test.YtopelehfffjfeaaRefHalf
import Derived.Test.YtopelehfffjfeaaLimb
import Derived.Deep.LoopGhost
import Derived.Test.YtopelehfffjfeaaFOf
namespace Go.Proofs.Ytopelehfffjfeaa
open Go.RowKit

def Lim : Nat := 65536 ^ 64
theorem numAdd_ok (va vb : Value) (a b : Nat) (w : World) (ha : Num w va a) (hb : Num w vb b) (la : a < Lim) (lb : b < Lim) :
    Calls Try.prog 58 #[va, vb] w fun e w' => ∃ v', e = .returned v' ∧ Num w' v' (a + b) ∧ Below w.heap.size w w' := by
  obtain ⟨l1, d1, c1, rfl, h1⟩ := num_digs (N := 64) ha la
  obtain ⟨l2, d2, c2, rfl, h2⟩ := num_digs (N := 64) hb lb
  exact add_ok l1 l2 va vb w d1 d2 (by omega) (by omega)
theorem numSub_ok (va vb : Value) (a b : Nat) (w : World) (ha : Num w va a) (hb : Num w vb b) (la : a < Lim) (hle : b ≤ a) :
    Calls Try.prog 51 #[va, vb] w fun e w' => ∃ v', e = .returned v' ∧ Num w' v' (a - b) ∧ Below w.heap.size w w' := by
  obtain ⟨l1, d1, c1, rfl, h1⟩ := num_digs (N := 64) ha la
  obtain ⟨l2, d2, c2, rfl⟩ := hb
  exact sub_ok l1 l2 va vb w d1 d2 (by omega) hle
theorem numMul_ok (va vb : Value) (a b : Nat) (w : World) (ha : Num w va a) (hb : Num w vb b) (la : a < Lim) (lb : b < Lim) :
    Calls Try.prog 59 #[va, vb] w fun e w' => ∃ v', e = .returned v' ∧ Num w' v' (a * b) ∧ Below w.heap.size w w' := by
  obtain ⟨l1, d1, c1, rfl, h1⟩ := num_digs (N := 64) ha la
  obtain ⟨l2, d2, c2, rfl, h2⟩ := num_digs (N := 64) hb lb
  exact mul_ok l1 l2 va vb w d1 d2 (by omega) (by omega)
theorem numCmp_ok (va vb : Value) (a b : Nat) (w : World) (ha : Num w va a) (hb : Num w vb b) (la : a < Lim) :
    Calls Try.prog 34 #[va, vb] w fun e w' => e = .returned (.int .i64 (cmpOf a b)) ∧ Below w.heap.size w w' := by
  obtain ⟨l1, d1, c1, rfl, h1⟩ := num_digs (N := 64) ha la
  obtain ⟨l2, d2, c2, rfl⟩ := hb
  refine (cmp_ok l1 l2 va vb w d1 d2 (by omega)).mono ?_
  rintro e w' ⟨rfl, n, rfl⟩
  exact ⟨rfl, below_drewN (Below.refl _ _) n⟩
theorem numHalf_ok (va : Value) (a n : Nat) (w : World) (ha : Num w va a) (la : a < Lim) (hn : n ≤ 100000) :
    Calls Try.prog 60 #[va, .int .i64 n] w fun e w' => ∃ v', e = .returned v' ∧ Num w' v' (a / 2 ^ n) ∧ Below w.heap.size w w' := by
  obtain ⟨l1, d1, c1, rfl, h1⟩ := num_digs (N := 64) ha la
  exact half_ok l1 va n w d1 (by omega) hn
theorem numBytes_ok (va : Value) (a n : Nat) (w : World) (ha : Num w va a) (la : a < Lim) (hn : n ≤ 65536) :
    Calls Try.prog 66 #[va, .int .i64 n] w fun e w' => e = .returned (.string ⟨(leBytes a n).toArray⟩) ∧ Below w.heap.size w w' := by
  obtain ⟨l1, d1, c1, rfl, h1⟩ := num_digs (N := 64) ha la
  exact bytes_ok l1 va n w d1 hn (by omega)
theorem num_nil (w : World) : Num w (.slice none 0 0) 0 := ⟨[], ⟨Sm.nil, none, 0, rfl, Nat.le_refl _, Nat.zero_le _, fun i hi => absurd hi (Nat.not_lt_zero _)⟩, Can.nil, rfl⟩
theorem lim_p : pP < Lim := by decide
theorem lim_of {x : Nat} (h : x < pP) : x < Lim := Nat.lt_trans h lim_p

set_option maxHeartbeats 1000000 in
theorem refP_ok (w : World) : Calls Try.prog 52 #[] w fun e w' => ∃ v', e = .returned v' ∧ Num w' v' pP ∧ Below w.heap.size w w' := by
  have E : Hid (2 ^ 255 - 19 = pP) := rfl
  go_enter Try.func52, Try.ntmps52
  go_wp2_with fail
  have h1 : Calls Try.prog 67 #[.int .i64 255] w fun e w' => ∃ v', e = .returned v' ∧ Num w' v' (2 ^ 255) ∧ Below w.heap.size w w' := power_ok 255 w (by omega)
  refine h1.mono ?_
  rintro e w1 ⟨v1, rfl, n1, b1⟩
  have N1 := Lib.hid n1
  clear h1 n1
  go_wp2_with fail
  have h2 : Calls Try.prog 53 #[.int .i64 19] w1 fun e w' => ∃ v', e = .returned v' ∧ Num w' v' 19 ∧ Below w1.heap.size w1 w' := small_ok 19 w1 (by omega)
  refine h2.mono ?_
  rintro e w2 ⟨v2, rfl, n2, b2⟩
  have N2 := Lib.hid n2
  clear h2 n2
  go_wp2_with fail
  refine (numSub_ok v1 v2 (2 ^ 255) 19 w2 (N1.out.below b2) N2.out (by decide) (by decide)).mono ?_
  rintro e w3 ⟨v3, rfl, n3, b3⟩
  rw [E.out] at n3
  have N3 := Lib.hid n3
  have B3 := (b1.trans (b2.mono b1.size)).trans (b3.mono (Nat.le_trans b1.size b2.size))
  clear n3 b1 b2 b3
  go_wp2_with fail
  go_ret
  exact ⟨_, rfl, N3.out, B3⟩

theorem getD_set' (w : List Nat) (i d j : Nat) (hi : i < w.length) : (w.set i d).getD j 0 = if j = i then d else w.getD j 0 := by
  rw [List.getD_eq_getElem?_getD]
  by_cases e : j = i
  · subst e; rw [if_pos rfl, List.getElem?_set_self hi]; rfl
  · rw [if_neg e, List.getElem?_set_ne (Ne.symm e), List.getD_eq_getElem?_getD]
/-! ### the lowest 255 bits -/
def lowL (l : List Nat) : List Nat := (l.take 16).set 15 ((l.take 16).getD 15 0 % 32768)
theorem lowL_val {l : List Nat} (hs : Sm l) (h : 16 ≤ l.length) : bv (lowL l) = bv l % 2 ^ 255 ∧ Sm (lowL l) ∧ (lowL l).length = 16 := by
  have hl : (l.take 16).length = 16 := by rw [List.length_take]; omega
  have hst := hs.take 16
  refine ⟨?_, hst.set 15 _ (by omega), by unfold lowL; rw [List.length_set, hl]⟩
  have h1 := bv_set (l.take 16) 15 ((l.take 16).getD 15 0 % 32768) (by omega)
  have h2 := bv_take_drop l 16 h
  have h3 := bv_take_drop (l.take 16) 15 (by omega)
  have hd : (l.take 16).drop 15 = [(l.take 16).getD 15 0] := by
    rw [List.drop_eq_getElem_cons (by omega), List.drop_of_length_le (by omega)]
    simp [List.getD_eq_getElem?_getD, hl]
  rw [hd, bv_cons, bv_nil, Nat.mul_zero, Nat.add_zero] at h3
  have h4 := bv_lt (hst.take 15)
  rw [List.length_take, hl] at h4
  have h5 : min 15 16 = 15 := rfl
  rw [h5] at h4
  have e1 : (65536 : Nat) ^ 15 = 2 ^ 240 := by decide
  have e2 : (65536 : Nat) ^ 16 = 2 ^ 256 := by decide
  rw [e1] at h1 h3 h4
  rw [e2] at h2
  unfold lowL
  generalize (l.take 16).getD 15 0 = d at *
  generalize bv ((l.take 16).set 15 (d % 32768)) = X at *
  generalize bv (List.take 15 (l.take 16)) = Y at *
  generalize bv (l.take 16) = Z at *
  generalize bv (l.drop 16) = W at *
  omega
theorem can_255 {l : List Nat} (h : Can l) : (16 < l.length ∨ l.length = 16 ∧ 32768 ≤ l.getD 15 0) ↔ 2 ^ 255 ≤ bv l := by
  have e1 : (65536 : Nat) ^ 15 = 2 ^ 240 := by decide
  have e2 : (65536 : Nat) ^ 16 = 2 ^ 256 := by decide
  rcases Nat.lt_trichotomy l.length 16 with h1 | h1 | h1
  · have h2 := bv_lt h.1
    have h3 : 65536 ^ l.length ≤ 65536 ^ 15 := Nat.pow_le_pow_right (by decide) (by omega)
    rw [e1] at h3
    omega
  · have h3 := bv_take_drop l 15 (by omega)
    have hd : l.drop 15 = [l.getD 15 0] := by
      rw [List.drop_eq_getElem_cons (by omega), List.drop_of_length_le (by omega)]
      simp [List.getD_eq_getElem?_getD, h1]
    rw [hd, bv_cons, bv_nil, Nat.mul_zero, Nat.add_zero, e1] at h3
    have h4 := bv_lt (h.1.take 15)
    rw [List.length_take, h1, show min 15 16 = 15 from rfl, e1] at h4
    generalize l.getD 15 0 = d at *
    generalize bv (l.take 15) = Y at *
    omega
  · have h2 := h.lower (fun e => by rw [e] at h1; simp at h1)
    have h3 : 65536 ^ 16 ≤ 65536 ^ (l.length - 1) := Nat.pow_le_pow_right (by decide) (by omega)
    rw [e2] at h3
    omega
theorem wp_gen5 {P : Program} {c : Code} {Q : Exit → Act → World → Prop} {a : Act} {W : World} (R : World → Prop) (h : R W) (k : ∀ w1, R w1 → Code.wp P c Q a w1) : Code.wp P c Q a W := k W h
set_option maxHeartbeats 1000000 in
set_option maxRecDepth 100000 in
theorem refLow_ok (va : Value) (a : Nat) (w : World) (ha : Num w va a) (la : a < Lim) :
    Calls Try.prog 45 #[va] w fun e w' => ∃ v', e = .returned v' ∧ Num w' v' (a % 2 ^ 255) ∧ Below w.heap.size w w' := by
  obtain ⟨l, hd, hc, rfl, hl⟩ := num_digs (N := 64) ha la
  have HN := Lib.hid ha
  have HC := Lib.hid hc
  obtain ⟨hs, ao, cap, rfl, hlc, hcm, hcell⟩ := hd
  clear ha hc la
  rcases Nat.lt_or_ge l.length 16 with h16 | h16
  · have hz : Hid (bv l % 2 ^ 255 = bv l) := Nat.mod_eq_of_lt (by
      exact Classical.byContradiction fun h => by have := (can_255 HC.out).2 (Nat.le_of_not_lt h); omega)
    clear hcell hcm
    go_enter Try.func45, Try.ntmps45
    go_wp2_with fail
    go_ret
    exact ⟨_, rfl, by rw [hz.out]; exact HN.out, Below.refl _ _⟩
  · obtain ⟨V1, V2, V3⟩ := lowL_val hs h16
    obtain ⟨b, off, rfl, hc0⟩ := hcell 0 (by omega)
    have hbl : b < w.heap.size := (cell_lt hc0).1
    have HCE : Hid (∀ i, i < l.length → w.cell? ⟨b, off + i, none⟩ = some (.int .i64 (l.getD i 0 : Nat))) := fun i hi => by
      obtain ⟨b', off', e, h⟩ := hcell i hi
      simp only [Option.some.injEq, Addr.mk.injEq, and_true] at e
      obtain ⟨rfl, rfl⟩ := e
      exact h
    obtain ⟨i0, hi, hz0, hz1, hz2⟩ := info_parts digInfo
    have I := Lib.hid hi
    have I0 := Lib.hid hz0
    have I1 := Lib.hid hz1
    have I2 := Lib.hid hz2
    have VV := Lib.hid (show bv (lowL l) = bv l % 2 ^ 255 from V1)
    have VS := Lib.hid V2
    have VL := Lib.hid V3
    unfold maxLen at hcm
    have hS := Lib.hid hs
    clear V1 V2 V3 hc0 hcell hi hz0 hz1 hz2 hs
    go_enter Try.func45, Try.ntmps45
    go_wp2_with (at_builtin; refine wpList_append_own _ rfl _ _ 25 rfl w.heap.size 3 i0 (.int .i64 0) 1 8 Try.underlying25 I.out I0.out I1.out I2.out rfl (by decide) _ 0 [] rfl (World.ownsRow_made _ _ _ (Nat.le_refl _) (Nat.zero_le _) rfl) ⟨b, off, none⟩ 16 _ (dvals (l.take 16)) rfl (by simp [dvals]; omega) ?c1 ?c2 (by unfold maxLen; omega) (by omega) (by simp) ?grow)
    case c1 =>
      intro j u hj
      have hj16 : j < 16 := by
        have := (List.getElem?_eq_some_iff.1 hj).1
        simp [dvals] at this; omega
      rw [Addr.add_lit]
      have h := HCE.out j (by omega)
      have e : (dvals (l.take 16))[j]? = some (.int .i64 (l.getD j 0 : Nat)) := by
        unfold dvals
        rw [List.getElem?_map, List.getElem?_take_of_lt hj16, List.getElem?_eq_getElem (by omega)]
        simp [List.getD_eq_getElem?_getD, show j < l.length by omega]
      rw [e] at hj
      obtain rfl := Option.some.inj hj
      rw [World.cell?_alloc_past _ _ _ hbl]
      exact h
    case c2 =>
      intro u hu
      obtain ⟨d, _, rfl⟩ := List.mem_map.1 hu
      rfl
    case grow =>
      intro v' w1 hown' hgrow _
      have hb1 : Below w.heap.size w w1 := ((Below.refl _ w).alloc (Nat.le_refl _) (.cells #[] 3)).grown hgrow (by simp) (fun k hk => by simp [Value.ownBlock] at hk; omega)
      obtain ⟨g, c', cur, rfl, hgb, hcell, hlen⟩ : ∃ g c' cur, v' = .slice (some ⟨g, 0, none⟩) 16 c' ∧ w.heap.size ≤ g ∧ w1.heap[g]? = some (.cells cur 3 (0, 0)) ∧ (16 ≤ c' ∧ c' ≤ maxLen ∧ cur.size = c' ∧ cur.toList.take 16 = dvals (l.take 16)) := by
        obtain ⟨hlen, h⟩ := hown'
        rcases h with ⟨_, h0⟩ | ⟨g, cap', cur, rfl, hb, hg, hnc, hm, hsz, htk⟩
        · omega
        · exact ⟨g, cap', cur, rfl, hb, hg, by omega, hm, by simpa using hsz, by simpa using htk⟩
      obtain ⟨hc16, hcm2, hcs, htk⟩ := hlen
      unfold maxLen at hcm2
      have HB : Blk w1 g 3 cur.toList := by unfold Blk; simpa using hcell
      have hget : ∀ j, j < 16 → cur.toList[j]? = some (.int .i64 ((l.take 16).getD j 0 : Nat)) := fun j hj => by
        have h : (cur.toList.take 16)[j]? = (dvals (l.take 16))[j]? := by rw [htk]
        rw [List.getElem?_take_of_lt hj] at h
        rw [h]
        have hl16 : j < (l.take 16).length := by rw [List.length_take]; omega
        unfold dvals
        rw [List.getElem?_map, List.getElem?_eq_getElem hl16, List.getD_eq_getElem?_getD, List.getElem?_eq_getElem hl16]; rfl
      have c15 := HB.cell 15 _ (hget 15 (by omega))
      have f15 := HB.free 15
      have DN : Hid (DigAt (w1.setCell ⟨g, 15, none⟩ (.int .i64 ((l.take 16).getD 15 0 % 32768 : Nat))) (.slice (some ⟨g, 0, none⟩) 16 c') (lowL l)) := by
        refine ⟨VS.out, some ⟨g, 0, none⟩, c', by rw [VL.out], by rw [VL.out]; exact hc16, by unfold maxLen; exact hcm2, fun j hj => ⟨g, 0, rfl, ?_⟩⟩
        rw [VL.out] at hj
        rw [Nat.zero_add]
        have hB2 := HB.set 15 (.int .i64 ((l.take 16).getD 15 0 % 32768 : Nat))
        refine hB2.cell j _ ?_
        have hsz : 15 < cur.toList.length := by simp; omega
        have hl16 : (l.take 16).length = 16 := by rw [List.length_take]; omega
        unfold lowL
        by_cases hj15 : j = 15
        · subst hj15
          rw [List.getElem?_set_self hsz, getD_set' _ _ _ _ (by omega), if_pos rfl]
        · rw [List.getElem?_set_ne (Ne.symm hj15), hget j hj, getD_set' _ _ _ _ (by omega), if_neg hj15]
      have hB3 := below_set' hb1 g 15 (.int .i64 ((l.take 16).getD 15 0 % 32768 : Nat)) hgb
      have hsm := hS.out.take 16
      have hd15 := hsm.getD 15
      generalize (l.take 16).getD 15 0 = d at *
      clear hget HB htk hcell hown' hgrow hb1 hsm hcs
      go_upto_region 5 with fail
      refine wp_gen5 (fun w2 => Hid (DigAt w2 (.slice (some ⟨g, 0, none⟩) 16 c') (lowL l)) ∧ Below w.heap.size w w2) ⟨DN, hB3⟩ ?_
      rintro w2 ⟨D2, hB2⟩
      clear DN hB3 c15 f15
      go_wp2_with fail
      refine (add_ok (lowL l) [] _ _ w2 D2.out ⟨Sm.nil, none, 0, rfl, Nat.le_refl _, Nat.zero_le _, fun i hi => absurd hi (Nat.not_lt_zero _)⟩ (by rw [VL.out]; omega) (by simp)).mono ?_
      rintro e w3 ⟨v3, rfl, n3, b3⟩
      rw [VV.out, bv_nil, Nat.add_zero] at n3
      have N3 := Lib.hid n3
      have B3 := hB2.trans (b3.mono hB2.size)
      clear n3 b3
      go_wp2_with fail
      go_ret
      exact ⟨_, rfl, N3.out, B3⟩
end Go.Proofs.Ytopelehfffjfeaa

namespace Go.Proofs.Ytopelehfffjfeaa
open Go.RowKit

theorem cut_step {A : Nat} (h : 2 ^ 255 ≤ A) : (A % 2 ^ 255 + A / 2 ^ 255 * 19) % pP = A % pP ∧ A % 2 ^ 255 + A / 2 ^ 255 * 19 < A := by
  have e := Nat.mod_add_div A (2 ^ 255)
  have e2 := pP_eq
  refine ⟨?_, ?_⟩
  · have e3 : A = (A % 2 ^ 255 + A / 2 ^ 255 * 19) + pP * (A / 2 ^ 255) := by
      have h1 : 2 ^ 255 * (A / 2 ^ 255) = pP * (A / 2 ^ 255) + 19 * (A / 2 ^ 255) := by rw [← Nat.add_mul, e2]
      omega
    conv => rhs; rw [e3]
    rw [Nat.add_mul_mod_self_left]
  · omega
theorem cut_end {A : Nat} (h : A < 2 ^ 255) : A % pP = if pP ≤ A then A - pP else A := by
  have e := pP_eq
  have hb := pP_big
  split
  · rename_i h1
    rw [Nat.mod_eq_sub_mod h1, Nat.mod_eq_of_lt (by omega)]
  · rename_i h1
    exact Nat.mod_eq_of_lt (by omega)
set_option maxHeartbeats 2000000 in
set_option maxRecDepth 100000 in
theorem refCut_ok (va : Value) (a : Nat) (w : World) (ha : Num w va a) (la : a < Lim) :
    Calls Try.prog 44 #[va] w fun e w' => ∃ v', e = .returned v' ∧ Num w' v' (a % pP) ∧ Below w.heap.size w w' := by
  have HA := Lib.hid ha
  have LA := Lib.hid la
  clear ha la
  go_enter Try.func44, Try.ntmps44
  go_wp2_with fail
  go_loopg [0] (a + 1) (fun gk v0 wr => ∃ A : Nat, Hid (Num wr v0 A) ∧ Hid (A % pP = a % pP) ∧ Hid (A < Lim) ∧ Below w.heap.size w wr ∧ Hid (A < gk))
  case atStart => exact ⟨a, HA, rfl, LA, Below.refl _ _, Nat.lt_succ_self a⟩
  case round =>
    obtain ⟨A, hn, hm, hl, hB, hg⟩ := hrel
    obtain ⟨l, hd, hc, hbv, hl64⟩ := num_digs (N := 64) hn.out hl.out
    have CAN := Lib.hid (can_255 hc)
    obtain ⟨hs, ao, cap, hv, hlc, hcm, hcell⟩ := hd
    subst hv
    have HBV := Lib.hid hbv
    have HCELL := Lib.hid hcell
    have HSM := Lib.hid hs
    clear hc hbv hcell hcm hs
    by_cases hge : 2 ^ 255 ≤ A
    · have hlen : 16 < l.length ∨ (Hid (l.length = 16) ∧ 16 ≤ l.length ∧ l.length ≤ 16 ∧ 32768 ≤ l.getD 15 0) := by
        rcases CAN.out.2 (by rw [HBV.out]; exact hge) with h | ⟨h, h2⟩
        · exact .inl h
        · exact .inr ⟨h, by omega, by omega, h2⟩
      obtain ⟨b, off, rfl, hc15⟩ := HCELL.out 15 (by omega)
      rw [← Nat.zero_add 15] at hc15
      have ST := Lib.hid (cut_step hge)
      have NL := Lib.hid hn.out
      have rest : ∀ (K : Prop), True := fun _ => trivial
      clear hge rest
      have hc15' : wr.cell? ⟨b, off + 15, none⟩ = some (.int .i64 (l.getD 15 0 : Nat)) := by simpa using hc15
      clear hc15
      generalize hdd : l.getD 15 0 = d at *
      clear hdd
      have LM : Hid (A % 2 ^ 255 < Lim) := Nat.lt_of_le_of_lt (Nat.mod_le _ _) hl.out
      have LQ : Hid (A / 2 ^ 255 < Lim) := Nat.lt_of_le_of_lt (Nat.div_le_self _ _) hl.out
      have LQ19 : Hid (A / 2 ^ 255 * 19 < Lim) := by show _ < _; have := hl.out; have := ST.out.2; omega
      rcases hlen with h16 | ⟨hL, h16a, h16b, h16d⟩
      · go_wp2_with fail
        refine (refLow_ok _ A wr NL.out hl.out).mono ?_
        rintro e w1 ⟨v1, rfl, n1, b1⟩
        have N1 := Lib.hid n1
        clear n1
        go_wp2_with fail
        have hh : Calls Try.prog 60 #[.slice (some ⟨b, off, none⟩) l.length cap, .int .i64 255] w1 fun e w' => ∃ v', e = .returned v' ∧ Num w' v' (A / 2 ^ 255) ∧ Below w1.heap.size w1 w' := numHalf_ok _ A 255 w1 (NL.out.below b1) hl.out (by omega)
        refine hh.mono ?_
        rintro e w2 ⟨v2, rfl, n2, b2⟩
        have N2 := Lib.hid n2
        clear hh n2
        go_wp2_with fail
        have hs2 : Calls Try.prog 53 #[.int .i64 19] w2 fun e w' => ∃ v', e = .returned v' ∧ Num w' v' 19 ∧ Below w2.heap.size w2 w' := small_ok 19 w2 (by omega)
        refine hs2.mono ?_
        rintro e w3 ⟨v3, rfl, n3, b3⟩
        have N3 := Lib.hid n3
        clear hs2 n3
        go_wp2_with fail
        refine (numMul_ok v2 v3 _ 19 w3 (N2.out.below b3) N3.out LQ.out (by decide)).mono ?_
        rintro e w4 ⟨v4, rfl, n4, b4⟩
        have N4 := Lib.hid n4
        clear n4
        go_wp2_with fail
        refine (numAdd_ok v1 v4 _ _ w4 (((N1.out.below b2).below b3).below b4) N4.out LM.out LQ19.out).mono ?_
        rintro e w5 ⟨v5, rfl, n5, b5⟩
        have N5 := Lib.hid n5
        have hB5 : Below w.heap.size w w5 := hB.trans (((b1.trans ((b2.trans ((b3.trans ((b4.trans (b5.mono b4.size)).mono b3.size)).mono b2.size)).mono b1.size))).mono hB.size)
        clear n5 b1 b2 b3 b4 b5
        go_wp2_with fail
        go_roundg A
        case rel => exact ⟨_, N5, by rw [ST.out.1]; exact hm.out, Lib.hid (Nat.lt_trans ST.out.2 hl.out), hB5, Lib.hid ST.out.2⟩
        case measure => exact hg.out
      · have hb16 : (((l.length : Nat) : Int) == 16) = true := by simp; omega
        have hd32 : decide ((32768 : Int) ≤ d) = true := decide_eq_true (by omega)
        go_wp2_with fail
        refine (refLow_ok _ A wr NL.out hl.out).mono ?_
        rintro e w1 ⟨v1, rfl, n1, b1⟩
        have N1 := Lib.hid n1
        clear n1
        go_wp2_with fail
        have hh : Calls Try.prog 60 #[.slice (some ⟨b, off, none⟩) l.length cap, .int .i64 255] w1 fun e w' => ∃ v', e = .returned v' ∧ Num w' v' (A / 2 ^ 255) ∧ Below w1.heap.size w1 w' := numHalf_ok _ A 255 w1 (NL.out.below b1) hl.out (by omega)
        refine hh.mono ?_
        rintro e w2 ⟨v2, rfl, n2, b2⟩
        have N2 := Lib.hid n2
        clear hh n2
        go_wp2_with fail
        have hs2 : Calls Try.prog 53 #[.int .i64 19] w2 fun e w' => ∃ v', e = .returned v' ∧ Num w' v' 19 ∧ Below w2.heap.size w2 w' := small_ok 19 w2 (by omega)
        refine hs2.mono ?_
        rintro e w3 ⟨v3, rfl, n3, b3⟩
        have N3 := Lib.hid n3
        clear hs2 n3
        go_wp2_with fail
        refine (numMul_ok v2 v3 _ 19 w3 (N2.out.below b3) N3.out LQ.out (by decide)).mono ?_
        rintro e w4 ⟨v4, rfl, n4, b4⟩
        have N4 := Lib.hid n4
        clear n4
        go_wp2_with fail
        refine (numAdd_ok v1 v4 _ _ w4 (((N1.out.below b2).below b3).below b4) N4.out LM.out LQ19.out).mono ?_
        rintro e w5 ⟨v5, rfl, n5, b5⟩
        have N5 := Lib.hid n5
        have hB5 : Below w.heap.size w w5 := hB.trans (((b1.trans ((b2.trans ((b3.trans ((b4.trans (b5.mono b4.size)).mono b3.size)).mono b2.size)).mono b1.size))).mono hB.size)
        clear n5 b1 b2 b3 b4 b5
        go_wp2_with fail
        go_roundg A
        case rel => exact ⟨_, N5, by rw [ST.out.1]; exact hm.out, Lib.hid (Nat.lt_trans ST.out.2 hl.out), hB5, Lib.hid ST.out.2⟩
        case measure => exact hg.out
    · have CE := Lib.hid (cut_end (Nat.lt_of_not_le hge))
      have NL := Lib.hid hn.out
      have hlen : l.length < 16 ∨ (l.length = 16 ∧ l.getD 15 0 < 32768) := by
        rcases Nat.lt_trichotomy l.length 16 with h | h | h
        · exact .inl h
        · refine .inr ⟨h, Nat.lt_of_not_le fun h2 => hge ?_⟩
          rw [← HBV.out]; exact CAN.out.1 (.inr ⟨h, h2⟩)
        · exact absurd (by rw [← HBV.out]; exact CAN.out.1 (.inl h)) hge
      clear hge
      have fin : ∀ K : Prop, True := fun _ => trivial
      clear fin
      rcases hlen with h16 | ⟨hL, h16d⟩
      · go_wp2_with fail
        refine (refP_ok wr).mono ?_
        rintro e w1 ⟨v1, rfl, n1, b1⟩
        have N1 := Lib.hid n1
        clear n1
        go_wp2_with fail
        refine (numCmp_ok _ v1 A pP w1 (NL.out.below b1) N1.out hl.out).mono ?_
        rintro e w2 ⟨rfl, b2⟩
        by_cases hp : pP ≤ A
        · have hc0 : decide ((0 : Int) ≤ cmpOf A pP) = true := decide_eq_true (by unfold cmpOf; split <;> (try split) <;> omega)
          rw [if_pos hp] at CE
          generalize cmpOf A pP = cc at *
          go_wp2_with fail
          refine (refP_ok w2).mono ?_
          rintro e w3 ⟨v3, rfl, n3, b3⟩
          have N3 := Lib.hid n3
          clear n3
          go_wp2_with fail
          refine (numSub_ok _ v3 A pP w3 (((NL.out.below b1).below b2).below b3) N3.out hl.out hp).mono ?_
          rintro e w4 ⟨v4, rfl, n4, b4⟩
          have N4 := Lib.hid n4
          have hB4 : Below w.heap.size w w4 := hB.trans ((b1.trans ((b2.trans ((b3.trans (b4.mono b3.size)).mono b2.size)).mono b1.size)).mono hB.size)
          clear n4 b1 b2 b3 b4
          go_wp2_with fail
          go_ret
          exact ⟨_, rfl, by rw [← hm.out, CE.out]; exact N4.out, hB4⟩
        · have hc0 : decide ((0 : Int) ≤ cmpOf A pP) = false := decide_eq_false (by unfold cmpOf; split <;> (try split) <;> omega)
          rw [if_neg hp] at CE
          generalize cmpOf A pP = cc at *
          have hB2 : Below w.heap.size w w2 := hB.trans ((b1.trans (b2.mono b1.size)).mono hB.size)
          have N2 := Lib.hid ((NL.out.below b1).below b2)
          clear b1 b2
          go_wp2_with fail
          go_ret
          exact ⟨_, rfl, by rw [← hm.out, CE.out]; exact N2.out, hB2⟩
      · have h16a : 16 ≤ l.length := Nat.le_of_eq hL.symm
        have h16b : l.length ≤ 16 := Nat.le_of_eq hL
        have HL := Lib.hid hL
        obtain ⟨b, off, rfl, hc15⟩ := HCELL.out 15 (by omega)
        generalize hdd : l.getD 15 0 = d at *
        clear hdd hL
        have hb16 : (((l.length : Nat) : Int) == 16) = true := by simp; omega
        have hd32 : decide ((32768 : Int) ≤ d) = false := decide_eq_false (by omega)
        go_wp2_with fail
        refine (refP_ok wr).mono ?_
        rintro e w1 ⟨v1, rfl, n1, b1⟩
        have N1 := Lib.hid n1
        clear n1
        go_wp2_with fail
        refine (numCmp_ok _ v1 A pP w1 (NL.out.below b1) N1.out hl.out).mono ?_
        rintro e w2 ⟨rfl, b2⟩
        by_cases hp : pP ≤ A
        · have hc0 : decide ((0 : Int) ≤ cmpOf A pP) = true := decide_eq_true (by unfold cmpOf; split <;> (try split) <;> omega)
          rw [if_pos hp] at CE
          generalize cmpOf A pP = cc at *
          go_wp2_with fail
          refine (refP_ok w2).mono ?_
          rintro e w3 ⟨v3, rfl, n3, b3⟩
          have N3 := Lib.hid n3
          clear n3
          go_wp2_with fail
          refine (numSub_ok _ v3 A pP w3 (((NL.out.below b1).below b2).below b3) N3.out hl.out hp).mono ?_
          rintro e w4 ⟨v4, rfl, n4, b4⟩
          have N4 := Lib.hid n4
          have hB4 : Below w.heap.size w w4 := hB.trans ((b1.trans ((b2.trans ((b3.trans (b4.mono b3.size)).mono b2.size)).mono b1.size)).mono hB.size)
          clear n4 b1 b2 b3 b4
          go_wp2_with fail
          go_ret
          exact ⟨_, rfl, by rw [← hm.out, CE.out]; exact N4.out, hB4⟩
        · have hc0 : decide ((0 : Int) ≤ cmpOf A pP) = false := decide_eq_false (by unfold cmpOf; split <;> (try split) <;> omega)
          rw [if_neg hp] at CE
          generalize cmpOf A pP = cc at *
          have hB2 : Below w.heap.size w w2 := hB.trans ((b1.trans (b2.mono b1.size)).mono hB.size)
          have N2 := Lib.hid ((NL.out.below b1).below b2)
          clear b1 b2
          go_wp2_with fail
          go_ret
          exact ⟨_, rfl, by rw [← hm.out, CE.out]; exact N2.out, hB2⟩
end Go.Proofs.Ytopelehfffjfeaa

namespace Go.Proofs.Ytopelehfffjfeaa
open Go.RowKit

theorem lim_256 {x : Nat} (h : x < 2 ^ 256) : x < Lim := Nat.lt_trans h (by decide)
theorem lim_255 {x : Nat} (h : x < 2 ^ 255) : x < Lim := Nat.lt_trans h (by decide)
theorem p_255 {x : Nat} (h : x < pP) : x < 2 ^ 255 := by have := pP_eq; omega
theorem lim_mul {x y : Nat} (h : x < 2 ^ 256) (g : y < 2 ^ 256) : x * y < Lim := by
  have : x * y < 2 ^ 256 * 2 ^ 256 := by
    rcases Nat.eq_zero_or_pos y with rfl | hy
    · simp
    · exact Nat.lt_of_lt_of_le (Nat.mul_lt_mul_of_pos_right h hy) (Nat.mul_le_mul_left _ (Nat.le_of_lt g))
  exact Nat.lt_trans this (by decide)
theorem refAdd_ok (va vb : Value) (a b : Nat) (w : World) (ha : Num w va a) (hb : Num w vb b) (la : a < pP) (lb : b < pP) :
    Calls Try.prog 29 #[va, vb] w fun e w' => ∃ v', e = .returned v' ∧ Num w' v' ((a + b) % pP) ∧ Below w.heap.size w w' := by
  have LS : Hid (a + b < Lim) := lim_256 (by have := pP_eq; omega)
  have LA := Lib.hid (lim_of la)
  have LB := Lib.hid (lim_of lb)
  have HA := Lib.hid ha
  have HB := Lib.hid hb
  clear la lb ha hb
  go_enter Try.func29, Try.ntmps29
  go_wp2_with fail
  refine (numAdd_ok va vb a b w HA.out HB.out LA.out LB.out).mono ?_
  rintro e w1 ⟨v1, rfl, n1, b1⟩
  have N1 := Lib.hid n1
  clear n1
  go_wp2_with fail
  refine (refCut_ok v1 (a + b) w1 N1.out LS.out).mono ?_
  rintro e w2 ⟨v2, rfl, n2, b2⟩
  have N2 := Lib.hid n2
  have hB2 : Below w.heap.size w w2 := b1.trans (b2.mono b1.size)
  clear n2 b1 b2
  go_wp2_with fail
  go_ret
  exact ⟨_, rfl, N2.out, hB2⟩
theorem refMul_ok (va vb : Value) (a b : Nat) (w : World) (ha : Num w va a) (hb : Num w vb b) (la : a < pP) (lb : b < pP) :
    Calls Try.prog 32 #[va, vb] w fun e w' => ∃ v', e = .returned v' ∧ Num w' v' (a * b % pP) ∧ Below w.heap.size w w' := by
  have LS : Hid (a * b < Lim) := lim_mul (by have := pP_eq; omega) (by have := pP_eq; omega)
  have LA := Lib.hid (lim_of la)
  have LB := Lib.hid (lim_of lb)
  have HA := Lib.hid ha
  have HB := Lib.hid hb
  clear la lb ha hb
  generalize hm : a * b = m at *
  go_enter Try.func32, Try.ntmps32
  go_wp2_with fail
  refine (numMul_ok va vb a b w HA.out HB.out LA.out LB.out).mono ?_
  rintro e w1 ⟨v1, rfl, n1, b1⟩
  rw [hm] at n1
  have N1 := Lib.hid n1
  clear n1 hm
  go_wp2_with fail
  refine (refCut_ok v1 m w1 N1.out LS.out).mono ?_
  rintro e w2 ⟨v2, rfl, n2, b2⟩
  have N2 := Lib.hid n2
  have hB2 : Below w.heap.size w w2 := b1.trans (b2.mono b1.size)
  clear n2 b1 b2
  go_wp2_with fail
  go_ret
  exact ⟨_, rfl, N2.out, hB2⟩
theorem refSub_ok (va vb : Value) (a b : Nat) (w : World) (ha : Num w va a) (hb : Num w vb b) (la : a < pP) (lb : b < pP) :
    Calls Try.prog 30 #[va, vb] w fun e w' => ∃ v', e = .returned v' ∧ Num w' v' ((a + (pP - b)) % pP) ∧ Below w.heap.size w w' := by
  have LS : Hid (a + pP < Lim) := lim_256 (by have := pP_eq; omega)
  have LD : Hid (a + (pP - b) < Lim) := lim_256 (by have := pP_eq; omega)
  have LE : Hid (b ≤ a + pP) := by show b ≤ _; omega
  have ED : Hid (a + pP - b = a + (pP - b)) := by show _ = _; omega
  have LA := Lib.hid (lim_of la)
  have HA := Lib.hid ha
  have HB := Lib.hid hb
  clear la lb ha hb
  go_enter Try.func30, Try.ntmps30
  go_wp2_with fail
  refine (refP_ok w).mono ?_
  rintro e w0 ⟨v0, rfl, n0, b0⟩
  have N0 := Lib.hid n0
  clear n0
  go_wp2_with fail
  refine (numAdd_ok va v0 a pP w0 (HA.out.below b0) N0.out LA.out lim_p).mono ?_
  rintro e w1 ⟨v1, rfl, n1, b1⟩
  have N1 := Lib.hid n1
  clear n1
  go_wp2_with fail
  refine (numSub_ok v1 vb (a + pP) b w1 N1.out ((HB.out.below b0).below b1) LS.out LE.out).mono ?_
  rintro e w2 ⟨v2, rfl, n2, b2⟩
  rw [ED.out] at n2
  have N2 := Lib.hid n2
  clear n2
  go_wp2_with fail
  refine (refCut_ok v2 _ w2 N2.out LD.out).mono ?_
  rintro e w3 ⟨v3, rfl, n3, b3⟩
  have N3 := Lib.hid n3
  have hB3 : Below w.heap.size w w3 := b0.trans ((b1.trans ((b2.trans (b3.mono b2.size)).mono b1.size)).mono b0.size)
  clear n3 b0 b1 b2 b3
  go_wp2_with fail
  go_ret
  exact ⟨_, rfl, N3.out, hB3⟩
theorem refBytes_ok (va : Value) (a : Nat) (w : World) (ha : Num w va a) (la : a < Lim) :
    Calls Try.prog 46 #[va] w fun e w' => e = .returned (.string ⟨(leBytes a 32).toArray⟩) ∧ Below w.heap.size w w' := by
  have h : Calls Try.prog 66 #[va, .int .i64 32] w fun e w' => e = .returned (.string ⟨(leBytes a 32).toArray⟩) ∧ Below w.heap.size w w' := numBytes_ok va a 32 w ha la (by omega)
  clear ha la
  generalize leBytes a 32 = L at *
  go_enter Try.func46, Try.ntmps46
  go_wp2_with fail
  refine h.mono ?_
  rintro e w1 ⟨rfl, b1⟩
  clear h
  go_wp2_with fail
  go_ret
  exact ⟨rfl, b1⟩
theorem refOf_ok (s : ByteArray) (w : World) :
    Calls Try.prog 15 #[.string s] w fun e w' => ∃ v', e = .returned v' ∧ Num w' v' (ofB s % 2 ^ 255 % pP) ∧ Below w.heap.size w w' := by
  have LM : Hid (ofB s % 2 ^ 255 < Lim) := lim_255 (Nat.mod_lt _ (by decide))
  have core : ∀ (s' : ByteArray), le8 s'.data.toList = ofB s → s'.size ≤ 32 → Hid (s'.size ≤ 65536 ∧ le8 s'.data.toList = ofB s ∧ ofB s < Lim) := fun s' h1 h2 => ⟨by omega, h1, by
    rw [← h1]
    refine Nat.lt_of_lt_of_le (le8_lt _) (Nat.le_trans (Nat.pow_le_pow_right (by decide) (show _ ≤ 32 by simp; omega)) (by decide))⟩
  have hz : s.data.toList.length = s.size := by simp
  by_cases h32 : s.size ≤ 32
  · have C := core s (by unfold ofB; rw [List.take_of_length_le (by omega)]) h32
    clear core hz
    go_enter Try.func15, Try.ntmps15
    go_wp2_with fail
    refine (of_ok s w C.out.1).mono ?_
    rintro e w1 ⟨v1, rfl, n1, b1⟩
    rw [C.out.2.1] at n1
    have N1 := Lib.hid n1
    clear n1
    go_wp2_with fail
    refine (refLow_ok v1 _ w1 N1.out C.out.2.2).mono ?_
    rintro e w2 ⟨v2, rfl, n2, b2⟩
    have N2 := Lib.hid n2
    clear n2
    go_wp2_with fail
    refine (refCut_ok v2 _ w2 N2.out LM.out).mono ?_
    rintro e w3 ⟨v3, rfl, n3, b3⟩
    have N3 := Lib.hid n3
    have hB3 : Below w.heap.size w w3 := b1.trans ((b2.trans (b3.mono b2.size)).mono b1.size)
    clear n3 b1 b2 b3
    go_wp2_with fail
    go_ret
    exact ⟨_, rfl, N3.out, hB3⟩
  · have C := core (s.extract 0 32) (by unfold ofB; simp) (by simp; omega)
    clear core hz
    go_enter Try.func15, Try.ntmps15
    go_wp2_with fail
    generalize hs' : s.extract 0 32 = s' at *
    refine (of_ok s' w C.out.1).mono ?_
    rintro e w1 ⟨v1, rfl, n1, b1⟩
    rw [C.out.2.1] at n1
    have N1 := Lib.hid n1
    clear n1 hs'
    go_wp2_with fail
    refine (refLow_ok v1 _ w1 N1.out C.out.2.2).mono ?_
    rintro e w2 ⟨v2, rfl, n2, b2⟩
    have N2 := Lib.hid n2
    clear n2
    go_wp2_with fail
    refine (refCut_ok v2 _ w2 N2.out LM.out).mono ?_
    rintro e w3 ⟨v3, rfl, n3, b3⟩
    have N3 := Lib.hid n3
    have hB3 : Below w.heap.size w w3 := b1.trans ((b2.trans (b3.mono b2.size)).mono b1.size)
    clear n3 b1 b2 b3
    go_wp2_with fail
    go_ret
    exact ⟨_, rfl, N3.out, hB3⟩
theorem num_odd_facts {w : World} {va : Value} {a : Nat} (h : Num w va a) : ∃ l : List Nat, DigAt w va l ∧ (a = 0 ↔ l = []) ∧ (l.getD 0 0 % 2 = a % 2) := by
  obtain ⟨l, d, c, rfl⟩ := h
  refine ⟨l, d, ⟨fun h => ?_, fun h => by rw [h]; rfl⟩, ?_⟩
  · cases l with
    | nil => rfl
    | cons x t =>
      have := c.lower (by simp)
      rw [h] at this
      have hp : 0 < 65536 ^ ((x :: t).length - 1) := Nat.pow_pos (by decide)
      omega
  · cases l with
    | nil => rfl
    | cons x t => simp [bv_cons]; omega
set_option maxRecDepth 20000 in
theorem refOdd_ok (va : Value) (a : Nat) (w : World) (ha : Num w va a) :
    Calls Try.prog 19 #[va] w fun e w' => e = .returned (.bool (decide (a % 2 = 1))) ∧ w' = w := by
  obtain ⟨l, d, h0, h1⟩ := num_odd_facts ha
  rw [← h1]
  clear ha h0 h1
  obtain ⟨hs, ao, cap, rfl, hlc, hcm, hcell⟩ := d
  cases l with
  | nil =>
    clear hcell hcm hs
    go_enter Try.func19, Try.ntmps19
    go_wp2_with fail
    go_ret
    exact ⟨rfl, rfl⟩
  | cons x t =>
    obtain ⟨b, off, rfl, hc0⟩ := hcell 0 (by simp)
    have hx : x < 65536 := hs.getD 0 
    rw [Nat.add_zero] at hc0
    simp only [List.getD_cons_zero] at hc0 ⊢
    clear hcell hcm hs
    generalize hn : (x :: t).length = n at *
    have hn0 : 0 < n := by rw [← hn]; simp
    clear hn
    go_enter Try.func19, Try.ntmps19
    go_wp2_with fail
    go_ret
    refine ⟨?_, rfl⟩
    show Ending.returned (Value.bool ((x : Int) % 2 == 1)) = _
    congr 2
    by_cases hx2 : x % 2 = 1
    · simp [hx2]; omega
    · simp [hx2]; omega
/-! ### powers: the digits' bits, highest first -/
theorem dig_bit {l : List Nat} (h : Sm l) (i : Nat) (hi : i < 16 * l.length) : l.getD (i / 16) 0 / 2 ^ (i % 16) % 2 = bv l / 2 ^ i % 2 := by
  have h1 := bv_take_drop l (i / 16) (by omega)
  have h2 := bv_lt (h.take (i / 16))
  rw [List.length_take, Nat.min_eq_left (by omega)] at h2
  have hd : l.drop (i / 16) = l.getD (i / 16) 0 :: l.drop (i / 16 + 1) := by
    rw [List.drop_eq_getElem_cons (by omega)]
    simp [List.getD_eq_getElem?_getD, show i / 16 < l.length by omega]
  rw [hd, bv_cons] at h1
  have h3 : l.getD (i / 16) 0 < 65536 := h.getD _
  generalize l.getD (i / 16) 0 = d at *
  generalize bv (l.drop (i / 16 + 1)) = R at *
  generalize bv (l.take (i / 16)) = L at *
  have e1 : (65536 : Nat) ^ (i / 16) = 2 ^ (16 * (i / 16)) := by rw [show (65536 : Nat) = 2 ^ 16 by decide, ← Nat.pow_mul]
  rw [e1] at h1 h2
  have e2 : 2 ^ i = 2 ^ (16 * (i / 16)) * 2 ^ (i % 16) := by rw [← Nat.pow_add, Nat.div_add_mod]
  rw [e2, ← Nat.div_div_eq_div_mul, h1, Nat.add_mul_div_left _ _ (Nat.pow_pos (by decide)), Nat.div_eq_of_lt h2, Nat.zero_add]
  have hm : i % 16 < 16 := Nat.mod_lt _ (by decide)
  have e3 : 65536 * R = 2 ^ (i % 16) * (2 * (2 ^ (15 - i % 16) * R)) := by
    have : (65536 : Nat) = 2 ^ (i % 16) * (2 * 2 ^ (15 - i % 16)) := by
      rw [← Nat.pow_succ', ← Nat.pow_add, show i % 16 + (15 - i % 16 + 1) = 16 by omega]
    conv => lhs; rw [this]
    rw [Nat.mul_assoc, Nat.mul_assoc]
  rw [e3, Nat.add_mul_div_left _ _ (Nat.pow_pos (by decide)), Nat.add_mul_mod_self_left]
end Go.Proofs.Ytopelehfffjfeaa

namespace Go.Proofs.Ytopelehfffjfeaa
open Go.RowKit

theorem pow_step (a E k : Nat) (h : E / 2 ^ k % 2 = 1) : a ^ (E / 2 ^ (k + 1)) % pP * (a ^ (E / 2 ^ (k + 1)) % pP) % pP * (a % pP) % pP = a ^ (E / 2 ^ k) % pP := by
  have e0 : E / 2 ^ (k + 1) = E / 2 ^ k / 2 := by rw [Nat.div_div_eq_div_mul, Nat.pow_succ]
  rw [e0]
  generalize E / 2 ^ k = X at *
  have e : X = X / 2 + X / 2 + 1 := by omega
  conv => rhs; rw [e, Nat.pow_succ, Nat.pow_add]
  rw [← Nat.mul_mod (a ^ (X / 2)), ← Nat.mul_mod]
theorem pow_step0 (a E k : Nat) (h : E / 2 ^ k % 2 = 0) : a ^ (E / 2 ^ (k + 1)) % pP * (a ^ (E / 2 ^ (k + 1)) % pP) % pP = a ^ (E / 2 ^ k) % pP := by
  have e0 : E / 2 ^ (k + 1) = E / 2 ^ k / 2 := by rw [Nat.div_div_eq_div_mul, Nat.pow_succ]
  rw [e0]
  generalize E / 2 ^ k = X at *
  have e : X = X / 2 + X / 2 := by omega
  conv => rhs; rw [e, Nat.pow_add]
  rw [← Nat.mul_mod]
set_option maxHeartbeats 2000000 in
set_option maxRecDepth 100000 in
theorem refPower_ok (va vn : Value) (a E : Nat) (w : World) (ha : Num w va a) (hn : Num w vn E) (la : a < pP) (le : E < Lim) :
    Calls Try.prog 50 #[va, vn] w fun e w' => ∃ v', e = .returned v' ∧ Num w' v' (a ^ E % pP) ∧ Below w.heap.size w w' := by
  have ha0 : a % pP = a := Nat.mod_eq_of_lt la
  have S1 := Lib.hid (fun k h => by have := pow_step a E k h; rw [ha0] at this; exact this)
  have S0 := Lib.hid (pow_step0 a E)
  have HA := Lib.hid ha
  have LA := Lib.hid la
  have HN := Lib.hid hn
  obtain ⟨l, hd, hc, hbv, hl64⟩ := num_digs (N := 64) hn le
  obtain ⟨hs, ao, cap, rfl, hlc, hcm, hcell⟩ := hd
  have HC := Lib.hid hcell
  have BIT := Lib.hid (fun i hi => by have := dig_bit hs i hi; rw [hbv] at this; exact this)
  have HS := Lib.hid hs
  have E0 : Hid (E / 2 ^ (16 * l.length) = 0) := Nat.div_eq_of_lt (by
    have := bv_lt hs
    rw [show (65536 : Nat) = 2 ^ 16 by decide, ← Nat.pow_mul, hbv] at this
    exact this)
  clear ha hn hbv hcell hs hc la le ha0
  go_enter Try.func50, Try.ntmps50
  go_wp2_with fail
  have hs1 : Calls Try.prog 53 #[.int .i64 1] w fun e w' => ∃ v', e = .returned v' ∧ Num w' v' 1 ∧ Below w.heap.size w w' := small_ok 1 w (by omega)
  refine hs1.mono ?_
  rintro e w1 ⟨v1, rfl, n1, b1⟩
  have N1 := Lib.hid n1
  clear hs1 n1
  go_wp2_with fail
  go_loopg [5, 6] (16 * l.length) (fun gk v5 v6 wr => v6 = .int .i64 ((gk : Int) - 1) ∧ gk ≤ 16 * l.length ∧ Hid (Num wr v5 (a ^ (E / 2 ^ gk) % pP)) ∧ Below w.heap.size w wr)
  case atStart => exact ⟨by go_num, Nat.le_refl _, by rw [E0.out, Nat.pow_zero]; exact N1.out, b1⟩
  case round =>
    clear N1 b1
    obtain ⟨rfl, hgk, hnum, hB⟩ := hrel
    cases gk with
    | zero =>
      have hd : decide ((0 : Int) ≤ ((0 : Nat) : Int) - 1) = false := rfl
      go_wp2_with fail
      go_ret
      exact ⟨_, rfl, by have := hnum.out; rw [Nat.pow_zero, Nat.div_one] at this; exact this, hB⟩
    | succ k =>
      rw [show ((k + 1 : Nat) : Int) - 1 = (k : Int) by omega]
      obtain ⟨b, off, rfl, hc0⟩ := HC.out (k / 16) (by omega)
      have BK := Lib.hid (BIT.out k (by omega))
      have LP : Hid (a ^ (E / 2 ^ (k + 1)) % pP < pP) := Nat.mod_lt _ pP_pos
      have LP2 : Hid (a ^ (E / 2 ^ (k + 1)) % pP * (a ^ (E / 2 ^ (k + 1)) % pP) % pP < pP) := Nat.mod_lt _ pP_pos
      have S1k := Lib.hid (S1.out k)
      have S0k := Lib.hid (S0.out k)
      generalize a ^ (E / 2 ^ (k + 1)) % pP = x at *
      have hk0 : Hid (l.getD (k / 16) 0 < 65536) := HS.out.getD _
      generalize hdg : l.getD (k / 16) 0 = d at *
      clear hdg
      have hk16 : k / 16 < l.length := by omega
      go_wp2_with fail
      refine (refMul_ok _ _ x x wr hnum.out hnum.out LP.out LP.out).mono ?_
      rintro e w2 ⟨v2, rfl, n2, b2⟩
      have N2 := Lib.hid n2
      have hB2 := hB.trans (b2.mono hB.size)
      clear n2 b2
      have c2 : w2.cell? ⟨b, off + k / 16, none⟩ = some (.int .i64 d) := by rw [hB2.cell (cell_lt hc0).1]; exact hc0
      clear hc0
      obtain ⟨q, hq⟩ : ∃ q, q = k / 16 := ⟨_, rfl⟩
      obtain ⟨r, hr⟩ : ∃ r, r = k % 16 := ⟨_, rfl⟩
      have hr16 : r < 16 := by omega
      have iq : (k : Int) / 16 = q := by omega
      have ir : (k : Int) % 16 = r := by omega
      rw [← hq] at c2 hk16
      rw [← hr] at BK
      clear hq hr
      have hbit : ((((d : Int) / 2 ^ r).tmod 2 == 1) = true ∧ Hid (E / 2 ^ k % 2 = 1)) ∨ ((((d : Int) / 2 ^ r).tmod 2 == 1) = false ∧ Hid (E / 2 ^ k % 2 = 0)) := by
        rw [← BK.out]
        have e : ((d : Int) / 2 ^ r).tmod 2 = ((d / 2 ^ r % 2 : Nat) : Int) := by
          rw [show (d : Int) / 2 ^ r = ((d / 2 ^ r : Nat) : Int) by rw [Int.natCast_ediv, Int.natCast_pow]; rfl]
          rfl
        rw [e]
        rcases Nat.mod_two_eq_zero_or_one (d / 2 ^ r) with h | h
        · right; rw [h]; exact ⟨rfl, rfl⟩
        · left; rw [h]; exact ⟨rfl, rfl⟩
      clear BK
      rcases hbit with ⟨hb, hB1⟩ | ⟨hb, hB0⟩
      · have X1 := Lib.hid (S1k.out hB1.out)
        go_wp2_with fail
        refine (refMul_ok _ _ _ _ w2 N2.out (HA.out.below hB2) LP2.out LA.out).mono ?_
        rintro e w3 ⟨v3, rfl, n3, b3⟩
        rw [X1.out] at n3
        have N3 := Lib.hid n3
        have hB3 := hB2.trans (b3.mono hB2.size)
        clear n3 b3
        go_wp2_with fail
        go_roundg k
        case rel => exact ⟨by go_num, by omega, N3, hB3⟩
        case measure => omega
      · have X0 := Lib.hid (S0k.out hB0.out)
        go_wp2_with fail
        go_roundg k
        case rel => exact ⟨by go_num, by omega, by rw [← X0.out]; exact N2, hB2⟩
        case measure => omega
theorem below_num {w w1 : World} {v : Value} {a : Nat} (h : Hid (Num w v a)) (b : Below w.heap.size w w1) : Hid (Num w1 v a) := h.out.below b
/-- two quotients are like only when they are the same -/
theorem cmp_ne (a b : Nat) : (cmpOf a b != 0) = decide (a ≠ b) := by
  unfold cmpOf
  split
  · rename_i h; rw [decide_eq_true (by omega)]; rfl
  · split
    · rename_i h1 h; rw [decide_eq_true (by omega)]; rfl
    · rename_i h1 h; rw [decide_eq_false (by omega)]; rfl
set_option maxRecDepth 20000 in
theorem refInvert_ok (va : Value) (a : Nat) (w : World) (ha : Num w va a) (la : a < pP) :
    Calls Try.prog 24 #[va] w fun e w' => ∃ v', e = .returned v' ∧ Num w' v' (a ^ (pP - 2) % pP) ∧ Below w.heap.size w w' := by
  have HA := Lib.hid ha
  have LA := Lib.hid la
  clear ha la
  obtain ⟨E, hE⟩ : ∃ E, E = pP - 2 := ⟨_, rfl⟩
  have LE : Hid (E < Lim) := by show _ < _; rw [hE]; exact Nat.lt_of_le_of_lt (Nat.sub_le _ _) lim_p
  rw [← hE]
  have HE := Lib.hid hE.symm
  clear hE
  go_enter Try.func24, Try.ntmps24
  go_wp2_with fail
  refine (refP_ok w).mono ?_
  rintro e w1 ⟨v1, rfl, n1, b1⟩
  have N1 := Lib.hid n1
  clear n1
  go_wp2_with fail
  have h2 : Calls Try.prog 53 #[.int .i64 2] w1 fun e w' => ∃ v', e = .returned v' ∧ Num w' v' 2 ∧ Below w1.heap.size w1 w' := small_ok 2 w1 (by omega)
  refine h2.mono ?_
  rintro e w2 ⟨v2, rfl, n2, b2⟩
  have N2 := Lib.hid n2
  clear h2 n2
  go_wp2_with fail
  refine (numSub_ok v1 v2 pP 2 w2 (N1.out.below b2) N2.out lim_p (by decide)).mono ?_
  rintro e w3 ⟨v3, rfl, n3, b3⟩
  rw [HE.out] at n3
  have N3 := Lib.hid n3
  clear n3
  go_wp2_with fail
  refine (refPower_ok va v3 a E w3 (((HA.out.below b1).below b2).below b3) N3.out LA.out LE.out).mono ?_
  rintro e w4 ⟨v4, rfl, n4, b4⟩
  have N4 := Lib.hid n4
  have hB4 : Below w.heap.size w w4 := b1.trans ((b2.trans ((b3.trans (b4.mono b3.size)).mono b2.size)).mono b1.size)
  clear n4 b1 b2 b3 b4
  go_wp2_with fail
  go_ret
  exact ⟨_, rfl, N4.out, hB4⟩
def evenR (r : Nat) : Nat := if r % 2 = 1 then (pP - r) % pP else r
theorem evenR_lt {r : Nat} (h : r < pP) : evenR r < pP := by unfold evenR; split; exact Nat.mod_lt _ pP_pos; exact h
def rM1 : Nat := evenR (2 ^ (pP / 2 ^ 2) % pP)
theorem rM1_lt : rM1 < pP := evenR_lt (Nat.mod_lt _ pP_pos)
set_option maxRecDepth 20000 in
theorem refMinus1_ok (w : World) :
    Calls Try.prog 61 #[] w fun e w' => ∃ v', e = .returned v' ∧ Num w' v' rM1 ∧ Below w.heap.size w w' := by
  obtain ⟨E, hE⟩ : ∃ E, E = pP / 2 ^ 2 := ⟨_, rfl⟩
  have LE : Hid (E < Lim) := by show _ < _; rw [hE]; exact Nat.lt_of_le_of_lt (Nat.div_le_self _ _) lim_p
  have HE := Lib.hid hE.symm
  obtain ⟨M, hM⟩ : ∃ M, M = rM1 := ⟨_, rfl⟩
  obtain ⟨r, hr⟩ : ∃ r, r = 2 ^ E % pP := ⟨_, rfl⟩
  have HM : Hid (M = evenR r) := by show _ = _; rw [hM, hr, hE, rM1]
  rw [← hM]
  have HR := Lib.hid hr.symm
  have LR : Hid (r < pP) := by show _ < _; rw [hr]; exact Nat.mod_lt _ pP_pos
  clear hM hE hr
  go_enter Try.func61, Try.ntmps61
  go_wp2_with fail
  have h1 : Calls Try.prog 53 #[.int .i64 2] w fun e w' => ∃ v', e = .returned v' ∧ Num w' v' 2 ∧ Below w.heap.size w w' := small_ok 2 w (by omega)
  refine h1.mono ?_
  rintro e w1 ⟨v1, rfl, n1, b1⟩
  have N1 := Lib.hid n1
  clear h1 n1
  go_wp2_with fail
  refine (refP_ok w1).mono ?_
  rintro e w2 ⟨v2, rfl, n2, b2⟩
  have N2 := Lib.hid n2
  clear n2
  go_wp2_with fail
  have h3 : Calls Try.prog 60 #[v2, .int .i64 2] w2 fun e w' => ∃ v', e = .returned v' ∧ Num w' v' (pP / 2 ^ 2) ∧ Below w2.heap.size w2 w' := numHalf_ok v2 pP 2 w2 N2.out lim_p (by omega)
  refine h3.mono ?_
  rintro e w3 ⟨v3, rfl, n3, b3⟩
  rw [HE.out] at n3
  have N3 := Lib.hid n3
  clear h3 n3
  go_wp2_with fail
  refine (refPower_ok v1 v3 2 E w3 ((N1.out.below b2).below b3) N3.out (by decide) LE.out).mono ?_
  rintro e w4 ⟨v4, rfl, n4, b4⟩
  rw [HR.out] at n4
  have N4 := Lib.hid n4
  have hB4 : Below w.heap.size w w4 := b1.trans ((b2.trans ((b3.trans (b4.mono b3.size)).mono b2.size)).mono b1.size)
  clear n4 b1 b2 b3 b4
  go_wp2_with fail
  refine (refOdd_ok v4 r w4 N4.out).mono ?_
  rintro e w5 ⟨rfl, rfl⟩
  by_cases ho : r % 2 = 1
  · have HO : Hid ((pP - r) % pP = M) := by show _ = _; rw [HM.out]; unfold evenR; rw [if_pos ho]
    rw [decide_eq_true ho]
    clear ho
    go_wp2_with fail
    have h6 : Calls Try.prog 30 #[.slice none 0 0, v4] w5 fun e w' => ∃ v', e = .returned v' ∧ Num w' v' ((pP - r) % pP) ∧ Below w5.heap.size w5 w' := by
      have h := refSub_ok (.slice none 0 0) v4 0 r w5 (num_nil _) N4.out pP_pos LR.out
      rw [Nat.zero_add] at h
      exact h
    refine h6.mono ?_
    rintro e w6 ⟨v6, rfl, n6, b6⟩
    rw [HO.out] at n6
    have N6 := Lib.hid n6
    have hB6 : Below w.heap.size w w6 := hB4.trans (b6.mono hB4.size)
    clear n6 b6 h6
    go_wp2_with fail
    go_ret
    exact ⟨_, rfl, N6.out, hB6⟩
  · have HO : Hid (r = M) := by show _ = _; rw [HM.out]; unfold evenR; rw [if_neg ho]
    rw [decide_eq_false ho]
    clear ho
    go_wp2_with fail
    go_ret
    exact ⟨_, rfl, by rw [← HO.out]; exact N4.out, hB4⟩
def rRoot0 (x : Nat) : Nat := x ^ ((pP + 3) / 8) % pP
def rRoot1 (x : Nat) : Nat := if rRoot0 x * rRoot0 x % pP = x then rRoot0 x else rRoot0 x * rM1 % pP
theorem rRoot0_lt (x : Nat) : rRoot0 x < pP := Nat.mod_lt _ pP_pos
theorem rRoot1_lt (x : Nat) : rRoot1 x < pP := by unfold rRoot1; split; exact rRoot0_lt x; exact Nat.mod_lt _ pP_pos
def rGood (x : Nat) : Bool := decide (rRoot1 x * rRoot1 x % pP = x)
def rRoot (x : Nat) : Nat := if rGood x then evenR (rRoot1 x) else 0
end Go.Proofs.Ytopelehfffjfeaa

namespace Go.Proofs.Ytopelehfffjfeaa
open Go.RowKit

set_option maxHeartbeats 2000000 in
set_option maxRecDepth 20000 in
theorem refRoot_ok (va : Value) (x : Nat) (w : World) (ha : Num w va x) (la : x < pP) :
    Calls Try.prog 37 #[va] w fun e w' => ∃ v', e = .returned (.tuple #[v', .bool (rGood x)]) ∧ Num w' v' (rRoot x) ∧ Below w.heap.size w w' := by
  have HA := Lib.hid ha
  have LA := Lib.hid la
  clear ha la
  obtain ⟨E, hE⟩ : ∃ E, E = (pP + 3) / 2 ^ 3 := ⟨_, rfl⟩
  obtain ⟨r, hr⟩ : ∃ r, r = rRoot0 x := ⟨_, rfl⟩
  have HR : Hid (x ^ E % pP = r) := by show _ = _; rw [hr, hE, rRoot0]
  have LE : Hid (E < Lim) := by show _ < _; rw [hE]; exact Nat.lt_of_le_of_lt (Nat.div_le_self _ _) (by decide)
  have LR : Hid (r < pP) := by show _ < _; rw [hr]; exact rRoot0_lt x
  have HE := Lib.hid hE.symm
  obtain ⟨r1, hr1⟩ : ∃ r1, r1 = rRoot1 x := ⟨_, rfl⟩
  have LR1 : Hid (r1 < pP) := by show _ < _; rw [hr1]; exact rRoot1_lt x
  have H1 : Hid (r1 = if r * r % pP = x then r else r * rM1 % pP) := by show _ = _; rw [hr1, hr, rRoot1]
  obtain ⟨g, hg⟩ : ∃ g, g = rGood x := ⟨_, rfl⟩
  obtain ⟨o, ho⟩ : ∃ o, o = rRoot x := ⟨_, rfl⟩
  have HG : Hid (g = decide (r1 * r1 % pP = x)) := by show _ = _; rw [hg, hr1, rGood]
  have HO : Hid (o = if g then evenR r1 else 0) := by show _ = _; rw [ho, hg, hr1, rRoot]
  have LM : Hid (rM1 < pP) := rM1_lt
  obtain ⟨M, hM⟩ : ∃ M, M = rM1 := ⟨_, rfl⟩
  have HM := Lib.hid hM.symm
  rw [← hM] at LM H1
  clear hM
  rw [← hg, ← ho]
  clear hr hE hr1 hg ho
  go_enter Try.func37, Try.ntmps37
  go_wp2_with fail
  refine (refP_ok w).mono ?_
  rintro e w1 ⟨v1, rfl, n1, b1⟩
  have N1 := Lib.hid n1
  clear n1
  go_wp2_with fail
  have h2 : Calls Try.prog 53 #[.int .i64 3] w1 fun e w' => ∃ v', e = .returned v' ∧ Num w' v' 3 ∧ Below w1.heap.size w1 w' := small_ok 3 w1 (by omega)
  refine h2.mono ?_
  rintro e w2 ⟨v2, rfl, n2, b2⟩
  have N2 := Lib.hid n2
  clear h2 n2
  go_wp2_with fail
  refine (numAdd_ok v1 v2 pP 3 w2 (N1.out.below b2) N2.out lim_p (by decide)).mono ?_
  rintro e w3 ⟨v3, rfl, n3, b3⟩
  have N3 := Lib.hid n3
  clear n3
  go_wp2_with fail
  have h4 : Calls Try.prog 60 #[v3, .int .i64 3] w3 fun e w' => ∃ v', e = .returned v' ∧ Num w' v' ((pP + 3) / 2 ^ 3) ∧ Below w3.heap.size w3 w' := numHalf_ok v3 (pP + 3) 3 w3 N3.out (by decide) (by omega)
  refine h4.mono ?_
  rintro e w4 ⟨v4, rfl, n4, b4⟩
  rw [HE.out] at n4
  have N4 := Lib.hid n4
  clear h4 n4
  go_wp2_with fail
  refine (refPower_ok va v4 x E w4 ((((HA.out.below b1).below b2).below b3).below b4) N4.out LA.out LE.out).mono ?_
  rintro e w5 ⟨v5, rfl, n5, b5⟩
  rw [HR.out] at n5
  have N5 := Lib.hid n5
  have hB5 : Below w.heap.size w w5 := b1.trans ((b2.trans ((b3.trans ((b4.trans (b5.mono b4.size)).mono b3.size)).mono b2.size)).mono b1.size)
  clear n5 b1 b2 b3 b4 b5 N1 N2 N3 N4
  go_wp2_with fail
  refine (refMul_ok v5 v5 r r w5 N5.out N5.out LR.out LR.out).mono ?_
  rintro e w6 ⟨v6, rfl, n6, b6⟩
  have N6 := Lib.hid n6
  have hB6 := hB5.trans (b6.mono hB5.size)
  have N56 := Lib.hid (N5.out.below b6)
  clear n6 b6 N5 hB5
  go_wp2_with fail
  refine (numCmp_ok v6 va (r * r % pP) x w6 N6.out (HA.out.below hB6) (lim_of (Nat.mod_lt _ pP_pos))).mono ?_
  rintro e w7 ⟨rfl, b7⟩
  have hB7 := hB6.trans (b7.mono hB6.size)
  have N7 := Lib.hid (N56.out.below b7)
  clear b7 N56 hB6
  have hc := cmp_ne (r * r % pP) x
  generalize cmpOf (r * r % pP) x = c at *
  by_cases hsq : r * r % pP = x
  · have HX : Hid (r1 = r) := by show _ = _; rw [H1.out, if_pos hsq]
    rw [decide_eq_false (by simpa using hsq)] at hc
    clear hsq
    have NX : Hid (Num w7 v5 r1) := by rw [HX.out]; exact N7
    go_wp2_with fail
    refine (refMul_ok v5 v5 r1 r1 w7 NX.out NX.out LR1.out LR1.out).mono ?_
    rintro e wa ⟨va1, rfl, na, ba⟩
    have NA := Lib.hid na
    have hBA := hB7.trans (ba.mono hB7.size)
    have NB := Lib.hid (NX.out.below ba)
    clear na ba NX hB7
    go_wp2_with fail
    refine (numCmp_ok va1 va (r1 * r1 % pP) x wa NA.out (HA.out.below hBA) (lim_of (Nat.mod_lt _ pP_pos))).mono ?_
    rintro e wb ⟨rfl, bb⟩
    have hBC := hBA.trans (bb.mono hBA.size)
    have NC := Lib.hid (NB.out.below bb)
    clear bb NB hBA NA
    have hd := cmp_ne (r1 * r1 % pP) x
    generalize cmpOf (r1 * r1 % pP) x = d at *
    by_cases hs : r1 * r1 % pP = x
    · have hg : Hid (g = true) := by show _ = _; rw [HG.out, decide_eq_true hs]
      rw [decide_eq_false (by simpa using hs)] at hd
      clear hs
      go_wp2_with fail
      refine (refOdd_ok v5 r1 wb NC.out).mono ?_
      rintro e wc ⟨rfl, rfl⟩
      by_cases hodd : r1 % 2 = 1
      · have HQ : Hid ((pP - r1) % pP = o) := by show _ = _; rw [HO.out, hg.out, if_pos rfl, evenR, if_pos hodd]
        rw [decide_eq_true hodd]
        clear hodd
        go_wp2_with fail
        have h6 : Calls Try.prog 30 #[.slice none 0 0, v5] wc fun e w' => ∃ v', e = .returned v' ∧ Num w' v' ((pP - r1) % pP) ∧ Below wc.heap.size wc w' := by
          have h := refSub_ok (.slice none 0 0) v5 0 r1 wc (num_nil _) NC.out pP_pos LR1.out
          rw [Nat.zero_add] at h
          exact h
        refine h6.mono ?_
        rintro e wd ⟨vd, rfl, nd, bd⟩
        rw [HQ.out] at nd
        have ND := Lib.hid nd
        have hBD : Below w.heap.size w wd := hBC.trans (bd.mono hBC.size)
        clear nd bd h6
        go_wp2_with fail
        go_ret2
        exact ⟨_, by rw [hg.out]; rfl, ND.out, hBD⟩
      · have HQ : Hid (r1 = o) := by show _ = _; rw [HO.out, hg.out, if_pos rfl, evenR, if_neg hodd]
        rw [decide_eq_false hodd]
        clear hodd
        go_wp2_with fail
        go_ret2
        exact ⟨_, by rw [hg.out]; rfl, by rw [← HQ.out]; exact NC.out, hBC⟩
    · have hg : Hid (g = false) := by show _ = _; rw [HG.out, decide_eq_false hs]
      rw [decide_eq_true (by simpa using hs)] at hd
      clear hs
      go_wp2_with fail
      go_ret2
      exact ⟨_, by rw [hg.out]; rfl, by rw [HO.out, hg.out]; exact num_nil _, hBC⟩
  · have HX : Hid (r1 = r * M % pP) := by show _ = _; rw [H1.out, if_neg hsq]
    rw [decide_eq_true (by simpa using hsq)] at hc
    clear hsq
    go_wp2_with fail
    refine (refMinus1_ok w7).mono ?_
    rintro e w8 ⟨v8, rfl, n8, b8⟩
    rw [HM.out] at n8
    have N8 := Lib.hid n8
    have hB8 := hB7.trans (b8.mono hB7.size)
    have N78 := Lib.hid (N7.out.below b8)
    clear n8 b8 N7 hB7
    go_wp2_with fail
    refine (refMul_ok v5 v8 r M w8 N78.out N8.out LR.out LM.out).mono ?_
    rintro e w9 ⟨v9, rfl, n9, b9⟩
    rw [← HX.out] at n9
    have N9 := Lib.hid n9
    have hB9 := hB8.trans (b9.mono hB8.size)
    clear n9 b9 N78 hB8 N8
    go_wp2_with fail
    refine (refMul_ok v9 v9 r1 r1 w9 N9.out N9.out LR1.out LR1.out).mono ?_
    rintro e wa ⟨va1, rfl, na, ba⟩
    have NA := Lib.hid na
    have hBA := hB9.trans (ba.mono hB9.size)
    have NB := Lib.hid (N9.out.below ba)
    clear na ba N9 hB9
    go_wp2_with fail
    refine (numCmp_ok va1 va (r1 * r1 % pP) x wa NA.out (HA.out.below hBA) (lim_of (Nat.mod_lt _ pP_pos))).mono ?_
    rintro e wb ⟨rfl, bb⟩
    have hBC := hBA.trans (bb.mono hBA.size)
    have NC := Lib.hid (NB.out.below bb)
    clear bb NB hBA NA
    have hd := cmp_ne (r1 * r1 % pP) x
    generalize cmpOf (r1 * r1 % pP) x = d at *
    by_cases hs : r1 * r1 % pP = x
    · have hg : Hid (g = true) := by show _ = _; rw [HG.out, decide_eq_true hs]
      rw [decide_eq_false (by simpa using hs)] at hd
      clear hs
      go_wp2_with fail
      refine (refOdd_ok v9 r1 wb NC.out).mono ?_
      rintro e wc ⟨rfl, rfl⟩
      by_cases hodd : r1 % 2 = 1
      · have HQ : Hid ((pP - r1) % pP = o) := by show _ = _; rw [HO.out, hg.out, if_pos rfl, evenR, if_pos hodd]
        rw [decide_eq_true hodd]
        clear hodd
        go_wp2_with fail
        have h6 : Calls Try.prog 30 #[.slice none 0 0, v9] wc fun e w' => ∃ v', e = .returned v' ∧ Num w' v' ((pP - r1) % pP) ∧ Below wc.heap.size wc w' := by
          have h := refSub_ok (.slice none 0 0) v9 0 r1 wc (num_nil _) NC.out pP_pos LR1.out
          rw [Nat.zero_add] at h
          exact h
        refine h6.mono ?_
        rintro e wd ⟨vd, rfl, nd, bd⟩
        rw [HQ.out] at nd
        have ND := Lib.hid nd
        have hBD : Below w.heap.size w wd := hBC.trans (bd.mono hBC.size)
        clear nd bd h6
        go_wp2_with fail
        go_ret2
        exact ⟨_, by rw [hg.out]; rfl, ND.out, hBD⟩
      · have HQ : Hid (r1 = o) := by show _ = _; rw [HO.out, hg.out, if_pos rfl, evenR, if_neg hodd]
        rw [decide_eq_false hodd]
        clear hodd
        go_wp2_with fail
        go_ret2
        exact ⟨_, by rw [hg.out]; rfl, by rw [← HQ.out]; exact NC.out, hBC⟩
    · have hg : Hid (g = false) := by show _ = _; rw [HG.out, decide_eq_false hs]
      rw [decide_eq_true (by simpa using hs)] at hd
      clear hs
      go_wp2_with fail
      go_ret2
      exact ⟨_, by rw [hg.out]; rfl, by rw [HO.out, hg.out]; exact num_nil _, hBC⟩
end Go.Proofs.Ytopelehfffjfeaa
