/-
The document's numbers in digits of 16 bits: differences, small numbers, powers of two, comparing.
-/
import Derived.Test.YtopelehfffjfeaaRefNum
namespace Go.Proofs.Ytopelehfffjfeaa
open Go.RowKit

theorem sub_round {la lb lo : List Nat} {i c c' d : Nat} (hl : lo.length = i) (h : bv (la.take i) + 65536 ^ i * c = bv lo + bv (lb.take i)) (hd : la.getD i 0 + 65536 * c' = d + lb.getD i 0 + c) :
    bv (la.take (i + 1)) + 65536 ^ (i + 1) * c' = bv (lo ++ [d]) + bv (lb.take (i + 1)) := by
  rw [bv_snoc, bv_take_next, bv_take_next, hl, Nat.pow_succ, Nat.mul_assoc]
  have e2 : 65536 ^ i * la.getD i 0 + 65536 ^ i * (65536 * c') = 65536 ^ i * d + 65536 ^ i * lb.getD i 0 + 65536 ^ i * c := by
    rw [← Nat.mul_add, hd, Nat.mul_add, Nat.mul_add]
  omega

theorem sub_end {la lb lo : List Nat} {c : Nat} (hl : lo.length = la.length) (hso : Sm lo) (h : bv (la.take la.length) + 65536 ^ la.length * c = bv lo + bv (lb.take la.length)) (hle : bv lb ≤ bv la) (hsa : Sm la) : bv lo = bv la - bv lb := by
  rw [List.take_length] at h
  have h1 := bv_lt hso
  have h2 := bv_lt hsa
  rw [hl] at h1
  have h3 : bv (lb.take la.length) = bv lb := by
    rcases Nat.lt_or_ge la.length lb.length with hlt | hge
    · have h4 := bv_take_drop lb la.length (Nat.le_of_lt hlt)
      rcases Nat.eq_zero_or_pos (bv (lb.drop la.length)) with h0 | h0
      · rw [h0] at h4; omega
      · exfalso
        have : 65536 ^ la.length ≤ 65536 ^ la.length * bv (lb.drop la.length) := Nat.le_mul_of_pos_right _ h0
        omega
    · exact bv_take_ge lb _ hge
  rw [h3] at h
  rcases Nat.eq_zero_or_pos c with rfl | hc
  · omega
  · exfalso
    have : 65536 ^ la.length ≤ 65536 ^ la.length * c := Nat.le_mul_of_pos_right _ hc
    omega

set_option maxHeartbeats 1000000 in
set_option maxRecDepth 100000 in
theorem sub_ok (la lb : List Nat) (va vb : Value) (w : World) (ha : DigAt w va la) (hb : DigAt w vb lb) (hla : la.length ≤ 65536) (hle : bv lb ≤ bv la) :
    Calls Try.prog 51 #[va, vb] w fun e w' => ∃ v', e = .returned v' ∧ Num w' v' (bv la - bv lb) ∧ Below w.heap.size w w' := by
  obtain ⟨hsa, aa, ca, rfl, _, _, hca⟩ := ha
  obtain ⟨hsb, ab, cb, rfl, _, _, hcb⟩ := hb
  obtain ⟨i0, hi, hz0, hz1, hz2⟩ := info_parts digInfo
  have HA := Lib.hid hca
  have HB := Lib.hid hcb
  have SA := Lib.hid hsa
  have SB := Lib.hid hsb
  have LE := Lib.hid hle
  have I := Lib.hid hi
  have I0 := Lib.hid hz0
  have I1 := Lib.hid hz1
  have I2 := Lib.hid hz2
  clear hca hcb hsa hsb hi hz0 hz1 hz2 hle
  go_enter Try.func51, Try.ntmps51
  go_wp2
  go_loopw [5, 6, 12] (fun vo vc vi wr => ∃ (i c : Nat) (lo : List Nat), vi = .int .i64 i ∧ vc = .int .i64 c ∧ c ≤ 1 ∧ i ≤ lo.length ∧ lo.length ≤ i ∧ i ≤ la.length ∧ Sm lo ∧ wr.ownsRow w.heap.size 3 1 vo lo.length (dvals lo) ∧
    Hid (bv (la.take i) + 65536 ^ i * c = bv lo + bv (lb.take i)) ∧ Below w.heap.size w wr) (fun _ _ i _ => 70000 - (intOf i).toNat)
  case atStart => exact ⟨0, 0, [], rfl, rfl, by omega, by simp, by simp, by omega, Sm.nil, World.ownsRow_made _ _ _ (Nat.le_refl _) (Nat.zero_le _) rfl, by simp [Hid], (Below.refl _ _).alloc (Nat.le_refl _) _⟩
  case round =>
    obtain ⟨i, c, lo, rfl, rfl, hc1, hl1, hl2, hi1, hsl, hown, heq, hBw⟩ := hrel
    have hlen : lo.length = i := by omega
    have LEN := Lib.hid hlen
    have OWN := Lib.hid hown
    clear hlen hown
    by_cases hgo : i < la.length
    · have hx1 := SA.out.getD i
      have hx2 := SB.out.getD i
      have hb0 : ¬ i < lb.length → lb.getD i 0 = 0 := fun h => by rw [List.getD_eq_getElem?_getD, List.getElem?_eq_none (by omega)]; rfl
      have B0 := Lib.hid hb0
      obtain ⟨b1, o1, e1, ca0⟩ := HA.out i hgo
      have ca1 : wr.cell? ⟨b1, o1 + i, none⟩ = some (.int .i64 (la.getD i 0 : Nat)) := by rw [hBw.cell (cell_lt ca0).1]; exact ca0
      clear ca0
      have hcb : i < lb.length → ∃ b off, ab = some ⟨b, off, none⟩ ∧ wr.cell? ⟨b, off + i, none⟩ = some (.int .i64 (lb.getD i 0 : Nat)) := fun h => by
        obtain ⟨b, off, e, hcc⟩ := HB.out i h
        exact ⟨b, off, e, by rw [hBw.cell (cell_lt hcc).1]; exact hcc⟩
      have R := Lib.hid (fun (c' d : Nat) hd => sub_round (la := la) (lb := lb) (c' := c') (d := d) LEN.out heq.out hd)
      subst e1
      clear hb0 heq
      generalize la.getD i 0 = x at *
      generalize lb.getD i 0 = y at *
      by_cases hib : i < lb.length
      · obtain ⟨b2, o2, rfl, ca2⟩ := hcb hib
        clear hcb
        by_cases hneg : x < y + c
        · focus
          go_wp2_with (at_builtin; refine wpList_append_own _ rfl _ _ 25 rfl w.heap.size 3 i0 (.int .i64 0) 1 8 Try.underlying25 I.out I0.out I1.out I2.out rfl (by decide) _ _ _ rfl (OWN.out.alloc _) ⟨wr.heap.size, 0, none⟩ 1 1 [.int .i64 (((x : Int) - c - y + 65536))] rfl rfl (one_cells _ _ _) (one_cell1 _ _) (by unfold maxLen; omega) (by omega) (by have := hBw.size; simp; omega) ?_)
          intro v' w1 hown' hgrow _
          rw [show (((x : Int) - c - y + 65536) : Int) = (((x + 65536 - c - y) : Nat) : Int) from by omega, ← dvals_snoc] at hown'
          have hBx : Below w.heap.size w w1 := (hBw.alloc hBw.size _).grown hgrow (by have := hBw.size; simp; omega) (fun k hk => (OWN.out.lt k hk).1)
          have OWN2 := Lib.hid hown'
          clear hown' hgrow
          go_wp2
          go_roundw
          case rel => exact ⟨i + 1, 1, lo ++ [(x + 65536 - c - y)], by go_num, rfl, by omega, by simp; omega, by simp; omega, by omega, hsl.snoc (by omega), by simpa using OWN2.out, R.out 1 ((x + 65536 - c - y)) (by omega), hBx⟩
          case measure => simp [intOf]; omega
        · focus
          go_wp2_with (at_builtin; refine wpList_append_own _ rfl _ _ 25 rfl w.heap.size 3 i0 (.int .i64 0) 1 8 Try.underlying25 I.out I0.out I1.out I2.out rfl (by decide) _ _ _ rfl (OWN.out.alloc _) ⟨wr.heap.size, 0, none⟩ 1 1 [.int .i64 (((x : Int) - c - y))] rfl rfl (one_cells _ _ _) (one_cell1 _ _) (by unfold maxLen; omega) (by omega) (by have := hBw.size; simp; omega) ?_)
          intro v' w1 hown' hgrow _
          rw [show (((x : Int) - c - y) : Int) = (((x - c - y) : Nat) : Int) from by omega, ← dvals_snoc] at hown'
          have hBx : Below w.heap.size w w1 := (hBw.alloc hBw.size _).grown hgrow (by have := hBw.size; simp; omega) (fun k hk => (OWN.out.lt k hk).1)
          have OWN2 := Lib.hid hown'
          clear hown' hgrow
          go_wp2
          go_roundw
          case rel => exact ⟨i + 1, 0, lo ++ [(x - c - y)], by go_num, rfl, by omega, by simp; omega, by simp; omega, by omega, hsl.snoc (by omega), by simpa using OWN2.out, R.out 0 ((x - c - y)) (by omega), hBx⟩
          case measure => simp [intOf]; omega
      · obtain rfl := B0.out hib
        clear hcb
        by_cases hneg : x < c
        · focus
          go_wp2_with (at_builtin; refine wpList_append_own _ rfl _ _ 25 rfl w.heap.size 3 i0 (.int .i64 0) 1 8 Try.underlying25 I.out I0.out I1.out I2.out rfl (by decide) _ _ _ rfl (OWN.out.alloc _) ⟨wr.heap.size, 0, none⟩ 1 1 [.int .i64 (((x : Int) - c + 65536))] rfl rfl (one_cells _ _ _) (one_cell1 _ _) (by unfold maxLen; omega) (by omega) (by have := hBw.size; simp; omega) ?_)
          intro v' w1 hown' hgrow _
          rw [show (((x : Int) - c + 65536) : Int) = (((x + 65536 - c - 0) : Nat) : Int) from by omega, ← dvals_snoc] at hown'
          have hBx : Below w.heap.size w w1 := (hBw.alloc hBw.size _).grown hgrow (by have := hBw.size; simp; omega) (fun k hk => (OWN.out.lt k hk).1)
          have OWN2 := Lib.hid hown'
          clear hown' hgrow
          go_wp2
          go_roundw
          case rel => exact ⟨i + 1, 1, lo ++ [(x + 65536 - c - 0)], by go_num, rfl, by omega, by simp; omega, by simp; omega, by omega, hsl.snoc (by omega), by simpa using OWN2.out, R.out 1 ((x + 65536 - c - 0)) (by omega), hBx⟩
          case measure => simp [intOf]; omega
        · focus
          go_wp2_with (at_builtin; refine wpList_append_own _ rfl _ _ 25 rfl w.heap.size 3 i0 (.int .i64 0) 1 8 Try.underlying25 I.out I0.out I1.out I2.out rfl (by decide) _ _ _ rfl (OWN.out.alloc _) ⟨wr.heap.size, 0, none⟩ 1 1 [.int .i64 (((x : Int) - c))] rfl rfl (one_cells _ _ _) (one_cell1 _ _) (by unfold maxLen; omega) (by omega) (by have := hBw.size; simp; omega) ?_)
          intro v' w1 hown' hgrow _
          rw [show (((x : Int) - c) : Int) = (((x - c - 0) : Nat) : Int) from by omega, ← dvals_snoc] at hown'
          have hBx : Below w.heap.size w w1 := (hBw.alloc hBw.size _).grown hgrow (by have := hBw.size; simp; omega) (fun k hk => (OWN.out.lt k hk).1)
          have OWN2 := Lib.hid hown'
          clear hown' hgrow
          go_wp2
          go_roundw
          case rel => exact ⟨i + 1, 0, lo ++ [(x - c - 0)], by go_num, rfl, by omega, by simp; omega, by simp; omega, by omega, hsl.snoc (by omega), by simpa using OWN2.out, R.out 0 ((x - c - 0)) (by omega), hBx⟩
          case measure => simp [intOf]; omega
    · have hi : i = la.length := by omega
      have hf : bv lo = bv la - bv lb := by
        have h := heq.out
        rw [hi] at h
        exact sub_end (by omega) hsl h LE.out SA.out
      have HF := Lib.hid hf
      clear hf hi
      go_wp2_with fail
      refine (trim_ok lo _ _ (dig_of_own hsl OWN.out)).mono ?_
      rintro e w' ⟨v', rfl, hn, rfl⟩
      rw [HF.out] at hn
      go_wp2_with fail
      go_ret
      exact ⟨_, rfl, hn, hBw⟩

/-! ### Small -/
theorem small_round {lo : List Nat} {i x n : Nat} (hl : lo.length = i) (h : bv lo + 65536 ^ i * x = n) : bv (lo ++ [x % 65536]) + 65536 ^ (i + 1) * (x / 65536) = n := by
  rw [bv_snoc, hl, Nat.pow_succ, Nat.mul_assoc]
  have e2 : 65536 ^ i * (x % 65536) + 65536 ^ i * (65536 * (x / 65536)) = 65536 ^ i * x := by rw [← Nat.mul_add, Nat.mod_add_div]
  omega
set_option maxHeartbeats 1000000 in
set_option maxRecDepth 100000 in
theorem small_ok (n : Nat) (w : World) (hn : n ≤ 1000000000) :
    Calls Try.prog 53 #[.int .i64 n] w fun e w' => ∃ v', e = .returned v' ∧ Num w' v' n ∧ Below w.heap.size w w' := by
  obtain ⟨i0, hi, hz0, hz1, hz2⟩ := info_parts digInfo
  have I := Lib.hid hi
  have I0 := Lib.hid hz0
  have I1 := Lib.hid hz1
  have I2 := Lib.hid hz2
  clear hi hz0 hz1 hz2
  go_enter Try.func53, Try.ntmps53
  go_wp2
  go_loopw [0, 3] (fun vx vo wr => ∃ (x : Nat) (lo : List Nat), vx = .int .i64 x ∧ x ≤ n ∧ lo.length ≤ n - x ∧ Sm lo ∧ wr.ownsRow w.heap.size 3 1 vo lo.length (dvals lo) ∧
    Hid (bv lo + 65536 ^ lo.length * x = n) ∧ Hid (x = 0 → ∀ d, lo.getLast? = some d → 0 < d) ∧ Below w.heap.size w wr) (fun x _ _ => (intOf x).toNat)
  case atStart => exact ⟨n, [], rfl, by omega, by simp, Sm.nil, World.ownsRow_made _ _ _ (Nat.le_refl _) (Nat.zero_le _) rfl, by simp [Hid], (fun _ d h => by simp at h), (Below.refl _ _).alloc (Nat.le_refl _) _⟩
  case round =>
    obtain ⟨x, lo, rfl, hx, hl, hsl, hown, heq, hlast, hBw⟩ := hrel
    have OWN := Lib.hid hown
    clear hown
    by_cases hgo : 0 < x
    · have R := Lib.hid (small_round (lo := lo) rfl heq.out)
      clear heq hlast
      go_wp2_with (at_builtin; refine wpList_append_own _ rfl _ _ 25 rfl w.heap.size 3 i0 (.int .i64 0) 1 8 Try.underlying25 I.out I0.out I1.out I2.out rfl (by decide) _ _ _ rfl (OWN.out.alloc _) ⟨wr.heap.size, 0, none⟩ 1 1 [.int .i64 ((x : Int) % 65536)] rfl rfl (one_cells _ _ _) (one_cell1 _ _) (by unfold maxLen; omega) (by omega) (by have := hBw.size; simp; omega) ?_)
      intro v' w1 hown' hgrow _
      rw [show ((x : Int) % 65536) = ((x % 65536 : Nat) : Int) from by omega, ← dvals_snoc] at hown'
      have hBx : Below w.heap.size w w1 := (hBw.alloc hBw.size _).grown hgrow (by have := hBw.size; simp; omega) (fun k hk => (OWN.out.lt k hk).1)
      have OWN2 := Lib.hid hown'
      clear hown' hgrow
      go_wp2
      go_roundw
      case rel => exact ⟨x / 65536, lo ++ [x % 65536], val_int (by omega), by omega, by simp; omega, hsl.snoc (by omega), by simpa using OWN2.out, by simpa [Hid] using R.out, (fun h d hd => by simp at hd; omega), hBx⟩
      case measure => simp [intOf]; omega
    · obtain rfl : x = 0 := by omega
      have hnum : Num wr _ n := ⟨lo, dig_of_own hsl OWN.out, ⟨hsl, hlast.out rfl⟩, by simpa using heq.out⟩
      have HN := Lib.hid hnum
      clear hnum
      go_wp2
      go_ret
      exact ⟨_, rfl, HN.out, hBw⟩

/-! ### Comparing -/
theorem ex_drew {w x : World} (h : ∃ k, w.drewN k = x) (m : Nat) : ∃ k, w.drewN k = x.drewN m := by
  obtain ⟨k, rfl⟩ := h
  exact ⟨k + m, (World.drewN_drewN ..).symm⟩
/-- what Cmp says -/
def cmpOf (a b : Nat) : Int := if a < b then -1 else if b < a then 1 else 0
theorem cmp_split {la lb : List Nat} {i : Nat} (hsa : Sm la) (hl : la.length = lb.length) (hi : i < la.length) (h : la.drop (i + 1) = lb.drop (i + 1)) (hlt : la.getD i 0 < lb.getD i 0) : bv la < bv lb := by
  have e1 := bv_take_drop la (i + 1) (by omega)
  have e2 := bv_take_drop lb (i + 1) (by omega)
  rw [h] at e1
  rw [bv_take_next] at e1 e2
  have h1 := bv_lt (hsa.take i)
  rw [List.length_take, Nat.min_eq_left (by omega)] at h1
  have h3 : 65536 ^ i * la.getD i 0 + 65536 ^ i ≤ 65536 ^ i * lb.getD i 0 := by
    rw [← Nat.mul_succ]; exact Nat.mul_le_mul_left _ hlt
  omega
theorem drop_getD {l : List Nat} {i : Nat} (h : i < l.length) : l.drop i = l.getD i 0 :: l.drop (i + 1) := by
  rw [List.drop_eq_getElem_cons h, List.getD_eq_getElem?_getD, List.getElem?_eq_getElem h]; rfl

set_option maxHeartbeats 1000000 in
set_option maxRecDepth 100000 in
theorem cmp_ok (la lb : List Nat) (va vb : Value) (w : World) (ha : DigAt w va la) (hb : DigAt w vb lb) (hla : la.length ≤ 65536) :
    Calls Try.prog 34 #[va, vb] w fun e w' => e = .returned (.int .i64 (cmpOf (bv la) (bv lb))) ∧ ∃ n, w.drewN n = w' := by
  go_enter Try.func34, Try.ntmps34
  go_wp2_with fail
  refine (trim_ok la va _ ha).mono ?_
  rintro e w' ⟨v1, rfl, hn1, rfl⟩
  go_wp2_with fail
  refine (trim_ok lb vb _ hb).mono ?_
  rintro e w' ⟨v2, rfl, hn2, rfl⟩
  have hb1 := bv_lt ha.1
  obtain ⟨l1, ⟨s1, a1, c1, rfl, _, _, hc1⟩, can1, e1⟩ := hn1
  obtain ⟨l2, ⟨s2, a2, c2, rfl, _, _, hc2⟩, can2, e2⟩ := hn2
  have hlen1 : l1.length ≤ 65536 := by
    rcases Nat.eq_zero_or_pos l1.length with h0 | h0
    · omega
    · have h1 := can1.lower (fun h => by simp [h] at h0)
      rw [e1] at h1
      have h2 : 65536 ^ (l1.length - 1) < 65536 ^ la.length := by omega
      have h3 := (Nat.pow_lt_pow_iff_right (by decide)).1 h2
      omega
  have HC1 := Lib.hid hc1
  have HC2 := Lib.hid hc2
  have hcmp : cmpOf (bv la) (bv lb) = cmpOf (bv l1) (bv l2) := by rw [e1, e2]
  have HCMP := Lib.hid hcmp
  clear hc1 hc2 hb1 e1 e2 hcmp ha hb hla
  rcases Nat.lt_trichotomy l1.length l2.length with hlt | heq | hgt
  · have hr : cmpOf (bv l1) (bv l2) = -1 := by unfold cmpOf; rw [if_pos (can2.lt_of_length s1 hlt)]
    have HR := Lib.hid hr
    clear hr
    have hne : (((l1.length : Nat) : Int) != l2.length) = true := by rw [bne_iff_ne]; omega
    go_wp2
    go_ret
    exact ⟨ret_int (by rw [HCMP.out, HR.out]), 0, rfl⟩
  · have HEQ := Lib.hid heq
    have hne : (((l1.length : Nat) : Int) != l2.length) = false := by rw [heq]; simp
    have hl1 : l1.length ≤ l2.length := by omega
    have hl2 : l2.length ≤ l1.length := by omega
    clear heq
    go_wp2
    go_loopw [5] (fun vi wr => (∃ n, w.drewN n = wr) ∧ ((∃ j : Nat, vi = .int .i64 j ∧ j < l1.length ∧ Hid (l1.drop (j + 1) = l2.drop (j + 1))) ∨ (vi = .int .i64 (-1) ∧ Hid (l1 = l2)))) (fun vi _ => (intOf vi + 1).toNat)
    case atStart =>
      refine ⟨⟨0, rfl⟩, ?_⟩
      rcases Nat.eq_zero_or_pos l1.length with h0 | h0
      · right
        have q1 : l1 = [] := List.length_eq_zero_iff.1 h0
        have q2 : l2 = [] := List.length_eq_zero_iff.1 (by omega)
        exact ⟨val_int (by omega), q1.trans q2.symm⟩
      · left
        refine ⟨l1.length - 1, val_int (by omega), by omega, ?_⟩
        show l1.drop _ = l2.drop _
        rw [List.drop_of_length_le (by omega), List.drop_of_length_le (by omega)]
    case round =>
      obtain ⟨⟨n, rfl⟩, hrel⟩ := hrel
      rcases hrel with ⟨j, rfl, hj, hd⟩ | ⟨rfl, he⟩
      · obtain ⟨b1, o1, rfl, k1⟩ := HC1.out j hj
        obtain ⟨b2, o2, rfl, k2⟩ := HC2.out j (by omega)
        have S1 := Lib.hid (fun h => cmp_split (i := j) s1 HEQ.out hj hd.out h)
        have S2 := Lib.hid (fun h => cmp_split (i := j) s2 HEQ.out.symm (by omega) hd.out.symm h)
        have D := Lib.hid (fun (h : l1.getD j 0 = l2.getD j 0) => show l1.drop j = l2.drop j by rw [drop_getD hj, drop_getD (l := l2) (i := j) (by omega), h, hd.out])
        clear hd
        generalize l1.getD j 0 = x at *
        generalize l2.getD j 0 = y at *
        rcases Nat.lt_trichotomy x y with hxy | hxy | hxy
        · have hr : cmpOf (bv l1) (bv l2) = -1 := by unfold cmpOf; rw [if_pos (S1.out hxy)]
          have HR := Lib.hid hr
          clear hr
          go_wp2_with fail
          go_quiet (fail)
          go_wp2
          go_ret
          exact ⟨ret_int (by rw [HCMP.out, HR.out]), ex_drew ⟨n, rfl⟩ _⟩
        · subst hxy
          have hxx : ¬ (x : Int) < x := by omega
          go_wp2_with fail
          go_quiet (fail)
          go_wp2
          go_quiet (fail)
          go_wp2
          go_roundw
          case rel =>
            refine ⟨⟨_, rfl⟩, ?_⟩
            rcases Nat.eq_zero_or_pos j with h0 | h0
            · right
              refine ⟨val_int (by omega), ?_⟩
              have := D.out (by trivial)
              rw [h0] at this
              exact this
            · left
              refine ⟨j - 1, val_int (by omega), by omega, ?_⟩
              have := D.out (by trivial)
              show l1.drop (j - 1 + 1) = l2.drop (j - 1 + 1)
              rw [show j - 1 + 1 = j from by omega]
              exact this
          case measure => first | (simp [intOf]; done) | (simp [intOf]; omega)
        · have hr : cmpOf (bv l1) (bv l2) = 1 := by unfold cmpOf; rw [if_neg (by have := S2.out hxy; omega), if_pos (S2.out hxy)]
          have HR := Lib.hid hr
          clear hr
          go_wp2_with fail
          go_quiet (fail)
          go_wp2
          go_quiet (fail)
          go_wp2
          go_ret
          exact ⟨ret_int (by rw [HCMP.out, HR.out]), ex_drew (ex_drew ⟨n, rfl⟩ _) _⟩
      · have hr : cmpOf (bv l1) (bv l2) = 0 := by unfold cmpOf; rw [he.out, if_neg (by omega), if_neg (by omega)]
        have HR := Lib.hid hr
        clear hr he
        go_wp2
        go_ret
        exact ⟨ret_int (by rw [HCMP.out, HR.out]), _, rfl⟩
  · have hr : cmpOf (bv l1) (bv l2) = 1 := by
      have := can1.lt_of_length s2 hgt
      unfold cmpOf; rw [if_neg (by omega), if_pos this]
    have HR := Lib.hid hr
    clear hr
    have hne : (((l1.length : Nat) : Int) != l2.length) = true := by rw [bne_iff_ne]; omega
    go_wp2
    go_ret
    exact ⟨ret_int (by rw [HCMP.out, HR.out]), 0, rfl⟩
end Go.Proofs.Ytopelehfffjfeaa
