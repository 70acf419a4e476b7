/-
The document's numbers in digits of 16 bits: powers of two, products, halves.
-/
import Derived.Test.YtopelehfffjfeaaRefNum2
namespace Go.Proofs.Ytopelehfffjfeaa
open Go.RowKit

theorem made_zero (n : Nat) : (madeCells #[Value.int .i64 0] n).toList = dvals (List.replicate n 0) := by
  apply List.ext_getElem?
  intro i
  rcases Nat.lt_or_ge i n with h | h
  · simp [madeCells, dvals, h, Nat.mod_one]
  · simp [madeCells, dvals, h]
theorem dvals_set (l : List Nat) (j d : Nat) : dvals (l.set j d) = (dvals l).set j (.int .i64 d) := by simp [dvals, List.map_set]
theorem dvals_get (l : List Nat) (j : Nat) (h : j < l.length) : (dvals l)[j]? = some (.int .i64 (l.getD j 0 : Nat)) := by
  simp [dvals, List.getElem?_eq_getElem h]

theorem power_digits (n : Nat) : Can ((List.replicate (n / 16 + 1) 0).set (n / 16) (2 ^ (n % 16))) ∧ bv ((List.replicate (n / 16 + 1) 0).set (n / 16) (2 ^ (n % 16))) = 2 ^ n := by
  have h2 : 2 ^ (n % 16) < 65536 := Nat.lt_of_lt_of_le (Nat.pow_lt_pow_right (by decide) (Nat.mod_lt n (by decide) : n % 16 < 16)) (by decide)
  have hp : 0 < 2 ^ (n % 16) := Nat.pow_pos (by decide)
  refine ⟨⟨Sm.set (fun d hd => by rw [(List.mem_replicate.1 hd).2]; decide) _ _ h2, fun d hd => ?_⟩, ?_⟩
  · rw [List.getLast?_eq_getElem?] at hd
    simp at hd
    omega
  · have h := bv_set (List.replicate (n / 16 + 1) 0) (n / 16) (2 ^ (n % 16)) (by simp)
    rw [bv_replicate] at h
    have e : (List.replicate (n / 16 + 1) 0).getD (n / 16) 0 = 0 := by simp [List.getD_eq_getElem?_getD]
    rw [e, Nat.mul_zero, Nat.add_zero, Nat.zero_add] at h
    rw [h, show (65536 : Nat) = 2 ^ 16 from rfl, ← Nat.pow_mul, ← Nat.pow_add, Nat.div_add_mod]

set_option maxHeartbeats 1000000 in
set_option maxRecDepth 100000 in
theorem power_ok (n : Nat) (w : World) (hn : n ≤ 100000) :
    Calls Try.prog 67 #[.int .i64 n] w fun e w' => ∃ v', e = .returned v' ∧ Num w' v' (2 ^ n) ∧ Below w.heap.size w w' := by
  obtain ⟨i0, hi, hz0, hz1, hz2⟩ := info_parts digInfo
  have I := Lib.hid hi
  have I0 := Lib.hid hz0
  have I1 := Lib.hid hz1
  have I2 := Lib.hid hz2
  clear hi hz0 hz1 hz2
  go_enter Try.func67, Try.ntmps67
  go_wp2_with (at_make; refine wpList_make_full _ rfl _ _ 25 rfl w.heap.size 3 i0 (.int .i64 0) 1 Try.underlying25 I.out I0.out I1.out _ _ _ _ (n / 16 + 1) rfl rfl (by omega) (by omega) (by rw [I2.out]; omega) (by unfold maxLen; omega) (Nat.le_refl _) ?_)
  intro w1 hown hgrow
  rw [made_zero] at hown
  have hB : Below w.heap.size w w1 := (Below.refl _ _).grown hgrow (Nat.le_refl _) (fun k hk => by cases hk)
  have hc := hown.cellAt (n / 16) (by omega)
  rw [dvals_get _ _ (by simp)] at hc
  have hf := hown.frozenAt (n / 16)
  have OWN := Lib.hid hown
  have hq : (n / 16 : Nat) < n / 16 + 1 := by omega
  clear hown hgrow
  go_wp2
  go_ret
  have h2 : 2 ^ (n % 16) < 65536 := Nat.lt_of_lt_of_le (Nat.pow_lt_pow_right (by decide) (Nat.mod_lt n (by decide) : n % 16 < 16)) (by decide)
  have e : wrap64 (2 ^ (n % 16)) = ((2 ^ (n % 16) : Nat) : Int) := by
    have e2 : (2 : Int) ^ (n % 16) = ((2 ^ (n % 16) : Nat) : Int) := by simp
    rw [e2]
    generalize 2 ^ (n % 16) = q at h2 ⊢
    exact IntWalk.wrap64_in _ ⟨by omega, by omega⟩
  rw [e]
  have st := (OWN.out.stored (n / 16) (.int .i64 ((2 ^ (n % 16) : Nat) : Int)))
  rw [← dvals_set] at st
  have hp := power_digits n
  refine ⟨_, rfl, ⟨_, dig_of_own hp.1.1 (by simpa using st.1), hp.1, hp.2⟩, hB.setCell (p := ⟨w.heap.size, n / 16, none⟩) (Nat.le_refl _) _⟩

theorem own_drewN {w : World} {base : Nat} {e : TypeId} {size : Nat} {v : Value} {n : Nat} {xs : List Value} (h : w.ownsRow base e size v n xs) (k : Nat) : (w.drewN k).ownsRow base e size v n xs := h
/-! ### Mul -/
theorem mul_inner {lo : List Nat} {i j c x y T B p : Nat} (hk : i + j < lo.length) (h : bv lo + c * 65536 ^ (i + j) = T + 65536 ^ i * (x * B)) (hp : p = 65536 ^ j * y) :
    bv (lo.set (i + j) ((lo.getD (i + j) 0 + x * y + c) % 65536)) + (lo.getD (i + j) 0 + x * y + c) / 65536 * 65536 ^ (i + (j + 1)) = T + 65536 ^ i * (x * (B + p)) := by
  have hs := bv_set lo (i + j) ((lo.getD (i + j) 0 + x * y + c) % 65536) hk
  have hm := Nat.mod_add_div (lo.getD (i + j) 0 + x * y + c) 65536
  generalize lo.getD (i + j) 0 = d at *
  generalize (d + x * y + c) % 65536 = r at *
  generalize (d + x * y + c) / 65536 = q at *
  subst hp
  have e1 : 65536 ^ (i + (j + 1)) = 65536 ^ (i + j) * 65536 := by rw [← Nat.add_assoc, Nat.pow_succ]
  have e2 : 65536 ^ i * (x * (B + 65536 ^ j * y)) = 65536 ^ i * (x * B) + 65536 ^ (i + j) * (x * y) := by
    rw [Nat.mul_add, Nat.mul_add, Nat.pow_add]
    congr 1
    rw [Nat.mul_assoc, ← Nat.mul_assoc x, Nat.mul_comm x, Nat.mul_assoc]
  rw [e1, e2]
  generalize 65536 ^ (i + j) = W at *
  generalize 65536 ^ i * (x * B) = V at *
  have e3 : q * (W * 65536) = W * (65536 * q) := by rw [Nat.mul_comm q, Nat.mul_assoc]
  have e4 : W * r + W * (65536 * q) = W * d + W * (x * y) + W * c := by rw [← Nat.mul_add, hm, Nat.mul_add, Nat.mul_add]
  rw [e3]
  rw [Nat.mul_comm c W] at h
  omega
theorem mul_carry {lo : List Nat} {k c T : Nat} (hk : k < lo.length) (h : bv lo + c * 65536 ^ k = T) :
    bv (lo.set k ((lo.getD k 0 + c) % 65536)) + (lo.getD k 0 + c) / 65536 * 65536 ^ (k + 1) = T := by
  have hs := bv_set lo k ((lo.getD k 0 + c) % 65536) hk
  have hm := Nat.mod_add_div (lo.getD k 0 + c) 65536
  generalize lo.getD k 0 = d at *
  generalize (d + c) % 65536 = r at *
  generalize (d + c) / 65536 = q at *
  rw [Nat.pow_succ]
  generalize 65536 ^ k = W at *
  have e3 : q * (W * 65536) = W * (65536 * q) := by rw [Nat.mul_comm q, Nat.mul_assoc]
  have e4 : W * r + W * (65536 * q) = W * d + W * c := by rw [← Nat.mul_add, hm, Nat.mul_add]
  rw [e3]
  rw [Nat.mul_comm c W] at h
  omega
theorem mul_room {la lb lo : List Nat} {i k c : Nat} (hsa : Sm la) (hsb : Sm lb) (h : bv lo + c * 65536 ^ k = bv (la.take (i + 1)) * bv lb) (hc : 0 < c) (hi : i < la.length) : k < la.length + lb.length := by
  have h1 := bv_lt (hsa.take (i + 1))
  have h2 := bv_lt hsb
  rw [List.length_take, Nat.min_eq_left (by omega)] at h1
  have h3 : 65536 ^ k ≤ c * 65536 ^ k := Nat.le_mul_of_pos_left _ hc
  have h4 : bv (la.take (i + 1)) * bv lb < 65536 ^ (i + 1) * 65536 ^ lb.length := Nat.mul_lt_mul_of_lt_of_le h1 (Nat.le_of_lt h2) (Nat.pow_pos (by decide))
  rw [← Nat.pow_add] at h4
  have h5 : 65536 ^ k < 65536 ^ (i + 1 + lb.length) := by omega
  have := (Nat.pow_lt_pow_iff_right (by decide)).1 h5
  omega

set_option maxHeartbeats 4000000 in
set_option maxRecDepth 100000 in
theorem mul_ok (la lb : List Nat) (va vb : Value) (w : World) (ha : DigAt w va la) (hb : DigAt w vb lb) (hla : la.length ≤ 65536) (hlb : lb.length ≤ 65536) :
    Calls Try.prog 59 #[va, vb] w fun e w' => ∃ v', e = .returned v' ∧ Num w' v' (bv la * bv lb) ∧ Below w.heap.size w w' := by
  obtain ⟨hsa, aa, ca, rfl, _, _, hca⟩ := ha
  obtain ⟨hsb, ab, cb, rfl, _, _, hcb⟩ := hb
  obtain ⟨i0, hi, hz0, hz1, hz2⟩ := info_parts digInfo
  have HA := Lib.hid hca
  have HB := Lib.hid hcb
  have SA := Lib.hid hsa
  have SB := Lib.hid hsb
  have I := Lib.hid hi
  have I0 := Lib.hid hz0
  have I1 := Lib.hid hz1
  have I2 := Lib.hid hz2
  clear hca hcb hsa hsb hi hz0 hz1 hz2
  obtain ⟨N, hN1, hN2, hN3⟩ : ∃ N : Nat, N ≤ la.length + lb.length + 1 ∧ la.length + lb.length + 1 ≤ N ∧ N ≤ 131073 := ⟨la.length + lb.length + 1, by omega, by omega, by omega⟩
  have hN : la.length + lb.length + 1 = N := by omega
  have HN := Lib.hid hN
  clear hN
  go_enter Try.func59, Try.ntmps59
  go_wp2_with (at_make; refine wpList_make_full _ rfl _ _ 25 rfl w.heap.size 3 i0 (.int .i64 0) 1 Try.underlying25 I.out I0.out I1.out _ _ _ _ N rfl rfl (by omega) (by omega) (by rw [I2.out]; omega) (by unfold maxLen; omega) (Nat.le_refl _) ?_)
  intro w1 hown hgrow
  rw [made_zero] at hown
  have hB : Below w.heap.size w w1 := (Below.refl _ _).grown hgrow (Nat.le_refl _) (fun k hk => by cases hk)
  have OWN := Lib.hid hown
  clear hown hgrow
  go_wp2
  go_loopw [21] (fun vi wr => ∃ (i : Nat) (lo : List Nat), vi = .int .i64 i ∧ i ≤ la.length ∧ lo.length ≤ N ∧ N ≤ lo.length ∧ Sm lo ∧ Hid (wr.ownsRow w.heap.size 3 1 (.slice (some ⟨w.heap.size, 0, none⟩) N N) N (dvals lo)) ∧
    Hid (bv lo = bv (la.take i) * bv lb) ∧ Below w.heap.size w wr) (fun vi _ => 70000 - (intOf vi).toNat)
  case atStart => exact ⟨0, List.replicate N 0, rfl, by omega, by simp, by simp, (fun d hd => by rw [(List.mem_replicate.1 hd).2]; decide), OWN.out, by simp [Hid, bv_replicate], hB⟩
  case round =>
    clear OWN hB
    obtain ⟨i, lo, rfl, hi, hl1, hl2, hsl, OWN, heq, hBw⟩ := hrel
    by_cases hgo : i < la.length
    · obtain ⟨b1, o1, rfl, ka⟩ := HA.out i hgo
      have ka1 : wr.cell? ⟨b1, o1 + i, none⟩ = some (.int .i64 (la.getD i 0 : Nat)) := by rw [hBw.cell (cell_lt ka).1]; exact ka
      have hx := SA.out.getD i
      have HX := Lib.hid (bv_take_next la i)
      have hbl : b1 < w.heap.size := (cell_lt ka).1
      have hka : w.cell? ⟨b1, o1 + i, none⟩ = some (.int .i64 (la.getD i 0 : Nat)) := ka
      have HKA := Lib.hid hka
      clear ka hka
      generalize la.getD i 0 = x at *
      obtain ⟨wo, rfl⟩ : ∃ wo : World, wo = wr := ⟨_, rfl⟩
      go_wp2
      go_loopw [7, 26] (fun vc vj wr => ∃ (j c : Nat) (lo : List Nat), vj = .int .i64 j ∧ vc = .int .i64 c ∧ c < 65536 ∧ j ≤ lb.length ∧ lo.length ≤ N ∧ N ≤ lo.length ∧ Sm lo ∧ Hid (wr.ownsRow w.heap.size 3 1 (.slice (some ⟨w.heap.size, 0, none⟩) N N) N (dvals lo)) ∧
        Hid (bv lo + c * 65536 ^ (i + j) = bv (la.take i) * bv lb + 65536 ^ i * (x * bv (lb.take j))) ∧ Below w.heap.size w wr) (fun _ vj _ => 70000 - (intOf vj).toNat)
      case atStart => exact ⟨0, 0, lo, rfl, rfl, by omega, by omega, hl1, hl2, hsl, OWN, by have := heq.out; simp [Hid, this], hBw⟩
      case round =>
        clear OWN hBw heq ka1 hl1 hl2 hsl
        obtain ⟨j, c, lo, rfl, rfl, hc, hj, hl1, hl2, hsl, OWN, heq, hBw⟩ := hrel
        by_cases hgj : j < lb.length
        · obtain ⟨b2, o2, rfl, kb⟩ := HB.out j hgj
          have kb1 : wr.cell? ⟨b2, o2 + j, none⟩ = some (.int .i64 (lb.getD j 0 : Nat)) := by rw [hBw.cell (cell_lt kb).1]; exact kb
          have hbl2 : b2 < w.heap.size := (cell_lt kb).1
          have hy := SB.out.getD j
          have ka2 : wr.cell? ⟨b1, o1 + i, none⟩ = some (.int .i64 x) := by rw [hBw.cell (p := ⟨b1, o1 + i, none⟩) hbl]; exact HKA.out
          have kc := OWN.out.cellAt (i + j) (by omega)
          rw [dvals_get _ _ (by omega)] at kc
          have kf := OWN.out.frozenAt (i + j)
          have hd := hsl.getD (i + j)
          have R := Lib.hid (mul_inner (lo := lo) (by omega) heq.out rfl (y := lb.getD j 0))
          have BT := Lib.hid (bv_take_next lb j)
          clear kb heq
          generalize lo.getD (i + j) 0 = d at *
          generalize lb.getD j 0 = y at *
          have hxy : x * y ≤ 4294836225 := Nat.mul_le_mul (show x ≤ 65535 by omega) (show y ≤ 65535 by omega)
          have hxy0 : (0 : Int) ≤ (x : Int) * y := by
            have : (x : Int) * y = ((x * y : Nat) : Int) := by simp
            omega
          have hxy1 : (x : Int) * y ≤ 4294836225 := by
            have : (x : Int) * y = ((x * y : Nat) : Int) := by simp
            omega
          go_wp2
          go_quiet (fail)
          go_wp2
          have eq1 : (((d : Int) + x * y + c) % 65536) = (((d + x * y + c) % 65536 : Nat) : Int) := by simp
          have eq2 : (((d : Int) + x * y + c) / 65536) = (((d + x * y + c) / 65536 : Nat) : Int) := by simp
          rw [eq1, eq2]
          have st := (own_drewN OWN.out nq).stored (i + j) (.int .i64 (((d + x * y + c) % 65536 : Nat) : Int))
          rw [← dvals_set] at st
          go_roundw
          case rel => exact ⟨j + 1, (d + x * y + c) / 65536, lo.set (i + j) ((d + x * y + c) % 65536), by go_num, rfl, by omega, by omega, by simpa using hl1, by simpa using hl2, hsl.set _ _ (by omega), st.1, by (have h := R.out); rw [← BT.out] at h; exact h, below_set' (below_drewN hBw _) _ _ _ (Nat.le_refl _)⟩
          case measure => simp [intOf]; omega
        · have heq2 : bv lo + c * 65536 ^ (i + lb.length) = bv (la.take (i + 1)) * bv lb := by
            have h := heq.out
            rw [show j = lb.length from by omega, List.take_length] at h
            rw [h, HX.out, Nat.add_mul, Nat.mul_assoc]
          have HE2 := Lib.hid heq2
          clear heq heq2
          obtain ⟨wi, rfl⟩ : ∃ wi : World, wi = wr := ⟨_, rfl⟩
          go_wp2
          go_loopw [7, 10] (fun vc vk wr => ∃ (k c : Nat) (lo : List Nat), vk = .int .i64 k ∧ vc = .int .i64 c ∧ c < 65536 ∧ k ≤ N ∧ lo.length ≤ N ∧ N ≤ lo.length ∧ Sm lo ∧ Hid (wr.ownsRow w.heap.size 3 1 (.slice (some ⟨w.heap.size, 0, none⟩) N N) N (dvals lo)) ∧
            Hid (bv lo + c * 65536 ^ k = bv (la.take (i + 1)) * bv lb) ∧ Below w.heap.size w wr) (fun _ vk _ => 140000 - (intOf vk).toNat)
          case atStart => exact ⟨i + lb.length, c, lo, by go_num, rfl, hc, by omega, hl1, hl2, hsl, OWN, HE2, hBw⟩
          case round =>
            clear OWN hBw HE2 hl1 hl2 hsl hc
            obtain ⟨k, c, lo, rfl, rfl, hc, hk, hl1, hl2, hsl, OWN, heq, hBw⟩ := hrel
            by_cases hc0 : 0 < c
            · have hkl : k < la.length + lb.length := mul_room SA.out SB.out heq.out hc0 hgo
              have kc := OWN.out.cellAt k (by omega)
              rw [dvals_get _ _ (by omega)] at kc
              have kf := OWN.out.frozenAt k
              have hd := hsl.getD k
              have R := Lib.hid (mul_carry (lo := lo) (by omega) heq.out)
              clear heq
              generalize lo.getD k 0 = d at *
              go_wp2
              have eq1 : (((d : Int) + c) % 65536) = (((d + c) % 65536 : Nat) : Int) := by simp
              have eq2 : (((d : Int) + c) / 65536) = (((d + c) / 65536 : Nat) : Int) := by simp
              rw [eq1, eq2]
              have st := OWN.out.stored k (.int .i64 (((d + c) % 65536 : Nat) : Int))
              rw [← dvals_set] at st
              go_roundw
              case rel => exact ⟨k + 1, (d + c) / 65536, lo.set k ((d + c) % 65536), by go_num, rfl, by omega, by omega, by simpa using hl1, by simpa using hl2, hsl.set _ _ (by omega), st.1, R, below_set' hBw _ _ _ (Nat.le_refl _)⟩
              case measure => simp [intOf]; omega
            · have hz : bv lo = bv (la.take (i + 1)) * bv lb := by
                have h := heq.out
                rw [show c = 0 from by omega, Nat.zero_mul, Nat.add_zero] at h
                exact h
              have HZ := Lib.hid hz
              clear heq hz
              go_wp2
              go_roundw
              case rel => exact ⟨i + 1, lo, by go_num, by omega, hl1, hl2, hsl, OWN, HZ, hBw⟩
              case measure => simp [intOf]; omega
    · have hz : bv lo = bv la * bv lb := by
        have h := heq.out
        rw [bv_take_ge la i (by omega)] at h
        exact h
      have HZ := Lib.hid hz
      clear heq hz
      have hlen : lo.length = N := by omega
      have OW2 := OWN.out
      rw [← hlen] at OW2
      have hdig := dig_of_own hsl OW2
      rw [hlen] at hdig
      have HD := Lib.hid hdig
      clear OW2 hdig hlen
      go_wp2_with fail
      refine (trim_ok lo _ _ HD.out).mono ?_
      rintro e w' ⟨v', rfl, hn, rfl⟩
      rw [HZ.out] at hn
      go_wp2_with fail
      go_ret
      exact ⟨_, rfl, hn, hBw⟩
end Go.Proofs.Ytopelehfffjfeaa
