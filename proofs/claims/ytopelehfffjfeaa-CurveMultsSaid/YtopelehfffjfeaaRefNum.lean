/-
The document's numbers in digits of 16 bits: the contracts of its sums.
-/
import Derived.Test.YtopelehfffjfeaaRows
import Derived.Test.YtopelehfffjfeaaCom
import Derived.Test.YtopelehfffjfeaaOpen
import Derived.Test.YtopelehfffjfeaaDig
import Derived.LoopTactic
import Derived.Outline
namespace Go.Proofs.Ytopelehfffjfeaa
open Go.RowKit

theorem val_int {k : IntKind} {a b : Int} (h : a = b) : Value.int k a = .int k b := by rw [h]
/-- a slice that reads as digits -/
def DigAt (w : World) (v : Value) (l : List Nat) : Prop :=
  Sm l ∧ ∃ a cap, v = .slice a l.length cap ∧ l.length ≤ cap ∧ cap ≤ maxLen ∧ ∀ i, i < l.length → ∃ b off, a = some ⟨b, off, none⟩ ∧ w.cell? ⟨b, off + i, none⟩ = some (.int .i64 (l.getD i 0 : Nat))
/-- .. as a number -/
def Num (w : World) (v : Value) (n : Nat) : Prop := ∃ l, DigAt w v l ∧ Can l ∧ bv l = n
theorem DigAt.below {w w' : World} {v : Value} {l : List Nat} (h : DigAt w v l) (hb : Below w.heap.size w w') : DigAt w' v l := by
  obtain ⟨hs, a, cap, rfl, h1, h2, hc⟩ := h
  refine ⟨hs, a, cap, rfl, h1, h2, fun i hi => ?_⟩
  obtain ⟨b, off, ha, hci⟩ := hc i hi
  exact ⟨b, off, ha, by rw [hb.cell (cell_lt hci).1]; exact hci⟩
theorem Num.below {w w' : World} {v : Value} {n : Nat} (h : Num w v n) (hb : Below w.heap.size w w') : Num w' v n := by
  obtain ⟨l, hd, hc, hn⟩ := h
  exact ⟨l, hd.below hb, hc, hn⟩
theorem DigAt.small {w : World} {v : Value} {l : List Nat} (h : DigAt w v l) : Sm l := h.1

theorem digInfo : (Try.prog.info? 3).map (fun i => (i.zero, i.size, i.bytes)) = some (some (.int .i64 0), 1, 8) := by kernel_rfl
/-- the values of digits -/
def dvals (l : List Nat) : List Value := l.map fun d => Value.int .i64 (d : Nat)
theorem dvals_snoc (l : List Nat) (d : Nat) : dvals (l ++ [d]) = dvals l ++ [.int .i64 d] := by simp [dvals]
theorem dvals_length (l : List Nat) : (dvals l).length = l.length := by simp [dvals]
/-- a row of the call's own reads as its digits -/
theorem dig_of_own {w : World} {base : Nat} {e : TypeId} {v : Value} {l : List Nat} (hs : Sm l) (h : w.ownsRow base e 1 v l.length (dvals l)) : DigAt w v l := by
  refine ⟨hs, ?_⟩
  obtain ⟨hlen, h⟩ := h
  rcases h with ⟨rfl, h0⟩ | ⟨g, cap, cur, rfl, hb, hg, hn, hm, hsz, htk⟩
  · exact ⟨none, 0, by rw [h0], by omega, Nat.zero_le _, fun i hi => by omega⟩
  · refine ⟨some ⟨g, 0, none⟩, cap, rfl, hn, hm, fun i hi => ⟨g, 0, rfl, ?_⟩⟩
    have h1 : (cur.toList.take (l.length * 1))[i]? = (dvals l)[i]? := by rw [htk]
    rw [Nat.mul_one, List.getElem?_take_of_lt hi] at h1
    simp only [World.cell?, hg, Option.isSome_none, Bool.false_eq_true, if_false, Nat.zero_add]
    rw [← Array.getElem?_toList, h1]
    simp [dvals, List.getElem?_eq_getElem hi]

set_option maxHeartbeats 400000 in
theorem trim_ok (l : List Nat) (v : Value) (w : World) (h : DigAt w v l) :
    Calls Try.prog 48 #[v] w fun e w' => ∃ v', e = .returned v' ∧ Num w v' (bv l) ∧ w = w' := by
  obtain ⟨hs, a, cap, rfl, hlc, hcm, hc⟩ := h
  have HC := Lib.hid hc
  have HS := Lib.hid hs
  clear hc hs
  unfold maxLen at hcm
  go_enter Try.func48, Try.ntmps48
  go_wp2
  go_loop [3] (fun n => ∃ k : Nat, k ≤ l.length ∧ n = .int .i64 k ∧ Hid (∀ j, k ≤ j → j < l.length → l.getD j 0 = 0)) (fun n => (intOf n).toNat)
  case atStart => exact ⟨l.length, Nat.le_refl _, rfl, fun j h1 h2 => by omega⟩
  case round =>
    obtain ⟨k, hk, rfl, hz⟩ := hrel
    have fin : ((0 < k → 0 < l.getD (k - 1) 0)) → Num w (.slice a k cap) (bv l) := fun hp => by
      have := trim_can HS.out k hk hz.out hp
      have hlen : (l.take k).length = k := by rw [List.length_take]; omega
      refine ⟨l.take k, ⟨HS.out.take k, a, cap, by rw [hlen], by omega, hcm, fun i hi => ?_⟩, this.1, this.2⟩
      obtain ⟨b, off, ha, hci⟩ := HC.out i (by omega)
      refine ⟨b, off, ha, ?_⟩
      rw [hci]
      simp [List.getElem?_take_of_lt (show i < k by omega)]
    have FIN := Lib.hid fin
    clear fin
    rcases Nat.eq_zero_or_pos k with rfl | hpos
    · go_wp2
      go_ret
      exact ⟨_, rfl, FIN.out (fun h => absurd h (Nat.lt_irrefl 0)), rfl⟩
    · obtain ⟨b, off, rfl, hci⟩ := HC.out (k - 1) (by omega)
      by_cases h0 : l.getD (k - 1) 0 = 0
      · have H0 := Lib.hid h0
        rw [h0] at hci
        clear h0
        go_wp2
        go_round
        case rel => exact ⟨k - 1, by omega, by (have e : ((k - 1 : Nat) : Int) = k - 1 := by omega); rw [e], fun j h1 h2 => by
          by_cases hj : j = k - 1
          · rw [hj]; exact H0.out
          · exact hz.out j (by omega) h2⟩
        case measure => simp [intOf]; omega
      · have hne : (((l.getD (k - 1) 0 : Nat) : Int) == 0) = false := by simp only [beq_eq_false_iff_ne]; omega
        have HP := Lib.hid (show 0 < l.getD (k - 1) 0 from by omega)
        generalize l.getD (k - 1) 0 = d at hne hci
        clear h0
        go_wp2
        go_ret
        exact ⟨_, rfl, FIN.out (fun _ => HP.out), rfl⟩

/-- an append of one digit to a row of the call's own: what the walk wants -/
theorem own_one {w : World} {base : Nat} {e : TypeId} {v : Value} {l : List Nat} (h : w.ownsRow base e 1 v l.length (dvals l)) (o : Obj) : (w.alloc o).ownsRow base e 1 v l.length (dvals l) := h.alloc o

theorem one_cells (w : World) (e : TypeId) (y : Value) : ∀ (j : Nat) (u : Value), ([y] : List Value)[j]? = some u → (w.alloc (.cells #[y] e)).cell? ((⟨w.heap.size, 0, none⟩ : Addr).add j) = some u := by
  intro j u hj
  match j, hj with
  | 0, hj =>
    simp at hj
    subst hj
    simp [Addr.add]
theorem one_cell1 (k : IntKind) (n : Int) : ∀ u ∈ ([Value.int k n] : List Value), u.oneCell' = true := by
  intro u hu
  simp at hu
  subst hu
  rfl

theorem add_round {la lb lo : List Nat} {i c : Nat} (hl : lo.length = i) (h : bv lo + 65536 ^ i * c = bv (la.take i) + bv (lb.take i)) :
    bv (lo ++ [(c + la.getD i 0 + lb.getD i 0) % 65536]) + 65536 ^ (i + 1) * ((c + la.getD i 0 + lb.getD i 0) / 65536) = bv (la.take (i + 1)) + bv (lb.take (i + 1)) := by
  rw [bv_snoc, bv_take_next, bv_take_next, hl, Nat.pow_succ, Nat.mul_assoc]
  have e := Nat.mod_add_div (c + la.getD i 0 + lb.getD i 0) 65536
  generalize (c + la.getD i 0 + lb.getD i 0) % 65536 = r at *
  generalize (c + la.getD i 0 + lb.getD i 0) / 65536 = q at *
  have e2 : 65536 ^ i * r + 65536 ^ i * (65536 * q) = 65536 ^ i * c + 65536 ^ i * la.getD i 0 + 65536 ^ i * lb.getD i 0 := by
    rw [← Nat.mul_add, e, Nat.mul_add, Nat.mul_add]
  omega

theorem add_len {la lb lo : List Nat} {i c M : Nat} (hsa : Sm la) (hsb : Sm lb) (h : bv lo + 65536 ^ i * c = bv (la.take i) + bv (lb.take i)) (hla : la.length ≤ M) (hlb : lb.length ≤ M) (hc : 0 < c) : i ≤ M := by
  rcases Nat.lt_or_ge M i with h' | h'
  · exfalso
    have h1 := bv_lt hsa
    have h2 := bv_lt hsb
    rw [bv_take_ge la i (by omega), bv_take_ge lb i (by omega)] at h
    have h4 : 65536 ^ la.length ≤ 65536 ^ M := Nat.pow_le_pow_right (by decide) hla
    have h5 : 65536 ^ lb.length ≤ 65536 ^ M := Nat.pow_le_pow_right (by decide) hlb
    have h6 : 65536 ^ (M + 1) ≤ 65536 ^ i := Nat.pow_le_pow_right (by decide) h'
    have h8 : 65536 ^ i ≤ 65536 ^ i * c := Nat.le_mul_of_pos_right _ hc
    rw [Nat.pow_succ] at h6
    omega
  · exact h'

set_option maxHeartbeats 1000000 in
set_option maxRecDepth 100000 in
theorem add_ok (la lb : List Nat) (va vb : Value) (w : World) (ha : DigAt w va la) (hb : DigAt w vb lb) (hla : la.length ≤ 65536) (hlb : lb.length ≤ 65536) :
    Calls Try.prog 58 #[va, vb] w fun e w' => ∃ v', e = .returned v' ∧ Num w' v' (bv la + bv lb) ∧ Below w.heap.size w w' := by
  obtain ⟨hsa, aa, ca, rfl, _, _, hca⟩ := ha
  obtain ⟨hsb, ab, cb, rfl, _, _, hcb⟩ := hb
  obtain ⟨i0, hi, hz0, hz1, hz2⟩ := info_parts digInfo
  obtain ⟨M, hM1, hM2, hM3⟩ : ∃ M : Nat, la.length ≤ M ∧ lb.length ≤ M ∧ M ≤ 65536 := ⟨max la.length lb.length, by omega, by omega, by omega⟩
  have HA := Lib.hid hca
  have HB := Lib.hid hcb
  have SA := Lib.hid hsa
  have SB := Lib.hid hsb
  have I := Lib.hid hi
  have I0 := Lib.hid hz0
  have I1 := Lib.hid hz1
  have I2 := Lib.hid hz2
  clear hca hcb hsa hsb hi hz0 hz1 hz2
  go_enter Try.func58, Try.ntmps58
  go_wp2
  go_loopw [5, 6, 7] (fun vo vc vi wr => ∃ (i c : Nat) (lo : List Nat), vi = .int .i64 i ∧ vc = .int .i64 c ∧ c ≤ 1 ∧ i ≤ lo.length ∧ lo.length ≤ i ∧ i ≤ M + 1 ∧ Sm lo ∧ wr.ownsRow w.heap.size 3 1 vo lo.length (dvals lo) ∧
    Hid (bv lo + 65536 ^ i * c = bv (la.take i) + bv (lb.take i)) ∧ Below w.heap.size w wr) (fun _ _ i _ => 70000 - (intOf i).toNat)
  case atStart => exact ⟨0, 0, [], rfl, rfl, by omega, by simp, by simp, by omega, Sm.nil, World.ownsRow_made _ _ _ (Nat.le_refl _) (Nat.zero_le _) rfl, by simp [Hid], (Below.refl _ _).alloc (Nat.le_refl _) _⟩
  case round =>
    obtain ⟨i, c, lo, rfl, rfl, hc1, hl1, hl2, hi1, hsl, hown, heq, hBw⟩ := hrel
    have hlen : lo.length = i := by omega
    have LEN := Lib.hid hlen
    have OWN := Lib.hid hown
    clear hlen hown
    by_cases hgo : i < la.length ∨ i < lb.length ∨ 0 < c
    · have hx1 := SA.out.getD i
      have hx2 := SB.out.getD i
      have ha0 : ¬ i < la.length → la.getD i 0 = 0 := fun h => by rw [List.getD_eq_getElem?_getD, List.getElem?_eq_none (by omega)]; rfl
      have hb0 : ¬ i < lb.length → lb.getD i 0 = 0 := fun h => by rw [List.getD_eq_getElem?_getD, List.getElem?_eq_none (by omega)]; rfl
      have A0 := Lib.hid ha0
      have B0 := Lib.hid hb0
      have hca : i < la.length → ∃ b off, aa = some ⟨b, off, none⟩ ∧ wr.cell? ⟨b, off + i, none⟩ = some (.int .i64 (la.getD i 0 : Nat)) := fun h => by
        obtain ⟨b, off, e, hcc⟩ := HA.out i h
        exact ⟨b, off, e, by rw [hBw.cell (cell_lt hcc).1]; exact hcc⟩
      have hcb : i < lb.length → ∃ b off, ab = some ⟨b, off, none⟩ ∧ wr.cell? ⟨b, off + i, none⟩ = some (.int .i64 (lb.getD i 0 : Nat)) := fun h => by
        obtain ⟨b, off, e, hcc⟩ := HB.out i h
        exact ⟨b, off, e, by rw [hBw.cell (cell_lt hcc).1]; exact hcc⟩
      have R := Lib.hid (add_round (la := la) (lb := lb) LEN.out heq.out)
      have hi2 : i ≤ M := by
        rcases hgo with h | h | h
        · omega
        · omega
        · exact add_len SA.out SB.out heq.out hM1 hM2 h
      clear ha0 hb0 heq
      generalize la.getD i 0 = x at *
      generalize lb.getD i 0 = y at *
      by_cases hia : i < la.length
      · obtain ⟨b1, o1, rfl, ca1⟩ := hca hia
        clear hca
        by_cases hib : i < lb.length
        · obtain ⟨b2, o2, rfl, ca2⟩ := hcb hib
          clear hcb hgo
          go_wp2_with (at_builtin; refine wpList_append_own _ rfl _ _ 25 rfl w.heap.size 3 i0 (.int .i64 0) 1 8 Try.underlying25 I.out I0.out I1.out I2.out rfl (by decide) _ _ _ rfl (OWN.out.alloc _) ⟨wr.heap.size, 0, none⟩ 1 1 [.int .i64 (((c : Int) + x + y) % 65536)] rfl rfl (one_cells _ _ _) (one_cell1 _ _) (by unfold maxLen; omega) (by omega) (by have := hBw.size; simp; omega) ?_)
          intro v' w1 hown' hgrow _
          rw [show (((c : Int) + x + y) % 65536 : Int) = (((c + x + y) % 65536 : Nat) : Int) from by omega, ← dvals_snoc] at hown'
          have hBx : Below w.heap.size w w1 := (hBw.alloc hBw.size _).grown hgrow (by have := hBw.size; simp; omega) (fun k hk => (OWN.out.lt k hk).1)
          have OWN2 := Lib.hid hown'
          clear hown' hgrow
          go_wp2
          go_roundw
          case rel => exact ⟨i + 1, (c + x + y) / 65536, lo ++ [(c + x + y) % 65536], by go_num, val_int (by omega), by omega, by simp; omega, by simp; omega, by omega, hsl.snoc (by omega), by simpa using OWN2.out, R, hBx⟩
          case measure => simp [intOf]; omega
        · obtain rfl := B0.out hib
          clear hcb hgo
          go_wp2_with (at_builtin; refine wpList_append_own _ rfl _ _ 25 rfl w.heap.size 3 i0 (.int .i64 0) 1 8 Try.underlying25 I.out I0.out I1.out I2.out rfl (by decide) _ _ _ rfl (OWN.out.alloc _) ⟨wr.heap.size, 0, none⟩ 1 1 [.int .i64 (((c : Int) + x) % 65536)] rfl rfl (one_cells _ _ _) (one_cell1 _ _) (by unfold maxLen; omega) (by omega) (by have := hBw.size; simp; omega) ?_)
          intro v' w1 hown' hgrow _
          rw [show (((c : Int) + x) % 65536 : Int) = (((c + x + 0) % 65536 : Nat) : Int) from by omega, ← dvals_snoc] at hown'
          have hBx : Below w.heap.size w w1 := (hBw.alloc hBw.size _).grown hgrow (by have := hBw.size; simp; omega) (fun k hk => (OWN.out.lt k hk).1)
          have OWN2 := Lib.hid hown'
          clear hown' hgrow
          go_wp2
          go_roundw
          case rel => exact ⟨i + 1, (c + x + 0) / 65536, lo ++ [(c + x + 0) % 65536], by go_num, val_int (by omega), by omega, by simp; omega, by simp; omega, by omega, hsl.snoc (by omega), by simpa using OWN2.out, R, hBx⟩
          case measure => simp [intOf]; omega
      · obtain rfl := A0.out hia
        clear hca
        by_cases hib : i < lb.length
        · obtain ⟨b2, o2, rfl, ca2⟩ := hcb hib
          clear hcb hgo
          go_wp2_with (at_builtin; refine wpList_append_own _ rfl _ _ 25 rfl w.heap.size 3 i0 (.int .i64 0) 1 8 Try.underlying25 I.out I0.out I1.out I2.out rfl (by decide) _ _ _ rfl (OWN.out.alloc _) ⟨wr.heap.size, 0, none⟩ 1 1 [.int .i64 (((c : Int) + y) % 65536)] rfl rfl (one_cells _ _ _) (one_cell1 _ _) (by unfold maxLen; omega) (by omega) (by have := hBw.size; simp; omega) ?_)
          intro v' w1 hown' hgrow _
          rw [show (((c : Int) + y) % 65536 : Int) = (((c + 0 + y) % 65536 : Nat) : Int) from by omega, ← dvals_snoc] at hown'
          have hBx : Below w.heap.size w w1 := (hBw.alloc hBw.size _).grown hgrow (by have := hBw.size; simp; omega) (fun k hk => (OWN.out.lt k hk).1)
          have OWN2 := Lib.hid hown'
          clear hown' hgrow
          go_wp2
          go_roundw
          case rel => exact ⟨i + 1, (c + 0 + y) / 65536, lo ++ [(c + 0 + y) % 65536], by go_num, val_int (by omega), by omega, by simp; omega, by simp; omega, by omega, hsl.snoc (by omega), by simpa using OWN2.out, R, hBx⟩
          case measure => simp [intOf]; omega
        · obtain rfl := B0.out hib
          have hc0 : 0 < c := by omega
          clear hcb hgo
          go_wp2_with (at_builtin; refine wpList_append_own _ rfl _ _ 25 rfl w.heap.size 3 i0 (.int .i64 0) 1 8 Try.underlying25 I.out I0.out I1.out I2.out rfl (by decide) _ _ _ rfl (OWN.out.alloc _) ⟨wr.heap.size, 0, none⟩ 1 1 [.int .i64 ((c : Int) % 65536)] rfl rfl (one_cells _ _ _) (one_cell1 _ _) (by unfold maxLen; omega) (by omega) (by have := hBw.size; simp; omega) ?_)
          intro v' w1 hown' hgrow _
          rw [show ((c : Int) % 65536 : Int) = (((c + 0 + 0) % 65536 : Nat) : Int) from by omega, ← dvals_snoc] at hown'
          have hBx : Below w.heap.size w w1 := (hBw.alloc hBw.size _).grown hgrow (by have := hBw.size; simp; omega) (fun k hk => (OWN.out.lt k hk).1)
          have OWN2 := Lib.hid hown'
          clear hown' hgrow
          go_wp2
          go_roundw
          case rel => exact ⟨i + 1, (c + 0 + 0) / 65536, lo ++ [(c + 0 + 0) % 65536], by go_num, val_int (by omega), by omega, by simp; omega, by simp; omega, by omega, hsl.snoc (by omega), by simpa using OWN2.out, R, hBx⟩
          case measure => simp [intOf]; omega
    · have hf : bv lo = bv la + bv lb := by
        have h := heq.out
        rw [show c = 0 from by omega, bv_take_ge la i (by omega), bv_take_ge lb i (by omega)] at h
        simpa using h
      have HF := Lib.hid hf
      have hia : ¬ i < la.length := by omega
      have hib : ¬ i < lb.length := by omega
      have hc0 : ¬ 0 < c := by omega
      clear hf hgo
      go_wp2_with fail
      refine (trim_ok lo _ _ (dig_of_own hsl OWN.out)).mono ?_
      rintro e w' ⟨v', rfl, hn, rfl⟩
      rw [HF.out] at hn
      go_wp2_with fail
      go_ret
      exact ⟨_, rfl, hn, hBw⟩
end Go.Proofs.Ytopelehfffjfeaa
