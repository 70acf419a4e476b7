/-
The document's numbers: without their lowest bits.
-/
import Derived.Test.YtopelehfffjfeaaRefNum4
import Derived.Deep.DeepCutAuto
import Derived.Outline
namespace Go.Proofs.Ytopelehfffjfeaa
open Go.RowKit

theorem dig_len {l : List Nat} {N : Nat} (h : Can l) (hb : bv l < 65536 ^ N) : l.length ≤ N := by
  rcases Nat.lt_or_ge N l.length with hlt | hge
  · exfalso
    have h1 := h.lower (fun e => by rw [e] at hlt; exact Nat.not_lt_zero _ hlt)
    have h2 : 65536 ^ N ≤ 65536 ^ (l.length - 1) := Nat.pow_le_pow_right (by decide) (by omega)
    omega
  · exact hge
theorem num_digs {w : World} {v : Value} {n N : Nat} (h : Num w v n) (hn : n < 65536 ^ N) : ∃ l, DigAt w v l ∧ Can l ∧ bv l = n ∧ l.length ≤ N := by
  obtain ⟨l, hd, hc, hb⟩ := h
  exact ⟨l, hd, hc, hb, dig_len hc (by rw [hb]; exact hn)⟩
def hdig (l : List Nat) (r i : Nat) : Nat := (l.getD i 0 + l.getD (i + 1) 0 * 65536) / 2 ^ r % 65536
def hdigs (l : List Nat) (r n : Nat) : List Nat := (List.range n).map (hdig l r)
theorem hdigs_succ (l : List Nat) (r n : Nat) : hdigs l r (n + 1) = hdigs l r n ++ [hdig l r n] := by simp [hdigs, List.range_succ]
theorem hdigs_len (l : List Nat) (r n : Nat) : (hdigs l r n).length = n := by simp [hdigs]
theorem hdigs_sm (l : List Nat) (r n : Nat) : Sm (hdigs l r n) := fun d hd => by
  obtain ⟨i, _, rfl⟩ := List.mem_map.1 hd
  exact Nat.mod_lt _ (by decide)
theorem hdigs_cons (d : Nat) (t : List Nat) (r n : Nat) : hdigs (d :: t) r (n + 1) = hdig (d :: t) r 0 :: hdigs t r n := by
  unfold hdigs
  rw [List.range_succ_eq_map, List.map_cons, List.map_map]
  rfl
theorem half_step (r : Nat) (hr : r < 16) (d t0 B T : Nat) (hd : d < 65536) (h0 : t0 < 65536) (hT : T = t0 + 65536 * B) : (d + t0 * 65536) / 2 ^ r % 65536 + 65536 * (T / 2 ^ r) = (d + 65536 * T) / 2 ^ r := by
  subst hT
  match r, hr with
  | 0, _ => simp; omega
  | 1, _ => simp; omega
  | 2, _ => simp; omega
  | 3, _ => simp; omega
  | 4, _ => simp; omega
  | 5, _ => simp; omega
  | 6, _ => simp; omega
  | 7, _ => simp; omega
  | 8, _ => simp; omega
  | 9, _ => simp; omega
  | 10, _ => simp; omega
  | 11, _ => simp; omega
  | 12, _ => simp; omega
  | 13, _ => simp; omega
  | 14, _ => simp; omega
  | 15, _ => simp; omega
  | n + 16, h => omega
theorem bv_half (r : Nat) (hr : r < 16) : ∀ l : List Nat, Sm l → bv (hdigs l r l.length) = bv l / 2 ^ r
  | [], _ => by simp [hdigs]
  | d :: t, hs => by
    have hd := hs d (by simp)
    have ht : Sm t := fun x hx => hs x (by simp [hx])
    rw [List.length_cons, hdigs_cons, bv_cons, bv_half r hr t ht, bv_cons]
    have h0 := ht.getD 0
    cases t with
    | nil => exact half_step r hr d 0 0 0 hd (by decide) rfl
    | cons t0 t' => exact half_step r hr d t0 (bv t') _ hd h0 rfl
theorem getD_drop (l : List Nat) (q i : Nat) : (l.drop q).getD i 0 = l.getD (q + i) 0 := by
  rw [List.getD_eq_getElem?_getD, List.getElem?_drop, List.getD_eq_getElem?_getD]
theorem bv_drop {l : List Nat} (hs : Sm l) (q : Nat) (h : q ≤ l.length) : bv (l.drop q) = bv l / 65536 ^ q := by
  have h1 := bv_take_drop l q h
  have h2 := bv_lt (hs.take q)
  rw [List.length_take, Nat.min_eq_left h] at h2
  rw [h1, Nat.add_mul_div_left _ _ (Nat.pow_pos (by decide)), Nat.div_eq_of_lt h2, Nat.zero_add]
theorem half_val {l : List Nat} (hs : Sm l) (n : Nat) (h : n / 16 < l.length) : bv (hdigs (l.drop (n / 16)) (n % 16) (l.length - n / 16)) = bv l / 2 ^ n := by
  have e := bv_half (n % 16) (Nat.mod_lt _ (by decide)) (l.drop (n / 16)) (hs.drop _)
  rw [List.length_drop] at e
  rw [e, bv_drop hs _ (Nat.le_of_lt h), Nat.div_div_eq_div_mul, show (65536 : Nat) = 2 ^ 16 from rfl, ← Nat.pow_mul, ← Nat.pow_add, Nat.div_add_mod]

set_option maxHeartbeats 1000000 in
set_option maxRecDepth 100000 in
theorem half_ok (la : List Nat) (va : Value) (n : Nat) (w : World) (ha : DigAt w va la) (hla : la.length ≤ 65536) (hn : n ≤ 100000) :
    Calls Try.prog 60 #[va, .int .i64 n] w fun e w' => ∃ v', e = .returned v' ∧ Num w' v' (bv la / 2 ^ n) ∧ Below w.heap.size w w' := by
  obtain ⟨hsa, aa, ca, rfl, hlc, hcm, hca⟩ := ha
  obtain ⟨i0, hi, hz0, hz1, hz2⟩ := info_parts digInfo
  have HA := Lib.hid hca
  have SA := Lib.hid hsa
  have I := Lib.hid hi
  have I0 := Lib.hid hz0
  have I1 := Lib.hid hz1
  have I2 := Lib.hid hz2
  unfold maxLen at hcm
  clear hca hsa hi hz0 hz1 hz2
  rcases Nat.lt_or_ge (n / 16) la.length with hlt | hge
  · have HV := Lib.hid (half_val SA.out n hlt)
    obtain ⟨b, off, rfl, hc0⟩ := HA.out 0 (by omega)
    have hbl : b < w.heap.size := (cell_lt hc0).1
    have HC : Hid (∀ i, i < la.length → w.cell? ⟨b, off + i, none⟩ = some (.int .i64 (la.getD i 0 : Nat))) := fun i hi => by
      obtain ⟨b', off', e, h⟩ := HA.out i hi
      simp only [Option.some.injEq, Addr.mk.injEq, and_true] at e
      obtain ⟨rfl, rfl⟩ := e
      exact h
    clear hc0 HA
    have hqc : n / 16 ≠ ca := by omega
    have hqc2 : ca - n / 16 ≠ 0 := by omega
    go_enter Try.func60, Try.ntmps60
    go_upto_region 4 with fail
    obtain ⟨q, hq⟩ : ∃ q, q = n / 16 := ⟨_, rfl⟩
    obtain ⟨r, hr⟩ : ∃ r, r = n % 16 := ⟨_, rfl⟩
    obtain ⟨m, hm⟩ : ∃ m, m = la.length - q := ⟨_, rfl⟩
    have hnr : (n : Int) % 16 = r := by omega
    have hr16 : r < 16 := by omega
    rw [← hq, ← hm, ← hr] at HV
    rw [← hq, ← hm]
    have hle : q + m ≤ la.length := by omega
    have hge : la.length ≤ q + m := by omega
    rw [← hq] at hlt
    have HQ := Lib.hid hq
    clear hq hm hr hqc hqc2 hlc
    go_wp2_with fail
    go_loopw [5, 21] (fun vo vi wr => ∃ i : Nat, vi = .int .i64 i ∧ i ≤ m ∧ wr.ownsRow w.heap.size 3 1 vo (hdigs (la.drop q) r i).length (dvals (hdigs (la.drop q) r i)) ∧ Below w.heap.size w wr) (fun _ vi _ => m - (intOf vi).toNat)
    case atStart => exact ⟨0, rfl, by omega, World.ownsRow_made _ _ _ (Nat.le_refl _) (Nat.zero_le _) rfl, (Below.refl _ _).alloc (Nat.le_refl _) _⟩
    case round =>
      obtain ⟨i, rfl, hi, hown, hBw⟩ := hrel
      have OWN := Lib.hid hown
      have hil : (hdigs (la.drop q) r i).length ≤ i := by rw [hdigs_len]; exact Nat.le_refl _
      clear hown
      by_cases hgo : i < m
      · have hx1 := SA.out.getD (q + i)
        have hx2 := SA.out.getD (q + i + 1)
        have cx : wr.cell? ⟨b, off + q + i, none⟩ = some (.int .i64 (la.getD (q + i) 0 : Nat)) := by
          have h := HC.out (q + i) (by omega)
          rw [hBw.cell (p := ⟨b, off + q + i, none⟩) hbl, Nat.add_assoc]; exact h
        have HD : Hid (hdig (la.drop q) r i = (la.getD (q + i) 0 + la.getD (q + i + 1) 0 * 65536) / 2 ^ r % 65536) := by
          show _ = _
          unfold hdig
          rw [getD_drop, getD_drop, Nat.add_assoc]
        by_cases hgy : i + 1 < m
        · have cy : wr.cell? ⟨b, off + q + (i + 1), none⟩ = some (.int .i64 (la.getD (q + i + 1) 0 : Nat)) := by
            have h := HC.out (q + i + 1) (by omega)
            rw [hBw.cell (p := ⟨b, off + q + (i + 1), none⟩) hbl, Nat.add_assoc, ← Nat.add_assoc q]; exact h
          generalize la.getD (q + i) 0 = x at *
          generalize la.getD (q + i + 1) 0 = y at *
          go_wp2_with (at_builtin; refine wpList_append_own _ rfl _ _ 25 rfl w.heap.size 3 i0 (.int .i64 0) 1 8 Try.underlying25 I.out I0.out I1.out I2.out rfl (by decide) _ _ _ rfl (OWN.out.alloc _) ⟨wr.heap.size, 0, none⟩ 1 1 [.int .i64 (((x : Int) + y * 65536) / 2 ^ r % 65536)] rfl rfl (one_cells _ _ _) (one_cell1 _ _) (by unfold maxLen; omega) (by omega) (by have := hBw.size; simp; omega) ?_)
          intro v' w1 hown' hgrow _
          rw [show (((x : Int) + y * 65536) / 2 ^ r % 65536 : Int) = (hdig (la.drop q) r i : Nat) from by rw [HD.out]; simp, ← dvals_snoc] at hown'
          have hBx : Below w.heap.size w w1 := (hBw.alloc hBw.size _).grown hgrow (by have := hBw.size; simp; omega) (fun k hk => (OWN.out.lt k hk).1)
          have OWN2 := Lib.hid hown'
          clear hown' hgrow
          go_wp2
          go_roundw
          case rel => exact ⟨i + 1, by go_num, by omega, by rw [hdigs_succ, List.length_append, List.length_singleton] at *; simpa using OWN2.out, hBx⟩
          case measure => simp [intOf]; omega
        · have hy0 : la.getD (q + i + 1) 0 = 0 := by rw [List.getD_eq_getElem?_getD, List.getElem?_eq_none (by omega)]; rfl
          rw [hy0] at HD
          clear hy0 hx2
          generalize la.getD (q + i) 0 = x at *
          go_wp2_with (at_builtin; refine wpList_append_own _ rfl _ _ 25 rfl w.heap.size 3 i0 (.int .i64 0) 1 8 Try.underlying25 I.out I0.out I1.out I2.out rfl (by decide) _ _ _ rfl (OWN.out.alloc _) ⟨wr.heap.size, 0, none⟩ 1 1 [.int .i64 ((x : Int) / 2 ^ r % 65536)] rfl rfl (one_cells _ _ _) (one_cell1 _ _) (by unfold maxLen; omega) (by omega) (by have := hBw.size; simp; omega) ?_)
          intro v' w1 hown' hgrow _
          rw [show ((x : Int) / 2 ^ r % 65536 : Int) = (hdig (la.drop q) r i : Nat) from by rw [HD.out]; simp, ← dvals_snoc] at hown'
          have hBx : Below w.heap.size w w1 := (hBw.alloc hBw.size _).grown hgrow (by have := hBw.size; simp; omega) (fun k hk => (OWN.out.lt k hk).1)
          have OWN2 := Lib.hid hown'
          clear hown' hgrow
          go_wp2
          go_roundw
          case rel => exact ⟨i + 1, by go_num, by omega, by rw [hdigs_succ, List.length_append, List.length_singleton] at *; simpa using OWN2.out, hBx⟩
          case measure => simp [intOf]; omega
      · obtain rfl : i = m := by omega
        go_wp2_with fail
        refine (trim_ok (hdigs (la.drop q) r i) _ _ (dig_of_own (hdigs_sm _ _ _) OWN.out)).mono ?_
        rintro e w' ⟨v', rfl, hn, rfl⟩
        rw [HV.out] at hn
        go_wp2_with fail
        go_ret
        exact ⟨_, rfl, hn, hBw⟩
  · have hz : bv la / 2 ^ n = 0 := Nat.div_eq_of_lt (by
      have h1 := bv_lt SA.out
      have h2 : 65536 ^ la.length ≤ 2 ^ n := by
        rw [show (65536 : Nat) = 2 ^ 16 from rfl, ← Nat.pow_mul]
        exact Nat.pow_le_pow_right (by decide) (by omega)
      omega)
    rw [hz]
    clear hz
    go_enter Try.func60, Try.ntmps60
    go_wp2
    go_ret
    exact ⟨_, rfl, ⟨[], ⟨Sm.nil, some ⟨w.heap.size, 0, none⟩, 0, rfl, Nat.le_refl _, Nat.zero_le _, fun i hi => absurd hi (Nat.not_lt_zero _)⟩, Can.nil, rfl⟩, (Below.refl _ _).alloc (Nat.le_refl _) _⟩
end Go.Proofs.Ytopelehfffjfeaa
