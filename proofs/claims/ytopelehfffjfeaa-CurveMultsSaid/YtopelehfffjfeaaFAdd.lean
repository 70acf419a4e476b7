/-
The field's sums, differences; Small, Choose.
-/
import Derived.Test.YtopelehfffjfeaaFLeast
import Derived.Test.YtopelehfffjfeaaLimbOps
namespace Go.Proofs.Ytopelehfffjfeaa
open Go.RowKit

/-- two lists joined limb by limb, so far -/
def sofar (f : Nat → Nat → Nat) (a b : List Nat) (i : Nat) : List Nat := (List.zipWith f a b).take i ++ a.drop i
theorem sofar_zero (f : Nat → Nat → Nat) (a b : List Nat) : sofar f a b 0 = a := by simp [sofar]
theorem sofar_end (f : Nat → Nat → Nat) (a b : List Nat) (ha : a.length = 5) (hb : b.length = 5) : sofar f a b 5 = List.zipWith f a b := by
  unfold sofar
  rw [List.take_of_length_le (by simp [ha, hb]), List.drop_of_length_le (by omega), List.append_nil]
theorem sofar_len (f : Nat → Nat → Nat) (a b : List Nat) (ha : a.length = 5) (hb : b.length = 5) (i : Nat) (hi : i ≤ 5) : (sofar f a b i).length = 5 := by
  simp [sofar, ha, hb]; omega
theorem sofar_get (f : Nat → Nat → Nat) (a b : List Nat) (ha : a.length = 5) (hb : b.length = 5) (i : Nat) (hi : i < 5) : (sofar f a b i).getD i 0 = a.getD i 0 := by
  unfold sofar
  have hl : ((List.zipWith f a b).take i).length = i := by simp [ha, hb]; omega
  rw [List.getD_eq_getElem?_getD, List.getElem?_append_right (by omega), hl, Nat.sub_self, List.getElem?_drop, Nat.add_zero, ← List.getD_eq_getElem?_getD]
theorem sofar_set (f : Nat → Nat → Nat) (a b : List Nat) (ha : a.length = 5) (hb : b.length = 5) (i : Nat) (hi : i < 5) : (sofar f a b i).set i (f (a.getD i 0) (b.getD i 0)) = sofar f a b (i + 1) := by
  have hl : ((List.zipWith f a b).take i).length = i := by simp [ha, hb]; omega
  have hz : i < (List.zipWith f a b).length := by simp [ha, hb]; omega
  unfold sofar
  rw [List.set_append_right _ _ (by omega), hl, Nat.sub_self, List.drop_eq_getElem_cons (show i < a.length by omega), List.set_cons_zero, List.take_succ_eq_append_getElem hz, List.append_assoc]
  congr 2
  rw [List.getElem_zipWith]
  simp [List.getD_eq_getElem?_getD, ha, hb, hi]

set_option maxHeartbeats 2000000 in
theorem el_small_ok (n : Nat) (w : World) (hn : n < 18446744073709551616) :
    Calls Try.prog 21 #[.int .u64 n] w fun e w' => e = .returned (ev (smallN n)) ∧ Below w.heap.size w w' := by
  have Z0 := Lib.hid (Blk.new w 29 (uvals zero5))
  have B0 := below1 w (.cells (uvals zero5).toArray 29)
  have hm := and_mask n hn
  have L5 : Hid ((smallN n).length = 5) := rfl
  have EQ : Hid ((uvals (smallN n)).toArray = #[.int .u64 ((n : Int) % 2251799813685248), .int .u64 ((n : Int) / 2251799813685248), .int .u64 0, .int .u64 0, .int .u64 0]) := by
    show (uvals (smallN n)).toArray = _
    simp [uvals, smallN]
  go_enter Try.func21, Try.ntmps21
  go_upto_region 1 with fail
  refine wp_gen (fun w0 => Hid (Blk w0 w.heap.size 29 (uvals zero5)) ∧ Below w.heap.size w w0) ⟨Z0, B0⟩ ?_
  rintro w0 ⟨Z1, B1⟩
  clear Z0 B0
  go_wp2_with (refine store_el Z1 hz5 L5 rfl rfl rfl (congrArg Value.agg EQ.out.symm) ?_)
  exact ret_el rfl (Z1.out.setRow _) L5.out rfl rfl ⟨rfl, below_row B1 _ _ (Nat.le_refl _)⟩

set_option maxHeartbeats 2000000 in
theorem el_choose_ok (c : Bool) (a b : List Nat) (w : World) (ha : a.length = 5) (hb : b.length = 5) :
    Calls Try.prog 35 #[.bool c, ev a, ev b] w fun e w' => e = .returned (ev (if c then a else b)) ∧ Below w.heap.size w w' := by
  have HA := Lib.hid ha
  have HB := Lib.hid hb
  clear ha hb
  show Calls _ _ #[.bool c, .agg (uvals a).toArray, .agg (uvals b).toArray] _ _
  cases c
  all_goals
    go_enter Try.func35, Try.ntmps35
    go_upto_region 1 with fail
    refine wp_gen (fun w0 => Hid (Blk w0 w.heap.size 29 (uvals a)) ∧ Hid (Blk w0 (w.heap.size + 1) 29 (uvals b)) ∧ Hid (Blk w0 (w.heap.size + 2) 29 (uvals zero5)) ∧ Below w.heap.size w w0) ⟨((Blk.new w _ (uvals a)).alloc _).alloc _, (Blk.new2 _ _ _ (uvals b)).alloc _, Blk.new3 _ _ _ _ (uvals zero5), below3 _ _ _ _⟩ ?_
    rintro w0 ⟨P0, P1, P2, BB⟩
    go_wp2_with (first | refine load_el P0 HA rfl rfl rfl ?_ | refine load_el P1 HB rfl rfl rfl ?_ | refine store_el P2 hz5 HA rfl rfl rfl rfl ?_ | refine store_el P2 hz5 HB rfl rfl rfl rfl ?_)
    first
      | exact ret_el rfl (P2.out.setRow _) HA.out rfl rfl ⟨rfl, below_row BB _ _ (by omega)⟩
      | exact ret_el rfl (P2.out.setRow _) HB.out rfl rfl ⟨rfl, below_row BB _ _ (by omega)⟩

set_option maxHeartbeats 2000000 in
theorem el_add_ok (a b : List Nat) (w : World) (hl : a.length = 5) (hm : b.length = 5) (ha : ∀ d ∈ a, d < 2 ^ 52) (hb : ∀ d ∈ b, d < 2 ^ 52) :
    Calls Try.prog 27 #[ev a, ev b] w fun e w' => e = .returned (ev (addN a b)) ∧ Below w.heap.size w w' := by
  have HL := Lib.hid hl
  have HM := Lib.hid hm
  have HA := Lib.hid ha
  have HB := Lib.hid hb
  clear hl hm ha hb
  show Calls _ _ #[.agg (uvals a).toArray, .agg (uvals b).toArray] _ _
  go_enter Try.func27, Try.ntmps27
  go_upto_region 1 with fail
  refine wp_gen (fun w0 => Hid (Blk w0 w.heap.size 29 (uvals a)) ∧ Hid (Blk w0 (w.heap.size + 1) 29 (uvals b)) ∧ Hid (Blk w0 (w.heap.size + 2) 29 (uvals zero5)) ∧ Below w.heap.size w w0) ⟨((Blk.new w _ (uvals a)).alloc _).alloc _, (Blk.new2 _ _ _ (uvals b)).alloc _, Blk.new3 _ _ _ _ (uvals zero5), below3 _ _ _ _⟩ ?_
  rintro w0 ⟨P0, P1, P2, BB⟩
  go_wp2_with fail
  go_loopw [6] (fun vi wr => ∃ i : Nat, i ≤ 5 ∧ vi = .int .i64 i ∧ Hid (Blk wr w.heap.size 29 (uvals (sofar (· + ·) a b i))) ∧ Hid (Blk wr (w.heap.size + 1) 29 (uvals b)) ∧ Hid (Blk wr (w.heap.size + 2) 29 (uvals zero5)) ∧ Below w.heap.size w wr) (fun vi _ => 5 - (intOf vi).toNat)
  case atStart => exact ⟨0, by omega, rfl, by rw [sofar_zero]; exact P0, P1, P2, BB⟩
  case round =>
    clear P0 P1 P2 BB
    obtain ⟨i, hi, rfl, p0, p1, p2, hB⟩ := hrel
    by_cases hgo : i < 5
    · have c0 := p0.out.ucell i (by rw [sofar_len _ _ _ HL.out HM.out i (by omega)]; exact hgo)
      rw [sofar_get _ _ _ HL.out HM.out i hgo] at c0
      have f0 := p0.out.free i
      have c1 := p1.out.ucell i (by rw [HM.out]; exact hgo)
      have hx : a.getD i 0 < 4503599627370496 := mem_lt (by decide) HA.out i
      have hy : b.getD i 0 < 4503599627370496 := mem_lt (by decide) HB.out i
      have N0 : Hid (∀ n, Blk ((wr.setCell ⟨w.heap.size, i, none⟩ (.int .u64 (a.getD i 0 + b.getD i 0 : Nat))).drewN n) w.heap.size 29 (uvals (sofar (· + ·) a b (i + 1)))) := fun n => by
        rw [← sofar_set _ _ _ HL.out HM.out i hgo]; exact (p0.out.uset i _).drew n
      have N1 : Hid (∀ n, Blk ((wr.setCell ⟨w.heap.size, i, none⟩ (.int .u64 (a.getD i 0 + b.getD i 0 : Nat))).drewN n) (w.heap.size + 1) 29 (uvals b)) := fun n => (p1.out.far (by omega) _ _).drew n
      have N2 : Hid (∀ n, Blk ((wr.setCell ⟨w.heap.size, i, none⟩ (.int .u64 (a.getD i 0 + b.getD i 0 : Nat))).drewN n) (w.heap.size + 2) 29 (uvals zero5)) := fun n => (p2.out.far (by omega) _ _).drew n
      have N3 := below_set' hB w.heap.size i (.int .u64 (a.getD i 0 + b.getD i 0 : Nat)) (Nat.le_refl _)
      generalize a.getD i 0 = x at *
      generalize b.getD i 0 = y at *
      clear p0 p1 p2 hB
      go_wp2_with fail
      (refine still_tail 11 (by kernel_rfl) (by kernel_rfl) ?_; simp only [List.take_succ_cons, List.take_zero, List.drop_succ_cons, List.drop_zero]; repeat (refine wpStill_step (fun K hK => ?_); go_simp; (try go_ints); (try simp only [↓IntWalk.iteOmega, true_and]); (with_reducible apply hK); clear hK K)); refine wpStill_nil ?_
      go_wp2_with fail
      go_roundw
      case rel => exact ⟨i + 1, by omega, by go_num, N0.out 1, N1.out 1, N2.out 1, below_drewN N3 1⟩
      case measure => simp [intOf]; omega
    · obtain rfl : i = 5 := by omega
      have LL : Hid ((sofar (· + ·) a b 5).length = 5) := sofar_len _ _ _ HL.out HM.out 5 (by omega)
      have EE : Hid (sofar (· + ·) a b 5 = addL a b) := sofar_end _ _ _ HL.out HM.out
      have HS : Hid (∀ d ∈ sofar (· + ·) a b 5, d < 2 ^ 63) := fun d hd => by
        rw [EE.out] at hd
        have := addL_lt HA.out HB.out d hd; omega
      go_wp2_with (refine load_el p0 LL rfl rfl rfl ?_)
      refine (el_carry_ok (sofar (· + ·) a b 5) _ LL.out HS.out).mono ?_
      rintro e w1 ⟨rfl, b1⟩
      unfold ev
      have L5 : Hid ((carryN (sofar (· + ·) a b 5)).length = 5) := carryN_len _ LL.out
      have Z := Lib.hid (p2.out.below b1 p2.out.lt)
      have BZ := hB.trans (b1.mono hB.size)
      go_wp2_with (refine store_el Z hz5 L5 rfl rfl rfl rfl ?_)
      exact ret_el rfl (Z.out.setRow _) L5.out rfl rfl ⟨by rw [EE.out]; rfl, below_row BZ _ _ (by omega)⟩
end Go.Proofs.Ytopelehfffjfeaa
