/-
The field's sums, differences; Small, Choose.
The field's differences.
-/
import Derived.Test.YtkhdhiddhnmdkaaGreatDoorPk11
namespace Go.Proofs.YtkhdhiddhnmdkaaGreatDoor
open Go.RowKit

/-- two lists joined limb by limb, so far -/
def sofar (f : Nat → Nat → Nat) (a b : List Nat) (i : Nat) : List Nat := (List.zipWith f a b).take i ++ a.drop i
theorem sofar_zero (f : Nat → Nat → Nat) (a b : List Nat) : sofar f a b 0 = a := by simp [sofar]
theorem sofar_end (f : Nat → Nat → Nat) (a b : List Nat) (ha : a.length = 5) (hb : b.length = 5) : sofar f a b 5 = List.zipWith f a b := by
  unfold sofar
  rw [List.take_of_length_le (by simp [ha, hb]), List.drop_of_length_le (by omega), List.append_nil]
theorem sofar_len (f : Nat → Nat → Nat) (a b : List Nat) (ha : a.length = 5) (hb : b.length = 5) (i : Nat) (hi : i ≤ 5) : (sofar f a b i).length = 5 := by
  simp [sofar, ha, hb]; omega
theorem sofar_get (f : Nat → Nat → Nat) (a b : List Nat) (ha : a.length = 5) (hb : b.length = 5) (i : Nat) (hi : i < 5) : (sofar f a b i).getD i 0 = a.getD i 0 := by
  unfold sofar
  have hl : ((List.zipWith f a b).take i).length = i := by simp [ha, hb]; omega
  rw [List.getD_eq_getElem?_getD, List.getElem?_append_right (by omega), hl, Nat.sub_self, List.getElem?_drop, Nat.add_zero, ← List.getD_eq_getElem?_getD]
theorem sofar_set (f : Nat → Nat → Nat) (a b : List Nat) (ha : a.length = 5) (hb : b.length = 5) (i : Nat) (hi : i < 5) : (sofar f a b i).set i (f (a.getD i 0) (b.getD i 0)) = sofar f a b (i + 1) := by
  have hl : ((List.zipWith f a b).take i).length = i := by simp [ha, hb]; omega
  have hz : i < (List.zipWith f a b).length := by simp [ha, hb]; omega
  unfold sofar
  rw [List.set_append_right _ _ (by omega), hl, Nat.sub_self, List.drop_eq_getElem_cons (show i < a.length by omega), List.set_cons_zero, List.take_succ_eq_append_getElem hz, List.append_assoc]
  congr 2
  rw [List.getElem_zipWith]
  simp [List.getD_eq_getElem?_getD, ha, hb, hi]

set_option maxHeartbeats 2000000 in
set_option maxRecDepth 100000 in
theorem el_small_ok (n : Nat) (w : World) (hn : n < 18446744073709551616) :
    Calls Tryz.prog 37 #[.int .u64 n] w fun e w' => e = .returned (ev (smallN n)) ∧ Below w.heap.size w w' := by
  have Z0 := Lib.hid (Blk.new w 70 (uvals zero5))
  have B0 := below1 w (.cells (uvals zero5).toArray 70)
  have hm := and_mask n hn
  have L5 : Hid ((smallN n).length = 5) := rfl
  have EQ : Hid ((uvals (smallN n)).toArray = #[.int .u64 ((n : Int) % 2251799813685248), .int .u64 ((n : Int) / 2251799813685248), .int .u64 0, .int .u64 0, .int .u64 0]) := by
    show (uvals (smallN n)).toArray = _
    simp [uvals, smallN]
  go_enter Tryz.func37, Tryz.ntmps37
  go_upto_region 1 with fail
  refine wp_gen (fun w0 => Hid (Blk w0 w.heap.size 70 (uvals zero5)) ∧ Below w.heap.size w w0) ⟨Z0, B0⟩ ?_
  rintro w0 ⟨Z1, B1⟩
  clear Z0 B0
  go_wp2_with (refine store_el Z1 hz5 L5 rfl rfl rfl (congrArg Value.agg EQ.out.symm) ?_)
  exact ret_el rfl (Z1.out.setRow _) L5.out rfl rfl ⟨rfl, below_row B1 _ _ (Nat.le_refl _)⟩

set_option maxHeartbeats 2000000 in
set_option maxRecDepth 100000 in
theorem el_choose_ok (c : Bool) (a b : List Nat) (w : World) (ha : a.length = 5) (hb : b.length = 5) :
    Calls Tryz.prog 66 #[.bool c, ev a, ev b] w fun e w' => e = .returned (ev (if c then a else b)) ∧ Below w.heap.size w w' := by
  have HA := Lib.hid ha
  have HB := Lib.hid hb
  clear ha hb
  show Calls _ _ #[.bool c, .agg (uvals a).toArray, .agg (uvals b).toArray] _ _
  cases c
  all_goals
    go_enter Tryz.func66, Tryz.ntmps66
    go_upto_region 1 with fail
    refine wp_gen (fun w0 => Hid (Blk w0 w.heap.size 70 (uvals a)) ∧ Hid (Blk w0 (w.heap.size + 1) 70 (uvals b)) ∧ Hid (Blk w0 (w.heap.size + 2) 70 (uvals zero5)) ∧ Below w.heap.size w w0) ⟨((Blk.new w _ (uvals a)).alloc _).alloc _, (Blk.new2 _ _ _ (uvals b)).alloc _, Blk.new3 _ _ _ _ (uvals zero5), below3 _ _ _ _⟩ ?_
    rintro w0 ⟨P0, P1, P2, BB⟩
    go_wp2_with (first | refine load_el P0 HA rfl rfl rfl ?_ | refine load_el P1 HB rfl rfl rfl ?_ | refine store_el P2 hz5 HA rfl rfl rfl rfl ?_ | refine store_el P2 hz5 HB rfl rfl rfl rfl ?_)
    first
      | exact ret_el rfl (P2.out.setRow _) HA.out rfl rfl ⟨rfl, below_row BB _ _ (by omega)⟩
      | exact ret_el rfl (P2.out.setRow _) HB.out rfl rfl ⟨rfl, below_row BB _ _ (by omega)⟩

set_option maxHeartbeats 2000000 in
set_option maxRecDepth 100000 in
theorem el_add_ok (a b : List Nat) (w : World) (hl : a.length = 5) (hm : b.length = 5) (ha : ∀ d ∈ a, d < 2 ^ 52) (hb : ∀ d ∈ b, d < 2 ^ 52) :
    Calls Tryz.prog 58 #[ev a, ev b] w fun e w' => e = .returned (ev (addN a b)) ∧ Below w.heap.size w w' := by
  have HL := Lib.hid hl
  have HM := Lib.hid hm
  have HA := Lib.hid ha
  have HB := Lib.hid hb
  clear hl hm ha hb
  show Calls _ _ #[.agg (uvals a).toArray, .agg (uvals b).toArray] _ _
  go_enter Tryz.func58, Tryz.ntmps58
  go_upto_region 1 with fail
  refine wp_gen (fun w0 => Hid (Blk w0 w.heap.size 70 (uvals a)) ∧ Hid (Blk w0 (w.heap.size + 1) 70 (uvals b)) ∧ Hid (Blk w0 (w.heap.size + 2) 70 (uvals zero5)) ∧ Below w.heap.size w w0) ⟨((Blk.new w _ (uvals a)).alloc _).alloc _, (Blk.new2 _ _ _ (uvals b)).alloc _, Blk.new3 _ _ _ _ (uvals zero5), below3 _ _ _ _⟩ ?_
  rintro w0 ⟨P0, P1, P2, BB⟩
  go_wp2_with fail
  go_loopw [6] (fun vi wr => ∃ i : Nat, i ≤ 5 ∧ vi = .int .i64 i ∧ Hid (Blk wr w.heap.size 70 (uvals (sofar (· + ·) a b i))) ∧ Hid (Blk wr (w.heap.size + 1) 70 (uvals b)) ∧ Hid (Blk wr (w.heap.size + 2) 70 (uvals zero5)) ∧ Below w.heap.size w wr) (fun vi _ => 5 - (intOf vi).toNat)
  case atStart => exact ⟨0, by omega, rfl, by rw [sofar_zero]; exact P0, P1, P2, BB⟩
  case round =>
    clear P0 P1 P2 BB
    obtain ⟨i, hi, rfl, p0, p1, p2, hB⟩ := hrel
    by_cases hgo : i < 5
    · have c0 := p0.out.ucell i (by rw [sofar_len _ _ _ HL.out HM.out i (by omega)]; exact hgo)
      rw [sofar_get _ _ _ HL.out HM.out i hgo] at c0
      have f0 := p0.out.free i
      have c1 := p1.out.ucell i (by rw [HM.out]; exact hgo)
      have hx : a.getD i 0 < 4503599627370496 := mem_lt (by decide) HA.out i
      have hy : b.getD i 0 < 4503599627370496 := mem_lt (by decide) HB.out i
      have N0 : Hid (∀ n, Blk ((wr.setCell ⟨w.heap.size, i, none⟩ (.int .u64 (a.getD i 0 + b.getD i 0 : Nat))).drewN n) w.heap.size 70 (uvals (sofar (· + ·) a b (i + 1)))) := fun n => by
        rw [← sofar_set _ _ _ HL.out HM.out i hgo]; exact (p0.out.uset i _).drew n
      have N1 : Hid (∀ n, Blk ((wr.setCell ⟨w.heap.size, i, none⟩ (.int .u64 (a.getD i 0 + b.getD i 0 : Nat))).drewN n) (w.heap.size + 1) 70 (uvals b)) := fun n => (p1.out.far (by omega) _ _).drew n
      have N2 : Hid (∀ n, Blk ((wr.setCell ⟨w.heap.size, i, none⟩ (.int .u64 (a.getD i 0 + b.getD i 0 : Nat))).drewN n) (w.heap.size + 2) 70 (uvals zero5)) := fun n => (p2.out.far (by omega) _ _).drew n
      have N3 := below_set' hB w.heap.size i (.int .u64 (a.getD i 0 + b.getD i 0 : Nat)) (Nat.le_refl _)
      generalize a.getD i 0 = x at *
      generalize b.getD i 0 = y at *
      clear p0 p1 p2 hB
      go_wp2_with fail
      (refine still_tail 11 (by kernel_rfl) (by kernel_rfl) ?_; simp only [List.take_succ_cons, List.take_zero, List.drop_succ_cons, List.drop_zero]; repeat (refine wpStill_step (fun K hK => ?_); go_simp; (try go_ints); (try simp only [↓IntWalk.iteOmega, true_and]); (with_reducible apply hK); clear hK K)); refine wpStill_nil ?_
      go_wp2_with fail
      go_roundw
      case rel => exact ⟨i + 1, by omega, by go_num, N0.out 1, N1.out 1, N2.out 1, below_drewN N3 1⟩
      case measure => simp [intOf]; omega
    · obtain rfl : i = 5 := by omega
      have LL : Hid ((sofar (· + ·) a b 5).length = 5) := sofar_len _ _ _ HL.out HM.out 5 (by omega)
      have EE : Hid (sofar (· + ·) a b 5 = addL a b) := sofar_end _ _ _ HL.out HM.out
      have HS : Hid (∀ d ∈ sofar (· + ·) a b 5, d < 2 ^ 63) := fun d hd => by
        rw [EE.out] at hd
        have := addL_lt HA.out HB.out d hd; omega
      go_wp2_with (refine load_el p0 LL rfl rfl rfl ?_)
      refine (el_carry_ok (sofar (· + ·) a b 5) _ LL.out HS.out).mono ?_
      rintro e w1 ⟨rfl, b1⟩
      unfold ev
      have L5 : Hid ((carryN (sofar (· + ·) a b 5)).length = 5) := carryN_len _ LL.out
      have Z := Lib.hid (p2.out.below b1 p2.out.lt)
      have BZ := hB.trans (b1.mono hB.size)
      go_wp2_with (refine store_el Z hz5 L5 rfl rfl rfl rfl ?_)
      exact ret_el rfl (Z.out.setRow _) L5.out rfl rfl ⟨by rw [EE.out]; rfl, below_row BZ _ _ (by omega)⟩
end Go.Proofs.YtkhdhiddhnmdkaaGreatDoor

namespace Go.Proofs.YtkhdhiddhnmdkaaGreatDoor
open Go.RowKit

/-- the three blocks of a call with two elements -/
def P3 (wr w : World) (a b c : List Nat) : Prop := Blk wr w.heap.size 70 (uvals a) ∧ Blk wr (w.heap.size + 1) 70 (uvals b) ∧ Blk wr (w.heap.size + 2) 70 (uvals c) ∧ Below w.heap.size w wr
theorem P3.start (w : World) (a b : List Nat) : P3 (((w.alloc (.cells (uvals a).toArray 70)).alloc (.cells (uvals b).toArray 70)).alloc (.cells (uvals zero5).toArray 70)) w a b zero5 :=
  ⟨((Blk.new w _ (uvals a)).alloc _).alloc _, (Blk.new2 _ _ _ (uvals b)).alloc _, Blk.new3 _ _ _ _ (uvals zero5), below3 _ _ _ _⟩
theorem P3.below {wr wr' w : World} {a b c : List Nat} (h : P3 wr w a b c) (hb : Below wr.heap.size wr wr') : P3 wr' w a b c :=
  ⟨h.1.below hb h.1.lt, h.2.1.below hb h.2.1.lt, h.2.2.1.below hb h.2.2.1.lt, h.2.2.2.trans (hb.mono h.2.2.2.size)⟩
theorem P3.drew {wr w : World} {a b c : List Nat} (h : P3 wr w a b c) (n : Nat) : P3 (wr.drewN n) w a b c := ⟨h.1.drew n, h.2.1.drew n, h.2.2.1.drew n, below_drewN h.2.2.2 n⟩
theorem P3.seta {wr w : World} {a b c : List Nat} (h : P3 wr w a b c) (i d : Nat) : P3 (wr.setCell ⟨w.heap.size, i, none⟩ (.int .u64 (d : Nat))) w (a.set i d) b c :=
  ⟨h.1.uset i d, h.2.1.far (by omega) _ _, h.2.2.1.far (by omega) _ _, below_set' h.2.2.2 _ _ _ (Nat.le_refl _)⟩
theorem P3.rowb {wr w : World} {a b c : List Nat} (h : P3 wr w a b c) (l : List Nat) : P3 (wr.setRow (w.heap.size + 1) (uvals l).toArray) w a l c :=
  ⟨h.1.farRow (by omega) _, h.2.1.setRow _, h.2.2.1.farRow (by omega) _, below_row h.2.2.2 _ _ (by omega)⟩
theorem twoP_get (i : Nat) (h0 : i ≠ 0) (h : i < 5) : twoP.getD i 0 = 4503599627370494 := by
  match i, h0, h with
  | 1, _, _ => rfl
  | 2, _, _ => rfl
  | 3, _, _ => rfl
  | 4, _, _ => rfl

set_option maxHeartbeats 4000000 in
set_option maxRecDepth 100000 in
theorem el_sub_ok (a b : List Nat) (w : World) (hl : a.length = 5) (hm : b.length = 5) (ha : ∀ d ∈ a, d < 2 ^ 52) (hb : ∀ d ∈ b, d < 2 ^ 52) :
    Calls Tryz.prog 67 #[ev a, ev b] w fun e w' => e = .returned (ev (subN a b)) ∧ Below w.heap.size w w' := by
  have HL := Lib.hid hl
  have HM := Lib.hid hm
  have HA := Lib.hid ha
  have HB := Lib.hid hb
  have HT : Hid (twoP.length = 5) := rfl
  have HC : Hid ((carryN b).length = 5) := carryN_len b hm
  have HS : Hid ((addL a twoP).length = 5) := addL_len hl rfl
  clear hl hm ha hb
  show Calls _ _ #[.agg (uvals a).toArray, .agg (uvals b).toArray] _ _
  go_enter Tryz.func67, Tryz.ntmps67
  go_upto_region 1 with fail
  refine wp_gen (fun w0 => Hid (P3 w0 w a b zero5)) (P3.start w a b) ?_
  rintro w0 P0
  have P01 := Lib.hid P0.out.2.1
  go_wp2_with (refine load_el P01 HM rfl rfl rfl ?_)
  refine (el_carry_ok b w0 HM.out (fun d hd => by have := HB.out d hd; omega)).mono ?_
  rintro e w1 ⟨rfl, b1⟩
  unfold ev
  have P1 := Lib.hid (P0.out.below b1)
  have P11 := Lib.hid P1.out.2.1
  clear b1 P0 P01
  go_upto_region 2 with (refine store_el P11 HM HC rfl rfl rfl rfl ?_)
  refine wp_gen (fun w2 => Hid (P3 w2 w a (carryN b) zero5)) (P1.out.rowb _) ?_
  rintro w2 P2
  clear P1 P11
  have c0 := P2.out.1.ucell 0 (by rw [HL.out]; omega)
  have f0 := P2.out.1.free 0
  have hx : a.getD 0 0 < 4503599627370496 := mem_lt (by decide) HA.out 0
  have N0 : Hid (P3 (w2.setCell ⟨w.heap.size, 0, none⟩ (.int .u64 (a.getD 0 0 + 4503599627370458 : Nat))) w (sofar (· + ·) a twoP 1) (carryN b) zero5) := by
    have := P2.out.seta 0 (a.getD 0 0 + 4503599627370458)
    have e := sofar_set (· + ·) a twoP HL.out rfl 0 (by omega)
    rw [sofar_zero] at e
    rw [← e]
    exact this
  generalize a.getD 0 0 = x at *
  go_upto_region 3 with fail
  refine wp_gen (fun w3 => Hid (P3 w3 w (sofar (· + ·) a twoP 1) (carryN b) zero5)) N0 ?_
  rintro w3 P3'
  clear N0 P2 c0 f0 hx
  go_wp2_with fail
  go_loopw [5] (fun vi wr => ∃ i : Nat, 1 ≤ i ∧ i ≤ 5 ∧ vi = .int .i64 i ∧ Hid (P3 wr w (sofar (· + ·) a twoP i) (carryN b) zero5)) (fun vi _ => 5 - (intOf vi).toNat)
  case atStart => exact ⟨1, by omega, by omega, rfl, P3'⟩
  case round =>
    clear P3'
    obtain ⟨i, h1, hi, rfl, p⟩ := hrel
    by_cases hgo : i < 5
    · have c0 := p.out.1.ucell i (by rw [sofar_len _ _ _ HL.out HT.out i (by omega)]; exact hgo)
      rw [sofar_get _ _ _ HL.out HT.out i hgo] at c0
      have f0 := p.out.1.free i
      have hx : a.getD i 0 < 4503599627370496 := mem_lt (by decide) HA.out i
      have N0 : Hid (P3 (wr.setCell ⟨w.heap.size, i, none⟩ (.int .u64 (a.getD i 0 + 4503599627370494 : Nat))) w (sofar (· + ·) a twoP (i + 1)) (carryN b) zero5) := by
        have := p.out.seta i (a.getD i 0 + twoP.getD i 0)
        rw [twoP_get i (by omega) hgo] at this
        rw [← sofar_set (· + ·) a twoP HL.out HT.out i hgo, twoP_get i (by omega) hgo]
        exact this
      generalize a.getD i 0 = x at *
      clear p
      go_wp2_with fail
      go_roundw
      case rel => exact ⟨i + 1, by omega, by omega, by go_num, N0⟩
      case measure => simp [intOf]; omega
    · obtain rfl : i = 5 := by omega
      have p5 : Hid (P3 wr w (addL a twoP) (carryN b) zero5) := by have := p.out; rwa [sofar_end _ _ _ HL.out HT.out] at this
      clear p
      go_wp2_with fail
      rw [show (((5 : Nat)) : Int) = 5 from rfl]
      go_loopw [26] (fun vi wr => ∃ i : Nat, i ≤ 5 ∧ vi = .int .i64 i ∧ Hid (P3 wr w (sofar (· - ·) (addL a twoP) (carryN b) i) (carryN b) zero5)) (fun vi _ => 5 - (intOf vi).toNat)
      case atStart => exact ⟨0, by omega, rfl, by rw [sofar_zero]; exact p5⟩
      case round =>
        clear p5
        obtain ⟨i, hi, rfl, p⟩ := hrel
        by_cases hgo : i < 5
        · have c0 := p.out.1.ucell i (by rw [sofar_len _ _ _ HS.out HC.out i (by omega)]; exact hgo)
          rw [sofar_get _ _ _ HS.out HC.out i hgo] at c0
          have f0 := p.out.1.free i
          have c1 := p.out.2.1.ucell i (by rw [HC.out]; exact hgo)
          obtain ⟨hy, hy2⟩ := sub_ge HL.out HM.out HB.out i hgo
          have hx : (addL a twoP).getD i 0 < 9007199254740992 := mem_lt (by decide) (addL_lt HA.out (show ∀ d ∈ twoP, d < 4503599627370496 by decide)) i
          have N0 : Hid (P3 ((wr.setCell ⟨w.heap.size, i, none⟩ (.int .u64 ((addL a twoP).getD i 0 - (carryN b).getD i 0 : Nat))).drewN 1) w (sofar (· - ·) (addL a twoP) (carryN b) (i + 1)) (carryN b) zero5) := by
            rw [← sofar_set (· - ·) _ _ HS.out HC.out i hgo]
            exact (p.out.seta i _).drew 1
          generalize (addL a twoP).getD i 0 = x at *
          generalize (carryN b).getD i 0 = y at *
          rw [Int.ofNat_sub hy] at N0
          clear p
          go_wp2_with fail
          (refine still_tail 11 (by kernel_rfl) (by kernel_rfl) ?_; simp only [List.take_succ_cons, List.take_zero, List.drop_succ_cons, List.drop_zero]; repeat (refine wpStill_step (fun K hK => ?_); go_simp; (try go_ints); (try simp only [↓IntWalk.iteOmega, true_and]); (with_reducible apply hK); clear hK K)); refine wpStill_nil ?_
          go_wp2_with fail
          go_roundw
          case rel => exact ⟨i + 1, by omega, by go_num, N0⟩
          case measure => simp [intOf]; omega
        · obtain rfl : i = 5 := by omega
          have EE : Hid (sofar (· - ·) (addL a twoP) (carryN b) 5 = subL (addL a twoP) (carryN b)) := sofar_end _ _ _ HS.out HC.out
          have LL : Hid ((subL (addL a twoP) (carryN b)).length = 5) := by show _ = _; rw [← EE.out]; exact sofar_len _ _ _ HS.out HC.out 5 (by omega)
          have H63 : Hid (∀ d ∈ subL (addL a twoP) (carryN b), d < 2 ^ 63) := fun d hd => by
            obtain ⟨u, hu, v, _, rfl⟩ := mem_zip hd
            have := addL_lt HA.out (show ∀ d ∈ twoP, d < 4503599627370496 by decide) u hu
            show u - v < _
            omega
          rw [EE.out] at p
          have p1 := Lib.hid p.out.1
          go_wp2_with (refine load_el p1 LL rfl rfl rfl ?_)
          refine (el_carry_ok (subL (addL a twoP) (carryN b)) _ LL.out H63.out).mono ?_
          rintro e w5 ⟨rfl, b5⟩
          unfold ev
          have L5 : Hid ((carryN (subL (addL a twoP) (carryN b))).length = 5) := carryN_len _ LL.out
          have PP := Lib.hid (p.out.below b5)
          have Z := Lib.hid PP.out.2.2.1
          go_wp2_with (refine store_el Z hz5 L5 rfl rfl rfl rfl ?_)
          exact ret_el rfl (Z.out.setRow _) L5.out rfl rfl ⟨rfl, below_row PP.out.2.2.2 _ _ (by omega)⟩
end Go.Proofs.YtkhdhiddhnmdkaaGreatDoor
