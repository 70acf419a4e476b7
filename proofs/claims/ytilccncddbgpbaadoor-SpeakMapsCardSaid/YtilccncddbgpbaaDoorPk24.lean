/-
The field's questions and powers: Odd, Zero, Same, Neg, Square, power, Invert.
The field's powers.
-/
import Derived.Test.YtilccncddbgpbaaDoorPk23
import Derived.Test.YtilccncddbgpbaaDoorPk04
namespace Go.Proofs.YtilccncddbgpbaaDoor
open Go.RowKit

theorem quiet_loadE {ops : Array Oper} {C : World → Prop} {a : Act} {o : Oper} {K : Act → Prop} {b : Nat} {x : Operand} {l : List Nat} {t : TypeId} (hb : ∀ w, C w → Blk w b t (uvals l)) (hl : l.length = 5)
    (hg : Region.wanted o (yielded ops a.tmps) = true) (ho : o.op = .load 30 x) (hx : a.eval x = .pointer (some ⟨b, 0, none⟩)) (h : K (a.put o.dst (.agg (uvals l).toArray))) :
    if Region.wanted o (yielded ops a.tmps) then o.quiet Tryd.prog a C K else K (a.put o.dst undef) :=
  quiet_loadB hb Tryd.underlying30 rfl elem_size (len5 hl) hg ho hx h

set_option maxHeartbeats 1000000 in
set_option maxRecDepth 100000 in
theorem el_odd_ok (a : List Nat) (w : World) (hl : a.length = 5) (ha : ∀ d ∈ a, d < 2 ^ 52) :
    Calls Tryd.prog 44 #[ev a] w fun e w' => e = .returned (.bool (oddN a)) ∧ Below w.heap.size w w' := by
  have HL := Lib.hid hl
  have B0 := Lib.hid (Blk.new w 30 (uvals a))
  have BB := below1 w (.cells (uvals a).toArray 30)
  have LL := Lib.hid (leastN_ok a hl ha)
  have HA := Lib.hid ha
  have ED : Hid (oddN a = decide ((leastN a).getD 0 0 % 2 = 1)) := rfl
  clear hl ha
  show Calls _ _ #[.agg (uvals a).toArray] _ _
  go_enter Tryd.func44, Tryd.ntmps44
  go_wp2_with (refine load_el B0 HL rfl rfl rfl ?_)
  refine (el_least_ok a _ HL.out HA.out).mono ?_
  rintro e w1 ⟨rfl, b1⟩
  have BF := BB.trans (b1.mono BB.size)
  have hix := idx5 (leastN a) LL.out.1 0 (by omega)
  have hfl := fld5 (leastN a) LL.out.1
  have hx : (leastN a).getD 0 0 < 2251799813685248 := mem_lt (by decide) LL.out.2.1 0
  have h1 : bits .and .u64 ((leastN a).getD 0 0 : Nat) 1 = (((leastN a).getD 0 0 % 2 : Nat) : Int) := by
    have h := bits_and_u64_nat ((leastN a).getD 0 0) 1 (by omega) (by omega)
    rwa [Nat.and_one_is_mod] at h
  clear b1 BB B0
  unfold ev
  have hix' : ∀ w, (Instr.index 28 (.agg (uvals (leastN a)).toArray) (.int .i64 0)).run Tryd.prog w = .ok (.int .u64 ((leastN a).getD 0 0 : Nat)) w := hix
  clear hix
  generalize (leastN a).getD 0 0 = x at *
  go_wp2_with fail
  go_ret
  refine ⟨ret_bool ?_, BF⟩
  rw [ED.out]
  by_cases e : x % 2 = 1
  · simp [e]; omega
  · simp [e]; omega
set_option maxHeartbeats 1000000 in
set_option maxRecDepth 100000 in
theorem el_zero_ok (a : List Nat) (w : World) (hl : a.length = 5) (ha : ∀ d ∈ a, d < 2 ^ 52) :
    Calls Tryd.prog 15 #[ev a] w fun e w' => e = .returned (.bool (zeroN a)) ∧ Below w.heap.size w w' := by
  have HL := Lib.hid hl
  have B0 := Lib.hid (Blk.new w 30 (uvals a))
  have BB := below1 w (.cells (uvals a).toArray 30)
  have LL := Lib.hid (leastN_ok a hl ha)
  have HA := Lib.hid ha
  have ED : Hid (zeroN a = decide (leastN a = zero5)) := rfl
  clear hl ha
  show Calls _ _ #[.agg (uvals a).toArray] _ _
  go_enter Tryd.func15, Tryd.ntmps15
  go_wp2_with (refine load_el B0 HL rfl rfl rfl ?_)
  refine (el_least_ok a _ HL.out HA.out).mono ?_
  rintro e w1 ⟨rfl, b1⟩
  have BF := BB.trans (b1.mono BB.size)
  have hq := fun w => eqEl w (leastN a) zero5 LL.out.1 rfl
  rw [zero5_eq] at hq
  clear b1 BB B0
  unfold ev
  go_wp2_with fail
  go_ret
  exact ⟨by rw [ED.out]; rfl, BF⟩
set_option maxHeartbeats 1000000 in
set_option maxRecDepth 100000 in
theorem el_same_ok (a b : List Nat) (w : World) (hl : a.length = 5) (hm : b.length = 5) (ha : ∀ d ∈ a, d < 2 ^ 52) (hb : ∀ d ∈ b, d < 2 ^ 52) :
    Calls Tryd.prog 63 #[ev a, ev b] w fun e w' => e = .returned (.bool (sameN a b)) ∧ Below w.heap.size w w' := by
  have HL := Lib.hid hl
  have HM := Lib.hid hm
  have HA := Lib.hid ha
  have HB := Lib.hid hb
  have LA := Lib.hid (leastN_ok a hl ha)
  have LB := Lib.hid (leastN_ok b hm hb)
  clear hl hm ha hb
  show Calls _ _ #[.agg (uvals a).toArray, .agg (uvals b).toArray] _ _
  go_enter Tryd.func63, Tryd.ntmps63
  go_upto_region 1 with fail
  refine wp_gen (fun w0 => Hid (Blk w0.drew w.heap.size 30 (uvals a)) ∧ Hid (Blk w0.drew (w.heap.size + 1) 30 (uvals b)) ∧ Below w.heap.size w w0.drew) ⟨((Blk.new w _ (uvals a)).alloc _), (Blk.new2 _ _ _ (uvals b)), below_drewN (below2 _ _ _) 1⟩ ?_
  rintro w0 ⟨P0, P1, BB⟩
  have hq := fun w => eqEl w (leastN a) (leastN b) LA.out.1 LB.out.1
  refine region_quiet (C := fun w' => Below w0.drew.heap.size w0.drew w') (by kernel_rfl) (by kernel_rfl) (Below.refl _ _) ?_
  ((with_reducible refine wpQuiet_step (fun K hK => ?_)); refine quiet_loadE (fun w' hw' => P0.out.below hw' P0.out.lt) HL.out (by first | rfl | simp [Region.wanted, yielded]) rfl (by go_simp) ?_; go_simp; (with_reducible apply hK); clear hK K)
  ((with_reducible refine wpQuiet_step (fun K hK => ?_)); refine quiet_callG (.agg (uvals (leastN a)).toArray) 28 #[.agg (uvals a).toArray] (by first | rfl | simp [Region.wanted, yielded]) (fun w' => by go_simp) (fun w' hw' => (el_least_ok a w' HL.out HA.out).mono (by rintro e w'' ⟨rfl, hb⟩; exact ⟨rfl, hw'.trans (hb.mono hw'.size)⟩)) ?_; go_simp; (with_reducible apply hK); clear hK K)
  ((with_reducible refine wpQuiet_step (fun K hK => ?_)); refine quiet_loadE (fun w' hw' => P1.out.below hw' P1.out.lt) HM.out (by first | rfl | simp [Region.wanted, yielded]) rfl (by go_simp) ?_; go_simp; (with_reducible apply hK); clear hK K)
  ((with_reducible refine wpQuiet_step (fun K hK => ?_)); refine quiet_callG (.agg (uvals (leastN b)).toArray) 28 #[.agg (uvals b).toArray] (by first | rfl | simp [Region.wanted, yielded]) (fun w' => by go_simp) (fun w' hw' => (el_least_ok b w' HM.out HB.out).mono (by rintro e w'' ⟨rfl, hb⟩; exact ⟨rfl, hw'.trans (hb.mono hw'.size)⟩)) ?_; go_simp; (with_reducible apply hK); clear hK K)
  ((with_reducible refine wpQuiet_step (fun K hK => ?_)); refine quiet_plainG (.bool (sameN a b)) (by first | rfl | simp [Region.wanted, yielded]) (fun w' hw' => by have h := hq w'; go_simp; try simp [sameN]) ?_; go_simp; (with_reducible apply hK); clear hK K)
  ((with_reducible refine wpQuiet_step (fun K hK => ?_)); refine quiet_plainG (.bool (sameN a b)) (by first | rfl | simp [Region.wanted, yielded]) (fun w' hw' => by go_simp) ?_; go_simp; (with_reducible apply hK); clear hK K)
  refine wpQuiet_nil ?_
  intro w5 hw5
  go_wp2_with fail
  go_ret
  exact ⟨rfl, BB.trans (Below.mono hw5 BB.size)⟩
set_option maxHeartbeats 1000000 in
set_option maxRecDepth 100000 in
theorem el_neg_ok (a : List Nat) (w : World) (hl : a.length = 5) (ha : ∀ d ∈ a, d < 2 ^ 52) :
    Calls Tryd.prog 38 #[ev a] w fun e w' => e = .returned (ev (negN a)) ∧ Below w.heap.size w w' := by
  have HL := Lib.hid hl
  have HA := Lib.hid ha
  clear hl ha
  show Calls _ _ #[.agg (uvals a).toArray] _ _
  go_enter Tryd.func38, Tryd.ntmps38
  go_upto_region 1 with fail
  refine wp_gen (fun w0 => Hid (Blk w0 w.heap.size 30 (uvals a)) ∧ Hid (Blk w0 (w.heap.size + 1) 30 (uvals zero5)) ∧ Below w.heap.size w w0) ⟨((Blk.new w _ (uvals a)).alloc _), (Blk.new2 _ _ _ (uvals zero5)), below2 _ _ _⟩ ?_
  rintro w0 ⟨P0, P1, BB⟩
  go_wp2_with (refine load_el P0 HL rfl rfl rfl ?_)
  refine (el_sub_ok zero5 a w0 rfl HL.out (by decide) HA.out).mono ?_
  rintro e w1 ⟨rfl, b1⟩
  unfold ev
  have L5 : Hid ((subN zero5 a).length = 5) := carryN_len _ (by
    show (subL (addL zero5 twoP) (carryN a)).length = 5
    simp [subL, addL_len (show zero5.length = 5 from rfl) (show twoP.length = 5 from rfl), carryN_len a HL.out])
  have Z := Lib.hid (P1.out.below b1 P1.out.lt)
  have BZ := BB.trans (b1.mono BB.size)
  go_wp2_with (refine store_el Z hz5 L5 rfl rfl rfl rfl ?_)
  exact ret_el rfl (Z.out.setRow _) L5.out rfl rfl ⟨rfl, below_row BZ _ _ (by omega)⟩
set_option maxHeartbeats 1000000 in
set_option maxRecDepth 100000 in
theorem el_square_ok (a : List Nat) (w : World) (ha : Lm a (lv a % pP)) :
    Calls Tryd.prog 45 #[ev a] w fun e w' => e = .returned (ev (mulF a a)) ∧ Below w.heap.size w w' := by
  have HA := Lib.hid ha
  have HL := Lib.hid ha.len
  have L5 := Lib.hid (ha.mul ha).len
  clear ha
  show Calls _ _ #[.agg (uvals a).toArray] _ _
  go_enter Tryd.func45, Tryd.ntmps45
  go_upto_region 1 with fail
  refine wp_gen (fun w0 => Hid (Blk w0 w.heap.size 30 (uvals a)) ∧ Hid (Blk w0 (w.heap.size + 1) 30 (uvals zero5)) ∧ Below w.heap.size w w0) ⟨((Blk.new w _ (uvals a)).alloc _), (Blk.new2 _ _ _ (uvals zero5)), below2 _ _ _⟩ ?_
  rintro w0 ⟨P0, P1, BB⟩
  go_wp2_with (refine load_el P0 HL rfl rfl rfl ?_)
  refine (el_mul_ok a a w0 HA.out HA.out).mono ?_
  rintro e w1 ⟨rfl, b1⟩
  unfold ev
  have Z := Lib.hid (P1.out.below b1 P1.out.lt)
  have BZ := BB.trans (b1.mono BB.size)
  go_wp2_with (refine store_el Z hz5 L5 rfl rfl rfl rfl ?_)
  exact ret_el rfl (Z.out.setRow _) L5.out rfl rfl ⟨rfl, below_row BZ _ _ (by omega)⟩
end Go.Proofs.YtilccncddbgpbaaDoor

namespace Go.Proofs.YtilccncddbgpbaaDoor
open Go.RowKit

theorem pw_step (a : List Nat) (E j : Nat) (hj : j < 255) : pwN a E (255 - j) = if E / 2 ^ j % 2 = 1 then mulF (mulF (pwN a E (254 - j)) (pwN a E (254 - j))) a else mulF (pwN a E (254 - j)) (pwN a E (254 - j)) := by
  rw [show 255 - j = (254 - j) + 1 by omega]
  show (if E / 2 ^ (254 - (254 - j)) % 2 = 1 then _ else _) = _
  rw [show 254 - (254 - j) = j by omega]
theorem expN_lt (less : Nat) (h : 1 ≤ less) : expN less < 2 ^ 255 := by
  have : 0 < 2 ^ 255 := Nat.pow_pos (by decide)
  unfold expN; omega
set_option maxHeartbeats 4000000 in
set_option maxRecDepth 100000 in
theorem el_power_ok (a : List Nat) (less shift : Nat) (w : World) (ha : Lm a (lv a % pP)) (h1 : 1 ≤ less) (h2 : less ≤ 256) (h3 : shift ≤ 8) :
    Calls Tryd.prog 27 #[ev a, .int .u64 less, .int .i64 shift] w fun e w' => e = .returned (ev (pwN a (expN less) (255 - shift))) ∧ Below w.heap.size w w' := by
  have HA := Lib.hid ha
  have HL := Lib.hid ha.len
  have PW := Lib.hid (fun n hn => ha.pow (expN less) (expN_lt less h1) n hn)
  have BH := Lib.hid (fun i => bit_high less i h1 h2)
  have BL := Lib.hid (fun i => bit_low less i h1 h2)
  clear ha
  show Calls _ _ #[.agg (uvals a).toArray, .int .u64 less, .int .i64 shift] _ _
  go_enter Tryd.func27, Tryd.ntmps27
  go_upto_region 1 with fail
  refine wp_gen (fun w0 => Hid (Blk w0 w.heap.size 30 (uvals a)) ∧ Hid (Blk w0 (w.heap.size + 1) 30 (uvals zero5)) ∧ Below w.heap.size w w0) ⟨((Blk.new w _ (uvals a)).alloc _), (Blk.new2 _ _ _ (uvals zero5)), below2 _ _ _⟩ ?_
  rintro w0 ⟨P0, P1, BB⟩
  have h00 := P1.out.lt
  go_wp2_with fail
  have hs1 : Calls Tryd.prog 8 #[.int .u64 1] w0 fun e w' => e = .returned (ev (smallN 1)) ∧ Below w0.heap.size w0 w' := el_small_ok 1 w0 (by decide)
  refine hs1.mono ?_
  rintro e w1 ⟨rfl, b1⟩
  obtain ⟨b7, hb7⟩ : ∃ b7, b7 = w1.heap.size := ⟨_, rfl⟩
  have hz1 := b1.size
  have hb73 : w.heap.size + 1 < b7 := by omega
  have EQ : Hid (ev (smallN 1) = .agg #[.int .u64 1, .int .u64 0, .int .u64 0, .int .u64 0, .int .u64 0]) := rfl
  rw [EQ.out]
  go_upto_region 2 with fail
  rw [← hb7]
  refine wp_gen (fun w2 => Hid (Blk w2 w.heap.size 30 (uvals a)) ∧ Hid (Blk w2 (w.heap.size + 1) 30 (uvals zero5)) ∧ Hid (Blk w2 b7 30 (uvals (pwN a (expN less) 0))) ∧ Below w.heap.size w w2) ⟨(P0.out.below b1 P0.out.lt).alloc _, (P1.out.below b1 P1.out.lt).alloc _, by rw [hb7]; exact Blk.new _ _ (uvals (smallN 1)), (BB.trans (b1.mono BB.size)).alloc (by omega) _⟩ ?_
  rintro w2 ⟨Q0, Q1, Q2, QB⟩
  clear P0 P1 BB b1 hb7 hz1 h00 EQ hs1
  have hlow : (256 : Int) - less = ((256 - less : Nat) : Int) := by omega
  have hlw : 256 - less < 256 := by omega
  go_wp2_with fail
  go_loopw [9] (fun vi wr => ∃ k : Nat, vi = .int .i64 ((k : Int) - 1) ∧ shift ≤ k ∧ k ≤ 255 ∧ Hid (Blk wr w.heap.size 30 (uvals a)) ∧ Hid (Blk wr (w.heap.size + 1) 30 (uvals zero5)) ∧ Hid (Blk wr b7 30 (uvals (pwN a (expN less) (255 - k)))) ∧ Below w.heap.size w wr) (fun vi _ => (intOf vi + 1).toNat)
  case atStart => exact ⟨255, rfl, by omega, by omega, Q0, Q1, Q2, QB⟩
  case round =>
    clear Q0 Q1 Q2 QB
    obtain ⟨k, rfl, hk1, hk2, q0, q1, q2, qb⟩ := hrel
    by_cases hgo : shift < k
    · obtain ⟨j, rfl⟩ : ∃ j, k = j + 1 := ⟨k - 1, by omega⟩
      rw [show ((j + 1 : Nat) : Int) - 1 = (j : Int) by omega]
      rw [show 255 - (j + 1) = 254 - j by omega] at q2
      have ST := Lib.hid (pw_step a (expN less) j (by omega))
      have LP := Lib.hid (PW.out (254 - j) (by omega))
      have LL := Lib.hid LP.out.len
      have L2 := Lib.hid (LP.out.mul LP.out)
      have LL2 := Lib.hid L2.out.len
      have LL3 := Lib.hid (L2.out.mul HA.out).len
      generalize pwN a (expN less) (254 - j) = o at *
      have hbit : (8 ≤ j ∧ Hid (expN less / 2 ^ j % 2 = 1)) ∨ (j < 8 ∧ bits .and .u64 (((256 - less : Nat) : Int) / 2 ^ j) 1 = 1 ∧ Hid (expN less / 2 ^ j % 2 = 1)) ∨ (j < 8 ∧ bits .and .u64 (((256 - less : Nat) : Int) / 2 ^ j) 1 = 0 ∧ Hid (¬ expN less / 2 ^ j % 2 = 1)) := by
        rcases Nat.lt_or_ge j 8 with h8 | h8
        · have h := bits_and_u64_nat ((256 - less) / 2 ^ j) 1 (Nat.lt_of_le_of_lt (Nat.div_le_self ..) (by omega)) (by omega)
          rw [Nat.and_one_is_mod, Int.natCast_ediv, Int.natCast_pow] at h
          have h' : bits .and .u64 (((256 - less : Nat) : Int) / 2 ^ j) 1 = (((256 - less) / 2 ^ j % 2 : Nat) : Int) := h
          have hl := BL.out j h8
          by_cases e : (256 - less) / 2 ^ j % 2 = 1
          · rw [e] at h' hl
            exact .inr (.inl ⟨h8, h', hl⟩)
          · have e0 : (256 - less) / 2 ^ j % 2 = 0 := by omega
            rw [e0] at h' hl
            exact .inr (.inr ⟨h8, h', fun e => by unfold expN at e; omega⟩)
        · exact .inl ⟨h8, BH.out j h8 (by omega)⟩
      generalize 256 - less = lw at *
      go_wp2_with (refine load_el q2 LL rfl rfl rfl ?_)
      refine (el_square_ok o wr LP.out.own).mono ?_
      rintro e w3 ⟨rfl, b3⟩
      unfold ev
      have r0 := Lib.hid (q0.out.below b3 q0.out.lt)
      have r1 := Lib.hid (q1.out.below b3 q1.out.lt)
      have r2 := Lib.hid (q2.out.below b3 q2.out.lt)
      have rb := qb.trans (b3.mono qb.size)
      clear q0 q1 q2 qb b3
      go_upto_region 7 with (refine store_el r2 LL LL2 rfl rfl rfl rfl ?_)
      refine wp_gen (fun w4 => Hid (Blk w4 w.heap.size 30 (uvals a)) ∧ Hid (Blk w4 (w.heap.size + 1) 30 (uvals zero5)) ∧ Hid (Blk w4 b7 30 (uvals (mulF o o))) ∧ Below w.heap.size w w4) ⟨r0.out.farRow (by omega) _, r1.out.farRow (by omega) _, r2.out.setRow _, below_row rb _ _ (by omega)⟩ ?_
      rintro w4 ⟨q0, q1, q2, qb⟩
      clear r0 r1 r2 rb
      rcases hbit with ⟨h8, hb⟩ | ⟨h8, hbv, hb⟩ | ⟨h8, hbv, hb⟩
      · have SS : Hid (pwN a (expN less) (255 - j) = mulF (mulF o o) a) := by show _ = _; rw [ST.out, if_pos hb.out]
        have hd : decide ((8 : Int) ≤ j) = true := decide_eq_true (by omega)
        go_wp2_with (first | refine load_el q2 LL2 rfl rfl rfl ?_ | refine load_el q0 HL rfl rfl rfl ?_)
        refine (el_mul_ok (mulF o o) a w4 L2.out.own HA.out).mono ?_
        rintro e w5 ⟨rfl, b5⟩
        unfold ev
        have r0 := Lib.hid (q0.out.below b5 q0.out.lt)
        have r1 := Lib.hid (q1.out.below b5 q1.out.lt)
        have r2 := Lib.hid (q2.out.below b5 q2.out.lt)
        have rb := qb.trans (b5.mono qb.size)
        clear q0 q1 q2 qb b5
        go_wp2_with (refine store_el r2 LL2 LL3 rfl rfl rfl rfl ?_)
        go_roundw
        case rel => exact ⟨j, by go_num, by omega, by omega, r0.out.farRow (by omega) _, r1.out.farRow (by omega) _, by rw [SS.out]; exact r2.out.setRow _, below_row rb _ _ (by omega)⟩
        case measure => simp [intOf]
      · have SS : Hid (pwN a (expN less) (255 - j) = mulF (mulF o o) a) := by show _ = _; rw [ST.out, if_pos hb.out]
        have hd : decide ((8 : Int) ≤ j) = false := decide_eq_false (by omega)
        go_wp2_with (first | refine load_el q2 LL2 rfl rfl rfl ?_ | refine load_el q0 HL rfl rfl rfl ?_)
        refine (el_mul_ok (mulF o o) a w4 L2.out.own HA.out).mono ?_
        rintro e w5 ⟨rfl, b5⟩
        unfold ev
        have r0 := Lib.hid (q0.out.below b5 q0.out.lt)
        have r1 := Lib.hid (q1.out.below b5 q1.out.lt)
        have r2 := Lib.hid (q2.out.below b5 q2.out.lt)
        have rb := qb.trans (b5.mono qb.size)
        clear q0 q1 q2 qb b5
        go_wp2_with (refine store_el r2 LL2 LL3 rfl rfl rfl rfl ?_)
        go_roundw
        case rel => exact ⟨j, by go_num, by omega, by omega, r0.out.farRow (by omega) _, r1.out.farRow (by omega) _, by rw [SS.out]; exact r2.out.setRow _, below_row rb _ _ (by omega)⟩
        case measure => simp [intOf]
      · have SS : Hid (pwN a (expN less) (255 - j) = mulF o o) := by show _ = _; rw [ST.out, if_neg hb.out]
        have hd : decide ((8 : Int) ≤ j) = false := decide_eq_false (by omega)
        go_wp2_with fail
        go_roundw
        case rel => exact ⟨j, by go_num, by omega, by omega, q0, q1, by rw [SS.out]; exact q2, qb⟩
        case measure => simp [intOf]
    · obtain rfl : k = shift := by omega
      have LP := Lib.hid (PW.out (255 - k) (by omega))
      have LL := Lib.hid LP.out.len
      obtain ⟨o, ho⟩ : ∃ o, o = pwN a (expN less) (255 - k) := ⟨_, rfl⟩
      rw [← ho] at LP LL q2
      have HO := Lib.hid ho
      clear ho
      go_wp2_with (first | refine load_el q2 LL rfl rfl rfl ?_ | refine store_el q1 hz5 LL rfl rfl rfl rfl ?_)
      exact ret_el rfl (q1.out.setRow _) LL.out rfl rfl ⟨by rw [HO.out], below_row qb _ _ (by omega)⟩
end Go.Proofs.YtilccncddbgpbaaDoor
