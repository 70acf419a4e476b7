/-
The field's questions and powers: Odd, Zero, Same, Neg, Square, power, Invert.
-/
import Derived.Test.YtopelehfffjfeaaFMul
import Derived.Test.YtopelehfffjfeaaQT
namespace Go.Proofs.Ytopelehfffjfeaa
open Go.RowKit

theorem quiet_loadE {ops : Array Oper} {C : World → Prop} {a : Act} {o : Oper} {K : Act → Prop} {b : Nat} {x : Operand} {l : List Nat} {t : TypeId} (hb : ∀ w, C w → Blk w b t (uvals l)) (hl : l.length = 5)
    (hg : Region.wanted o (yielded ops a.tmps) = true) (ho : o.op = .load 29 x) (hx : a.eval x = .pointer (some ⟨b, 0, none⟩)) (h : K (a.put o.dst (.agg (uvals l).toArray))) :
    if Region.wanted o (yielded ops a.tmps) then o.quiet Try.prog a C K else K (a.put o.dst undef) :=
  quiet_loadB hb Try.underlying29 rfl elem_size (len5 hl) hg ho hx h

set_option maxHeartbeats 1000000 in
theorem el_odd_ok (a : List Nat) (w : World) (hl : a.length = 5) (ha : ∀ d ∈ a, d < 2 ^ 52) :
    Calls Try.prog 18 #[ev a] w fun e w' => e = .returned (.bool (oddN a)) ∧ Below w.heap.size w w' := by
  have HL := Lib.hid hl
  have B0 := Lib.hid (Blk.new w 29 (uvals a))
  have BB := below1 w (.cells (uvals a).toArray 29)
  have LL := Lib.hid (leastN_ok a hl ha)
  have HA := Lib.hid ha
  have ED : Hid (oddN a = decide ((leastN a).getD 0 0 % 2 = 1)) := rfl
  clear hl ha
  show Calls _ _ #[.agg (uvals a).toArray] _ _
  go_enter Try.func18, Try.ntmps18
  go_wp2_with (refine load_el B0 HL rfl rfl rfl ?_)
  refine (el_least_ok a _ HL.out HA.out).mono ?_
  rintro e w1 ⟨rfl, b1⟩
  have BF := BB.trans (b1.mono BB.size)
  have hix := idx5 (leastN a) LL.out.1 0 (by omega)
  have hfl := fld5 (leastN a) LL.out.1
  have hx : (leastN a).getD 0 0 < 2251799813685248 := mem_lt (by decide) LL.out.2.1 0
  have h1 : bits .and .u64 ((leastN a).getD 0 0 : Nat) 1 = (((leastN a).getD 0 0 % 2 : Nat) : Int) := by
    have h := bits_and_u64_nat ((leastN a).getD 0 0) 1 (by omega) (by omega)
    rwa [Nat.and_one_is_mod] at h
  clear b1 BB B0
  unfold ev
  have hix' : ∀ w, (Instr.index 27 (.agg (uvals (leastN a)).toArray) (.int .i64 0)).run Try.prog w = .ok (.int .u64 ((leastN a).getD 0 0 : Nat)) w := hix
  clear hix
  generalize (leastN a).getD 0 0 = x at *
  go_wp2_with fail
  go_ret
  refine ⟨ret_bool ?_, BF⟩
  rw [ED.out]
  by_cases e : x % 2 = 1
  · simp [e]; omega
  · simp [e]; omega
set_option maxHeartbeats 1000000 in
theorem el_zero_ok (a : List Nat) (w : World) (hl : a.length = 5) (ha : ∀ d ∈ a, d < 2 ^ 52) :
    Calls Try.prog 20 #[ev a] w fun e w' => e = .returned (.bool (zeroN a)) ∧ Below w.heap.size w w' := by
  have HL := Lib.hid hl
  have B0 := Lib.hid (Blk.new w 29 (uvals a))
  have BB := below1 w (.cells (uvals a).toArray 29)
  have LL := Lib.hid (leastN_ok a hl ha)
  have HA := Lib.hid ha
  have ED : Hid (zeroN a = decide (leastN a = zero5)) := rfl
  clear hl ha
  show Calls _ _ #[.agg (uvals a).toArray] _ _
  go_enter Try.func20, Try.ntmps20
  go_wp2_with (refine load_el B0 HL rfl rfl rfl ?_)
  refine (el_least_ok a _ HL.out HA.out).mono ?_
  rintro e w1 ⟨rfl, b1⟩
  have BF := BB.trans (b1.mono BB.size)
  have hq := fun w => eqEl w (leastN a) zero5 LL.out.1 rfl
  rw [zero5_eq] at hq
  clear b1 BB B0
  unfold ev
  go_wp2_with fail
  go_ret
  exact ⟨by rw [ED.out]; rfl, BF⟩
set_option maxHeartbeats 1000000 in
theorem el_same_ok (a b : List Nat) (w : World) (hl : a.length = 5) (hm : b.length = 5) (ha : ∀ d ∈ a, d < 2 ^ 52) (hb : ∀ d ∈ b, d < 2 ^ 52) :
    Calls Try.prog 25 #[ev a, ev b] w fun e w' => e = .returned (.bool (sameN a b)) ∧ Below w.heap.size w w' := by
  have HL := Lib.hid hl
  have HM := Lib.hid hm
  have HA := Lib.hid ha
  have HB := Lib.hid hb
  have LA := Lib.hid (leastN_ok a hl ha)
  have LB := Lib.hid (leastN_ok b hm hb)
  clear hl hm ha hb
  show Calls _ _ #[.agg (uvals a).toArray, .agg (uvals b).toArray] _ _
  go_enter Try.func25, Try.ntmps25
  go_upto_region 1 with fail
  refine wp_gen (fun w0 => Hid (Blk w0.drew w.heap.size 29 (uvals a)) ∧ Hid (Blk w0.drew (w.heap.size + 1) 29 (uvals b)) ∧ Below w.heap.size w w0.drew) ⟨((Blk.new w _ (uvals a)).alloc _), (Blk.new2 _ _ _ (uvals b)), below_drewN (below2 _ _ _) 1⟩ ?_
  rintro w0 ⟨P0, P1, BB⟩
  have hq := fun w => eqEl w (leastN a) (leastN b) LA.out.1 LB.out.1
  refine region_quiet (C := fun w' => Below w0.drew.heap.size w0.drew w') (by kernel_rfl) (by kernel_rfl) (Below.refl _ _) ?_
  ((with_reducible refine wpQuiet_step (fun K hK => ?_)); refine quiet_loadE (fun w' hw' => P0.out.below hw' P0.out.lt) HL.out (by first | rfl | simp [Region.wanted, yielded]) rfl (by go_simp) ?_; go_simp; (with_reducible apply hK); clear hK K)
  ((with_reducible refine wpQuiet_step (fun K hK => ?_)); refine quiet_callG (.agg (uvals (leastN a)).toArray) 47 #[.agg (uvals a).toArray] (by first | rfl | simp [Region.wanted, yielded]) (fun w' => by go_simp) (fun w' hw' => (el_least_ok a w' HL.out HA.out).mono (by rintro e w'' ⟨rfl, hb⟩; exact ⟨rfl, hw'.trans (hb.mono hw'.size)⟩)) ?_; go_simp; (with_reducible apply hK); clear hK K)
  ((with_reducible refine wpQuiet_step (fun K hK => ?_)); refine quiet_loadE (fun w' hw' => P1.out.below hw' P1.out.lt) HM.out (by first | rfl | simp [Region.wanted, yielded]) rfl (by go_simp) ?_; go_simp; (with_reducible apply hK); clear hK K)
  ((with_reducible refine wpQuiet_step (fun K hK => ?_)); refine quiet_callG (.agg (uvals (leastN b)).toArray) 47 #[.agg (uvals b).toArray] (by first | rfl | simp [Region.wanted, yielded]) (fun w' => by go_simp) (fun w' hw' => (el_least_ok b w' HM.out HB.out).mono (by rintro e w'' ⟨rfl, hb⟩; exact ⟨rfl, hw'.trans (hb.mono hw'.size)⟩)) ?_; go_simp; (with_reducible apply hK); clear hK K)
  ((with_reducible refine wpQuiet_step (fun K hK => ?_)); refine quiet_plainG (.bool (sameN a b)) (by first | rfl | simp [Region.wanted, yielded]) (fun w' hw' => by have h := hq w'; go_simp; try simp [h, sameN]) ?_; go_simp; (with_reducible apply hK); clear hK K)
  ((with_reducible refine wpQuiet_step (fun K hK => ?_)); refine quiet_plainG (.bool (sameN a b)) (by first | rfl | simp [Region.wanted, yielded]) (fun w' hw' => by go_simp) ?_; go_simp; (with_reducible apply hK); clear hK K)
  refine wpQuiet_nil ?_
  intro w5 hw5
  go_wp2_with fail
  go_ret
  exact ⟨rfl, BB.trans (Below.mono hw5 BB.size)⟩
set_option maxHeartbeats 1000000 in
theorem el_neg_ok (a : List Nat) (w : World) (hl : a.length = 5) (ha : ∀ d ∈ a, d < 2 ^ 52) :
    Calls Try.prog 31 #[ev a] w fun e w' => e = .returned (ev (negN a)) ∧ Below w.heap.size w w' := by
  have HL := Lib.hid hl
  have HA := Lib.hid ha
  clear hl ha
  show Calls _ _ #[.agg (uvals a).toArray] _ _
  go_enter Try.func31, Try.ntmps31
  go_upto_region 1 with fail
  refine wp_gen (fun w0 => Hid (Blk w0 w.heap.size 29 (uvals a)) ∧ Hid (Blk w0 (w.heap.size + 1) 29 (uvals zero5)) ∧ Below w.heap.size w w0) ⟨((Blk.new w _ (uvals a)).alloc _), (Blk.new2 _ _ _ (uvals zero5)), below2 _ _ _⟩ ?_
  rintro w0 ⟨P0, P1, BB⟩
  go_wp2_with (refine load_el P0 HL rfl rfl rfl ?_)
  refine (el_sub_ok zero5 a w0 rfl HL.out (by decide) HA.out).mono ?_
  rintro e w1 ⟨rfl, b1⟩
  unfold ev
  have L5 : Hid ((subN zero5 a).length = 5) := carryN_len _ (by
    show (subL (addL zero5 twoP) (carryN a)).length = 5
    simp [subL, addL_len (show zero5.length = 5 from rfl) (show twoP.length = 5 from rfl), carryN_len a HL.out])
  have Z := Lib.hid (P1.out.below b1 P1.out.lt)
  have BZ := BB.trans (b1.mono BB.size)
  go_wp2_with (refine store_el Z hz5 L5 rfl rfl rfl rfl ?_)
  exact ret_el rfl (Z.out.setRow _) L5.out rfl rfl ⟨rfl, below_row BZ _ _ (by omega)⟩
set_option maxHeartbeats 1000000 in
theorem el_square_ok (a : List Nat) (w : World) (ha : Lm a (lv a % pP)) :
    Calls Try.prog 33 #[ev a] w fun e w' => e = .returned (ev (mulF a a)) ∧ Below w.heap.size w w' := by
  have HA := Lib.hid ha
  have HL := Lib.hid ha.len
  have L5 := Lib.hid (ha.mul ha).len
  clear ha
  show Calls _ _ #[.agg (uvals a).toArray] _ _
  go_enter Try.func33, Try.ntmps33
  go_upto_region 1 with fail
  refine wp_gen (fun w0 => Hid (Blk w0 w.heap.size 29 (uvals a)) ∧ Hid (Blk w0 (w.heap.size + 1) 29 (uvals zero5)) ∧ Below w.heap.size w w0) ⟨((Blk.new w _ (uvals a)).alloc _), (Blk.new2 _ _ _ (uvals zero5)), below2 _ _ _⟩ ?_
  rintro w0 ⟨P0, P1, BB⟩
  go_wp2_with (refine load_el P0 HL rfl rfl rfl ?_)
  refine (el_mul_ok a a w0 HA.out HA.out).mono ?_
  rintro e w1 ⟨rfl, b1⟩
  unfold ev
  have Z := Lib.hid (P1.out.below b1 P1.out.lt)
  have BZ := BB.trans (b1.mono BB.size)
  go_wp2_with (refine store_el Z hz5 L5 rfl rfl rfl rfl ?_)
  exact ret_el rfl (Z.out.setRow _) L5.out rfl rfl ⟨rfl, below_row BZ _ _ (by omega)⟩
end Go.Proofs.Ytopelehfffjfeaa
