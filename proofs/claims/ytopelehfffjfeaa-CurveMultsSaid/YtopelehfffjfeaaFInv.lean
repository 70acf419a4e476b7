/-
The field's inverse, and the root of -1.
-/
import Derived.Test.YtopelehfffjfeaaFBytes
namespace Go.Proofs.Ytopelehfffjfeaa
open Go.RowKit

abbrev tE : TypeId := 29
theorem Blk.past {w0 w5 : World} {b c : Nat} {t : TypeId} {cs : List Value} (h : Blk w0 b t cs) (hb : Below w0.heap.size w0 w5) (hc : c = w5.heap.size) (o : Obj) (r : Array Value) : Blk ((w5.alloc o).setRow c r) b t cs := by
  have h1 := h.below hb h.lt
  exact (h1.alloc o).farRow (by have := h1.lt; omega) r
theorem Blk.fresh {w5 : World} {c : Nat} (hc : c = w5.heap.size) (o : List Nat) (l : List Nat) (t : TypeId) : Blk ((w5.alloc (.cells (uvals o).toArray t)).setRow c (uvals l).toArray) c t (uvals l) := by
  rw [hc]; exact (Blk.new w5 t (uvals o)).setRow _
theorem below_past {w w0 w5 : World} {c : Nat} (h : Below w.heap.size w w0) (hb : Below w0.heap.size w0 w5) (hc : c = w5.heap.size) (o : Obj) (r : Array Value) : Below w.heap.size w ((w5.alloc o).setRow c r).drew := by
  have h1 := h.trans (hb.mono h.size)
  exact below_drewN (below_row (h1.alloc h1.size o) _ _ (by rw [hc]; exact h1.size)) 1
theorem Lm.keep {a : List Nat} {x : Nat} (h : Lm a x) : Lm a (lv a % pP) := h.own
set_option maxHeartbeats 1000000 in
theorem el_invert_ok (a : List Nat) (w : World) (ha : Lm a (lv a % pP)) :
    Calls Try.prog 23 #[ev a] w fun e w' => e = .returned (ev (invN a)) ∧ Below w.heap.size w w' := by
  have HA := Lib.hid ha
  have HL := Lib.hid ha.len
  have L5 : Hid ((invN a).length = 5) := (ha.pow (expN 21) (expN_lt 21 (by omega)) 255 (Nat.le_refl _)).len
  clear ha
  show Calls _ _ #[.agg (uvals a).toArray] _ _
  go_enter Try.func23, Try.ntmps23
  go_upto_region 1 with fail
  refine wp_gen (fun w0 => Hid (Blk w0 w.heap.size tE (uvals a)) ∧ Hid (Blk w0 (w.heap.size + 1) tE (uvals zero5)) ∧ Below w.heap.size w w0) ⟨((Blk.new w _ (uvals a)).alloc _), (Blk.new2 _ _ _ (uvals zero5)), below2 _ _ _⟩ ?_
  rintro w0 ⟨P0, P1, BB⟩
  go_wp2_with (refine load_el P0 HL rfl rfl rfl ?_)
  have hc : Calls Try.prog 49 #[ev a, .int .u64 21, .int .i64 0] w0 fun e w' => e = .returned (ev (invN a)) ∧ Below w0.heap.size w0 w' := el_power_ok a 21 0 w0 HA.out (by omega) (by omega) (by omega)
  refine hc.mono ?_
  rintro e w1 ⟨rfl, b1⟩
  unfold ev
  have Z := Lib.hid (P1.out.below b1 P1.out.lt)
  have BZ := BB.trans (b1.mono BB.size)
  go_wp2_with (refine store_el Z hz5 L5 rfl rfl rfl rfl ?_)
  exact ret_el rfl (Z.out.setRow _) L5.out rfl rfl ⟨rfl, below_row BZ _ _ (by omega)⟩

theorem neg_len {a : List Nat} (h : a.length = 5) : (negN a).length = 5 := carryN_len _ (by
  show (subL (addL zero5 twoP) (carryN a)).length = 5
  simp [subL, addL_len (show zero5.length = 5 from rfl) (show twoP.length = 5 from rfl), carryN_len a h])
theorem even_eq (a : List Nat) : (if oddN a then negN a else a) = evenN a := rfl
set_option maxHeartbeats 1000000 in
theorem el_m1_ok (w : World) :
    Calls Try.prog 38 #[] w fun e w' => e = .returned (ev m1N) ∧ Below w.heap.size w w' := by
  have HS := Lib.hid (Lm.smallN 2 (by decide))
  have HR := Lib.hid (HS.out.pow (expN 20) (expN_lt 20 (by omega)) 253 (by omega))
  have LR := Lib.hid HR.out.len
  have SR := Lib.hid HR.out.small
  have LN := Lib.hid (neg_len LR.out)
  have LM : Hid (m1N.length = 5) := HR.out.even.len
  have EM : Hid (m1N = evenN (pwN (smallN 2) (expN 20) 253)) := rfl
  go_enter Try.func38, Try.ntmps38
  go_upto_region 1 with fail
  refine wp_gen (fun w0 => Hid (Blk w0 w.heap.size tE (uvals zero5)) ∧ Below w.heap.size w w0) ⟨Blk.new w _ (uvals zero5), below1 _ _⟩ ?_
  rintro w0 ⟨P0, BB⟩
  go_wp2_with fail
  have hc : Calls Try.prog 21 #[.int .u64 2] w0 fun e w' => e = .returned (ev (smallN 2)) ∧ Below w0.heap.size w0 w' := el_small_ok 2 w0 (by decide)
  refine hc.mono ?_
  rintro e w1 ⟨rfl, b1⟩
  go_wp2_with fail
  have hc2 : Calls Try.prog 49 #[ev (smallN 2), .int .u64 20, .int .i64 2] w1 fun e w' => e = .returned (ev (pwN (smallN 2) (expN 20) 253)) ∧ Below w1.heap.size w1 w' := el_power_ok (smallN 2) 20 2 w1 HS.out.own (by omega) (by omega) (by omega)
  refine hc2.mono ?_
  rintro e w2 ⟨rfl, b2⟩
  generalize pwN (smallN 2) (expN 20) 253 = r at *
  have b3 := b1.trans (b2.mono b1.size)
  have NW := Lib.hid (Blk.new w2 tE (uvals zero5))
  clear hc hc2 b1 b2
  unfold ev
  go_upto_region 2 with (refine store_el NW hz5 LR rfl rfl rfl rfl ?_)
  obtain ⟨b6, hb6⟩ : ∃ b6, b6 = w2.heap.size := ⟨_, rfl⟩
  rw [← hb6]
  refine wp_gen (fun w3 => Hid (Blk w3.drew w.heap.size tE (uvals zero5)) ∧ Hid (Blk w3.drew b6 tE (uvals r)) ∧ Below w.heap.size w w3.drew ∧ w.heap.size < b6) ⟨Lib.hid (P0.out.past b3 hb6 _ _), Lib.hid (Blk.fresh hb6 zero5 r _), below_past BB b3 hb6 _ _, by have := P0.out.lt; have := b3.size; omega⟩ ?_
  rintro w3 ⟨Q0, Q1, QB, hlt⟩
  clear P0 BB b3 NW hb6
  (refine wp_region_quiet_tail (C := fun w' => Below w3.drew.heap.size w3.drew w') 6 (by kernel_rfl) (by kernel_rfl) (Below.refl _ _) ?_; simp only [List.take_succ_cons, List.take_zero, List.drop_succ_cons, List.drop_zero])
  ((with_reducible refine wpQuiet_step (fun K hK => ?_)); refine quiet_loadE (fun w' hw' => Q1.out.below hw' Q1.out.lt) LR.out (by first | rfl | simp [Region.wanted, yielded]) rfl (by go_simp) ?_; go_simp; (with_reducible apply hK); clear hK K)
  ((with_reducible refine wpQuiet_step (fun K hK => ?_)); refine quiet_callG (.bool (oddN r)) 18 #[.agg (uvals r).toArray] (by first | rfl | simp [Region.wanted, yielded]) (fun w' => by go_simp) (fun w' hw' => (el_odd_ok r w' LR.out SR.out).mono (by rintro e w'' ⟨rfl, hb⟩; exact ⟨rfl, hw'.trans (hb.mono hw'.size)⟩)) ?_; go_simp; (with_reducible apply hK); clear hK K)
  ((with_reducible refine wpQuiet_step (fun K hK => ?_)); refine quiet_loadE (fun w' hw' => Q1.out.below hw' Q1.out.lt) LR.out (by first | rfl | simp [Region.wanted, yielded]) rfl (by go_simp) ?_; go_simp; (with_reducible apply hK); clear hK K)
  ((with_reducible refine wpQuiet_step (fun K hK => ?_)); refine quiet_callG (.agg (uvals (negN r)).toArray) 31 #[.agg (uvals r).toArray] (by first | rfl | simp [Region.wanted, yielded]) (fun w' => by go_simp) (fun w' hw' => (el_neg_ok r w' LR.out SR.out).mono (by rintro e w'' ⟨rfl, hb⟩; exact ⟨rfl, hw'.trans (hb.mono hw'.size)⟩)) ?_; go_simp; (with_reducible apply hK); clear hK K)
  ((with_reducible refine wpQuiet_step (fun K hK => ?_)); refine quiet_loadE (fun w' hw' => Q1.out.below hw' Q1.out.lt) LR.out (by first | rfl | simp [Region.wanted, yielded]) rfl (by go_simp) ?_; go_simp; (with_reducible apply hK); clear hK K)
  ((with_reducible refine wpQuiet_step (fun K hK => ?_)); refine quiet_callG (.agg (uvals (evenN r)).toArray) 35 #[.bool (oddN r), .agg (uvals (negN r)).toArray, .agg (uvals r).toArray] (by first | rfl | simp [Region.wanted, yielded]) (fun w' => by go_simp) (fun w' hw' => (el_choose_ok (oddN r) (negN r) r w' LN.out LR.out).mono (by rintro e w'' ⟨rfl, hb⟩; exact ⟨rfl, hw'.trans (hb.mono hw'.size)⟩)) ?_; go_simp; (with_reducible apply hK); clear hK K)
  refine wpQuiet_nil ?_
  intro w5 hw5
  have Z := Lib.hid (Q0.out.below hw5 Q0.out.lt)
  have BZ := QB.trans (Below.mono hw5 QB.size)
  rw [EM.out] at LM
  go_wp2_with (refine store_el Z hz5 LM rfl rfl rfl rfl ?_)
  exact ret_el rfl (Z.out.setRow _) LM.out rfl rfl ⟨by rw [EM.out], below_row BZ _ _ (Nat.le_refl _)⟩
end Go.Proofs.Ytopelehfffjfeaa
