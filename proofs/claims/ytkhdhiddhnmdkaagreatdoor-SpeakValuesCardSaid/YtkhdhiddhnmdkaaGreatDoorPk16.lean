/-
The field's roots.
The contract of the laws' Cut.
Field's laws: is a number the document's?
Arrays of 32 bytes: when they are equal.
Field's laws: the fixed facts.
The field of p elements, and the curve -x^2 + y^2 = 1 + d x^2 y^2 over it: a group.
-/
import Derived.Test.YtkhdhiddhnmdkaaGreatDoorRows
import Derived.ChangeKeysEq
import Derived.Test.YtkhdhiddhnmdkaaGreatDoorPk15
import Derived.Test.YtkhdhiddhnmdkaaGreatDoorPk01
import Derived.Test.YtkhdhiddhnmdkaaGreatDoorPk14
import Derived.Test.YtkhdhiddhnmdkaaGreatDoorPk10
namespace Go.Proofs.YtkhdhiddhnmdkaaGreatDoor
open Go.RowKit

theorem ret_el2 {fn : Func} {R : Ending → World → Prop} {a : Act} {w : World} {p q : Tmp} {b : Nat} {t : TypeId} {l : List Nat} {v : Value} (h : fn.results = #[.cell p tE, .tmp q]) (hb : Blk w b t (uvals l)) (hl : l.length = 5)
    (hp : a.tmps.getD p undef = .pointer (some ⟨b, 0, none⟩)) (hq : a.tmps.getD q undef = v) (hd : a.defers = []) (hR : R (.returned (.tuple #[ev l, v])) w) : bodyPost Tryz.prog fn R .ret a w := by
  refine bodyPost_ret ?_ hd hR
  have hp' : a.tmps[p]?.getD undef = .pointer (some ⟨b, 0, none⟩) := by simpa using hp
  have hq' : a.tmps[q]?.getD undef = v := by simpa using hq
  simp [results, h, hp', hq', asAddr, run_loadVar_row (P := Tryz.prog) w b t tE (uvals l).toArray (0, 0) _ hb Tryz.underlying70 rfl (by rw [elem_size]; simp [uvals_len, hl])]
  rfl
/-- the blocks of a root under way -/
structure RB (w w0 : World) (u v : List Nat) : Prop where
  u : Blk w0 w.heap.size tE (uvals u)
  v : Blk w0 (w.heap.size + 1) tE (uvals v)
  r : Blk w0 (w.heap.size + 2) tE (uvals zero5)
  b : Below w.heap.size w w0
theorem RB.drew {w w0 : World} {u v : List Nat} (h : RB w w0 u v) : RB w w0.drew u v := ⟨h.u, h.v, h.r, below_drewN h.b 1⟩
theorem RB.below {w w0 w1 : World} {u v : List Nat} (h : RB w w0 u v) (hb : Below w0.heap.size w0 w1) : RB w w1 u v := ⟨h.u.below hb h.u.lt, h.v.below hb h.v.lt, h.r.below hb h.r.lt, h.b.trans (hb.mono h.b.size)⟩
theorem RB.past {w w0 w5 : World} {u v : List Nat} {c : Nat} (h : RB w w0 u v) (hb : Below w0.heap.size w0 w5) (hc : c = w5.heap.size) (o : Obj) (r : Array Value) : RB w ((w5.alloc o).setRow c r).drew u v :=
  ⟨h.u.past hb hc o r, h.v.past hb hc o r, h.r.past hb hc o r, below_past h.b hb hc o r⟩
theorem RB.row {w w0 : World} {u v : List Nat} {c : Nat} (h : RB w w0 u v) (hc : w.heap.size + 2 < c) (r : Array Value) : RB w (w0.setRow c r) u v :=
  ⟨h.u.farRow (by omega) r, h.v.farRow (by omega) r, h.r.farRow (by omega) r, below_row h.b _ _ (by omega)⟩
set_option maxHeartbeats 4000000 in
set_option maxRecDepth 100000 in
theorem el_root_ok (u v : List Nat) (w : World) (hu : Lm u (lv u % pP)) (hv : Lm v (lv v % pP)) :
    Calls Tryz.prog 91 #[ev u, ev v] w fun e w' => e = .returned (.tuple #[ev (rootN u v).1, .bool (rootN u v).2]) ∧ Below w.heap.size w w' := by
  have HU := Lib.hid hu
  have HV := Lib.hid hv
  have HVV := Lib.hid (hv.mul hv).own
  have H3 : Hid (Lm (v3N v) (lv (v3N v) % pP)) := (HVV.out.mul hv).own
  have H33 := Lib.hid (H3.out.mul H3.out).own
  have H7 : Hid (Lm (v7N v) (lv (v7N v) % pP)) := (H33.out.mul hv).own
  have HA := Lib.hid (hu.mul H3.out).own
  have HB := Lib.hid (hu.mul H7.out).own
  have HP := Lib.hid (HB.out.pow (expN 24) (expN_lt 24 (by omega)) 252 (by omega)).own
  have HR : Hid (Lm (candN u v) (lv (candN u v) % pP)) := (HA.out.mul HP.out).own
  have HRR := Lib.hid (HR.out.mul HR.out).own
  have HG : Hid (Lm (gotN u v) (lv (gotN u v) % pP)) := (HRR.out.mul hv).own
  have HNU := Lib.hid hu.neg.own
  have HM : Hid (Lm m1N (lv m1N % pP)) := ((Lm.smallN 2 (by decide)).pow (expN 20) (expN_lt 20 (by omega)) 253 (by omega)).even.own
  have HRM := Lib.hid (HR.out.mul HM.out).own
  have LU := Lib.hid hu.len
  have LV := Lib.hid hv.len
  have L3 := Lib.hid H3.out.len
  have L7 := Lib.hid H7.out.len
  have LR := Lib.hid HR.out.len
  have LG := Lib.hid HG.out.len
  clear hu hv
  show Calls _ _ #[.agg (uvals u).toArray, .agg (uvals v).toArray] _ _
  go_enter Tryz.func91, Tryz.ntmps91
  go_upto_region 1 with fail
  refine wp_gen (fun w0 => Hid (RB w w0.drew u v)) (Lib.hid (RB.drew ⟨((Blk.new w _ (uvals u)).alloc _).alloc _, (Blk.new2 _ _ _ (uvals v)).alloc _, Blk.new3 _ _ _ _ (uvals zero5), below3 _ _ _ _⟩)) ?_
  rintro w0 P0
  (refine wp_region_drift 4 (by kernel_rfl) (by kernel_rfl) ?_; simp only [List.take_succ_cons, List.take_zero, List.drop_succ_cons, List.drop_zero])
  (refine drift_step (fun K hK => ?_); refine drift_loadE (fun w' hw' => P0.out.v.below hw' P0.out.v.lt) LV.out (by first | rfl | simp [Region.wanted, yielded]) rfl (by go_simp) ?_; go_simp; (with_reducible apply hK); clear hK K)
  (refine drift_step (fun K hK => ?_); refine drift_call (.agg (uvals (mulF v v)).toArray) 68 #[.agg (uvals v).toArray] (by first | rfl | simp [Region.wanted, yielded]) (fun w' => by go_simp) (fun w' hw' => (el_square_ok v w' HV.out).mono (by rintro e w'' ⟨rfl, hb⟩; exact ⟨rfl, hb⟩)) ?_; go_simp; (with_reducible apply hK); clear hK K)
  (refine drift_step (fun K hK => ?_); refine drift_loadE (fun w' hw' => P0.out.v.below hw' P0.out.v.lt) LV.out (by first | rfl | simp [Region.wanted, yielded]) rfl (by go_simp) ?_; go_simp; (with_reducible apply hK); clear hK K)
  (refine drift_step (fun K hK => ?_); refine drift_call (.agg (uvals (v3N v)).toArray) 40 #[.agg (uvals (mulF v v)).toArray, .agg (uvals v).toArray] (by first | rfl | simp [Region.wanted, yielded]) (fun w' => by go_simp) (fun w' hw' => (el_mul_ok (mulF v v) v w' HVV.out HV.out).mono (by rintro e w'' ⟨rfl, hb⟩; exact ⟨rfl, hb⟩)) ?_; go_simp; (with_reducible apply hK); clear hK K)
  refine drift_nil ?_
  refine drift_new rfl rfl rfl rfl rfl rfl (by simp) L3.out (fun v => rfl) (fun b6 w5 hc hw5 hb6 => ?_)
  have l6 : w.heap.size + 2 < b6 := by have := P0.out.r.lt; omega
  go_simp
  go_upto_region 2 with fail
  refine wp_gen (fun w1 => Hid (RB w w1.drew u v) ∧ Hid (Blk w1.drew b6 tE (uvals (v3N v)))) ⟨Lib.hid (P0.out.below hw5).drew, Lib.hid hb6⟩ ?_
  rintro w1 ⟨P1, Q6⟩
  clear P0 hb6 hw5 hc
  (refine wp_region_drift 4 (by kernel_rfl) (by kernel_rfl) ?_; simp only [List.take_succ_cons, List.take_zero, List.drop_succ_cons, List.drop_zero])
  (refine drift_step (fun K hK => ?_); refine drift_loadE (fun w' hw' => Q6.out.below hw' Q6.out.lt) L3.out (by first | rfl | simp [Region.wanted, yielded]) rfl (by go_simp) ?_; go_simp; (with_reducible apply hK); clear hK K)
  (refine drift_step (fun K hK => ?_); refine drift_call (.agg (uvals (mulF (v3N v) (v3N v))).toArray) 68 #[.agg (uvals (v3N v)).toArray] (by first | rfl | simp [Region.wanted, yielded]) (fun w' => by go_simp) (fun w' hw' => (el_square_ok (v3N v) w' H3.out).mono (by rintro e w'' ⟨rfl, hb⟩; exact ⟨rfl, hb⟩)) ?_; go_simp; (with_reducible apply hK); clear hK K)
  (refine drift_step (fun K hK => ?_); refine drift_loadE (fun w' hw' => P1.out.v.below hw' P1.out.v.lt) LV.out (by first | rfl | simp [Region.wanted, yielded]) rfl (by go_simp) ?_; go_simp; (with_reducible apply hK); clear hK K)
  (refine drift_step (fun K hK => ?_); refine drift_call (.agg (uvals (v7N v)).toArray) 40 #[.agg (uvals (mulF (v3N v) (v3N v))).toArray, .agg (uvals v).toArray] (by first | rfl | simp [Region.wanted, yielded]) (fun w' => by go_simp) (fun w' hw' => (el_mul_ok (mulF (v3N v) (v3N v)) v w' H33.out HV.out).mono (by rintro e w'' ⟨rfl, hb⟩; exact ⟨rfl, hb⟩)) ?_; go_simp; (with_reducible apply hK); clear hK K)
  refine drift_nil ?_
  refine drift_new rfl rfl rfl rfl rfl rfl (by simp) L7.out (fun v => rfl) (fun b7 w5 hc hw5 hb7 => ?_)
  have l7 : b6 < b7 := by have := Q6.out.lt; omega
  go_simp
  go_upto_region 3 with fail
  refine wp_gen (fun w2 => Hid (RB w w2.drew u v) ∧ Hid (Blk w2.drew b6 tE (uvals (v3N v))) ∧ Hid (Blk w2.drew b7 tE (uvals (v7N v)))) ⟨Lib.hid (P1.out.below hw5).drew, Lib.hid ((Q6.out.below hw5 Q6.out.lt).drew 1), Lib.hid hb7⟩ ?_
  rintro w2 ⟨P2, R6, R7⟩
  clear P1 Q6 hb7 hw5 hc
  (refine wp_region_drift 8 (by kernel_rfl) (by kernel_rfl) ?_; simp only [List.take_succ_cons, List.take_zero, List.drop_succ_cons, List.drop_zero])
  (refine drift_step (fun K hK => ?_); refine drift_loadE (fun w' hw' => P2.out.u.below hw' P2.out.u.lt) LU.out (by first | rfl | simp [Region.wanted, yielded]) rfl (by go_simp) ?_; go_simp; (with_reducible apply hK); clear hK K)
  (refine drift_step (fun K hK => ?_); refine drift_loadE (fun w' hw' => R6.out.below hw' R6.out.lt) L3.out (by first | rfl | simp [Region.wanted, yielded]) rfl (by go_simp) ?_; go_simp; (with_reducible apply hK); clear hK K)
  (refine drift_step (fun K hK => ?_); refine drift_call (.agg (uvals (mulF u (v3N v))).toArray) 40 #[.agg (uvals u).toArray, .agg (uvals (v3N v)).toArray] (by first | rfl | simp [Region.wanted, yielded]) (fun w' => by go_simp) (fun w' hw' => (el_mul_ok u (v3N v) w' HU.out H3.out).mono (by rintro e w'' ⟨rfl, hb⟩; exact ⟨rfl, hb⟩)) ?_; go_simp; (with_reducible apply hK); clear hK K)
  (refine drift_step (fun K hK => ?_); refine drift_loadE (fun w' hw' => P2.out.u.below hw' P2.out.u.lt) LU.out (by first | rfl | simp [Region.wanted, yielded]) rfl (by go_simp) ?_; go_simp; (with_reducible apply hK); clear hK K)
  (refine drift_step (fun K hK => ?_); refine drift_loadE (fun w' hw' => R7.out.below hw' R7.out.lt) L7.out (by first | rfl | simp [Region.wanted, yielded]) rfl (by go_simp) ?_; go_simp; (with_reducible apply hK); clear hK K)
  (refine drift_step (fun K hK => ?_); refine drift_call (.agg (uvals (mulF u (v7N v))).toArray) 40 #[.agg (uvals u).toArray, .agg (uvals (v7N v)).toArray] (by first | rfl | simp [Region.wanted, yielded]) (fun w' => by go_simp) (fun w' hw' => (el_mul_ok u (v7N v) w' HU.out H7.out).mono (by rintro e w'' ⟨rfl, hb⟩; exact ⟨rfl, hb⟩)) ?_; go_simp; (with_reducible apply hK); clear hK K)
  (refine drift_step (fun K hK => ?_); refine drift_call (.agg (uvals (pwN (mulF u (v7N v)) (expN 24) 252)).toArray) 73 #[.agg (uvals (mulF u (v7N v))).toArray, .int .u64 24, .int .i64 3] (by first | rfl | simp [Region.wanted, yielded]) (fun w' => by go_simp) (fun w' hw' => (el_power_ok (mulF u (v7N v)) 24 3 w' HB.out (by omega) (by omega) (by omega)).mono (by rintro e w'' ⟨rfl, hb⟩; exact ⟨rfl, hb⟩)) ?_; go_simp; (with_reducible apply hK); clear hK K)
  (refine drift_step (fun K hK => ?_); refine drift_call (.agg (uvals (candN u v)).toArray) 40 #[.agg (uvals (mulF u (v3N v))).toArray, .agg (uvals (pwN (mulF u (v7N v)) (expN 24) 252)).toArray] (by first | rfl | simp [Region.wanted, yielded]) (fun w' => by go_simp) (fun w' hw' => (el_mul_ok (mulF u (v3N v)) (pwN (mulF u (v7N v)) (expN 24) 252) w' HA.out HP.out).mono (by rintro e w'' ⟨rfl, hb⟩; exact ⟨rfl, hb⟩)) ?_; go_simp; (with_reducible apply hK); clear hK K)
  refine drift_nil ?_
  refine drift_new rfl rfl rfl rfl rfl rfl (by simp) LR.out (fun v => rfl) (fun b8 w5 hc hw5 hb8 => ?_)
  have l8 : b7 < b8 := by have := R7.out.lt; omega
  go_simp
  go_upto_region 4 with fail
  refine wp_gen (fun w3 => Hid (RB w w3.drew u v) ∧ Hid (Blk w3.drew b8 tE (uvals (candN u v)))) ⟨Lib.hid (P2.out.below hw5).drew, Lib.hid hb8⟩ ?_
  rintro w3 ⟨P3, S8⟩
  clear P2 R6 R7 hb8 hw5 hc
  (refine wp_region_drift 4 (by kernel_rfl) (by kernel_rfl) ?_; simp only [List.take_succ_cons, List.take_zero, List.drop_succ_cons, List.drop_zero])
  (refine drift_step (fun K hK => ?_); refine drift_loadE (fun w' hw' => S8.out.below hw' S8.out.lt) LR.out (by first | rfl | simp [Region.wanted, yielded]) rfl (by go_simp) ?_; go_simp; (with_reducible apply hK); clear hK K)
  (refine drift_step (fun K hK => ?_); refine drift_call (.agg (uvals (mulF (candN u v) (candN u v))).toArray) 68 #[.agg (uvals (candN u v)).toArray] (by first | rfl | simp [Region.wanted, yielded]) (fun w' => by go_simp) (fun w' hw' => (el_square_ok (candN u v) w' HR.out).mono (by rintro e w'' ⟨rfl, hb⟩; exact ⟨rfl, hb⟩)) ?_; go_simp; (with_reducible apply hK); clear hK K)
  (refine drift_step (fun K hK => ?_); refine drift_loadE (fun w' hw' => P3.out.v.below hw' P3.out.v.lt) LV.out (by first | rfl | simp [Region.wanted, yielded]) rfl (by go_simp) ?_; go_simp; (with_reducible apply hK); clear hK K)
  (refine drift_step (fun K hK => ?_); refine drift_call (.agg (uvals (gotN u v)).toArray) 40 #[.agg (uvals (mulF (candN u v) (candN u v))).toArray, .agg (uvals v).toArray] (by first | rfl | simp [Region.wanted, yielded]) (fun w' => by go_simp) (fun w' hw' => (el_mul_ok (mulF (candN u v) (candN u v)) v w' HRR.out HV.out).mono (by rintro e w'' ⟨rfl, hb⟩; exact ⟨rfl, hb⟩)) ?_; go_simp; (with_reducible apply hK); clear hK K)
  refine drift_nil ?_
  refine drift_new rfl rfl rfl rfl rfl rfl (by simp) LG.out (fun v => rfl) (fun b9 w5 hc hw5 hb9 => ?_)
  have l9 : b8 < b9 := by have := S8.out.lt; omega
  have Q4 := Lib.hid (P3.out.below hw5)
  have T8 := Lib.hid (S8.out.below hw5 S8.out.lt)
  have T9 := Lib.hid hb9
  have QU := Lib.hid Q4.out.u
  clear P3 S8 hb9 hw5 hc
  go_simp
  go_wp2_with (first | refine load_el T9 LG rfl rfl rfl ?_ | refine load_el QU LU rfl rfl rfl ?_)
  refine (el_same_ok (gotN u v) u w5 LG.out LU.out HG.out.small HU.out.small).mono ?_
  rintro e w6 ⟨rfl, b6w⟩
  have Q5 := Lib.hid (Q4.out.below b6w)
  have U8 := Lib.hid (T8.out.below b6w T8.out.lt)
  have U9 := Lib.hid (T9.out.below b6w T9.out.lt)
  clear Q4 T8 T9 QU b6w
  by_cases hs1 : sameN (gotN u v) u = true
  · have EE : Hid (rootN u v = (evenN (candN u v), true)) := if_pos hs1
    rw [hs1]
    go_upto_region 9 with fail
    have D5 := Lib.hid (Q5.out.drew)
    have D8 : Hid (Blk w6.drew b8 tE (uvals (candN u v))) := Lib.hid (U8.out.drew 1)
    have LNN := Lib.hid (neg_len LR.out)
    have LEV := Lib.hid HR.out.even.len
    (refine wp_region_quiet_tail (C := fun w' => Below w6.drew.heap.size w6.drew w') 6 (by kernel_rfl) (by kernel_rfl) (Below.refl _ _) ?_; simp only [List.take_succ_cons, List.take_zero, List.drop_succ_cons, List.drop_zero])
    ((with_reducible refine wpQuiet_step (fun K hK => ?_)); refine quiet_loadE (fun w' hw' => D8.out.below hw' D8.out.lt) LR.out (by first | rfl | simp [Region.wanted, yielded]) rfl (by go_simp) ?_; go_simp; (with_reducible apply hK); clear hK K)
    ((with_reducible refine wpQuiet_step (fun K hK => ?_)); refine quiet_callG (.bool (oddN (candN u v))) 65 #[.agg (uvals (candN u v)).toArray] (by first | rfl | simp [Region.wanted, yielded]) (fun w' => by go_simp) (fun w' hw' => (el_odd_ok (candN u v) w' LR.out HR.out.small).mono (by rintro e w'' ⟨rfl, hb⟩; exact ⟨rfl, hw'.trans (hb.mono hw'.size)⟩)) ?_; go_simp; (with_reducible apply hK); clear hK K)
    ((with_reducible refine wpQuiet_step (fun K hK => ?_)); refine quiet_loadE (fun w' hw' => D8.out.below hw' D8.out.lt) LR.out (by first | rfl | simp [Region.wanted, yielded]) rfl (by go_simp) ?_; go_simp; (with_reducible apply hK); clear hK K)
    ((with_reducible refine wpQuiet_step (fun K hK => ?_)); refine quiet_callG (.agg (uvals (negN (candN u v))).toArray) 57 #[.agg (uvals (candN u v)).toArray] (by first | rfl | simp [Region.wanted, yielded]) (fun w' => by go_simp) (fun w' hw' => (el_neg_ok (candN u v) w' LR.out HR.out.small).mono (by rintro e w'' ⟨rfl, hb⟩; exact ⟨rfl, hw'.trans (hb.mono hw'.size)⟩)) ?_; go_simp; (with_reducible apply hK); clear hK K)
    ((with_reducible refine wpQuiet_step (fun K hK => ?_)); refine quiet_loadE (fun w' hw' => D8.out.below hw' D8.out.lt) LR.out (by first | rfl | simp [Region.wanted, yielded]) rfl (by go_simp) ?_; go_simp; (with_reducible apply hK); clear hK K)
    ((with_reducible refine wpQuiet_step (fun K hK => ?_)); refine quiet_callG (.agg (uvals (evenN (candN u v))).toArray) 66 #[.bool (oddN (candN u v)), .agg (uvals (negN (candN u v))).toArray, .agg (uvals (candN u v)).toArray] (by first | rfl | simp [Region.wanted, yielded]) (fun w' => by go_simp) (fun w' hw' => (el_choose_ok (oddN (candN u v)) (negN (candN u v)) (candN u v) w' LNN.out LR.out).mono (by rintro e w'' ⟨rfl, hb⟩; exact ⟨rfl, hw'.trans (hb.mono hw'.size)⟩)) ?_; go_simp; (with_reducible apply hK); clear hK K)
    refine wpQuiet_nil ?_
    intro w9 hw9
    have Z := Lib.hid (D5.out.r.below hw9 D5.out.r.lt)
    have BZ := D5.out.b.trans (Below.mono hw9 D5.out.b.size)
    go_wp2_with (refine store_el Z hz5 LEV rfl rfl rfl rfl ?_)
    exact ret_el2 rfl (Z.out.setRow _) LEV.out rfl rfl rfl ⟨by rw [EE.out]; rfl, below_row BZ _ _ (by omega)⟩
  · have hs1' : sameN (gotN u v) u = false := by simpa using hs1
    have LNU := Lib.hid HNU.out.len
    have D5 := Lib.hid (Q5.out.drew)
    have D9 : Hid (Blk w6.drew b9 tE (uvals (gotN u v))) := Lib.hid (U9.out.drew 1)
    have D8 : Hid (Blk w6.drew b8 tE (uvals (candN u v))) := Lib.hid (U8.out.drew 1)
    have HS1 := Lib.hid hs1'
    rw [hs1']
    clear hs1 hs1' U9 U8 Q5
    go_upto_region 7 with fail
    refine region_quiet (C := fun w' => Below w6.drew.heap.size w6.drew w') (by kernel_rfl) (by kernel_rfl) (Below.refl _ _) ?_
    ((with_reducible refine wpQuiet_step (fun K hK => ?_)); refine quiet_loadE (fun w' hw' => D9.out.below hw' D9.out.lt) LG.out (by first | rfl | simp [Region.wanted, yielded]) rfl (by go_simp) ?_; go_simp; (with_reducible apply hK); clear hK K)
    ((with_reducible refine wpQuiet_step (fun K hK => ?_)); refine quiet_loadE (fun w' hw' => D5.out.u.below hw' D5.out.u.lt) LU.out (by first | rfl | simp [Region.wanted, yielded]) rfl (by go_simp) ?_; go_simp; (with_reducible apply hK); clear hK K)
    ((with_reducible refine wpQuiet_step (fun K hK => ?_)); refine quiet_callG (.agg (uvals (negN u)).toArray) 57 #[.agg (uvals u).toArray] (by first | rfl | simp [Region.wanted, yielded]) (fun w' => by go_simp) (fun w' hw' => (el_neg_ok u w' LU.out HU.out.small).mono (by rintro e w'' ⟨rfl, hb⟩; exact ⟨rfl, hw'.trans (hb.mono hw'.size)⟩)) ?_; go_simp; (with_reducible apply hK); clear hK K)
    ((with_reducible refine wpQuiet_step (fun K hK => ?_)); refine quiet_callG (.bool (sameN (gotN u v) (negN u))) 106 #[.agg (uvals (gotN u v)).toArray, .agg (uvals (negN u)).toArray] (by first | rfl | simp [Region.wanted, yielded]) (fun w' => by go_simp) (fun w' hw' => (el_same_ok (gotN u v) (negN u) w' LG.out LNU.out HG.out.small HNU.out.small).mono (by rintro e w'' ⟨rfl, hb⟩; exact ⟨rfl, hw'.trans (hb.mono hw'.size)⟩)) ?_; go_simp; (with_reducible apply hK); clear hK K)
    ((with_reducible refine wpQuiet_step (fun K hK => ?_)); refine quiet_plainG (.bool (sameN (gotN u v) (negN u))) (by first | rfl | simp [Region.wanted, yielded]) (fun w' hw' => by go_simp) ?_; go_simp; (with_reducible apply hK); clear hK K)
    refine wpQuiet_nil ?_
    intro w7 hw7
    have Q6 := Lib.hid (D5.out.below hw7)
    have V8 := Lib.hid (D8.out.below hw7 D8.out.lt)
    clear D5 D8 D9 hw7
    by_cases hs2 : sameN (gotN u v) (negN u) = true
    · have EE : Hid (rootN u v = (evenN (mulF (candN u v) m1N), true)) := by
        show _ = _
        unfold rootN
        rw [HS1.out, hs2]
        rfl
      rw [hs2]
      have LM := Lib.hid HM.out.len
      have LRM := Lib.hid HRM.out.len
      go_upto_region 8 with fail
      have D5 := Lib.hid (Q6.out.drew)
      have D8 : Hid (Blk w7.drew b8 tE (uvals (candN u v))) := Lib.hid (V8.out.drew 1)
      clear Q6 V8
      (refine wp_region_quiet_tail (C := fun w' => Below w7.drew.heap.size w7.drew w') 3 (by kernel_rfl) (by kernel_rfl) (Below.refl _ _) ?_; simp only [List.take_succ_cons, List.take_zero, List.drop_succ_cons, List.drop_zero])
      ((with_reducible refine wpQuiet_step (fun K hK => ?_)); refine quiet_loadE (fun w' hw' => D8.out.below hw' D8.out.lt) LR.out (by first | rfl | simp [Region.wanted, yielded]) rfl (by go_simp) ?_; go_simp; (with_reducible apply hK); clear hK K)
      ((with_reducible refine wpQuiet_step (fun K hK => ?_)); refine quiet_callG (.agg (uvals (m1N)).toArray) 107 #[] (by first | rfl | simp [Region.wanted, yielded]) (fun w' => by go_simp) (fun w' hw' => (el_m1_ok w').mono (by rintro e w'' ⟨rfl, hb⟩; exact ⟨rfl, hw'.trans (hb.mono hw'.size)⟩)) ?_; go_simp; (with_reducible apply hK); clear hK K)
      ((with_reducible refine wpQuiet_step (fun K hK => ?_)); refine quiet_callG (.agg (uvals (mulF (candN u v) m1N)).toArray) 40 #[.agg (uvals (candN u v)).toArray, .agg (uvals m1N).toArray] (by first | rfl | simp [Region.wanted, yielded]) (fun w' => by go_simp) (fun w' hw' => (el_mul_ok (candN u v) m1N w' HR.out HM.out).mono (by rintro e w'' ⟨rfl, hb⟩; exact ⟨rfl, hw'.trans (hb.mono hw'.size)⟩)) ?_; go_simp; (with_reducible apply hK); clear hK K)
      refine wpQuiet_nil ?_
      intro w8 hw8
      have Q7 := Lib.hid (D5.out.below hw8)
      have W8 := Lib.hid (D8.out.below hw8 D8.out.lt)
      clear D5 D8 hw8
      go_upto_region 9 with (refine store_el W8 LR LRM rfl rfl rfl rfl ?_)
      refine wp_gen (fun wz => Hid (RB w wz u v) ∧ Hid (Blk wz b8 tE (uvals (mulF (candN u v) m1N)))) ⟨Lib.hid (Q7.out.row (by omega) _), Lib.hid (W8.out.setRow _)⟩ ?_
      rintro wz ⟨Q8, X8⟩
      clear Q7 W8
      have D5 := Lib.hid (Q8.out.drew)
      have D8 : Hid (Blk wz.drew b8 tE (uvals (mulF (candN u v) m1N))) := Lib.hid (X8.out.drew 1)
      have LNN := Lib.hid (neg_len LRM.out)
      have LEV := Lib.hid HRM.out.even.len
      (refine wp_region_quiet_tail (C := fun w' => Below wz.drew.heap.size wz.drew w') 6 (by kernel_rfl) (by kernel_rfl) (Below.refl _ _) ?_; simp only [List.take_succ_cons, List.take_zero, List.drop_succ_cons, List.drop_zero])
      ((with_reducible refine wpQuiet_step (fun K hK => ?_)); refine quiet_loadE (fun w' hw' => D8.out.below hw' D8.out.lt) LRM.out (by first | rfl | simp [Region.wanted, yielded]) rfl (by go_simp) ?_; go_simp; (with_reducible apply hK); clear hK K)
      ((with_reducible refine wpQuiet_step (fun K hK => ?_)); refine quiet_callG (.bool (oddN (mulF (candN u v) m1N))) 65 #[.agg (uvals (mulF (candN u v) m1N)).toArray] (by first | rfl | simp [Region.wanted, yielded]) (fun w' => by go_simp) (fun w' hw' => (el_odd_ok (mulF (candN u v) m1N) w' LRM.out HRM.out.small).mono (by rintro e w'' ⟨rfl, hb⟩; exact ⟨rfl, hw'.trans (hb.mono hw'.size)⟩)) ?_; go_simp; (with_reducible apply hK); clear hK K)
      ((with_reducible refine wpQuiet_step (fun K hK => ?_)); refine quiet_loadE (fun w' hw' => D8.out.below hw' D8.out.lt) LRM.out (by first | rfl | simp [Region.wanted, yielded]) rfl (by go_simp) ?_; go_simp; (with_reducible apply hK); clear hK K)
      ((with_reducible refine wpQuiet_step (fun K hK => ?_)); refine quiet_callG (.agg (uvals (negN (mulF (candN u v) m1N))).toArray) 57 #[.agg (uvals (mulF (candN u v) m1N)).toArray] (by first | rfl | simp [Region.wanted, yielded]) (fun w' => by go_simp) (fun w' hw' => (el_neg_ok (mulF (candN u v) m1N) w' LRM.out HRM.out.small).mono (by rintro e w'' ⟨rfl, hb⟩; exact ⟨rfl, hw'.trans (hb.mono hw'.size)⟩)) ?_; go_simp; (with_reducible apply hK); clear hK K)
      ((with_reducible refine wpQuiet_step (fun K hK => ?_)); refine quiet_loadE (fun w' hw' => D8.out.below hw' D8.out.lt) LRM.out (by first | rfl | simp [Region.wanted, yielded]) rfl (by go_simp) ?_; go_simp; (with_reducible apply hK); clear hK K)
      ((with_reducible refine wpQuiet_step (fun K hK => ?_)); refine quiet_callG (.agg (uvals (evenN (mulF (candN u v) m1N))).toArray) 66 #[.bool (oddN (mulF (candN u v) m1N)), .agg (uvals (negN (mulF (candN u v) m1N))).toArray, .agg (uvals (mulF (candN u v) m1N)).toArray] (by first | rfl | simp [Region.wanted, yielded]) (fun w' => by go_simp) (fun w' hw' => (el_choose_ok (oddN (mulF (candN u v) m1N)) (negN (mulF (candN u v) m1N)) (mulF (candN u v) m1N) w' LNN.out LRM.out).mono (by rintro e w'' ⟨rfl, hb⟩; exact ⟨rfl, hw'.trans (hb.mono hw'.size)⟩)) ?_; go_simp; (with_reducible apply hK); clear hK K)
      refine wpQuiet_nil ?_
      intro w9 hw9
      have Z := Lib.hid (D5.out.r.below hw9 D5.out.r.lt)
      have BZ := D5.out.b.trans (Below.mono hw9 D5.out.b.size)
      go_wp2_with (refine store_el Z hz5 LEV rfl rfl rfl rfl ?_)
      exact ret_el2 rfl (Z.out.setRow _) LEV.out rfl rfl rfl ⟨by rw [EE.out]; rfl, below_row BZ _ _ (by omega)⟩
    · have hs2' : sameN (gotN u v) (negN u) = false := by simpa using hs2
      have EE : Hid (rootN u v = (zero5, false)) := by
        show _ = _
        unfold rootN
        rw [HS1.out, hs2']
        rfl
      rw [hs2']
      have Z := Lib.hid Q6.out.r
      have EZ : Hid ((Value.agg #[.int .u64 0, .int .u64 0, .int .u64 0, .int .u64 0, .int .u64 0]) = .agg (uvals zero5).toArray) := rfl
      clear hs2 hs2' V8
      go_wp2_with (refine store_el Z hz5 hz5 rfl rfl rfl EZ.out ?_)
      exact ret_el2 rfl (Z.out.setRow _) hz5.out rfl rfl rfl ⟨by rw [EE.out]; rfl, below_row Q6.out.b _ _ (by omega)⟩
end Go.Proofs.YtkhdhiddhnmdkaaGreatDoor

namespace Go.Proofs.YtkhdhiddhnmdkaaGreatDoor
open Go.RowKit

set_option maxHeartbeats 400000 in
theorem cut_ok (s : ByteArray) (n : Nat) (w : World) :
    Calls Tryz.prog 4 #[.string s, .int .i64 n] w fun e w' => e = .returned (.string (s.extract 0 n)) ∧ w = w' := by
  have H1 := Lib.hid (show s.size ≤ n → s.extract 0 n = s from fun h => by
    apply ByteArray.ext; simp [ByteArray.data_extract]; omega)
  go_enter Tryz.func4, Tryz.ntmps4
  go_wp2
  · go_ret
    exact ⟨rfl, rfl⟩
  · go_ret
    exact ⟨by rw [H1.out (by omega)]; rfl, rfl⟩
end Go.Proofs.YtkhdhiddhnmdkaaGreatDoor

namespace Go.Proofs.YtkhdhiddhnmdkaaGreatDoor
open Go.RowKit

theorem bvals_get (l : List UInt8) (i : Nat) (h : i < l.length) : (bvals l)[i]? = some (.int .u8 ((l.getD i 0).toNat : Nat)) := by
  simp [bvals, h]
theorem u8_ofN (m : Nat) : (UInt8.ofNat (m % 256)).toNat = m % 256 := by simp
theorem le8_leBytes (N n : Nat) : le8 (leBytes N n) = N % 256 ^ n := by
  induction n with
  | zero => simp [leBytes, le8, Nat.mod_one]
  | succ n ih =>
    rw [leBytes_succ, le8_append, ih, leBytes_length]
    simp only [le8, u8_ofN, Nat.mul_zero, Nat.add_zero]
    rw [Nat.pow_succ, Nat.mod_mul]
/-- a block of bytes, whole, as a string -/
theorem conv_blk {P : Program} {w : World} {src e dst : TypeId} {b n : Nat} {t : TypeId} {bs : List UInt8} (hs : P.underlying src = some (.slice e)) (he : P.underlying e = some (.int .u8)) (hd : P.underlying dst = some .string)
    (hn : bs.length = n) (h : Blk w b t (bvals bs)) : (convert src dst (.slice (some ⟨b, 0, none⟩) n n)).run P w = .ok (.string ⟨bs.toArray⟩) w := by
  have := run_convert_bytes_arg (P := P) w src e hs he b 0 n n (bs.map fun b => (b.toNat : Int)) (by simpa using hn) (fun i hi => ?_) dst hd
  · rw [this]
    have e1 : strOfNums (bs.map fun b => (b.toNat : Int)) = ⟨bs.toArray⟩ := by
      unfold strOfNums
      congr 2
      rw [List.map_map]
      conv => rhs; rw [← List.map_id bs]
      apply List.map_congr_left
      intro b _
      simp
    rw [e1]
  · have hi' : i < bs.length := by omega
    rw [Nat.zero_add, Blk.cell h i _ (bvals_get bs i hi')]
    simp [List.getElem?_eq_getElem hi', List.getD_eq_getElem?_getD]

theorem leBytes_inj : ∀ {n x y : Nat}, x < 256 ^ n → y < 256 ^ n → leBytes x n = leBytes y n → x = y := by
  intro n x y hx hy h
  have h1 := congrArg le8 h
  rwa [le8_leBytes, le8_leBytes, Nat.mod_eq_of_lt hx, Nat.mod_eq_of_lt hy] at h1
end Go.Proofs.YtkhdhiddhnmdkaaGreatDoor

namespace Go.Proofs.YtkhdhiddhnmdkaaGreatDoor
open Go.RowKit

theorem part_byte (w : World) (l : List UInt8) (i : Nat) (h : i < l.length) : (Go.part 5 (bvals l).toArray (i * 1)).run Tryz.prog w = .ok (.int .u8 ((l.getD i 0).toNat : Nat)) w := by
  have e := bvals_get l i h
  exact run_part_plain w (by kernel_rfl) (by rw [Nat.mul_one, List.getElem?_toArray]; exact e)
theorem eqItems_bytes (w : World) (l m : List UInt8) (hl : l.length = 32) (hm : m.length = 32) : ∀ (is : List Nat), (∀ i ∈ is, i < 32) →
    (Op.eqItems 9999 5 1 (bvals l).toArray (bvals m).toArray is).run Tryz.prog w = .ok (is.all fun i => l.getD i 0 == m.getD i 0) w
  | [], _ => by simp [Op.eqItems]
  | i :: is, h => by
    have hi := h i (List.mem_cons_self ..)
    have ih := eqItems_bytes w l m hl hm is (fun j hj => h j (List.mem_cons_of_mem _ hj))
    have hq : ((((l.getD i 0).toNat : Nat) : Int) == ((m.getD i 0).toNat : Nat)) = (l.getD i 0 == m.getD i 0) := by
      rw [Bool.eq_iff_iff, beq_iff_eq, beq_iff_eq]
      constructor
      · intro e; exact UInt8.toNat.inj (by omega)
      · intro e; rw [e]
    simp only [Op.eqItems, Sem.run_bind, part_byte w l i (by omega), part_byte w m i (by omega), Result.andThen_ok, run_equalIn_int w 9998 5 .u8 .u8 _ _ Tryz.underlying5, hq, List.all_cons]
    cases l.getD i 0 == m.getD i 0
    · rfl
    · exact ih
theorem range_all {l m : List UInt8} (hl : l.length = 32) (hm : m.length = 32) : ((List.range 32).all fun i => l.getD i 0 == m.getD i 0) = decide (l = m) := by
  rw [Bool.eq_iff_iff, List.all_eq_true, decide_eq_true_iff]
  constructor
  · intro h
    apply List.ext_getElem (by omega)
    intro i h1 h2
    have := h i (List.mem_range.2 (by omega))
    simpa [h1, h2] using this
  · rintro rfl i _
    simp
theorem eq32 (w : World) (l m : List UInt8) (hl : l.length = 32) (hm : m.length = 32) : (Op.equalIn 10000 48 (.agg (bvals l).toArray) (.agg (bvals m).toArray)).run Tryz.prog w = .ok (decide (l = m)) w := by
  obtain ⟨i0, hi, _, h1, _⟩ := info_parts byteInfo
  rw [run_equalIn_array w 9999 (bvals l).toArray (bvals m).toArray Tryz.underlying48 hi, show Tryz.prog.cellsOf 5 = 1 from by kernel_rfl, eqItems_bytes w l m hl hm _ (fun i h => List.mem_range.1 h), range_all hl hm]
end Go.Proofs.YtkhdhiddhnmdkaaGreatDoor

namespace Go.Proofs.YtkhdhiddhnmdkaaGreatDoor
open Go.RowKit

def ffs (i : Nat) : ByteArray := ⟨(List.replicate i 255).toArray⟩
theorem ffs_succ (i : Nat) : ffs i ++ ⟨#[255]⟩ = ffs (i + 1) := by
  apply ByteArray.ext
  simp [ffs]
  exact Array.ext' (by simp [List.replicate_succ'])
theorem ffs_of : lv (ofN (ofB (ffs 32))) % pP = 18 := by decide +kernel
def LIT32 : Array Value := #[.int .u8 18, .int .u8 0, .int .u8 0, .int .u8 0, .int .u8 0, .int .u8 0, .int .u8 0, .int .u8 0, .int .u8 0, .int .u8 0, .int .u8 0, .int .u8 0, .int .u8 0, .int .u8 0, .int .u8 0, .int .u8 0, .int .u8 0, .int .u8 0, .int .u8 0, .int .u8 0, .int .u8 0, .int .u8 0, .int .u8 0, .int .u8 0, .int .u8 0, .int .u8 0, .int .u8 0, .int .u8 0, .int .u8 0, .int .u8 0, .int .u8 0, .int .u8 0]
end Go.Proofs.YtkhdhiddhnmdkaaGreatDoor

namespace Go.Proofs.YtkhdhiddhnmdkaaGreatDoor

instance : NeZero pP := ⟨by decide⟩
abbrev Fp := Fin pP
namespace Fp
theorem val_mul (a b : Fp) : (a * b).val = a.val * b.val % pP := Fin.val_mul ..
theorem zero_or {a b : Fp} (h : a * b = 0) : a = 0 ∨ b = 0 := by
  have h1 : pP ∣ a.val * b.val := Nat.dvd_of_mod_eq_zero (by rw [← val_mul, h]; rfl)
  rcases pP_prm.dvd_mul h1 with h2 | h2
  · exact .inl (Fin.ext (by have := Nat.eq_zero_of_dvd_of_lt h2 a.isLt; exact this))
  · exact .inr (Fin.ext (by have := Nat.eq_zero_of_dvd_of_lt h2 b.isLt; exact this))
theorem mul_ne {a b : Fp} (ha : a ≠ 0) (hb : b ≠ 0) : a * b ≠ 0 := fun h => (zero_or h).elim ha hb
def ofN (n : Nat) : Fp := ⟨n % pP, Nat.mod_lt _ pP_pos⟩
theorem ofN_val (a : Fp) : ofN a.val = a := Fin.ext (Nat.mod_eq_of_lt a.isLt)
theorem ofN_mul (a b : Nat) : ofN (a * b) = ofN a * ofN b := Fin.ext (by rw [val_mul]; exact Nat.mul_mod ..)
theorem ofN_add (a b : Nat) : ofN (a + b) = ofN a + ofN b := Fin.ext (by rw [Fin.val_add]; exact Nat.add_mod ..)
theorem ofN_mod (a : Nat) : ofN (a % pP) = ofN a := Fin.ext (Nat.mod_mod ..)
theorem ofN_pow (a n : Nat) : ofN (a ^ n) = ofN a ^ n := by
  induction n with
  | zero => exact (show ofN 1 = 1 from Fin.ext rfl).trans (by grind)
  | succ n ih => rw [Nat.pow_succ, ofN_mul, ih]; grind
theorem ofN_eq {a b : Nat} : ofN a = ofN b ↔ a % pP = b % pP := ⟨fun h => congrArg Fin.val h, fun h => Fin.ext h⟩
theorem fermat {a : Fp} (ha : a ≠ 0) : a ^ (pP - 1) = 1 := by
  have h1 : ¬ pP ∣ a.val := fun h => ha (Fin.ext (by have := Nat.eq_zero_of_dvd_of_lt h a.isLt; exact this))
  have h2 := pP_prm.fermat h1
  rw [← ofN_val a, ← ofN_pow]
  apply Fin.ext
  show a.val ^ (pP - 1) % pP = 1
  exact h2
theorem fermat' {a : Fp} (ha : a ≠ 0) {n : Nat} (hn : n = pP - 1) : a ^ n = 1 := by
  subst hn
  exact fermat ha
/-- the inverse, as the powers give it -/
def inv (a : Fp) : Fp := a ^ (pP - 2)
theorem mul_inv {a : Fp} (ha : a ≠ 0) : a * inv a = 1 := by
  have h := fermat ha
  have e : pP - 1 = pP - 2 + 1 := by decide
  rw [e] at h
  unfold inv
  generalize pP - 2 = k at h ⊢
  grind
theorem has_inv {a : Fp} (ha : a ≠ 0) : ∃ i, a * i = 1 := ⟨_, mul_inv ha⟩
theorem pw_succ (x : Fp) (n : Nat) : x ^ (n + 1) = x ^ n * x := by grind
theorem inv_zero : inv 0 = 0 := by
  unfold inv
  obtain ⟨k, hk⟩ : ∃ k, pP - 2 = k + 1 := ⟨pP - 3, by decide⟩
  rw [hk, pw_succ]
  generalize (0 : Fp) ^ k = a
  grind
theorem cancel {a b c : Fp} (hc : c ≠ 0) (h : a * c = b * c) : a = b := by
  obtain ⟨i, hi⟩ := has_inv hc
  grind
end Fp
end Go.Proofs.YtkhdhiddhnmdkaaGreatDoor
