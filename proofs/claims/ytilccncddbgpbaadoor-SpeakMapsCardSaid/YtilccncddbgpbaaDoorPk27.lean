/-
The field's roots.
-/
import Derived.Test.YtilccncddbgpbaaDoorPk26
namespace Go.Proofs.YtilccncddbgpbaaDoor
open Go.RowKit

theorem ret_el2 {fn : Func} {R : Ending → World → Prop} {a : Act} {w : World} {p q : Tmp} {b : Nat} {t : TypeId} {l : List Nat} {v : Value} (h : fn.results = #[.cell p tE, .tmp q]) (hb : Blk w b t (uvals l)) (hl : l.length = 5)
    (hp : a.tmps.getD p undef = .pointer (some ⟨b, 0, none⟩)) (hq : a.tmps.getD q undef = v) (hd : a.defers = []) (hR : R (.returned (.tuple #[ev l, v])) w) : bodyPost Tryd.prog fn R .ret a w := by
  refine bodyPost_ret ?_ hd hR
  have hp' : a.tmps[p]?.getD undef = .pointer (some ⟨b, 0, none⟩) := by simpa using hp
  have hq' : a.tmps[q]?.getD undef = v := by simpa using hq
  simp [results, h, hp', hq', asAddr, run_loadVar_row (P := Tryd.prog) w b t tE (uvals l).toArray (0, 0) _ hb Tryd.underlying30 rfl (by rw [elem_size]; simp [uvals_len, hl])]
  rfl
/-- the blocks of a root under way -/
structure RB (w w0 : World) (u v : List Nat) : Prop where
  u : Blk w0 w.heap.size tE (uvals u)
  v : Blk w0 (w.heap.size + 1) tE (uvals v)
  r : Blk w0 (w.heap.size + 2) tE (uvals zero5)
  b : Below w.heap.size w w0
theorem RB.drew {w w0 : World} {u v : List Nat} (h : RB w w0 u v) : RB w w0.drew u v := ⟨h.u, h.v, h.r, below_drewN h.b 1⟩
theorem RB.below {w w0 w1 : World} {u v : List Nat} (h : RB w w0 u v) (hb : Below w0.heap.size w0 w1) : RB w w1 u v := ⟨h.u.below hb h.u.lt, h.v.below hb h.v.lt, h.r.below hb h.r.lt, h.b.trans (hb.mono h.b.size)⟩
theorem RB.past {w w0 w5 : World} {u v : List Nat} {c : Nat} (h : RB w w0 u v) (hb : Below w0.heap.size w0 w5) (hc : c = w5.heap.size) (o : Obj) (r : Array Value) : RB w ((w5.alloc o).setRow c r).drew u v :=
  ⟨h.u.past hb hc o r, h.v.past hb hc o r, h.r.past hb hc o r, below_past h.b hb hc o r⟩
theorem RB.row {w w0 : World} {u v : List Nat} {c : Nat} (h : RB w w0 u v) (hc : w.heap.size + 2 < c) (r : Array Value) : RB w (w0.setRow c r) u v :=
  ⟨h.u.farRow (by omega) r, h.v.farRow (by omega) r, h.r.farRow (by omega) r, below_row h.b _ _ (by omega)⟩
set_option maxHeartbeats 4000000 in
set_option maxRecDepth 100000 in
theorem el_root_ok (u v : List Nat) (w : World) (hu : Lm u (lv u % pP)) (hv : Lm v (lv v % pP)) :
    Calls Tryd.prog 56 #[ev u, ev v] w fun e w' => e = .returned (.tuple #[ev (rootN u v).1, .bool (rootN u v).2]) ∧ Below w.heap.size w w' := by
  have HU := Lib.hid hu
  have HV := Lib.hid hv
  have HVV := Lib.hid (hv.mul hv).own
  have H3 : Hid (Lm (v3N v) (lv (v3N v) % pP)) := (HVV.out.mul hv).own
  have H33 := Lib.hid (H3.out.mul H3.out).own
  have H7 : Hid (Lm (v7N v) (lv (v7N v) % pP)) := (H33.out.mul hv).own
  have HA := Lib.hid (hu.mul H3.out).own
  have HB := Lib.hid (hu.mul H7.out).own
  have HP := Lib.hid (HB.out.pow (expN 24) (expN_lt 24 (by omega)) 252 (by omega)).own
  have HR : Hid (Lm (candN u v) (lv (candN u v) % pP)) := (HA.out.mul HP.out).own
  have HRR := Lib.hid (HR.out.mul HR.out).own
  have HG : Hid (Lm (gotN u v) (lv (gotN u v) % pP)) := (HRR.out.mul hv).own
  have HNU := Lib.hid hu.neg.own
  have HM : Hid (Lm m1N (lv m1N % pP)) := ((Lm.smallN 2 (by decide)).pow (expN 20) (expN_lt 20 (by omega)) 253 (by omega)).even.own
  have HRM := Lib.hid (HR.out.mul HM.out).own
  have LU := Lib.hid hu.len
  have LV := Lib.hid hv.len
  have L3 := Lib.hid H3.out.len
  have L7 := Lib.hid H7.out.len
  have LR := Lib.hid HR.out.len
  have LG := Lib.hid HG.out.len
  clear hu hv
  show Calls _ _ #[.agg (uvals u).toArray, .agg (uvals v).toArray] _ _
  go_enter Tryd.func56, Tryd.ntmps56
  go_upto_region 1 with fail
  refine wp_gen (fun w0 => Hid (RB w w0.drew u v)) (Lib.hid (RB.drew ⟨((Blk.new w _ (uvals u)).alloc _).alloc _, (Blk.new2 _ _ _ (uvals v)).alloc _, Blk.new3 _ _ _ _ (uvals zero5), below3 _ _ _ _⟩)) ?_
  rintro w0 P0
  (refine wp_region_drift 4 (by kernel_rfl) (by kernel_rfl) ?_; simp only [List.take_succ_cons, List.take_zero, List.drop_succ_cons, List.drop_zero])
  (refine drift_step (fun K hK => ?_); refine drift_loadE (fun w' hw' => P0.out.v.below hw' P0.out.v.lt) LV.out (by first | rfl | simp [Region.wanted, yielded]) rfl (by go_simp) ?_; go_simp; (with_reducible apply hK); clear hK K)
  (refine drift_step (fun K hK => ?_); refine drift_call (.agg (uvals (mulF v v)).toArray) 45 #[.agg (uvals v).toArray] (by first | rfl | simp [Region.wanted, yielded]) (fun w' => by go_simp) (fun w' hw' => (el_square_ok v w' HV.out).mono (by rintro e w'' ⟨rfl, hb⟩; exact ⟨rfl, hb⟩)) ?_; go_simp; (with_reducible apply hK); clear hK K)
  (refine drift_step (fun K hK => ?_); refine drift_loadE (fun w' hw' => P0.out.v.below hw' P0.out.v.lt) LV.out (by first | rfl | simp [Region.wanted, yielded]) rfl (by go_simp) ?_; go_simp; (with_reducible apply hK); clear hK K)
  (refine drift_step (fun K hK => ?_); refine drift_call (.agg (uvals (v3N v)).toArray) 10 #[.agg (uvals (mulF v v)).toArray, .agg (uvals v).toArray] (by first | rfl | simp [Region.wanted, yielded]) (fun w' => by go_simp) (fun w' hw' => (el_mul_ok (mulF v v) v w' HVV.out HV.out).mono (by rintro e w'' ⟨rfl, hb⟩; exact ⟨rfl, hb⟩)) ?_; go_simp; (with_reducible apply hK); clear hK K)
  refine drift_nil ?_
  refine drift_new rfl rfl rfl rfl rfl rfl (by simp) L3.out (fun v => rfl) (fun b6 w5 hc hw5 hb6 => ?_)
  have l6 : w.heap.size + 2 < b6 := by have := P0.out.r.lt; omega
  go_simp
  go_upto_region 2 with fail
  refine wp_gen (fun w1 => Hid (RB w w1.drew u v) ∧ Hid (Blk w1.drew b6 tE (uvals (v3N v)))) ⟨Lib.hid (P0.out.below hw5).drew, Lib.hid hb6⟩ ?_
  rintro w1 ⟨P1, Q6⟩
  clear P0 hb6 hw5 hc
  (refine wp_region_drift 4 (by kernel_rfl) (by kernel_rfl) ?_; simp only [List.take_succ_cons, List.take_zero, List.drop_succ_cons, List.drop_zero])
  (refine drift_step (fun K hK => ?_); refine drift_loadE (fun w' hw' => Q6.out.below hw' Q6.out.lt) L3.out (by first | rfl | simp [Region.wanted, yielded]) rfl (by go_simp) ?_; go_simp; (with_reducible apply hK); clear hK K)
  (refine drift_step (fun K hK => ?_); refine drift_call (.agg (uvals (mulF (v3N v) (v3N v))).toArray) 45 #[.agg (uvals (v3N v)).toArray] (by first | rfl | simp [Region.wanted, yielded]) (fun w' => by go_simp) (fun w' hw' => (el_square_ok (v3N v) w' H3.out).mono (by rintro e w'' ⟨rfl, hb⟩; exact ⟨rfl, hb⟩)) ?_; go_simp; (with_reducible apply hK); clear hK K)
  (refine drift_step (fun K hK => ?_); refine drift_loadE (fun w' hw' => P1.out.v.below hw' P1.out.v.lt) LV.out (by first | rfl | simp [Region.wanted, yielded]) rfl (by go_simp) ?_; go_simp; (with_reducible apply hK); clear hK K)
  (refine drift_step (fun K hK => ?_); refine drift_call (.agg (uvals (v7N v)).toArray) 10 #[.agg (uvals (mulF (v3N v) (v3N v))).toArray, .agg (uvals v).toArray] (by first | rfl | simp [Region.wanted, yielded]) (fun w' => by go_simp) (fun w' hw' => (el_mul_ok (mulF (v3N v) (v3N v)) v w' H33.out HV.out).mono (by rintro e w'' ⟨rfl, hb⟩; exact ⟨rfl, hb⟩)) ?_; go_simp; (with_reducible apply hK); clear hK K)
  refine drift_nil ?_
  refine drift_new rfl rfl rfl rfl rfl rfl (by simp) L7.out (fun v => rfl) (fun b7 w5 hc hw5 hb7 => ?_)
  have l7 : b6 < b7 := by have := Q6.out.lt; omega
  go_simp
  go_upto_region 3 with fail
  refine wp_gen (fun w2 => Hid (RB w w2.drew u v) ∧ Hid (Blk w2.drew b6 tE (uvals (v3N v))) ∧ Hid (Blk w2.drew b7 tE (uvals (v7N v)))) ⟨Lib.hid (P1.out.below hw5).drew, Lib.hid ((Q6.out.below hw5 Q6.out.lt).drew 1), Lib.hid hb7⟩ ?_
  rintro w2 ⟨P2, R6, R7⟩
  clear P1 Q6 hb7 hw5 hc
  (refine wp_region_drift 8 (by kernel_rfl) (by kernel_rfl) ?_; simp only [List.take_succ_cons, List.take_zero, List.drop_succ_cons, List.drop_zero])
  (refine drift_step (fun K hK => ?_); refine drift_loadE (fun w' hw' => P2.out.u.below hw' P2.out.u.lt) LU.out (by first | rfl | simp [Region.wanted, yielded]) rfl (by go_simp) ?_; go_simp; (with_reducible apply hK); clear hK K)
  (refine drift_step (fun K hK => ?_); refine drift_loadE (fun w' hw' => R6.out.below hw' R6.out.lt) L3.out (by first | rfl | simp [Region.wanted, yielded]) rfl (by go_simp) ?_; go_simp; (with_reducible apply hK); clear hK K)
  (refine drift_step (fun K hK => ?_); refine drift_call (.agg (uvals (mulF u (v3N v))).toArray) 10 #[.agg (uvals u).toArray, .agg (uvals (v3N v)).toArray] (by first | rfl | simp [Region.wanted, yielded]) (fun w' => by go_simp) (fun w' hw' => (el_mul_ok u (v3N v) w' HU.out H3.out).mono (by rintro e w'' ⟨rfl, hb⟩; exact ⟨rfl, hb⟩)) ?_; go_simp; (with_reducible apply hK); clear hK K)
  (refine drift_step (fun K hK => ?_); refine drift_loadE (fun w' hw' => P2.out.u.below hw' P2.out.u.lt) LU.out (by first | rfl | simp [Region.wanted, yielded]) rfl (by go_simp) ?_; go_simp; (with_reducible apply hK); clear hK K)
  (refine drift_step (fun K hK => ?_); refine drift_loadE (fun w' hw' => R7.out.below hw' R7.out.lt) L7.out (by first | rfl | simp [Region.wanted, yielded]) rfl (by go_simp) ?_; go_simp; (with_reducible apply hK); clear hK K)
  (refine drift_step (fun K hK => ?_); refine drift_call (.agg (uvals (mulF u (v7N v))).toArray) 10 #[.agg (uvals u).toArray, .agg (uvals (v7N v)).toArray] (by first | rfl | simp [Region.wanted, yielded]) (fun w' => by go_simp) (fun w' hw' => (el_mul_ok u (v7N v) w' HU.out H7.out).mono (by rintro e w'' ⟨rfl, hb⟩; exact ⟨rfl, hb⟩)) ?_; go_simp; (with_reducible apply hK); clear hK K)
  (refine drift_step (fun K hK => ?_); refine drift_call (.agg (uvals (pwN (mulF u (v7N v)) (expN 24) 252)).toArray) 27 #[.agg (uvals (mulF u (v7N v))).toArray, .int .u64 24, .int .i64 3] (by first | rfl | simp [Region.wanted, yielded]) (fun w' => by go_simp) (fun w' hw' => (el_power_ok (mulF u (v7N v)) 24 3 w' HB.out (by omega) (by omega) (by omega)).mono (by rintro e w'' ⟨rfl, hb⟩; exact ⟨rfl, hb⟩)) ?_; go_simp; (with_reducible apply hK); clear hK K)
  (refine drift_step (fun K hK => ?_); refine drift_call (.agg (uvals (candN u v)).toArray) 10 #[.agg (uvals (mulF u (v3N v))).toArray, .agg (uvals (pwN (mulF u (v7N v)) (expN 24) 252)).toArray] (by first | rfl | simp [Region.wanted, yielded]) (fun w' => by go_simp) (fun w' hw' => (el_mul_ok (mulF u (v3N v)) (pwN (mulF u (v7N v)) (expN 24) 252) w' HA.out HP.out).mono (by rintro e w'' ⟨rfl, hb⟩; exact ⟨rfl, hb⟩)) ?_; go_simp; (with_reducible apply hK); clear hK K)
  refine drift_nil ?_
  refine drift_new rfl rfl rfl rfl rfl rfl (by simp) LR.out (fun v => rfl) (fun b8 w5 hc hw5 hb8 => ?_)
  have l8 : b7 < b8 := by have := R7.out.lt; omega
  go_simp
  go_upto_region 4 with fail
  refine wp_gen (fun w3 => Hid (RB w w3.drew u v) ∧ Hid (Blk w3.drew b8 tE (uvals (candN u v)))) ⟨Lib.hid (P2.out.below hw5).drew, Lib.hid hb8⟩ ?_
  rintro w3 ⟨P3, S8⟩
  clear P2 R6 R7 hb8 hw5 hc
  (refine wp_region_drift 4 (by kernel_rfl) (by kernel_rfl) ?_; simp only [List.take_succ_cons, List.take_zero, List.drop_succ_cons, List.drop_zero])
  (refine drift_step (fun K hK => ?_); refine drift_loadE (fun w' hw' => S8.out.below hw' S8.out.lt) LR.out (by first | rfl | simp [Region.wanted, yielded]) rfl (by go_simp) ?_; go_simp; (with_reducible apply hK); clear hK K)
  (refine drift_step (fun K hK => ?_); refine drift_call (.agg (uvals (mulF (candN u v) (candN u v))).toArray) 45 #[.agg (uvals (candN u v)).toArray] (by first | rfl | simp [Region.wanted, yielded]) (fun w' => by go_simp) (fun w' hw' => (el_square_ok (candN u v) w' HR.out).mono (by rintro e w'' ⟨rfl, hb⟩; exact ⟨rfl, hb⟩)) ?_; go_simp; (with_reducible apply hK); clear hK K)
  (refine drift_step (fun K hK => ?_); refine drift_loadE (fun w' hw' => P3.out.v.below hw' P3.out.v.lt) LV.out (by first | rfl | simp [Region.wanted, yielded]) rfl (by go_simp) ?_; go_simp; (with_reducible apply hK); clear hK K)
  (refine drift_step (fun K hK => ?_); refine drift_call (.agg (uvals (gotN u v)).toArray) 10 #[.agg (uvals (mulF (candN u v) (candN u v))).toArray, .agg (uvals v).toArray] (by first | rfl | simp [Region.wanted, yielded]) (fun w' => by go_simp) (fun w' hw' => (el_mul_ok (mulF (candN u v) (candN u v)) v w' HRR.out HV.out).mono (by rintro e w'' ⟨rfl, hb⟩; exact ⟨rfl, hb⟩)) ?_; go_simp; (with_reducible apply hK); clear hK K)
  refine drift_nil ?_
  refine drift_new rfl rfl rfl rfl rfl rfl (by simp) LG.out (fun v => rfl) (fun b9 w5 hc hw5 hb9 => ?_)
  have l9 : b8 < b9 := by have := S8.out.lt; omega
  have Q4 := Lib.hid (P3.out.below hw5)
  have T8 := Lib.hid (S8.out.below hw5 S8.out.lt)
  have T9 := Lib.hid hb9
  have QU := Lib.hid Q4.out.u
  clear P3 S8 hb9 hw5 hc
  go_simp
  go_wp2_with (first | refine load_el T9 LG rfl rfl rfl ?_ | refine load_el QU LU rfl rfl rfl ?_)
  refine (el_same_ok (gotN u v) u w5 LG.out LU.out HG.out.small HU.out.small).mono ?_
  rintro e w6 ⟨rfl, b6w⟩
  have Q5 := Lib.hid (Q4.out.below b6w)
  have U8 := Lib.hid (T8.out.below b6w T8.out.lt)
  have U9 := Lib.hid (T9.out.below b6w T9.out.lt)
  clear Q4 T8 T9 QU b6w
  by_cases hs1 : sameN (gotN u v) u = true
  · have EE : Hid (rootN u v = (evenN (candN u v), true)) := if_pos hs1
    rw [hs1]
    go_upto_region 9 with fail
    have D5 := Lib.hid (Q5.out.drew)
    have D8 : Hid (Blk w6.drew b8 tE (uvals (candN u v))) := Lib.hid (U8.out.drew 1)
    have LNN := Lib.hid (neg_len LR.out)
    have LEV := Lib.hid HR.out.even.len
    (refine wp_region_quiet_tail (C := fun w' => Below w6.drew.heap.size w6.drew w') 6 (by kernel_rfl) (by kernel_rfl) (Below.refl _ _) ?_; simp only [List.take_succ_cons, List.take_zero, List.drop_succ_cons, List.drop_zero])
    ((with_reducible refine wpQuiet_step (fun K hK => ?_)); refine quiet_loadE (fun w' hw' => D8.out.below hw' D8.out.lt) LR.out (by first | rfl | simp [Region.wanted, yielded]) rfl (by go_simp) ?_; go_simp; (with_reducible apply hK); clear hK K)
    ((with_reducible refine wpQuiet_step (fun K hK => ?_)); refine quiet_callG (.bool (oddN (candN u v))) 44 #[.agg (uvals (candN u v)).toArray] (by first | rfl | simp [Region.wanted, yielded]) (fun w' => by go_simp) (fun w' hw' => (el_odd_ok (candN u v) w' LR.out HR.out.small).mono (by rintro e w'' ⟨rfl, hb⟩; exact ⟨rfl, hw'.trans (hb.mono hw'.size)⟩)) ?_; go_simp; (with_reducible apply hK); clear hK K)
    ((with_reducible refine wpQuiet_step (fun K hK => ?_)); refine quiet_loadE (fun w' hw' => D8.out.below hw' D8.out.lt) LR.out (by first | rfl | simp [Region.wanted, yielded]) rfl (by go_simp) ?_; go_simp; (with_reducible apply hK); clear hK K)
    ((with_reducible refine wpQuiet_step (fun K hK => ?_)); refine quiet_callG (.agg (uvals (negN (candN u v))).toArray) 38 #[.agg (uvals (candN u v)).toArray] (by first | rfl | simp [Region.wanted, yielded]) (fun w' => by go_simp) (fun w' hw' => (el_neg_ok (candN u v) w' LR.out HR.out.small).mono (by rintro e w'' ⟨rfl, hb⟩; exact ⟨rfl, hw'.trans (hb.mono hw'.size)⟩)) ?_; go_simp; (with_reducible apply hK); clear hK K)
    ((with_reducible refine wpQuiet_step (fun K hK => ?_)); refine quiet_loadE (fun w' hw' => D8.out.below hw' D8.out.lt) LR.out (by first | rfl | simp [Region.wanted, yielded]) rfl (by go_simp) ?_; go_simp; (with_reducible apply hK); clear hK K)
    ((with_reducible refine wpQuiet_step (fun K hK => ?_)); refine quiet_callG (.agg (uvals (evenN (candN u v))).toArray) 55 #[.bool (oddN (candN u v)), .agg (uvals (negN (candN u v))).toArray, .agg (uvals (candN u v)).toArray] (by first | rfl | simp [Region.wanted, yielded]) (fun w' => by go_simp) (fun w' hw' => (el_choose_ok (oddN (candN u v)) (negN (candN u v)) (candN u v) w' LNN.out LR.out).mono (by rintro e w'' ⟨rfl, hb⟩; exact ⟨rfl, hw'.trans (hb.mono hw'.size)⟩)) ?_; go_simp; (with_reducible apply hK); clear hK K)
    refine wpQuiet_nil ?_
    intro w9 hw9
    have Z := Lib.hid (D5.out.r.below hw9 D5.out.r.lt)
    have BZ := D5.out.b.trans (Below.mono hw9 D5.out.b.size)
    go_wp2_with (refine store_el Z hz5 LEV rfl rfl rfl rfl ?_)
    exact ret_el2 rfl (Z.out.setRow _) LEV.out rfl rfl rfl ⟨by rw [EE.out]; rfl, below_row BZ _ _ (by omega)⟩
  · have hs1' : sameN (gotN u v) u = false := by simpa using hs1
    have LNU := Lib.hid HNU.out.len
    have D5 := Lib.hid (Q5.out.drew)
    have D9 : Hid (Blk w6.drew b9 tE (uvals (gotN u v))) := Lib.hid (U9.out.drew 1)
    have D8 : Hid (Blk w6.drew b8 tE (uvals (candN u v))) := Lib.hid (U8.out.drew 1)
    have HS1 := Lib.hid hs1'
    rw [hs1']
    clear hs1 hs1' U9 U8 Q5
    go_upto_region 7 with fail
    refine region_quiet (C := fun w' => Below w6.drew.heap.size w6.drew w') (by kernel_rfl) (by kernel_rfl) (Below.refl _ _) ?_
    ((with_reducible refine wpQuiet_step (fun K hK => ?_)); refine quiet_loadE (fun w' hw' => D9.out.below hw' D9.out.lt) LG.out (by first | rfl | simp [Region.wanted, yielded]) rfl (by go_simp) ?_; go_simp; (with_reducible apply hK); clear hK K)
    ((with_reducible refine wpQuiet_step (fun K hK => ?_)); refine quiet_loadE (fun w' hw' => D5.out.u.below hw' D5.out.u.lt) LU.out (by first | rfl | simp [Region.wanted, yielded]) rfl (by go_simp) ?_; go_simp; (with_reducible apply hK); clear hK K)
    ((with_reducible refine wpQuiet_step (fun K hK => ?_)); refine quiet_callG (.agg (uvals (negN u)).toArray) 38 #[.agg (uvals u).toArray] (by first | rfl | simp [Region.wanted, yielded]) (fun w' => by go_simp) (fun w' hw' => (el_neg_ok u w' LU.out HU.out.small).mono (by rintro e w'' ⟨rfl, hb⟩; exact ⟨rfl, hw'.trans (hb.mono hw'.size)⟩)) ?_; go_simp; (with_reducible apply hK); clear hK K)
    ((with_reducible refine wpQuiet_step (fun K hK => ?_)); refine quiet_callG (.bool (sameN (gotN u v) (negN u))) 63 #[.agg (uvals (gotN u v)).toArray, .agg (uvals (negN u)).toArray] (by first | rfl | simp [Region.wanted, yielded]) (fun w' => by go_simp) (fun w' hw' => (el_same_ok (gotN u v) (negN u) w' LG.out LNU.out HG.out.small HNU.out.small).mono (by rintro e w'' ⟨rfl, hb⟩; exact ⟨rfl, hw'.trans (hb.mono hw'.size)⟩)) ?_; go_simp; (with_reducible apply hK); clear hK K)
    ((with_reducible refine wpQuiet_step (fun K hK => ?_)); refine quiet_plainG (.bool (sameN (gotN u v) (negN u))) (by first | rfl | simp [Region.wanted, yielded]) (fun w' hw' => by go_simp) ?_; go_simp; (with_reducible apply hK); clear hK K)
    refine wpQuiet_nil ?_
    intro w7 hw7
    have Q6 := Lib.hid (D5.out.below hw7)
    have V8 := Lib.hid (D8.out.below hw7 D8.out.lt)
    clear D5 D8 D9 hw7
    by_cases hs2 : sameN (gotN u v) (negN u) = true
    · have EE : Hid (rootN u v = (evenN (mulF (candN u v) m1N), true)) := by
        show _ = _
        unfold rootN
        rw [HS1.out, hs2]
        rfl
      rw [hs2]
      have LM := Lib.hid HM.out.len
      have LRM := Lib.hid HRM.out.len
      go_upto_region 8 with fail
      have D5 := Lib.hid (Q6.out.drew)
      have D8 : Hid (Blk w7.drew b8 tE (uvals (candN u v))) := Lib.hid (V8.out.drew 1)
      clear Q6 V8
      (refine wp_region_quiet_tail (C := fun w' => Below w7.drew.heap.size w7.drew w') 3 (by kernel_rfl) (by kernel_rfl) (Below.refl _ _) ?_; simp only [List.take_succ_cons, List.take_zero, List.drop_succ_cons, List.drop_zero])
      ((with_reducible refine wpQuiet_step (fun K hK => ?_)); refine quiet_loadE (fun w' hw' => D8.out.below hw' D8.out.lt) LR.out (by first | rfl | simp [Region.wanted, yielded]) rfl (by go_simp) ?_; go_simp; (with_reducible apply hK); clear hK K)
      ((with_reducible refine wpQuiet_step (fun K hK => ?_)); refine quiet_callG (.agg (uvals (m1N)).toArray) 64 #[] (by first | rfl | simp [Region.wanted, yielded]) (fun w' => by go_simp) (fun w' hw' => (el_m1_ok w').mono (by rintro e w'' ⟨rfl, hb⟩; exact ⟨rfl, hw'.trans (hb.mono hw'.size)⟩)) ?_; go_simp; (with_reducible apply hK); clear hK K)
      ((with_reducible refine wpQuiet_step (fun K hK => ?_)); refine quiet_callG (.agg (uvals (mulF (candN u v) m1N)).toArray) 10 #[.agg (uvals (candN u v)).toArray, .agg (uvals m1N).toArray] (by first | rfl | simp [Region.wanted, yielded]) (fun w' => by go_simp) (fun w' hw' => (el_mul_ok (candN u v) m1N w' HR.out HM.out).mono (by rintro e w'' ⟨rfl, hb⟩; exact ⟨rfl, hw'.trans (hb.mono hw'.size)⟩)) ?_; go_simp; (with_reducible apply hK); clear hK K)
      refine wpQuiet_nil ?_
      intro w8 hw8
      have Q7 := Lib.hid (D5.out.below hw8)
      have W8 := Lib.hid (D8.out.below hw8 D8.out.lt)
      clear D5 D8 hw8
      go_upto_region 9 with (refine store_el W8 LR LRM rfl rfl rfl rfl ?_)
      refine wp_gen (fun wz => Hid (RB w wz u v) ∧ Hid (Blk wz b8 tE (uvals (mulF (candN u v) m1N)))) ⟨Lib.hid (Q7.out.row (by omega) _), Lib.hid (W8.out.setRow _)⟩ ?_
      rintro wz ⟨Q8, X8⟩
      clear Q7 W8
      have D5 := Lib.hid (Q8.out.drew)
      have D8 : Hid (Blk wz.drew b8 tE (uvals (mulF (candN u v) m1N))) := Lib.hid (X8.out.drew 1)
      have LNN := Lib.hid (neg_len LRM.out)
      have LEV := Lib.hid HRM.out.even.len
      (refine wp_region_quiet_tail (C := fun w' => Below wz.drew.heap.size wz.drew w') 6 (by kernel_rfl) (by kernel_rfl) (Below.refl _ _) ?_; simp only [List.take_succ_cons, List.take_zero, List.drop_succ_cons, List.drop_zero])
      ((with_reducible refine wpQuiet_step (fun K hK => ?_)); refine quiet_loadE (fun w' hw' => D8.out.below hw' D8.out.lt) LRM.out (by first | rfl | simp [Region.wanted, yielded]) rfl (by go_simp) ?_; go_simp; (with_reducible apply hK); clear hK K)
      ((with_reducible refine wpQuiet_step (fun K hK => ?_)); refine quiet_callG (.bool (oddN (mulF (candN u v) m1N))) 44 #[.agg (uvals (mulF (candN u v) m1N)).toArray] (by first | rfl | simp [Region.wanted, yielded]) (fun w' => by go_simp) (fun w' hw' => (el_odd_ok (mulF (candN u v) m1N) w' LRM.out HRM.out.small).mono (by rintro e w'' ⟨rfl, hb⟩; exact ⟨rfl, hw'.trans (hb.mono hw'.size)⟩)) ?_; go_simp; (with_reducible apply hK); clear hK K)
      ((with_reducible refine wpQuiet_step (fun K hK => ?_)); refine quiet_loadE (fun w' hw' => D8.out.below hw' D8.out.lt) LRM.out (by first | rfl | simp [Region.wanted, yielded]) rfl (by go_simp) ?_; go_simp; (with_reducible apply hK); clear hK K)
      ((with_reducible refine wpQuiet_step (fun K hK => ?_)); refine quiet_callG (.agg (uvals (negN (mulF (candN u v) m1N))).toArray) 38 #[.agg (uvals (mulF (candN u v) m1N)).toArray] (by first | rfl | simp [Region.wanted, yielded]) (fun w' => by go_simp) (fun w' hw' => (el_neg_ok (mulF (candN u v) m1N) w' LRM.out HRM.out.small).mono (by rintro e w'' ⟨rfl, hb⟩; exact ⟨rfl, hw'.trans (hb.mono hw'.size)⟩)) ?_; go_simp; (with_reducible apply hK); clear hK K)
      ((with_reducible refine wpQuiet_step (fun K hK => ?_)); refine quiet_loadE (fun w' hw' => D8.out.below hw' D8.out.lt) LRM.out (by first | rfl | simp [Region.wanted, yielded]) rfl (by go_simp) ?_; go_simp; (with_reducible apply hK); clear hK K)
      ((with_reducible refine wpQuiet_step (fun K hK => ?_)); refine quiet_callG (.agg (uvals (evenN (mulF (candN u v) m1N))).toArray) 55 #[.bool (oddN (mulF (candN u v) m1N)), .agg (uvals (negN (mulF (candN u v) m1N))).toArray, .agg (uvals (mulF (candN u v) m1N)).toArray] (by first | rfl | simp [Region.wanted, yielded]) (fun w' => by go_simp) (fun w' hw' => (el_choose_ok (oddN (mulF (candN u v) m1N)) (negN (mulF (candN u v) m1N)) (mulF (candN u v) m1N) w' LNN.out LRM.out).mono (by rintro e w'' ⟨rfl, hb⟩; exact ⟨rfl, hw'.trans (hb.mono hw'.size)⟩)) ?_; go_simp; (with_reducible apply hK); clear hK K)
      refine wpQuiet_nil ?_
      intro w9 hw9
      have Z := Lib.hid (D5.out.r.below hw9 D5.out.r.lt)
      have BZ := D5.out.b.trans (Below.mono hw9 D5.out.b.size)
      go_wp2_with (refine store_el Z hz5 LEV rfl rfl rfl rfl ?_)
      exact ret_el2 rfl (Z.out.setRow _) LEV.out rfl rfl rfl ⟨by rw [EE.out]; rfl, below_row BZ _ _ (by omega)⟩
    · have hs2' : sameN (gotN u v) (negN u) = false := by simpa using hs2
      have EE : Hid (rootN u v = (zero5, false)) := by
        show _ = _
        unfold rootN
        rw [HS1.out, hs2']
        rfl
      rw [hs2']
      have Z := Lib.hid Q6.out.r
      have EZ : Hid ((Value.agg #[.int .u64 0, .int .u64 0, .int .u64 0, .int .u64 0, .int .u64 0]) = .agg (uvals zero5).toArray) := rfl
      clear hs2 hs2' V8
      go_wp2_with (refine store_el Z hz5 hz5 rfl rfl rfl EZ.out ?_)
      exact ret_el2 rfl (Z.out.setRow _) hz5.out rfl rfl rfl ⟨by rw [EE.out]; rfl, below_row Q6.out.b _ _ (by omega)⟩
end Go.Proofs.YtilccncddbgpbaaDoor
