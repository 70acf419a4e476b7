/-
FieldRing, walked.
-/
import Derived.Test.YtopelehfffjfeaaFLaw2
import Derived.Test.YtopelehfffjfeaaCut
namespace Go.Proofs.Ytopelehfffjfeaa
open Go.RowKit

set_option maxHeartbeats 8000000 in
theorem ring_ok (s t u : ByteArray) (w : World) : Calls Try.prog 5 #[.string s, .string t, .string u] w (Tells w true) := by
  go_enter Try.func5, Try.ntmps5
  go_wp2_with fail
  refine (awake_ok w).mono ?_
  rintro e w1 ⟨rfl, BB⟩
  go_wp2_with fail
  refine (cut_ok s 32 w1).mono ?_
  rintro e _ ⟨rfl, rfl⟩
  generalize s.extract 0 32 = s1
  go_wp2_with fail
  refine (elOf s1 w1).mono ?_
  rintro e w2 ⟨va, rfl, Ea, b2⟩
  generalize fpOf s1 = a at *
  go_wp2_with fail
  refine (cut_ok t 32 w2).mono ?_
  rintro e _ ⟨rfl, rfl⟩
  generalize t.extract 0 32 = t1
  go_wp2_with fail
  refine (elOf t1 w2).mono ?_
  rintro e w3 ⟨vb, rfl, Eb, b3⟩
  generalize fpOf t1 = b at *
  go_wp2_with fail
  refine (cut_ok u 32 w3).mono ?_
  rintro e _ ⟨rfl, rfl⟩
  generalize u.extract 0 32 = u1
  go_wp2_with fail
  refine (elOf u1 w3).mono ?_
  rintro e w4 ⟨vc, rfl, Ec, b4⟩
  generalize fpOf u1 = c at *
  obtain ⟨la, rfl, La⟩ := Ea
  obtain ⟨lb, rfl, Lb⟩ := Eb
  obtain ⟨lc, rfl, Lc⟩ := Ec
  have BB4 := (BB.trans (b2.mono BB.size))
  have BB5 := BB4.trans (b3.mono BB4.size)
  have BB6 := BB5.trans (b4.mono BB5.size)
  clear BB b2 b3 b4 BB4 BB5
  go_wp2_with (refine new3 rfl rfl rfl rfl rfl rfl rfl rfl rfl rfl rfl La.len rfl rfl Lb.len rfl rfl Lc.len rfl (by go_simp) (by go_simp) rfl (by go_simp) (by go_simp) rfl (by go_simp) (by go_simp) (fun w5 P => ?_))
  go_simp
  replace P := P.drew 1
  obtain ⟨l11, L11, C11⟩ := qAdd Lb Lc
  obtain ⟨l12, L12, C12⟩ := qMul La L11
  obtain ⟨l13, L13, C13⟩ := qMul La Lb
  obtain ⟨l14, L14, C14⟩ := qMul La Lc
  obtain ⟨l15, L15, C15⟩ := qAdd L13 L14
  have C16 := qSame L12 L15 (c := true) (decide_eq_true (show ((a * (b + c)) : Fp) = ((a * b) + (a * c)) by grind))
  obtain ⟨l17, L17, C17⟩ := qMul L13 Lc
  obtain ⟨l18, L18, C18⟩ := qMul Lb Lc
  obtain ⟨l19, L19, C19⟩ := qMul La L18
  have C20 := qSame L17 L19 (c := true) (decide_eq_true (show (((a * b) * c) : Fp) = (a * (b * c)) by grind))
  obtain ⟨l21, L21, C21⟩ := qMul Lb La
  have C22 := qSame L13 L21 (c := true) (decide_eq_true (show ((a * b) : Fp) = (b * a) by grind))
  obtain ⟨l23, L23, C23⟩ := qSub La Lb
  obtain ⟨l24, L24, C24⟩ := qAdd L23 Lb
  have C25 := qSame L24 La (c := true) (decide_eq_true (show (((a - b) + b) : Fp) = a by grind))
  obtain ⟨l26, L26, C26⟩ := qAdd La Lb
  obtain ⟨l27, L27, C27⟩ := qAdd L26 Lc
  obtain ⟨l28, L28, C28⟩ := qAdd Lc Lb
  obtain ⟨l29, L29, C29⟩ := qAdd L28 La
  have C30 := qSame L27 L29 (c := true) (decide_eq_true (show (((a + b) + c) : Fp) = ((c + b) + a) by grind))
  obtain ⟨l31, L31, C31⟩ := qSmall1
  obtain ⟨l32, L32, C32⟩ := qMul La L31
  have C33 := qSame L32 La (c := true) (decide_eq_true (show ((a * 1) : Fp) = a by grind))
  obtain ⟨l34, L34, C34⟩ := qSub La La
  have C35 := qZero L34 (c := true) (decide_eq_true (show ((a - a) : Fp) = 0 by grind))
  refine region_quiet (C := fun w' => Below (w5.drewN 1).heap.size (w5.drewN 1) w') (by kernel_rfl) (by kernel_rfl) (Below.refl _ _) ?_
  (refine wpQuiet_step (fun K hK => ?_); refine quiet_loadE (fun w' hw' => (P.1).below hw' (P.1).lt) La.len (by first | rfl | simp [Region.wanted, yielded]) rfl (by go_simp) ?_; go_simp; refine hK _ ?_; clear hK K)
  (refine wpQuiet_step (fun K hK => ?_); refine quiet_loadE (fun w' hw' => (P.2.1).below hw' (P.2.1).lt) Lb.len (by first | rfl | simp [Region.wanted, yielded]) rfl (by go_simp) ?_; go_simp; refine hK _ ?_; clear hK K)
  (refine wpQuiet_step (fun K hK => ?_); refine quiet_loadE (fun w' hw' => (P.2.2.1).below hw' (P.2.2.1).lt) Lc.len (by first | rfl | simp [Region.wanted, yielded]) rfl (by go_simp) ?_; go_simp; refine hK _ ?_; clear hK K)
  (refine wpQuiet_step (fun K hK => ?_); refine quiet_callG (.agg (uvals (l11)).toArray) 27 #[.agg (uvals lb).toArray, .agg (uvals lc).toArray] (by first | rfl | simp [Region.wanted, yielded]) (fun w' => by go_simp) (fun w' hw' => (C11 w').mono (by rintro e w'' ⟨rfl, hb⟩; exact ⟨rfl, hw'.trans (hb.mono hw'.size)⟩)) ?_; go_simp; refine hK _ ?_; clear hK K)
  (refine wpQuiet_step (fun K hK => ?_); refine quiet_callG (.agg (uvals (l12)).toArray) 26 #[.agg (uvals la).toArray, .agg (uvals l11).toArray] (by first | rfl | simp [Region.wanted, yielded]) (fun w' => by go_simp) (fun w' hw' => (C12 w').mono (by rintro e w'' ⟨rfl, hb⟩; exact ⟨rfl, hw'.trans (hb.mono hw'.size)⟩)) ?_; go_simp; refine hK _ ?_; clear hK K)
  (refine wpQuiet_step (fun K hK => ?_); refine quiet_loadE (fun w' hw' => (P.1).below hw' (P.1).lt) La.len (by first | rfl | simp [Region.wanted, yielded]) rfl (by go_simp) ?_; go_simp; refine hK _ ?_; clear hK K)
  (refine wpQuiet_step (fun K hK => ?_); refine quiet_loadE (fun w' hw' => (P.2.1).below hw' (P.2.1).lt) Lb.len (by first | rfl | simp [Region.wanted, yielded]) rfl (by go_simp) ?_; go_simp; refine hK _ ?_; clear hK K)
  (refine wpQuiet_step (fun K hK => ?_); refine quiet_callG (.agg (uvals (l13)).toArray) 26 #[.agg (uvals la).toArray, .agg (uvals lb).toArray] (by first | rfl | simp [Region.wanted, yielded]) (fun w' => by go_simp) (fun w' hw' => (C13 w').mono (by rintro e w'' ⟨rfl, hb⟩; exact ⟨rfl, hw'.trans (hb.mono hw'.size)⟩)) ?_; go_simp; refine hK _ ?_; clear hK K)
  (refine wpQuiet_step (fun K hK => ?_); refine quiet_loadE (fun w' hw' => (P.1).below hw' (P.1).lt) La.len (by first | rfl | simp [Region.wanted, yielded]) rfl (by go_simp) ?_; go_simp; refine hK _ ?_; clear hK K)
  (refine wpQuiet_step (fun K hK => ?_); refine quiet_loadE (fun w' hw' => (P.2.2.1).below hw' (P.2.2.1).lt) Lc.len (by first | rfl | simp [Region.wanted, yielded]) rfl (by go_simp) ?_; go_simp; refine hK _ ?_; clear hK K)
  (refine wpQuiet_step (fun K hK => ?_); refine quiet_callG (.agg (uvals (l14)).toArray) 26 #[.agg (uvals la).toArray, .agg (uvals lc).toArray] (by first | rfl | simp [Region.wanted, yielded]) (fun w' => by go_simp) (fun w' hw' => (C14 w').mono (by rintro e w'' ⟨rfl, hb⟩; exact ⟨rfl, hw'.trans (hb.mono hw'.size)⟩)) ?_; go_simp; refine hK _ ?_; clear hK K)
  (refine wpQuiet_step (fun K hK => ?_); refine quiet_callG (.agg (uvals (l15)).toArray) 27 #[.agg (uvals l13).toArray, .agg (uvals l14).toArray] (by first | rfl | simp [Region.wanted, yielded]) (fun w' => by go_simp) (fun w' hw' => (C15 w').mono (by rintro e w'' ⟨rfl, hb⟩; exact ⟨rfl, hw'.trans (hb.mono hw'.size)⟩)) ?_; go_simp; refine hK _ ?_; clear hK K)
  (refine wpQuiet_step (fun K hK => ?_); refine quiet_callG (.bool true) 25 #[.agg (uvals l12).toArray, .agg (uvals l15).toArray] (by first | rfl | simp [Region.wanted, yielded]) (fun w' => by go_simp) (fun w' hw' => (C16 w').mono (by rintro e w'' ⟨rfl, hb⟩; exact ⟨rfl, hw'.trans (hb.mono hw'.size)⟩)) ?_; go_simp; refine hK _ ?_; clear hK K)
  (refine wpQuiet_step (fun K hK => ?_); refine quiet_plainG (.bool true) (by first | rfl | simp [Region.wanted, yielded]) (fun w' hw' => by go_simp) ?_; go_simp; refine hK _ ?_; clear hK K)
  (refine wpQuiet_step (fun K hK => ?_); refine quiet_loadE (fun w' hw' => (P.1).below hw' (P.1).lt) La.len (by first | rfl | simp [Region.wanted, yielded]) rfl (by go_simp) ?_; go_simp; refine hK _ ?_; clear hK K)
  (refine wpQuiet_step (fun K hK => ?_); refine quiet_loadE (fun w' hw' => (P.2.1).below hw' (P.2.1).lt) Lb.len (by first | rfl | simp [Region.wanted, yielded]) rfl (by go_simp) ?_; go_simp; refine hK _ ?_; clear hK K)
  (refine wpQuiet_step (fun K hK => ?_); refine quiet_callG (.agg (uvals (l13)).toArray) 26 #[.agg (uvals la).toArray, .agg (uvals lb).toArray] (by first | rfl | simp [Region.wanted, yielded]) (fun w' => by go_simp) (fun w' hw' => (C13 w').mono (by rintro e w'' ⟨rfl, hb⟩; exact ⟨rfl, hw'.trans (hb.mono hw'.size)⟩)) ?_; go_simp; refine hK _ ?_; clear hK K)
  (refine wpQuiet_step (fun K hK => ?_); refine quiet_loadE (fun w' hw' => (P.2.2.1).below hw' (P.2.2.1).lt) Lc.len (by first | rfl | simp [Region.wanted, yielded]) rfl (by go_simp) ?_; go_simp; refine hK _ ?_; clear hK K)
  (refine wpQuiet_step (fun K hK => ?_); refine quiet_callG (.agg (uvals (l17)).toArray) 26 #[.agg (uvals l13).toArray, .agg (uvals lc).toArray] (by first | rfl | simp [Region.wanted, yielded]) (fun w' => by go_simp) (fun w' hw' => (C17 w').mono (by rintro e w'' ⟨rfl, hb⟩; exact ⟨rfl, hw'.trans (hb.mono hw'.size)⟩)) ?_; go_simp; refine hK _ ?_; clear hK K)
  (refine wpQuiet_step (fun K hK => ?_); refine quiet_loadE (fun w' hw' => (P.1).below hw' (P.1).lt) La.len (by first | rfl | simp [Region.wanted, yielded]) rfl (by go_simp) ?_; go_simp; refine hK _ ?_; clear hK K)
  (refine wpQuiet_step (fun K hK => ?_); refine quiet_loadE (fun w' hw' => (P.2.1).below hw' (P.2.1).lt) Lb.len (by first | rfl | simp [Region.wanted, yielded]) rfl (by go_simp) ?_; go_simp; refine hK _ ?_; clear hK K)
  (refine wpQuiet_step (fun K hK => ?_); refine quiet_loadE (fun w' hw' => (P.2.2.1).below hw' (P.2.2.1).lt) Lc.len (by first | rfl | simp [Region.wanted, yielded]) rfl (by go_simp) ?_; go_simp; refine hK _ ?_; clear hK K)
  (refine wpQuiet_step (fun K hK => ?_); refine quiet_callG (.agg (uvals (l18)).toArray) 26 #[.agg (uvals lb).toArray, .agg (uvals lc).toArray] (by first | rfl | simp [Region.wanted, yielded]) (fun w' => by go_simp) (fun w' hw' => (C18 w').mono (by rintro e w'' ⟨rfl, hb⟩; exact ⟨rfl, hw'.trans (hb.mono hw'.size)⟩)) ?_; go_simp; refine hK _ ?_; clear hK K)
  (refine wpQuiet_step (fun K hK => ?_); refine quiet_callG (.agg (uvals (l19)).toArray) 26 #[.agg (uvals la).toArray, .agg (uvals l18).toArray] (by first | rfl | simp [Region.wanted, yielded]) (fun w' => by go_simp) (fun w' hw' => (C19 w').mono (by rintro e w'' ⟨rfl, hb⟩; exact ⟨rfl, hw'.trans (hb.mono hw'.size)⟩)) ?_; go_simp; refine hK _ ?_; clear hK K)
  (refine wpQuiet_step (fun K hK => ?_); refine quiet_callG (.bool true) 25 #[.agg (uvals l17).toArray, .agg (uvals l19).toArray] (by first | rfl | simp [Region.wanted, yielded]) (fun w' => by go_simp) (fun w' hw' => (C20 w').mono (by rintro e w'' ⟨rfl, hb⟩; exact ⟨rfl, hw'.trans (hb.mono hw'.size)⟩)) ?_; go_simp; refine hK _ ?_; clear hK K)
  (refine wpQuiet_step (fun K hK => ?_); refine quiet_plainG (.bool true) (by first | rfl | simp [Region.wanted, yielded]) (fun w' hw' => by go_simp) ?_; go_simp; refine hK _ ?_; clear hK K)
  (refine wpQuiet_step (fun K hK => ?_); refine quiet_plainG (.bool true) (by first | rfl | simp [Region.wanted, yielded]) (fun w' hw' => by go_simp) ?_; go_simp; refine hK _ ?_; clear hK K)
  (refine wpQuiet_step (fun K hK => ?_); refine quiet_loadE (fun w' hw' => (P.1).below hw' (P.1).lt) La.len (by first | rfl | simp [Region.wanted, yielded]) rfl (by go_simp) ?_; go_simp; refine hK _ ?_; clear hK K)
  (refine wpQuiet_step (fun K hK => ?_); refine quiet_loadE (fun w' hw' => (P.2.1).below hw' (P.2.1).lt) Lb.len (by first | rfl | simp [Region.wanted, yielded]) rfl (by go_simp) ?_; go_simp; refine hK _ ?_; clear hK K)
  (refine wpQuiet_step (fun K hK => ?_); refine quiet_callG (.agg (uvals (l13)).toArray) 26 #[.agg (uvals la).toArray, .agg (uvals lb).toArray] (by first | rfl | simp [Region.wanted, yielded]) (fun w' => by go_simp) (fun w' hw' => (C13 w').mono (by rintro e w'' ⟨rfl, hb⟩; exact ⟨rfl, hw'.trans (hb.mono hw'.size)⟩)) ?_; go_simp; refine hK _ ?_; clear hK K)
  (refine wpQuiet_step (fun K hK => ?_); refine quiet_loadE (fun w' hw' => (P.2.1).below hw' (P.2.1).lt) Lb.len (by first | rfl | simp [Region.wanted, yielded]) rfl (by go_simp) ?_; go_simp; refine hK _ ?_; clear hK K)
  (refine wpQuiet_step (fun K hK => ?_); refine quiet_loadE (fun w' hw' => (P.1).below hw' (P.1).lt) La.len (by first | rfl | simp [Region.wanted, yielded]) rfl (by go_simp) ?_; go_simp; refine hK _ ?_; clear hK K)
  (refine wpQuiet_step (fun K hK => ?_); refine quiet_callG (.agg (uvals (l21)).toArray) 26 #[.agg (uvals lb).toArray, .agg (uvals la).toArray] (by first | rfl | simp [Region.wanted, yielded]) (fun w' => by go_simp) (fun w' hw' => (C21 w').mono (by rintro e w'' ⟨rfl, hb⟩; exact ⟨rfl, hw'.trans (hb.mono hw'.size)⟩)) ?_; go_simp; refine hK _ ?_; clear hK K)
  (refine wpQuiet_step (fun K hK => ?_); refine quiet_callG (.bool true) 25 #[.agg (uvals l13).toArray, .agg (uvals l21).toArray] (by first | rfl | simp [Region.wanted, yielded]) (fun w' => by go_simp) (fun w' hw' => (C22 w').mono (by rintro e w'' ⟨rfl, hb⟩; exact ⟨rfl, hw'.trans (hb.mono hw'.size)⟩)) ?_; go_simp; refine hK _ ?_; clear hK K)
  (refine wpQuiet_step (fun K hK => ?_); refine quiet_plainG (.bool true) (by first | rfl | simp [Region.wanted, yielded]) (fun w' hw' => by go_simp) ?_; go_simp; refine hK _ ?_; clear hK K)
  (refine wpQuiet_step (fun K hK => ?_); refine quiet_plainG (.bool true) (by first | rfl | simp [Region.wanted, yielded]) (fun w' hw' => by go_simp) ?_; go_simp; refine hK _ ?_; clear hK K)
  (refine wpQuiet_step (fun K hK => ?_); refine quiet_loadE (fun w' hw' => (P.1).below hw' (P.1).lt) La.len (by first | rfl | simp [Region.wanted, yielded]) rfl (by go_simp) ?_; go_simp; refine hK _ ?_; clear hK K)
  (refine wpQuiet_step (fun K hK => ?_); refine quiet_loadE (fun w' hw' => (P.2.1).below hw' (P.2.1).lt) Lb.len (by first | rfl | simp [Region.wanted, yielded]) rfl (by go_simp) ?_; go_simp; refine hK _ ?_; clear hK K)
  (refine wpQuiet_step (fun K hK => ?_); refine quiet_callG (.agg (uvals (l23)).toArray) 28 #[.agg (uvals la).toArray, .agg (uvals lb).toArray] (by first | rfl | simp [Region.wanted, yielded]) (fun w' => by go_simp) (fun w' hw' => (C23 w').mono (by rintro e w'' ⟨rfl, hb⟩; exact ⟨rfl, hw'.trans (hb.mono hw'.size)⟩)) ?_; go_simp; refine hK _ ?_; clear hK K)
  (refine wpQuiet_step (fun K hK => ?_); refine quiet_loadE (fun w' hw' => (P.2.1).below hw' (P.2.1).lt) Lb.len (by first | rfl | simp [Region.wanted, yielded]) rfl (by go_simp) ?_; go_simp; refine hK _ ?_; clear hK K)
  (refine wpQuiet_step (fun K hK => ?_); refine quiet_callG (.agg (uvals (l24)).toArray) 27 #[.agg (uvals l23).toArray, .agg (uvals lb).toArray] (by first | rfl | simp [Region.wanted, yielded]) (fun w' => by go_simp) (fun w' hw' => (C24 w').mono (by rintro e w'' ⟨rfl, hb⟩; exact ⟨rfl, hw'.trans (hb.mono hw'.size)⟩)) ?_; go_simp; refine hK _ ?_; clear hK K)
  (refine wpQuiet_step (fun K hK => ?_); refine quiet_loadE (fun w' hw' => (P.1).below hw' (P.1).lt) La.len (by first | rfl | simp [Region.wanted, yielded]) rfl (by go_simp) ?_; go_simp; refine hK _ ?_; clear hK K)
  (refine wpQuiet_step (fun K hK => ?_); refine quiet_callG (.bool true) 25 #[.agg (uvals l24).toArray, .agg (uvals la).toArray] (by first | rfl | simp [Region.wanted, yielded]) (fun w' => by go_simp) (fun w' hw' => (C25 w').mono (by rintro e w'' ⟨rfl, hb⟩; exact ⟨rfl, hw'.trans (hb.mono hw'.size)⟩)) ?_; go_simp; refine hK _ ?_; clear hK K)
  (refine wpQuiet_step (fun K hK => ?_); refine quiet_plainG (.bool true) (by first | rfl | simp [Region.wanted, yielded]) (fun w' hw' => by go_simp) ?_; go_simp; refine hK _ ?_; clear hK K)
  (refine wpQuiet_step (fun K hK => ?_); refine quiet_plainG (.bool true) (by first | rfl | simp [Region.wanted, yielded]) (fun w' hw' => by go_simp) ?_; go_simp; refine hK _ ?_; clear hK K)
  (refine wpQuiet_step (fun K hK => ?_); refine quiet_loadE (fun w' hw' => (P.1).below hw' (P.1).lt) La.len (by first | rfl | simp [Region.wanted, yielded]) rfl (by go_simp) ?_; go_simp; refine hK _ ?_; clear hK K)
  (refine wpQuiet_step (fun K hK => ?_); refine quiet_loadE (fun w' hw' => (P.2.1).below hw' (P.2.1).lt) Lb.len (by first | rfl | simp [Region.wanted, yielded]) rfl (by go_simp) ?_; go_simp; refine hK _ ?_; clear hK K)
  (refine wpQuiet_step (fun K hK => ?_); refine quiet_callG (.agg (uvals (l26)).toArray) 27 #[.agg (uvals la).toArray, .agg (uvals lb).toArray] (by first | rfl | simp [Region.wanted, yielded]) (fun w' => by go_simp) (fun w' hw' => (C26 w').mono (by rintro e w'' ⟨rfl, hb⟩; exact ⟨rfl, hw'.trans (hb.mono hw'.size)⟩)) ?_; go_simp; refine hK _ ?_; clear hK K)
  (refine wpQuiet_step (fun K hK => ?_); refine quiet_loadE (fun w' hw' => (P.2.2.1).below hw' (P.2.2.1).lt) Lc.len (by first | rfl | simp [Region.wanted, yielded]) rfl (by go_simp) ?_; go_simp; refine hK _ ?_; clear hK K)
  (refine wpQuiet_step (fun K hK => ?_); refine quiet_callG (.agg (uvals (l27)).toArray) 27 #[.agg (uvals l26).toArray, .agg (uvals lc).toArray] (by first | rfl | simp [Region.wanted, yielded]) (fun w' => by go_simp) (fun w' hw' => (C27 w').mono (by rintro e w'' ⟨rfl, hb⟩; exact ⟨rfl, hw'.trans (hb.mono hw'.size)⟩)) ?_; go_simp; refine hK _ ?_; clear hK K)
  (refine wpQuiet_step (fun K hK => ?_); refine quiet_loadE (fun w' hw' => (P.2.2.1).below hw' (P.2.2.1).lt) Lc.len (by first | rfl | simp [Region.wanted, yielded]) rfl (by go_simp) ?_; go_simp; refine hK _ ?_; clear hK K)
  (refine wpQuiet_step (fun K hK => ?_); refine quiet_loadE (fun w' hw' => (P.2.1).below hw' (P.2.1).lt) Lb.len (by first | rfl | simp [Region.wanted, yielded]) rfl (by go_simp) ?_; go_simp; refine hK _ ?_; clear hK K)
  (refine wpQuiet_step (fun K hK => ?_); refine quiet_callG (.agg (uvals (l28)).toArray) 27 #[.agg (uvals lc).toArray, .agg (uvals lb).toArray] (by first | rfl | simp [Region.wanted, yielded]) (fun w' => by go_simp) (fun w' hw' => (C28 w').mono (by rintro e w'' ⟨rfl, hb⟩; exact ⟨rfl, hw'.trans (hb.mono hw'.size)⟩)) ?_; go_simp; refine hK _ ?_; clear hK K)
  (refine wpQuiet_step (fun K hK => ?_); refine quiet_loadE (fun w' hw' => (P.1).below hw' (P.1).lt) La.len (by first | rfl | simp [Region.wanted, yielded]) rfl (by go_simp) ?_; go_simp; refine hK _ ?_; clear hK K)
  (refine wpQuiet_step (fun K hK => ?_); refine quiet_callG (.agg (uvals (l29)).toArray) 27 #[.agg (uvals l28).toArray, .agg (uvals la).toArray] (by first | rfl | simp [Region.wanted, yielded]) (fun w' => by go_simp) (fun w' hw' => (C29 w').mono (by rintro e w'' ⟨rfl, hb⟩; exact ⟨rfl, hw'.trans (hb.mono hw'.size)⟩)) ?_; go_simp; refine hK _ ?_; clear hK K)
  (refine wpQuiet_step (fun K hK => ?_); refine quiet_callG (.bool true) 25 #[.agg (uvals l27).toArray, .agg (uvals l29).toArray] (by first | rfl | simp [Region.wanted, yielded]) (fun w' => by go_simp) (fun w' hw' => (C30 w').mono (by rintro e w'' ⟨rfl, hb⟩; exact ⟨rfl, hw'.trans (hb.mono hw'.size)⟩)) ?_; go_simp; refine hK _ ?_; clear hK K)
  (refine wpQuiet_step (fun K hK => ?_); refine quiet_plainG (.bool true) (by first | rfl | simp [Region.wanted, yielded]) (fun w' hw' => by go_simp) ?_; go_simp; refine hK _ ?_; clear hK K)
  (refine wpQuiet_step (fun K hK => ?_); refine quiet_plainG (.bool true) (by first | rfl | simp [Region.wanted, yielded]) (fun w' hw' => by go_simp) ?_; go_simp; refine hK _ ?_; clear hK K)
  (refine wpQuiet_step (fun K hK => ?_); refine quiet_loadE (fun w' hw' => (P.1).below hw' (P.1).lt) La.len (by first | rfl | simp [Region.wanted, yielded]) rfl (by go_simp) ?_; go_simp; refine hK _ ?_; clear hK K)
  (refine wpQuiet_step (fun K hK => ?_); refine quiet_callG (.agg (uvals (l31)).toArray) 21 #[.int .u64 1] (by first | rfl | simp [Region.wanted, yielded]) (fun w' => by go_simp) (fun w' hw' => (C31 w').mono (by rintro e w'' ⟨rfl, hb⟩; exact ⟨rfl, hw'.trans (hb.mono hw'.size)⟩)) ?_; go_simp; refine hK _ ?_; clear hK K)
  (refine wpQuiet_step (fun K hK => ?_); refine quiet_callG (.agg (uvals (l32)).toArray) 26 #[.agg (uvals la).toArray, .agg (uvals l31).toArray] (by first | rfl | simp [Region.wanted, yielded]) (fun w' => by go_simp) (fun w' hw' => (C32 w').mono (by rintro e w'' ⟨rfl, hb⟩; exact ⟨rfl, hw'.trans (hb.mono hw'.size)⟩)) ?_; go_simp; refine hK _ ?_; clear hK K)
  (refine wpQuiet_step (fun K hK => ?_); refine quiet_loadE (fun w' hw' => (P.1).below hw' (P.1).lt) La.len (by first | rfl | simp [Region.wanted, yielded]) rfl (by go_simp) ?_; go_simp; refine hK _ ?_; clear hK K)
  (refine wpQuiet_step (fun K hK => ?_); refine quiet_callG (.bool true) 25 #[.agg (uvals l32).toArray, .agg (uvals la).toArray] (by first | rfl | simp [Region.wanted, yielded]) (fun w' => by go_simp) (fun w' hw' => (C33 w').mono (by rintro e w'' ⟨rfl, hb⟩; exact ⟨rfl, hw'.trans (hb.mono hw'.size)⟩)) ?_; go_simp; refine hK _ ?_; clear hK K)
  (refine wpQuiet_step (fun K hK => ?_); refine quiet_plainG (.bool true) (by first | rfl | simp [Region.wanted, yielded]) (fun w' hw' => by go_simp) ?_; go_simp; refine hK _ ?_; clear hK K)
  (refine wpQuiet_step (fun K hK => ?_); refine quiet_plainG (.bool true) (by first | rfl | simp [Region.wanted, yielded]) (fun w' hw' => by go_simp) ?_; go_simp; refine hK _ ?_; clear hK K)
  (refine wpQuiet_step (fun K hK => ?_); refine quiet_loadE (fun w' hw' => (P.1).below hw' (P.1).lt) La.len (by first | rfl | simp [Region.wanted, yielded]) rfl (by go_simp) ?_; go_simp; refine hK _ ?_; clear hK K)
  (refine wpQuiet_step (fun K hK => ?_); refine quiet_loadE (fun w' hw' => (P.1).below hw' (P.1).lt) La.len (by first | rfl | simp [Region.wanted, yielded]) rfl (by go_simp) ?_; go_simp; refine hK _ ?_; clear hK K)
  (refine wpQuiet_step (fun K hK => ?_); refine quiet_callG (.agg (uvals (l34)).toArray) 28 #[.agg (uvals la).toArray, .agg (uvals la).toArray] (by first | rfl | simp [Region.wanted, yielded]) (fun w' => by go_simp) (fun w' hw' => (C34 w').mono (by rintro e w'' ⟨rfl, hb⟩; exact ⟨rfl, hw'.trans (hb.mono hw'.size)⟩)) ?_; go_simp; refine hK _ ?_; clear hK K)
  (refine wpQuiet_step (fun K hK => ?_); refine quiet_callG (.bool true) 20 #[.agg (uvals l34).toArray] (by first | rfl | simp [Region.wanted, yielded]) (fun w' => by go_simp) (fun w' hw' => (C35 w').mono (by rintro e w'' ⟨rfl, hb⟩; exact ⟨rfl, hw'.trans (hb.mono hw'.size)⟩)) ?_; go_simp; refine hK _ ?_; clear hK K)
  (refine wpQuiet_step (fun K hK => ?_); refine quiet_plainG (.bool true) (by first | rfl | simp [Region.wanted, yielded]) (fun w' hw' => by go_simp) ?_; go_simp; refine hK _ ?_; clear hK K)
  (refine wpQuiet_step (fun K hK => ?_); refine quiet_plainG (.bool true) (by first | rfl | simp [Region.wanted, yielded]) (fun w' hw' => by go_simp) ?_; go_simp; refine hK _ ?_; clear hK K)
  refine wpQuiet_nil ?_
  intro w6 hw6
  go_wp2_with fail
  go_ret
  exact ⟨rfl, BB6.trans ((P.below hw6).2.2.2.mono BB6.size)⟩
end Go.Proofs.Ytopelehfffjfeaa
