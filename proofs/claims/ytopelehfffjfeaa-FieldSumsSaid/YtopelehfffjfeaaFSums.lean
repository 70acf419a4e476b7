/-
FieldSums, walked.
-/
import Derived.Test.YtopelehfffjfeaaFLaw2
import Derived.Test.YtopelehfffjfeaaCut
namespace Go.Proofs.Ytopelehfffjfeaa
open Go.RowKit

set_option maxHeartbeats 8000000 in
theorem sums_ok (s t : ByteArray) (w : World) : Calls Try.prog 6 #[.string s, .string t] w (Tells w true) := by
  go_enter Try.func6, Try.ntmps6
  go_wp2_with fail
  refine (awake_ok w).mono ?_
  rintro e w1 ⟨rfl, BB⟩
  go_wp2_with fail
  refine (cut_ok s 32 w1).mono ?_
  rintro e _ ⟨rfl, rfl⟩
  generalize s.extract 0 32 = s1
  go_wp2_with fail
  refine (cut_ok t 32 w1).mono ?_
  rintro e _ ⟨rfl, rfl⟩
  generalize t.extract 0 32 = t1
  go_wp2_with fail
  refine (elOf s1 w1).mono ?_
  rintro e w2 ⟨va, rfl, Ea, b2⟩
  go_wp2_with fail
  refine (elOf t1 w2).mono ?_
  rintro e w3 ⟨vb, rfl, Eb, b3⟩
  obtain ⟨la, rfl, La⟩ := Ea
  obtain ⟨lb, rfl, Lb⟩ := Eb
  have BB4 := (BB.trans (b2.mono BB.size))
  have BB6 := BB4.trans (b3.mono BB4.size)
  clear BB b2 b3 BB4
  go_wp2_with (refine new2 rfl rfl rfl rfl rfl rfl rfl rfl La.len rfl rfl Lb.len rfl (by go_simp) (by go_simp) rfl (by go_simp) (by go_simp) (fun w4 P => ?_))
  go_simp
  go_wp2_with fail
  refine (rfOf s1 w4).mono ?_
  rintro e w5 ⟨va, rfl, Na, hb⟩
  replace P := P.below hb
  replace Na := Lib.hid Na
  clear hb
  go_wp2_with fail
  refine (rfOf t1 w5).mono ?_
  rintro e w6 ⟨vb, rfl, Nb, hb⟩
  replace P := P.below hb
  replace Na := Lib.hid (Na.out.below hb)
  replace Nb := Lib.hid Nb
  clear hb
  generalize fpOf s1 = a at *
  generalize fpOf t1 = b at *
  have Ea := El.of La
  have Eb := El.of Lb
  go_wp2_with (first | refine load_el2 P.1 La.len (by first | rfl | simp [Region.wanted, yielded]) rfl rfl ?_ | refine load_el2 P.2.1 Lb.len (by first | rfl | simp [Region.wanted, yielded]) rfl rfl ?_)
  refine (elAdd Ea Eb w6).mono ?_
  rintro e w7 ⟨v7, rfl, E7, hb⟩
  replace P := P.below hb
  replace Na := Lib.hid (Na.out.below hb)
  replace Nb := Lib.hid (Nb.out.below hb)
  clear hb
  go_wp2_with (first | refine load_el2 P.1 La.len (by first | rfl | simp [Region.wanted, yielded]) rfl rfl ?_ | refine load_el2 P.2.1 Lb.len (by first | rfl | simp [Region.wanted, yielded]) rfl rfl ?_)
  refine (rfAdd Na.out Nb.out).mono ?_
  rintro e w8 ⟨v8, rfl, N8, hb⟩
  replace P := P.below hb
  replace Na := Lib.hid (Na.out.below hb)
  replace Nb := Lib.hid (Nb.out.below hb)
  clear hb
  replace N8 := Lib.hid N8
  go_wp2_with (first | refine load_el2 P.1 La.len (by first | rfl | simp [Region.wanted, yielded]) rfl rfl ?_ | refine load_el2 P.2.1 Lb.len (by first | rfl | simp [Region.wanted, yielded]) rfl rfl ?_)
  refine (elIs' E7 N8.out).mono ?_
  rintro e w9 ⟨rfl, hb⟩
  replace P := P.below hb
  replace Na := Lib.hid (Na.out.below hb)
  replace Nb := Lib.hid (Nb.out.below hb)
  replace N8 := Lib.hid (N8.out.below hb)
  clear hb
  rw [decide_eq_true (show ((a + b) : Fp) = (a + b) by rfl)]
  go_wp2_with (first | refine load_el2 P.1 La.len (by first | rfl | simp [Region.wanted, yielded]) rfl rfl ?_ | refine load_el2 P.2.1 Lb.len (by first | rfl | simp [Region.wanted, yielded]) rfl rfl ?_)
  refine (elSub Ea Eb w9).mono ?_
  rintro e w10 ⟨v10, rfl, E10, hb⟩
  replace P := P.below hb
  replace Na := Lib.hid (Na.out.below hb)
  replace Nb := Lib.hid (Nb.out.below hb)
  replace N8 := Lib.hid (N8.out.below hb)
  clear hb
  go_wp2_with (first | refine load_el2 P.1 La.len (by first | rfl | simp [Region.wanted, yielded]) rfl rfl ?_ | refine load_el2 P.2.1 Lb.len (by first | rfl | simp [Region.wanted, yielded]) rfl rfl ?_)
  refine (rfSub Na.out Nb.out).mono ?_
  rintro e w11 ⟨v11, rfl, N11, hb⟩
  replace P := P.below hb
  replace Na := Lib.hid (Na.out.below hb)
  replace Nb := Lib.hid (Nb.out.below hb)
  replace N8 := Lib.hid (N8.out.below hb)
  clear hb
  replace N11 := Lib.hid N11
  go_wp2_with (first | refine load_el2 P.1 La.len (by first | rfl | simp [Region.wanted, yielded]) rfl rfl ?_ | refine load_el2 P.2.1 Lb.len (by first | rfl | simp [Region.wanted, yielded]) rfl rfl ?_)
  refine (elIs' E10 N11.out).mono ?_
  rintro e w12 ⟨rfl, hb⟩
  replace P := P.below hb
  replace Na := Lib.hid (Na.out.below hb)
  replace Nb := Lib.hid (Nb.out.below hb)
  replace N8 := Lib.hid (N8.out.below hb)
  replace N11 := Lib.hid (N11.out.below hb)
  clear hb
  rw [decide_eq_true (show ((a - b) : Fp) = (a - b) by rfl)]
  go_wp2_with (first | refine load_el2 P.1 La.len (by first | rfl | simp [Region.wanted, yielded]) rfl rfl ?_ | refine load_el2 P.2.1 Lb.len (by first | rfl | simp [Region.wanted, yielded]) rfl rfl ?_)
  refine (elNeg Eb w12).mono ?_
  rintro e w13 ⟨v13, rfl, E13, hb⟩
  replace P := P.below hb
  replace Na := Lib.hid (Na.out.below hb)
  replace Nb := Lib.hid (Nb.out.below hb)
  replace N8 := Lib.hid (N8.out.below hb)
  replace N11 := Lib.hid (N11.out.below hb)
  clear hb
  go_wp2_with (first | refine load_el2 P.1 La.len (by first | rfl | simp [Region.wanted, yielded]) rfl rfl ?_ | refine load_el2 P.2.1 Lb.len (by first | rfl | simp [Region.wanted, yielded]) rfl rfl ?_)
  refine (rfNeg Nb.out).mono ?_
  rintro e w14 ⟨v14, rfl, N14, hb⟩
  replace P := P.below hb
  replace Na := Lib.hid (Na.out.below hb)
  replace Nb := Lib.hid (Nb.out.below hb)
  replace N8 := Lib.hid (N8.out.below hb)
  replace N11 := Lib.hid (N11.out.below hb)
  clear hb
  replace N14 := Lib.hid N14
  go_wp2_with (first | refine load_el2 P.1 La.len (by first | rfl | simp [Region.wanted, yielded]) rfl rfl ?_ | refine load_el2 P.2.1 Lb.len (by first | rfl | simp [Region.wanted, yielded]) rfl rfl ?_)
  refine (elIs' E13 N14.out).mono ?_
  rintro e w15 ⟨rfl, hb⟩
  replace P := P.below hb
  replace Na := Lib.hid (Na.out.below hb)
  replace Nb := Lib.hid (Nb.out.below hb)
  replace N8 := Lib.hid (N8.out.below hb)
  replace N11 := Lib.hid (N11.out.below hb)
  replace N14 := Lib.hid (N14.out.below hb)
  clear hb
  rw [decide_eq_true (show ((-b) : Fp) = (-b) by rfl)]
  go_wp2_with (first | refine load_el2 P.1 La.len (by first | rfl | simp [Region.wanted, yielded]) rfl rfl ?_ | refine load_el2 P.2.1 Lb.len (by first | rfl | simp [Region.wanted, yielded]) rfl rfl ?_)
  refine (elMul Ea Eb w15).mono ?_
  rintro e w16 ⟨v16, rfl, E16, hb⟩
  replace P := P.below hb
  replace Na := Lib.hid (Na.out.below hb)
  replace Nb := Lib.hid (Nb.out.below hb)
  replace N8 := Lib.hid (N8.out.below hb)
  replace N11 := Lib.hid (N11.out.below hb)
  replace N14 := Lib.hid (N14.out.below hb)
  clear hb
  go_wp2_with (first | refine load_el2 P.1 La.len (by first | rfl | simp [Region.wanted, yielded]) rfl rfl ?_ | refine load_el2 P.2.1 Lb.len (by first | rfl | simp [Region.wanted, yielded]) rfl rfl ?_)
  refine (rfMul Na.out Nb.out).mono ?_
  rintro e w17 ⟨v17, rfl, N17, hb⟩
  replace P := P.below hb
  replace Na := Lib.hid (Na.out.below hb)
  replace Nb := Lib.hid (Nb.out.below hb)
  replace N8 := Lib.hid (N8.out.below hb)
  replace N11 := Lib.hid (N11.out.below hb)
  replace N14 := Lib.hid (N14.out.below hb)
  clear hb
  replace N17 := Lib.hid N17
  go_wp2_with (first | refine load_el2 P.1 La.len (by first | rfl | simp [Region.wanted, yielded]) rfl rfl ?_ | refine load_el2 P.2.1 Lb.len (by first | rfl | simp [Region.wanted, yielded]) rfl rfl ?_)
  refine (elIs' E16 N17.out).mono ?_
  rintro e w18 ⟨rfl, hb⟩
  replace P := P.below hb
  replace Na := Lib.hid (Na.out.below hb)
  replace Nb := Lib.hid (Nb.out.below hb)
  replace N8 := Lib.hid (N8.out.below hb)
  replace N11 := Lib.hid (N11.out.below hb)
  replace N14 := Lib.hid (N14.out.below hb)
  replace N17 := Lib.hid (N17.out.below hb)
  clear hb
  rw [decide_eq_true (show ((a * b) : Fp) = (a * b) by rfl)]
  go_wp2_with (first | refine load_el2 P.1 La.len (by first | rfl | simp [Region.wanted, yielded]) rfl rfl ?_ | refine load_el2 P.2.1 Lb.len (by first | rfl | simp [Region.wanted, yielded]) rfl rfl ?_)
  refine (elSquare Ea w18).mono ?_
  rintro e w19 ⟨v19, rfl, E19, hb⟩
  replace P := P.below hb
  replace Na := Lib.hid (Na.out.below hb)
  replace Nb := Lib.hid (Nb.out.below hb)
  replace N8 := Lib.hid (N8.out.below hb)
  replace N11 := Lib.hid (N11.out.below hb)
  replace N14 := Lib.hid (N14.out.below hb)
  replace N17 := Lib.hid (N17.out.below hb)
  clear hb
  go_wp2_with (first | refine load_el2 P.1 La.len (by first | rfl | simp [Region.wanted, yielded]) rfl rfl ?_ | refine load_el2 P.2.1 Lb.len (by first | rfl | simp [Region.wanted, yielded]) rfl rfl ?_)
  refine (rfMul Na.out Na.out).mono ?_
  rintro e w20 ⟨v20, rfl, N20, hb⟩
  replace P := P.below hb
  replace Na := Lib.hid (Na.out.below hb)
  replace Nb := Lib.hid (Nb.out.below hb)
  replace N8 := Lib.hid (N8.out.below hb)
  replace N11 := Lib.hid (N11.out.below hb)
  replace N14 := Lib.hid (N14.out.below hb)
  replace N17 := Lib.hid (N17.out.below hb)
  clear hb
  replace N20 := Lib.hid N20
  go_wp2_with (first | refine load_el2 P.1 La.len (by first | rfl | simp [Region.wanted, yielded]) rfl rfl ?_ | refine load_el2 P.2.1 Lb.len (by first | rfl | simp [Region.wanted, yielded]) rfl rfl ?_)
  refine (elIs' E19 N20.out).mono ?_
  rintro e w21 ⟨rfl, hb⟩
  replace P := P.below hb
  replace Na := Lib.hid (Na.out.below hb)
  replace Nb := Lib.hid (Nb.out.below hb)
  replace N8 := Lib.hid (N8.out.below hb)
  replace N11 := Lib.hid (N11.out.below hb)
  replace N14 := Lib.hid (N14.out.below hb)
  replace N17 := Lib.hid (N17.out.below hb)
  replace N20 := Lib.hid (N20.out.below hb)
  clear hb
  rw [decide_eq_true (show ((a * a) : Fp) = (a * a) by rfl)]
  go_wp2_with (first | refine load_el2 P.1 La.len (by first | rfl | simp [Region.wanted, yielded]) rfl rfl ?_ | refine load_el2 P.2.1 Lb.len (by first | rfl | simp [Region.wanted, yielded]) rfl rfl ?_)
  refine (elSame Ea Eb w21).mono ?_
  rintro e w80 ⟨rfl, hb⟩
  replace P := P.below hb
  replace Na := Lib.hid (Na.out.below hb)
  replace Nb := Lib.hid (Nb.out.below hb)
  clear hb
  go_wp2_with fail
  refine (rfCmp Na.out Nb.out).mono ?_
  rintro e w81 ⟨rfl, hb⟩
  replace P := P.below hb
  clear hb
  by_cases h : a = b
  · rw [if_pos h, decide_eq_true h]
    go_wp2_with fail
    go_ret
    exact ⟨rfl, BB6.trans (P.2.2.mono BB6.size)⟩
  · rw [if_neg h, decide_eq_false h]
    have hne := cmp_off (fun e => h (Fin.ext e))
    rcases hne with hne | hne
    all_goals
      rw [hne]
      go_wp2_with fail
      go_ret
      exact ⟨rfl, BB6.trans (P.2.2.mono BB6.size)⟩
end Go.Proofs.Ytopelehfffjfeaa
