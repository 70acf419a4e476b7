/-
The document's ladder's steps, walked.
-/
import Derived.Test.YtopelehfffjfeaaFLaw2
import Derived.Test.YtopelehfffjfeaaMontAll
namespace Go.Proofs.Ytopelehfffjfeaa
open Go.RowKit

theorem rfSmall (n : Nat) (hn : n ≤ 1000000000) (w : World) : Calls Try.prog 53 #[.int .i64 n] w (Numbers w n) := small_ok n w hn
theorem rfSmall486662 (w : World) : Calls Try.prog 53 #[.int .i64 486662] w (Numbers w (486662 : Fp).val) := rfSmall 486662 (by decide) w
theorem rfSmall4 (w : World) : Calls Try.prog 53 #[.int .i64 4] w (Numbers w (4 : Fp).val) := rfSmall 4 (by decide) w
theorem rfSmall1 (w : World) : Calls Try.prog 53 #[.int .i64 1] w (Numbers w (1 : Fp).val) := rfSmall 1 (by decide) w
theorem rfSmall0 (w : World) : Calls Try.prog 53 #[.int .i64 0] w (Numbers w (0 : Fp).val) := rfSmall 0 (by decide) w
set_option maxHeartbeats 2000000 in
theorem rtwice_ok {vx vz : Value} {x z : Fp} {w : World} (hx : Num w vx x.val) (hz : Num w vz z.val) :
    Calls Try.prog 65 #[vx, vz] w fun e w' => ∃ a b, e = .returned (.tuple #[a, b]) ∧ Num w' a (Ed.tX x z).val ∧ Num w' b (Ed.tZ x z).val ∧ Below w.heap.size w w' := by
  have Hx := Lib.hid hx
  have Hz := Lib.hid hz
  have BB : Below w.heap.size w w := Below.refl _ _
  clear hx hz
  go_enter Try.func65, Try.ntmps65
  go_wp2_with fail
  refine (rfMul Hx.out Hx.out).mono ?_
  rintro e w11 ⟨v11, rfl, N11, hb⟩
  replace BB := BB.trans (hb.mono BB.size)
  replace Hx := Lib.hid (Hx.out.below hb)
  replace Hz := Lib.hid (Hz.out.below hb)
  clear hb
  replace N11 := Lib.hid N11
  go_wp2_with fail
  refine (rfMul Hz.out Hz.out).mono ?_
  rintro e w12 ⟨v12, rfl, N12, hb⟩
  replace BB := BB.trans (hb.mono BB.size)
  replace Hx := Lib.hid (Hx.out.below hb)
  replace Hz := Lib.hid (Hz.out.below hb)
  replace N11 := Lib.hid (N11.out.below hb)
  clear hb
  replace N12 := Lib.hid N12
  go_wp2_with fail
  refine (rfMul Hx.out Hz.out).mono ?_
  rintro e w13 ⟨v13, rfl, N13, hb⟩
  replace BB := BB.trans (hb.mono BB.size)
  replace Hx := Lib.hid (Hx.out.below hb)
  replace Hz := Lib.hid (Hz.out.below hb)
  replace N11 := Lib.hid (N11.out.below hb)
  replace N12 := Lib.hid (N12.out.below hb)
  clear hb
  replace N13 := Lib.hid N13
  go_wp2_with fail
  refine (rfSub N11.out N12.out).mono ?_
  rintro e w14 ⟨v14, rfl, N14, hb⟩
  replace BB := BB.trans (hb.mono BB.size)
  replace Hx := Lib.hid (Hx.out.below hb)
  replace Hz := Lib.hid (Hz.out.below hb)
  replace N11 := Lib.hid (N11.out.below hb)
  replace N12 := Lib.hid (N12.out.below hb)
  replace N13 := Lib.hid (N13.out.below hb)
  clear hb
  replace N14 := Lib.hid N14
  go_wp2_with fail
  refine (rfAdd N11.out N12.out).mono ?_
  rintro e w15 ⟨v15, rfl, N15, hb⟩
  replace BB := BB.trans (hb.mono BB.size)
  replace Hx := Lib.hid (Hx.out.below hb)
  replace Hz := Lib.hid (Hz.out.below hb)
  replace N11 := Lib.hid (N11.out.below hb)
  replace N12 := Lib.hid (N12.out.below hb)
  replace N13 := Lib.hid (N13.out.below hb)
  replace N14 := Lib.hid (N14.out.below hb)
  clear hb
  replace N15 := Lib.hid N15
  go_wp2_with fail
  refine (rfSmall486662 w15).mono ?_
  rintro e w16 ⟨v16, rfl, N16, hb⟩
  replace BB := BB.trans (hb.mono BB.size)
  replace Hx := Lib.hid (Hx.out.below hb)
  replace Hz := Lib.hid (Hz.out.below hb)
  replace N11 := Lib.hid (N11.out.below hb)
  replace N12 := Lib.hid (N12.out.below hb)
  replace N13 := Lib.hid (N13.out.below hb)
  replace N14 := Lib.hid (N14.out.below hb)
  replace N15 := Lib.hid (N15.out.below hb)
  clear hb
  replace N16 := Lib.hid N16
  go_wp2_with fail
  refine (rfMul N16.out N13.out).mono ?_
  rintro e w17 ⟨v17, rfl, N17, hb⟩
  replace BB := BB.trans (hb.mono BB.size)
  replace Hx := Lib.hid (Hx.out.below hb)
  replace Hz := Lib.hid (Hz.out.below hb)
  replace N11 := Lib.hid (N11.out.below hb)
  replace N12 := Lib.hid (N12.out.below hb)
  replace N13 := Lib.hid (N13.out.below hb)
  replace N14 := Lib.hid (N14.out.below hb)
  replace N15 := Lib.hid (N15.out.below hb)
  replace N16 := Lib.hid (N16.out.below hb)
  clear hb
  replace N17 := Lib.hid N17
  go_wp2_with fail
  refine (rfAdd N15.out N17.out).mono ?_
  rintro e w18 ⟨v18, rfl, N18, hb⟩
  replace BB := BB.trans (hb.mono BB.size)
  replace Hx := Lib.hid (Hx.out.below hb)
  replace Hz := Lib.hid (Hz.out.below hb)
  replace N11 := Lib.hid (N11.out.below hb)
  replace N12 := Lib.hid (N12.out.below hb)
  replace N13 := Lib.hid (N13.out.below hb)
  replace N14 := Lib.hid (N14.out.below hb)
  replace N15 := Lib.hid (N15.out.below hb)
  replace N16 := Lib.hid (N16.out.below hb)
  replace N17 := Lib.hid (N17.out.below hb)
  clear hb
  replace N18 := Lib.hid N18
  go_wp2_with fail
  refine (rfMul N14.out N14.out).mono ?_
  rintro e w19 ⟨v19, rfl, N19, hb⟩
  replace BB := BB.trans (hb.mono BB.size)
  replace Hx := Lib.hid (Hx.out.below hb)
  replace Hz := Lib.hid (Hz.out.below hb)
  replace N11 := Lib.hid (N11.out.below hb)
  replace N12 := Lib.hid (N12.out.below hb)
  replace N13 := Lib.hid (N13.out.below hb)
  replace N14 := Lib.hid (N14.out.below hb)
  replace N15 := Lib.hid (N15.out.below hb)
  replace N16 := Lib.hid (N16.out.below hb)
  replace N17 := Lib.hid (N17.out.below hb)
  replace N18 := Lib.hid (N18.out.below hb)
  clear hb
  replace N19 := Lib.hid N19
  go_wp2_with fail
  refine (rfSmall4 w19).mono ?_
  rintro e w20 ⟨v20, rfl, N20, hb⟩
  replace BB := BB.trans (hb.mono BB.size)
  replace Hx := Lib.hid (Hx.out.below hb)
  replace Hz := Lib.hid (Hz.out.below hb)
  replace N11 := Lib.hid (N11.out.below hb)
  replace N12 := Lib.hid (N12.out.below hb)
  replace N13 := Lib.hid (N13.out.below hb)
  replace N14 := Lib.hid (N14.out.below hb)
  replace N15 := Lib.hid (N15.out.below hb)
  replace N16 := Lib.hid (N16.out.below hb)
  replace N17 := Lib.hid (N17.out.below hb)
  replace N18 := Lib.hid (N18.out.below hb)
  replace N19 := Lib.hid (N19.out.below hb)
  clear hb
  replace N20 := Lib.hid N20
  go_wp2_with fail
  refine (rfMul N20.out N13.out).mono ?_
  rintro e w21 ⟨v21, rfl, N21, hb⟩
  replace BB := BB.trans (hb.mono BB.size)
  replace Hx := Lib.hid (Hx.out.below hb)
  replace Hz := Lib.hid (Hz.out.below hb)
  replace N11 := Lib.hid (N11.out.below hb)
  replace N12 := Lib.hid (N12.out.below hb)
  replace N13 := Lib.hid (N13.out.below hb)
  replace N14 := Lib.hid (N14.out.below hb)
  replace N15 := Lib.hid (N15.out.below hb)
  replace N16 := Lib.hid (N16.out.below hb)
  replace N17 := Lib.hid (N17.out.below hb)
  replace N18 := Lib.hid (N18.out.below hb)
  replace N19 := Lib.hid (N19.out.below hb)
  replace N20 := Lib.hid (N20.out.below hb)
  clear hb
  replace N21 := Lib.hid N21
  go_wp2_with fail
  refine (rfMul N21.out N18.out).mono ?_
  rintro e w22 ⟨v22, rfl, N22, hb⟩
  replace BB := BB.trans (hb.mono BB.size)
  replace Hx := Lib.hid (Hx.out.below hb)
  replace Hz := Lib.hid (Hz.out.below hb)
  replace N11 := Lib.hid (N11.out.below hb)
  replace N12 := Lib.hid (N12.out.below hb)
  replace N13 := Lib.hid (N13.out.below hb)
  replace N14 := Lib.hid (N14.out.below hb)
  replace N15 := Lib.hid (N15.out.below hb)
  replace N16 := Lib.hid (N16.out.below hb)
  replace N17 := Lib.hid (N17.out.below hb)
  replace N18 := Lib.hid (N18.out.below hb)
  replace N19 := Lib.hid (N19.out.below hb)
  replace N20 := Lib.hid (N20.out.below hb)
  replace N21 := Lib.hid (N21.out.below hb)
  clear hb
  replace N22 := Lib.hid N22
  go_wp2_with fail
  go_ret2
  exact ⟨_, _, rfl, N19.out, N22.out, BB⟩
set_option maxHeartbeats 2000000 in
theorem rsum_ok {vu vx1 vz1 vx2 vz2 : Value} {u x1 z1 x2 z2 : Fp} {w : World} (hu : Num w vu u.val) (h1 : Num w vx1 x1.val) (h2 : Num w vz1 z1.val) (h3 : Num w vx2 x2.val) (h4 : Num w vz2 z2.val) :
    Calls Try.prog 64 #[vu, vx1, vz1, vx2, vz2] w fun e w' => ∃ a b, e = .returned (.tuple #[a, b]) ∧ Num w' a (Ed.rX x1 z1 x2 z2).val ∧ Num w' b (Ed.rZ u x1 z1 x2 z2).val ∧ Below w.heap.size w w' := by
  have Hu := Lib.hid hu
  have Hxp := Lib.hid h1
  have Hzp := Lib.hid h2
  have Hxq := Lib.hid h3
  have Hzq := Lib.hid h4
  have BB : Below w.heap.size w w := Below.refl _ _
  clear hu h1 h2 h3 h4
  go_enter Try.func64, Try.ntmps64
  go_wp2_with fail
  refine (rfMul Hxp.out Hxq.out).mono ?_
  rintro e w11 ⟨v11, rfl, N11, hb⟩
  replace BB := BB.trans (hb.mono BB.size)
  replace Hu := Lib.hid (Hu.out.below hb)
  replace Hxp := Lib.hid (Hxp.out.below hb)
  replace Hzp := Lib.hid (Hzp.out.below hb)
  replace Hxq := Lib.hid (Hxq.out.below hb)
  replace Hzq := Lib.hid (Hzq.out.below hb)
  clear hb
  replace N11 := Lib.hid N11
  go_wp2_with fail
  refine (rfMul Hzp.out Hzq.out).mono ?_
  rintro e w12 ⟨v12, rfl, N12, hb⟩
  replace BB := BB.trans (hb.mono BB.size)
  replace Hu := Lib.hid (Hu.out.below hb)
  replace Hxp := Lib.hid (Hxp.out.below hb)
  replace Hzp := Lib.hid (Hzp.out.below hb)
  replace Hxq := Lib.hid (Hxq.out.below hb)
  replace Hzq := Lib.hid (Hzq.out.below hb)
  replace N11 := Lib.hid (N11.out.below hb)
  clear hb
  replace N12 := Lib.hid N12
  go_wp2_with fail
  refine (rfSub N11.out N12.out).mono ?_
  rintro e w13 ⟨v13, rfl, N13, hb⟩
  replace BB := BB.trans (hb.mono BB.size)
  replace Hu := Lib.hid (Hu.out.below hb)
  replace Hxp := Lib.hid (Hxp.out.below hb)
  replace Hzp := Lib.hid (Hzp.out.below hb)
  replace Hxq := Lib.hid (Hxq.out.below hb)
  replace Hzq := Lib.hid (Hzq.out.below hb)
  replace N11 := Lib.hid (N11.out.below hb)
  replace N12 := Lib.hid (N12.out.below hb)
  clear hb
  replace N13 := Lib.hid N13
  go_wp2_with fail
  refine (rfMul Hxp.out Hzq.out).mono ?_
  rintro e w14 ⟨v14, rfl, N14, hb⟩
  replace BB := BB.trans (hb.mono BB.size)
  replace Hu := Lib.hid (Hu.out.below hb)
  replace Hxp := Lib.hid (Hxp.out.below hb)
  replace Hzp := Lib.hid (Hzp.out.below hb)
  replace Hxq := Lib.hid (Hxq.out.below hb)
  replace Hzq := Lib.hid (Hzq.out.below hb)
  replace N11 := Lib.hid (N11.out.below hb)
  replace N12 := Lib.hid (N12.out.below hb)
  replace N13 := Lib.hid (N13.out.below hb)
  clear hb
  replace N14 := Lib.hid N14
  go_wp2_with fail
  refine (rfMul Hzp.out Hxq.out).mono ?_
  rintro e w15 ⟨v15, rfl, N15, hb⟩
  replace BB := BB.trans (hb.mono BB.size)
  replace Hu := Lib.hid (Hu.out.below hb)
  replace Hxp := Lib.hid (Hxp.out.below hb)
  replace Hzp := Lib.hid (Hzp.out.below hb)
  replace Hxq := Lib.hid (Hxq.out.below hb)
  replace Hzq := Lib.hid (Hzq.out.below hb)
  replace N11 := Lib.hid (N11.out.below hb)
  replace N12 := Lib.hid (N12.out.below hb)
  replace N13 := Lib.hid (N13.out.below hb)
  replace N14 := Lib.hid (N14.out.below hb)
  clear hb
  replace N15 := Lib.hid N15
  go_wp2_with fail
  refine (rfSub N14.out N15.out).mono ?_
  rintro e w16 ⟨v16, rfl, N16, hb⟩
  replace BB := BB.trans (hb.mono BB.size)
  replace Hu := Lib.hid (Hu.out.below hb)
  replace Hxp := Lib.hid (Hxp.out.below hb)
  replace Hzp := Lib.hid (Hzp.out.below hb)
  replace Hxq := Lib.hid (Hxq.out.below hb)
  replace Hzq := Lib.hid (Hzq.out.below hb)
  replace N11 := Lib.hid (N11.out.below hb)
  replace N12 := Lib.hid (N12.out.below hb)
  replace N13 := Lib.hid (N13.out.below hb)
  replace N14 := Lib.hid (N14.out.below hb)
  replace N15 := Lib.hid (N15.out.below hb)
  clear hb
  replace N16 := Lib.hid N16
  go_wp2_with fail
  refine (rfMul N13.out N13.out).mono ?_
  rintro e w17 ⟨v17, rfl, N17, hb⟩
  replace BB := BB.trans (hb.mono BB.size)
  replace Hu := Lib.hid (Hu.out.below hb)
  replace Hxp := Lib.hid (Hxp.out.below hb)
  replace Hzp := Lib.hid (Hzp.out.below hb)
  replace Hxq := Lib.hid (Hxq.out.below hb)
  replace Hzq := Lib.hid (Hzq.out.below hb)
  replace N11 := Lib.hid (N11.out.below hb)
  replace N12 := Lib.hid (N12.out.below hb)
  replace N13 := Lib.hid (N13.out.below hb)
  replace N14 := Lib.hid (N14.out.below hb)
  replace N15 := Lib.hid (N15.out.below hb)
  replace N16 := Lib.hid (N16.out.below hb)
  clear hb
  replace N17 := Lib.hid N17
  go_wp2_with fail
  refine (rfMul N16.out N16.out).mono ?_
  rintro e w18 ⟨v18, rfl, N18, hb⟩
  replace BB := BB.trans (hb.mono BB.size)
  replace Hu := Lib.hid (Hu.out.below hb)
  replace Hxp := Lib.hid (Hxp.out.below hb)
  replace Hzp := Lib.hid (Hzp.out.below hb)
  replace Hxq := Lib.hid (Hxq.out.below hb)
  replace Hzq := Lib.hid (Hzq.out.below hb)
  replace N11 := Lib.hid (N11.out.below hb)
  replace N12 := Lib.hid (N12.out.below hb)
  replace N13 := Lib.hid (N13.out.below hb)
  replace N14 := Lib.hid (N14.out.below hb)
  replace N15 := Lib.hid (N15.out.below hb)
  replace N16 := Lib.hid (N16.out.below hb)
  replace N17 := Lib.hid (N17.out.below hb)
  clear hb
  replace N18 := Lib.hid N18
  go_wp2_with fail
  refine (rfMul Hu.out N18.out).mono ?_
  rintro e w19 ⟨v19, rfl, N19, hb⟩
  replace BB := BB.trans (hb.mono BB.size)
  replace Hu := Lib.hid (Hu.out.below hb)
  replace Hxp := Lib.hid (Hxp.out.below hb)
  replace Hzp := Lib.hid (Hzp.out.below hb)
  replace Hxq := Lib.hid (Hxq.out.below hb)
  replace Hzq := Lib.hid (Hzq.out.below hb)
  replace N11 := Lib.hid (N11.out.below hb)
  replace N12 := Lib.hid (N12.out.below hb)
  replace N13 := Lib.hid (N13.out.below hb)
  replace N14 := Lib.hid (N14.out.below hb)
  replace N15 := Lib.hid (N15.out.below hb)
  replace N16 := Lib.hid (N16.out.below hb)
  replace N17 := Lib.hid (N17.out.below hb)
  replace N18 := Lib.hid (N18.out.below hb)
  clear hb
  replace N19 := Lib.hid N19
  go_wp2_with fail
  go_ret2
  exact ⟨_, _, rfl, N17.out, N19.out, BB⟩
end Go.Proofs.Ytopelehfffjfeaa
