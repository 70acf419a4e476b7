/-
FlowSends: the walk of the law.
-/
import Derived.Test.YtjecflcfjldkcaaDoorFlowRecvs
import Derived.Test.YtjecflcfjldkcaaDoorTwo
import Derived.LoopTactic
import Derived.Deep.DeepCutAuto
import Derived.Outline
namespace Go.Proofs.YtjecflcfjldkcaaDoor
open Go.RowKit

set_option maxHeartbeats 4000000 in
set_option maxRecDepth 100000 in
theorem sends_ok (ad : Nat → Addr) (window most : Nat) (hwin : window < 4294967296) (hmost : most < 4294967296) (a : Option Addr) (len cap : Nat) (w : World)
    (hS : SentF w 71 errGs ad) (hacts : ActsAt w a len) :
    Calls Tryd.prog 5 #[.int .u32 window, .int .u32 most, .slice a len cap] w fun e w' => e = .returned (.bool true) ∧ Below w.heap.size w w' := by
  have HC := Lib.hid hacts
  have HS := Lib.hid hS
  clear hacts hS
  obtain ⟨mx, hm1, hm2, hmx⟩ : ∃ mx : Nat, mx < 4294967296 ∧ 1 ≤ mx ∧ max most 1 = mx := ⟨max most 1, by omega, by omega, rfl⟩
  have HMX := Lib.hid hmx
  have HWIN := Lib.hid hwin
  have hwi : (window : Int) ≤ 4294967295 := by omega
  clear hmx hwin
  go_enter Tryd.func5, Tryd.ntmps5
  go_wp2_with fail
  refine (awake_ok ad _ HS.out).mono ?_
  rintro e w1 ⟨rfl, hb1⟩
  go_wp2_with fail
  refine (newSend_ok window _ _).mono ?_
  rintro e w2 ⟨rfl, hr2, hb2⟩
  rw [HMX.out] at hr2
  have hB : Below w.heap.size w w2 := hb1.trans (hb2.mono hb1.size)
  have hb : w.heap.size ≤ w1.heap.size := hb1.size
  clear hb1 hb2
  generalize w1.heap.size = b at *
  clear w1
  go_upto_region 6 with fail
  go_cut [8, 9] (fun v8 v9 wx => v8 = .int .i64 window ∧ v9 = .int .i64 mx ∧ w2 = wx)
  case first =>
    have hm := HMX.out
    rcases Nat.eq_zero_or_pos most with h0 | h0
    all_goals
      have H := Lib.hid hm
      clear hm
      go_wp2_with fail
      go_meet
      exact ⟨rfl, val_int (by have := H.out; omega), rfl⟩
  case rest =>
  obtain ⟨rfl, rfl, rfl⟩ := hcut
  go_wp2_with fail
  go_loopw [8, 10] (fun vl i wr => ∃ (k left : Nat), k ≤ 100 ∧ i = .int .i64 k ∧ vl = .int .i64 left ∧ left < 4294967296 ∧ Sd wr b left mx ∧ Below w.heap.size w wr) (fun _ i _ => 100 - (intOf i).toNat)
  case atStart => exact ⟨0, window, by omega, rfl, rfl, HWIN.out, hr2, hB⟩
  case round =>
    clear hr2 hB
    obtain ⟨k, left, hk, rfl, rfl, hleft, hR, hBw⟩ := hrel
    by_cases hlt : k < len ∧ k < 100
    · obtain ⟨hkl, hk100⟩ := hlt
      obtain ⟨cb, co, kd, n, sx, rfl, hcb, hc0, hc1, hc2⟩ := HC.out k hkl
      have hk0 : wr.cell? ⟨cb, co + k * 3, none⟩ = some (.int .i64 kd) := by rw [hBw.cell (p := ⟨cb, co + k * 3, none⟩) hcb]; exact hc0
      have hk1 : wr.cell? ⟨cb, co + k * 3 + 1, none⟩ = some (.int .i64 n) := by rw [hBw.cell (p := ⟨cb, co + k * 3 + 1, none⟩) hcb]; exact hc1
      clear hc0 hc1 hc2
      by_cases hd1 : kd = 1
      · have g1 : (kd == 1) = true := by simp [hd1]
        clear hd1
        have hg : ∃ g : Nat, IntKind.u32.wrap n = (g : Int) ∧ g < 4294967296 := ⟨(n % 4294967296).toNat, by rw [IntKind.wrap_u32]; omega, by omega⟩
        obtain ⟨g, hg, hg32⟩ := hg
        by_cases hgr : left + g < 4294967296
        · go_wp2_with fail
          refine (grow_yes _ left mx g _ hR hgr).mono ?_
          rintro e w3 ⟨rfl, r2, o2⟩
          have hBw2 := hBw.trans (o2.below hBw.size hb)
          have hgi : (left : Int) + g < 4294967296 := by omega
          have HGR := Lib.hid hgr
          have HL := Lib.hid hleft
          have HG := Lib.hid hg32
          have r3 := Lib.hid r2
          clear hBw hR hk0 hk1 o2 hgr hleft hg32 r2
          go_wp2_with fail
          refine (sendLeft_ok _ _ _ _ r3.out).mono ?_
          rintro e wl ⟨rfl, rfl⟩
          go_wp2_with fail
          go_roundw
          case rel => exact ⟨k + 1, left + g, by omega, by go_num, val_int (by omega), HGR.out, r3.out, hBw2⟩
          case measure => simp [intOf]; omega
        · go_wp2_with fail
          refine (grow_no ad _ left mx g _ hR (by omega) hleft ((HS.out.same hBw).cell 18 (by decide))).mono ?_
          rintro e w3 ⟨rfl, rfl⟩
          have hgi : ((left : Int) + g < 4294967296) = False := eq_false (by omega)
          have hli : (left : Int) ≤ 4294967295 := by omega
          have hgg : (g : Int) ≤ 4294967295 := by omega
          have HL := Lib.hid hleft
          have HG := Lib.hid hg32
          have HR := Lib.hid hR
          clear hgr hleft hg32 hR
          go_wp2_with fail
          refine ((code_ok ad _ (HS.out.same hBw) 18 (by decide)).mono (R' := fun e w' => e = .returned (.int .i64 19) ∧ wr = w') (fun _ _ h => h)).mono ?_
          rintro e w3 ⟨rfl, rfl⟩
          go_wp2_with fail
          refine (sendLeft_ok _ _ _ _ HR.out).mono ?_
          rintro e wl ⟨rfl, rfl⟩
          go_wp2_with fail
          go_roundw
          case rel => exact ⟨k + 1, left, by omega, by go_num, val_int (by omega), HL.out, HR.out, hBw⟩
          case measure => simp [intOf]; omega
      · have g1 : (kd == 1) = false := by simp [hd1]
        clear hd1
        obtain ⟨t, ht⟩ : ∃ t, sends n left mx = t := ⟨_, rfl⟩
        have htl : t ≤ left := by rw [← ht]; unfold sends; omega
        have HT := Lib.hid ht
        clear ht
        go_upto_region 18 with fail
        go_cut [14] (fun v14 wx => v14 = .int .i64 t ∧ wr = wx)
        case first =>
          have hs := HT.out
          unfold sends at hs
          have cs : (n ≤ 0 ∧ t = 0) ∨ (0 < n ∧ n ≤ left ∧ n ≤ mx ∧ n = t) ∨ (0 < n ∧ left < n ∧ left ≤ mx ∧ left = 0 ∧ t = 0) ∨ (0 < n ∧ left < n ∧ left ≤ mx ∧ 0 < left ∧ t = left) ∨ (0 < n ∧ n ≤ left ∧ mx < n ∧ t = mx) ∨ (0 < n ∧ left < n ∧ mx < left ∧ t = mx) := by omega
          clear hs
          rcases cs with ⟨q1, q⟩ | ⟨q1, q2, q3, q⟩ | ⟨q1, q2, q3, q4, q⟩ | ⟨q1, q2, q3, q4, q⟩ | ⟨q1, q2, q3, q⟩ | ⟨q1, q2, q3, q⟩
          all_goals
            have Q := Lib.hid q
            clear q
            go_wp2_with fail
            go_meet
            exact ⟨val_int (by have := Q.out; omega), rfl⟩
        case rest =>
        obtain ⟨rfl, rfl⟩ := hcut
        go_wp2_with fail
        refine (sendTake_ok _ left mx n _ hR hleft hm1).mono ?_
        rintro e w3 ⟨rfl, r2, o2⟩
        rw [HT.out] at r2
        rw [HT.out]
        have hBw2 := hBw.trans (o2.below hBw.size hb)
        have hli : (left : Int) ≤ 4294967295 := by omega
        have QE : Hid (((left - t : Nat) : Int) = (left : Int) - t) := by show _ = _; omega
        have HL := Lib.hid hleft
        have r3 := Lib.hid r2
        clear hBw hR hk0 hk1 o2 r2 hleft
        go_wp2_with fail
        refine (sendLeft_ok _ _ _ _ r3.out).mono ?_
        rintro e wl ⟨rfl, rfl⟩
        rw [QE.out]
        go_wp2_with fail
        go_roundw
        case rel => exact ⟨k + 1, left - t, by omega, by go_num, val_int (by have := QE.out; omega), by have := HL.out; omega, r3.out, hBw2⟩
        case measure => simp [intOf]; omega
    · by_cases hkl : k < len
      all_goals
        go_wp2_with fail
        go_ret
        exact ⟨rfl, hBw⟩
end Go.Proofs.YtjecflcfjldkcaaDoor
