/-
FlowRecvs: the walk of the law.
-/
import Derived.Test.YtjecflcfjldkcaaDoorFlowAwake
import Derived.LoopTactic
import Derived.Outline
namespace Go.Proofs.YtjecflcfjldkcaaDoor
open Go.RowKit

/-- the acts: each one's kind and number, by their cells -/
def ActsAt (w : World) (a : Option Addr) (len : Nat) : Prop :=
  ∀ k, k < len → ∃ (b off : Nat) (kd n : Int) (s : ByteArray), a = some ⟨b, off, none⟩ ∧ b < w.heap.size ∧ w.cell? ⟨b, off + k * 3, none⟩ = some (.int .i64 kd) ∧ w.cell? ⟨b, off + k * 3 + 1, none⟩ = some (.int .i64 n) ∧
    w.cell? ⟨b, off + k * 3 + 2, none⟩ = some (.string s)
theorem uses_le (n : Int) (f : Nat) : uses n f ≤ f := by unfold uses; omega
theorem gives_le (s u : Nat) : gives s u ≤ u := by unfold gives; split <;> omega

theorem val_int {k : IntKind} {a b : Int} (h : a = b) : Value.int k a = .int k b := by rw [h]
set_option maxHeartbeats 4000000 in
set_option maxRecDepth 100000 in
theorem recvs_ok (ad : Nat → Addr) (window most : Nat) (hwin : window < 4294967296) (hmost : most < 4294967296) (a : Option Addr) (len cap : Nat) (w : World)
    (hS : SentF w 71 errGs ad) (hacts : ActsAt w a len) :
    Calls Tryd.prog 3 #[.int .u32 window, .int .u32 most, .slice a len cap] w fun e w' => e = .returned (.bool true) ∧ Below w.heap.size w w' := by
  have HC := Lib.hid hacts
  have HS := Lib.hid hS
  clear hacts hS
  obtain ⟨mx, hm1, hm2, hmx, hcase⟩ : ∃ mx : Nat, mx < 4294967296 ∧ 1 ≤ mx ∧ max most 1 = mx ∧ ((most = 0 ∧ mx ≤ 1) ∨ (1 ≤ most ∧ mx ≤ most ∧ most ≤ mx)) := ⟨max most 1, by omega, by omega, rfl, by omega⟩
  have HMX := Lib.hid hmx
  clear hmx
  rcases hcase with ⟨rfl, hge⟩ | ⟨hge0, hge1, hge2⟩
  all_goals
    go_enter Tryd.func3, Tryd.ntmps3
    go_wp2_with fail
    refine (awake_ok ad _ HS.out).mono ?_
    rintro e w1 ⟨rfl, hb1⟩
    go_wp2_with fail
    refine (newRecv_ok window _ _).mono ?_
    rintro e w2 ⟨rfl, hr2, hb2⟩
    rw [HMX.out] at hr2
    have hB : Below w.heap.size w w2 := hb1.trans (hb2.mono hb1.size)
    have hb : w.heap.size ≤ w1.heap.size := hb1.size
    clear hb1 hb2
    generalize w1.heap.size = b at *
    clear w1
    go_wp2_with fail
    go_loopw [9, 11, 12, 13] (fun vl vf vu i wr => ∃ (k left fresh used : Nat), k ≤ 100 ∧ i = .int .i64 k ∧ vl = .int .i64 left ∧ vf = .int .i64 fresh ∧ vu = .int .i64 used ∧
      left + fresh + used ≤ window ∧ window ≤ left + fresh + used ∧ Rc wr b window left mx fresh used ∧ Below w.heap.size w wr) (fun _ _ _ i _ => 100 - (intOf i).toNat)
    case atStart => exact ⟨0, window, 0, 0, by omega, rfl, rfl, rfl, rfl, by omega, by omega, hr2, hB⟩
    case round =>
      clear hr2 hB
      obtain ⟨k, left, fresh, used, hk, rfl, rfl, rfl, rfl, hs1, hs2, hR, hBw⟩ := hrel
      by_cases hlt : k < len ∧ k < 100
      · obtain ⟨hkl, hk100⟩ := hlt
        obtain ⟨cb, co, kd, n, sx, rfl, hcb, hc0, hc1, hc2⟩ := HC.out k hkl
        have hk0 : wr.cell? ⟨cb, co + k * 3, none⟩ = some (.int .i64 kd) := by rw [hBw.cell (p := ⟨cb, co + k * 3, none⟩) hcb]; exact hc0
        have hk1 : wr.cell? ⟨cb, co + k * 3 + 1, none⟩ = some (.int .i64 n) := by rw [hBw.cell (p := ⟨cb, co + k * 3 + 1, none⟩) hcb]; exact hc1
        clear hc0 hc1 hc2
        by_cases hd1 : kd = 1
        · have g1 : (kd == 1) = true := by simp [hd1]
          clear hd1
          rcases Int.lt_or_le 0 n with hn | hn
          · rcases Int.lt_or_le fresh n with hz | hz
            · rcases Nat.eq_zero_or_pos fresh with hf | hf
              all_goals
                go_wp2_with fail
                refine (used_ok _ window left mx fresh used n _ hR (by omega)).mono ?_
                rintro e w3 ⟨rfl, r2, o2⟩
                have hu := uses_le n fresh
                have hBw2 := hBw.trans (o2.below hBw.size hb)
                clear hBw hR hk0 hk1 o2
                go_wp2_with fail
                refine (recvLeft_ok _ _ _ _ _ _ _ r2).mono ?_
                rintro e wl ⟨rfl, rfl⟩
                go_wp2_with fail
                go_roundw
                case rel => exact ⟨k + 1, left, fresh - uses n fresh, used + uses n fresh, by omega, by go_num, val_int (by unfold uses at *; omega), val_int (by unfold uses at *; omega), val_int (by unfold uses at *; omega), by (unfold uses at *; omega), by (unfold uses at *; omega), r2, hBw2⟩
                case measure => simp [intOf]; omega
            · focus
                go_wp2_with fail
                refine (used_ok _ window left mx fresh used n _ hR (by omega)).mono ?_
                rintro e w3 ⟨rfl, r2, o2⟩
                have hu := uses_le n fresh
                have hBw2 := hBw.trans (o2.below hBw.size hb)
                clear hBw hR hk0 hk1 o2
                go_wp2_with fail
                refine (recvLeft_ok _ _ _ _ _ _ _ r2).mono ?_
                rintro e wl ⟨rfl, rfl⟩
                go_wp2_with fail
                go_roundw
                case rel => exact ⟨k + 1, left, fresh - uses n fresh, used + uses n fresh, by omega, by go_num, val_int (by unfold uses at *; omega), val_int (by unfold uses at *; omega), val_int (by unfold uses at *; omega), by (unfold uses at *; omega), by (unfold uses at *; omega), r2, hBw2⟩
                case measure => simp [intOf]; omega
          · focus
              go_wp2_with fail
              refine (used_ok _ window left mx fresh used n _ hR (by omega)).mono ?_
              rintro e w3 ⟨rfl, r2, o2⟩
              have hu := uses_le n fresh
              have hBw2 := hBw.trans (o2.below hBw.size hb)
              clear hBw hR hk0 hk1 o2
              go_wp2_with fail
              refine (recvLeft_ok _ _ _ _ _ _ _ r2).mono ?_
              rintro e wl ⟨rfl, rfl⟩
              go_wp2_with fail
              go_roundw
              case rel => exact ⟨k + 1, left, fresh - uses n fresh, used + uses n fresh, by omega, by go_num, val_int (by unfold uses at *; omega), val_int (by unfold uses at *; omega), val_int (by unfold uses at *; omega), by (unfold uses at *; omega), by (unfold uses at *; omega), r2, hBw2⟩
              case measure => simp [intOf]; omega
        · have g1 : (kd == 1) = false := by simp [hd1]
          by_cases hd2 : kd = 2
          · have g2 : (kd == 2) = true := by simp [hd2]
            clear hd1 hd2
            rcases Nat.eq_zero_or_pos used with rfl | hu0
            · have HG := Lib.hid (show gives window 0 = 0 from by unfold gives; split <;> omega)
              have gg : ((gives window 0 : Nat) : Int) = 0 := by rw [HG.out]; rfl
              go_wp2_with fail
              refine (adjust_ok _ window left mx fresh 0 _ hR (by omega) (by omega)).mono ?_
              rintro e w3 ⟨rfl, r2, o2⟩
              have hBw2 := hBw.trans (o2.below hBw.size hb)
              clear hBw hR hk0 hk1 o2
              go_wp2_with fail
              refine (recvLeft_ok _ _ _ _ _ _ _ r2).mono ?_
              rintro e wl ⟨rfl, rfl⟩
              go_wp2_with fail
              go_roundw
              case rel => exact ⟨k + 1, left + gives window 0, fresh, 0 - gives window 0, by omega, by go_num, val_int (by have hg := HG.out; omega), val_int (by have hg := HG.out; omega), val_int (by have hg := HG.out; omega), by (have hg := HG.out; omega), by (have hg := HG.out; omega), r2, hBw2⟩
              case measure => simp [intOf]; omega
            · by_cases hu2 : 2 * used < window
              · have HG := Lib.hid (show gives window used = 0 from by unfold gives; split <;> omega)
                have gg : ((gives window used : Nat) : Int) = 0 := by rw [HG.out]; rfl
                go_wp2_with fail
                refine (adjust_ok _ window left mx fresh used _ hR (by omega) (by omega)).mono ?_
                rintro e w3 ⟨rfl, r2, o2⟩
                have hBw2 := hBw.trans (o2.below hBw.size hb)
                clear hBw hR hk0 hk1 o2
                go_wp2_with fail
                refine (recvLeft_ok _ _ _ _ _ _ _ r2).mono ?_
                rintro e wl ⟨rfl, rfl⟩
                go_wp2_with fail
                go_roundw
                case rel => exact ⟨k + 1, left + gives window used, fresh, used - gives window used, by omega, by go_num, val_int (by have hg := HG.out; omega), val_int (by have hg := HG.out; omega), val_int (by have hg := HG.out; omega), by (have hg := HG.out; omega), by (have hg := HG.out; omega), r2, hBw2⟩
                case measure => simp [intOf]; omega
              · have HG := Lib.hid (show gives window used = used from by unfold gives; split <;> omega)
                have gg : ((gives window used : Nat) : Int) = used := by rw [HG.out]
                go_wp2_with fail
                refine (adjust_ok _ window left mx fresh used _ hR (by omega) (by omega)).mono ?_
                rintro e w3 ⟨rfl, r2, o2⟩
                have hBw2 := hBw.trans (o2.below hBw.size hb)
                clear hBw hR hk0 hk1 o2
                go_wp2_with fail
                refine (recvLeft_ok _ _ _ _ _ _ _ r2).mono ?_
                rintro e wl ⟨rfl, rfl⟩
                go_wp2_with fail
                go_roundw
                case rel => exact ⟨k + 1, left + gives window used, fresh, used - gives window used, by omega, by go_num, val_int (by have hg := HG.out; omega), val_int (by have hg := HG.out; omega), val_int (by have hg := HG.out; omega), by (have hg := HG.out; omega), by (have hg := HG.out; omega), r2, hBw2⟩
                case measure => simp [intOf]; omega
          · have g2 : (kd == 2) = false := by simp [hd2]
            clear hd1 hd2
            rcases Int.lt_or_le n 0 with hn | hn
            · focus
              go_wp2_with fail
              refine (got_yes _ window left mx fresh used 0 _ (by omega) _ hR (by omega) (by omega) (by omega) (by omega) (by omega)).mono ?_
              rintro e w3 ⟨rfl, r2, o2⟩
              have hBw2 := hBw.trans (o2.below hBw.size hb)
              clear hBw hR hk0 hk1 o2
              go_wp2_with fail
              refine (recvLeft_ok _ _ _ _ _ _ _ r2).mono ?_
              rintro e wl ⟨rfl, rfl⟩
              go_wp2_with fail
              go_roundw
              case rel => exact ⟨k + 1, left - 0, fresh + 0, used, by omega, by go_num, val_int (by omega), val_int (by omega), val_int (by omega), by (omega), by (omega), r2, hBw2⟩
              case measure => simp [intOf]; omega
            · obtain ⟨n', rfl⟩ := Int.eq_ofNat_of_zero_le hn
              by_cases hq1 : left < n'
              · focus
                go_wp2_with fail
                refine (got_no ad _ window left mx fresh used n' _ hR (by omega) (by omega) (by omega) ((HS.out.same hBw).cell 18 (by decide))).mono ?_
                rintro e w3 ⟨rfl, rfl⟩
                go_wp2_with fail
                refine ((code_ok ad _ (HS.out.same hBw) 18 (by decide)).mono (R' := fun e w' => e = .returned (.int .i64 19) ∧ wr = w') (fun _ _ h => h)).mono ?_
                rintro e w3 ⟨rfl, rfl⟩
                have r2 := hR
                have hBw2 := hBw
                clear hBw hR hk0 hk1
                go_wp2_with fail
                refine (recvLeft_ok _ _ _ _ _ _ _ r2).mono ?_
                rintro e wl ⟨rfl, rfl⟩
                go_wp2_with fail
                go_roundw
                case rel => exact ⟨k + 1, left, fresh, used, by omega, by go_num, val_int (by omega), val_int (by omega), val_int (by omega), by (omega), by (omega), r2, hBw2⟩
                case measure => simp [intOf]; omega
              · by_cases hq2 : mx < n'
                · focus
                  go_wp2_with fail
                  refine (got_no ad _ window left mx fresh used n' _ hR (by omega) (by omega) (by omega) ((HS.out.same hBw).cell 18 (by decide))).mono ?_
                  rintro e w3 ⟨rfl, rfl⟩
                  go_wp2_with fail
                  refine ((code_ok ad _ (HS.out.same hBw) 18 (by decide)).mono (R' := fun e w' => e = .returned (.int .i64 19) ∧ wr = w') (fun _ _ h => h)).mono ?_
                  rintro e w3 ⟨rfl, rfl⟩
                  have r2 := hR
                  have hBw2 := hBw
                  clear hBw hR hk0 hk1
                  go_wp2_with fail
                  refine (recvLeft_ok _ _ _ _ _ _ _ r2).mono ?_
                  rintro e wl ⟨rfl, rfl⟩
                  go_wp2_with fail
                  go_roundw
                  case rel => exact ⟨k + 1, left, fresh, used, by omega, by go_num, val_int (by omega), val_int (by omega), val_int (by omega), by (omega), by (omega), r2, hBw2⟩
                  case measure => simp [intOf]; omega
                · focus
                  go_wp2_with fail
                  refine (got_yes _ window left mx fresh used n' _ (by omega) _ hR (by omega) (by omega) (by omega) (by omega) (by omega)).mono ?_
                  rintro e w3 ⟨rfl, r2, o2⟩
                  have hBw2 := hBw.trans (o2.below hBw.size hb)
                  clear hBw hR hk0 hk1 o2
                  go_wp2_with fail
                  refine (recvLeft_ok _ _ _ _ _ _ _ r2).mono ?_
                  rintro e wl ⟨rfl, rfl⟩
                  go_wp2_with fail
                  go_roundw
                  case rel => exact ⟨k + 1, left - n', fresh + n', used, by omega, by go_num, val_int (by omega), val_int (by omega), val_int (by omega), by (omega), by (omega), r2, hBw2⟩
                  case measure => simp [intOf]; omega
      · by_cases hkl : k < len
        all_goals
          go_wp2_with fail
          go_ret
          exact ⟨rfl, hBw⟩
end Go.Proofs.YtjecflcfjldkcaaDoor
