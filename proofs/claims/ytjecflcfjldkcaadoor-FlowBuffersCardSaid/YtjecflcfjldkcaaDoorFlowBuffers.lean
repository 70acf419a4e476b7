/-
FlowBuffers: the walk of the law.
-/
import Derived.Test.YtjecflcfjldkcaaDoorFlowSends
import Derived.Test.YtjecflcfjldkcaaDoorCut
namespace Go.Proofs.YtjecflcfjldkcaaDoor
open Go.RowKit

theorem ext_front (s : ByteArray) (t : Nat) (h : t ≤ s.size) : (s.extract 0 t).size = t := by rw [ByteArray.size_extract]; omega
set_option maxHeartbeats 4000000 in
set_option maxRecDepth 100000 in
theorem buffers_ok (ad : Nat → Addr) (most : Int) (a : Option Addr) (len cap : Nat) (w : World)
    (hS : SentF w 71 errGs ad) (hacts : ActsAt w a len) :
    Calls Tryd.prog 4 #[.int .i64 most, .slice a len cap] w fun e w' => e = .returned (.bool true) ∧ Below w.heap.size w w' := by
  have HC := Lib.hid hacts
  have HS := Lib.hid hS
  clear hacts hS
  obtain ⟨M, hM, hM2, hcase⟩ : ∃ M : Nat, bufMost most = M ∧ M ≤ 16777216 ∧ ((16777216 < most ∧ M = 16777216) ∨ (0 < most ∧ most ≤ 16777216 ∧ most = M) ∨ (most ≤ 0 ∧ M = 0)) := ⟨bufMost most, rfl, by unfold bufMost; omega, by unfold bufMost; omega⟩
  have HM := Lib.hid hM
  have HM2 := Lib.hid hM2
  have HCASE := Lib.hid hcase
  clear hM hM2 hcase
  go_enter Tryd.func4, Tryd.ntmps4
  go_wp2_with fail
  refine (awake_ok ad _ HS.out).mono ?_
  rintro e w1 ⟨rfl, hb1⟩
  go_wp2_with fail
  refine (newBuffer_ok most _).mono ?_
  rintro e w2 ⟨rfl, hr2, hb2⟩
  rw [HM.out] at hr2
  have hB : Below w.heap.size w w2 := hb1.trans (hb2.mono hb1.size)
  have hb : w.heap.size ≤ w1.heap.size := hb1.size
  clear hb1 hb2
  generalize w1.heap.size = b at *
  clear w1
  go_upto_region 6 with fail
  go_cut [0] (fun v0 wx => v0 = .int .i64 M ∧ w2 = wx)
  case first =>
    rcases HCASE.out with ⟨q1, q⟩ | ⟨q1, q2, q⟩ | ⟨q1, q⟩
    all_goals
      have QM := Lib.hid q
      clear q
      go_wp2_with fail
      go_meet
      exact ⟨val_int (by have := QM.out; omega), rfl⟩
  case rest =>
  obtain ⟨rfl, rfl⟩ := hcut
  go_wp2_with fail
  go_loopw [6, 7] (fun vs i wr => ∃ (k : Nat) (s : ByteArray), k ≤ 100 ∧ i = .int .i64 k ∧ vs = .string s ∧ s.size ≤ M ∧ Bf wr b s M ∧ Below w.heap.size w wr) (fun _ i _ => 100 - (intOf i).toNat)
  case atStart => exact ⟨0, ⟨#[]⟩, by omega, rfl, rfl, Nat.zero_le _, hr2, hB⟩
  case round =>
    clear hr2 hB
    obtain ⟨k, s, hk, rfl, rfl, hsM, hR, hBw⟩ := hrel
    have hM16 := HM2.out
    by_cases hlt : k < len ∧ k < 100
    · obtain ⟨hkl, hk100⟩ := hlt
      obtain ⟨cb, co, kd, n, sx, rfl, hcb, hc0, hc1, hc2⟩ := HC.out k hkl
      have hk0 : wr.cell? ⟨cb, co + k * 3, none⟩ = some (.int .i64 kd) := by rw [hBw.cell (p := ⟨cb, co + k * 3, none⟩) hcb]; exact hc0
      have hk1 : wr.cell? ⟨cb, co + k * 3 + 1, none⟩ = some (.int .i64 n) := by rw [hBw.cell (p := ⟨cb, co + k * 3 + 1, none⟩) hcb]; exact hc1
      have hk2 : wr.cell? ⟨cb, co + k * 3 + 2, none⟩ = some (.string sx) := by rw [hBw.cell (p := ⟨cb, co + k * 3 + 2, none⟩) hcb]; exact hc2
      clear hc0 hc1 hc2
      by_cases hd1 : kd = 1
      · have g1 : (kd == 1) = true := by simp [hd1]
        clear hd1
        obtain ⟨t, ht⟩ : ∃ t, bufTakes n s = t := ⟨_, rfl⟩
        have htl : t ≤ s.size := by rw [← ht]; unfold bufTakes; omega
        have HT := Lib.hid ht
        clear ht
        go_upto_region 12 with fail
        go_cut [8] (fun v8 wx => v8 = .int .i64 t ∧ wr = wx)
        case first =>
          have hs := HT.out
          unfold bufTakes at hs
          have cs : (n ≤ 0 ∧ t = 0) ∨ (0 < n ∧ n ≤ s.size ∧ n = t) ∨ (0 < n ∧ s.size < n ∧ s.size ≤ 0 ∧ t = s.size) ∨ (0 < n ∧ s.size < n ∧ 0 < s.size ∧ t = s.size) := by omega
          clear hs
          rcases cs with ⟨q1, q⟩ | ⟨q1, q2, q⟩ | ⟨q1, q2, q3, q⟩ | ⟨q1, q2, q3, q⟩
          all_goals
            have Q := Lib.hid q
            clear q
            go_wp2_with fail
            go_meet
            exact ⟨val_int (by have := Q.out; omega), rfl⟩
        case rest =>
        obtain ⟨rfl, rfl⟩ := hcut
        go_wp2_with fail
        try simp only [Act.put]
        have hcbb : cb ≠ b := by omega
        have C1 := D2.any (w0 := wr.drew) (E := fun w' => Bf w' b (s.extract t s.size) M ∧ Only b wr w') (p := fun w' => w'.cell? ⟨cb, co + k * 3 + 1, none⟩ = some (.int .i64 n)) hk1 (fun w' h => Only.cell h.2 hk1 (by simpa using hcbb))
        have TK := bufTake_ok b s M n wr.drew hR (by omega)
        rw [HT.out] at TK
        refine region_two 6 (D2 wr.drew (fun w' => Bf w' b (s.extract t s.size) M ∧ Only b wr w')) (by kernel_rfl) (by kernel_rfl) (by decide) rfl ?_
        (refine two_step (fun K hK => ?_); refine two_quietK (.pointer (some ⟨b, 0, none⟩)) (by decide) (by first | rfl | simp [Region.wanted, yielded]) (fun d w' hw' => by go_simp) ?_; go_simp; refine hK _ ?_; clear hK K)
        (refine two_step (fun K hK => ?_); refine two_quietK (.slice (some ⟨cb, co, none⟩) len cap) (by decide) (by first | rfl | simp [Region.wanted, yielded]) (fun d w' hw' => by go_simp) ?_; go_simp; refine hK _ ?_; clear hK K)
        (refine two_step (fun K hK => ?_); refine two_quietK (.int .i64 k) (by decide) (by first | rfl | simp [Region.wanted, yielded]) (fun d w' hw' => by go_simp) ?_; go_simp; refine hK _ ?_; clear hK K)
        (refine two_step (fun K hK => ?_); refine two_quietK (.pointer (some ⟨cb, co + k * 3, none⟩)) (by decide) (by first | rfl | simp [Region.wanted, yielded]) (fun d w' hw' => by go_simp) ?_; go_simp; refine hK _ ?_; clear hK K)
        (refine two_step (fun K hK => ?_); refine two_quietK (.pointer (some ⟨cb, co + k * 3 + 1, none⟩)) (by decide) (by first | rfl | simp [Region.wanted, yielded]) (fun d w' hw' => by go_simp) ?_; go_simp; refine hK _ ?_; clear hK K)
        (refine two_step (fun K hK => ?_); refine two_quietK (.int .i64 n) (by decide) (by first | rfl | simp [Region.wanted, yielded]) (fun d w' hw' => by have h := C1 d w' hw'; go_simp; try simp [h]) ?_; go_simp; refine hK _ ?_; clear hK K)
        (refine two_step (fun K hK => ?_); refine two_writeK (.string (s.extract 0 t)) 15 #[.pointer (some ⟨b, 0, none⟩), .int .i64 n] (by first | rfl | simp [Region.wanted, yielded]) (fun w' => by go_simp) (fun w' hw' => by
            have e : w' = wr.drew := hw'
            subst e
            exact TK.mono (fun e w'' h => ⟨h.1, h.2.1, (Only.refl b wr).drewN 1 |>.trans h.2.2 (fun _ _ h => h)⟩)) ?_; go_simp; refine hK _ ?_; clear hK K)
        (refine two_step (fun K hK => ?_); refine two_quietK (.string s) (by decide) (by first | rfl | simp [Region.wanted, yielded]) (fun d w' hw' => by go_simp) ?_; go_simp; refine hK _ ?_; clear hK K)
        (refine two_step (fun K hK => ?_); refine two_quietK (.int .i64 t) (by decide) (by first | rfl | simp [Region.wanted, yielded]) (fun d w' hw' => by go_simp) ?_; go_simp; refine hK _ ?_; clear hK K)
        (refine two_step (fun K hK => ?_); refine two_quietK (.string (s.extract 0 t)) (by decide) (by first | rfl | simp [Region.wanted, yielded]) (fun d w' hw' => by go_simp) ?_; go_simp; refine hK _ ?_; clear hK K)
        (refine two_step (fun K hK => ?_); refine two_quietK (.bool false) (by decide) (by first | rfl | simp [Region.wanted, yielded]) (fun d w' hw' => by go_simp) ?_; go_simp; refine hK _ ?_; clear hK K)
        refine wpTwo_nil ?_
        rintro w3 ⟨hB3, hO3⟩
        have hBw2 := hBw.trans (hO3.below hBw.size hb)
        have hz : (s.extract t s.size).size ≤ M := by rw [ByteArray.size_extract]; omega
        have HB3 := Lib.hid hB3
        clear hBw hR hk0 hk1 hk2 hO3 hB3 TK C1
        go_upto_region 22 with fail
        generalize s.extract t s.size = X at *
        have HZ : Hid (((M - X.size : Nat) : Int) = (M : Int) - X.size) := by show _ = _; omega
        go_wp2_with fail
        refine (bufLen_ok b X M _ HB3.out).mono ?_
        rintro e wl ⟨rfl, rfl⟩
        go_wp2_with fail
        refine (bufRoom_ok b X M _ HB3.out hz hM16).mono ?_
        rintro e w5 ⟨rfl, hB5, hO5, -⟩
        have hBw3 := hBw2.trans (hO5.below hBw2.size hb)
        rw [HZ.out]
        clear hBw2 hO5
        go_wp2_with fail
        go_roundw
        case rel => exact ⟨k + 1, X, by omega, by go_num, rfl, hz, hB5, hBw3⟩
        case measure => simp [intOf]; omega
      · have g1 : (kd == 1) = false := by simp [hd1]
        clear hd1
        go_wp2_with fail
        refine (cut_ok sx 30 _).mono ?_
        rintro e wl ⟨rfl, rfl⟩
        have hxs : (sx.extract 0 30).size ≤ 30 := by rw [ByteArray.size_extract]; omega
        generalize sx.extract 0 30 = x at *
        by_cases hfit : s.size + x.size ≤ M
        · go_wp2_with fail
          refine (bufPut_yes b s x M _ hR hfit hM16).mono ?_
          rintro e w3 ⟨rfl, hB3, hO3⟩
          have hBw2 := hBw.trans (hO3.below hBw.size hb)
          have hz : (s ++ x).size ≤ M := by rw [ByteArray.size_append]; omega
          have HB3 := Lib.hid hB3
          clear hBw hR hk0 hk1 hk2 hO3 hB3
          go_upto_region 22 with fail
          generalize s ++ x = X at *
          have HZ : Hid (((M - X.size : Nat) : Int) = (M : Int) - X.size) := by show _ = _; omega
          go_wp2_with fail
          refine (bufLen_ok b X M _ HB3.out).mono ?_
          rintro e wl ⟨rfl, rfl⟩
          go_wp2_with fail
          refine (bufRoom_ok b X M _ HB3.out hz hM16).mono ?_
          rintro e w5 ⟨rfl, hB5, hO5, -⟩
          have hBw3 := hBw2.trans (hO5.below hBw2.size hb)
          rw [HZ.out]
          clear hBw2 hO5
          go_wp2_with fail
          go_roundw
          case rel => exact ⟨k + 1, X, by omega, by go_num, rfl, hz, hB5, hBw3⟩
          case measure => simp [intOf]; omega
        · go_wp2_with fail
          refine (bufPut_no ad b s x M _ hR hsM (by omega) hM16 ((HS.out.same hBw).cell 15 (by decide))).mono ?_
          rintro e w3 ⟨rfl, hB3, hO3⟩
          have hBw2 := hBw.trans (hO3.below hBw.size hb)
          have HB3 := Lib.hid hB3
          have hz := hsM
          clear hBw hR hk0 hk1 hk2 hO3 hB3
          have hf1 : ((s.size : Int) + x.size ≤ M) = False := eq_false (by omega)
          clear hfit
          go_wp2_with fail
          refine ((code_ok ad _ (HS.out.same hBw2) 15 (by decide)).mono (R' := fun e w' => e = .returned (.int .i64 16) ∧ w3 = w') (fun _ _ h => h)).mono ?_
          rintro e w4 ⟨rfl, rfl⟩
          go_upto_region 22 with fail
          generalize hX : s = X at *
          have HZ : Hid (((M - X.size : Nat) : Int) = (M : Int) - X.size) := by show _ = _; omega
          go_wp2_with fail
          refine (bufLen_ok b X M _ HB3.out).mono ?_
          rintro e wl ⟨rfl, rfl⟩
          go_wp2_with fail
          refine (bufRoom_ok b X M _ HB3.out hz hM16).mono ?_
          rintro e w5 ⟨rfl, hB5, hO5, -⟩
          have hBw3 := hBw2.trans (hO5.below hBw2.size hb)
          rw [HZ.out]
          clear hBw2 hO5
          go_wp2_with fail
          go_roundw
          case rel => exact ⟨k + 1, X, by omega, by go_num, rfl, hz, hB5, hBw3⟩
          case measure => simp [intOf]; omega
    · by_cases hkl : k < len
      all_goals
        go_wp2_with fail
        go_ret
        exact ⟨rfl, hBw⟩
end Go.Proofs.YtjecflcfjldkcaaDoor
