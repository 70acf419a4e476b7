/-
A keeper's contracts: fail.
-/
import Derived.Test.YtaenfkekdhnakaaKBase
namespace Go.Proofs.Ytaenfkekdhnakaa
open Go.RowKit

theorem waitF_done {most n w : Nat} (h : most ≤ w) : waitF most n w = w := by cases n <;> simp [waitF, h]
theorem waitF_step {most n w : Nat} (h : w < most) : waitF most (n + 1) w = waitF most n (w * 2) := by simp [waitF, Nat.not_le.2 h]

set_option maxHeartbeats 4000000 in
set_option maxRecDepth 100000 in
theorem fail_ok (B b : Nat) (vn vw va : Value) (s : KS) (w : World) (hk : Kp w B b vn vw va s) (ho : s.Ok) :
    Calls Try.prog 24 #[.pointer (some ⟨b, 0, none⟩)] w fun e w' => e = .returned (.tuple #[]) ∧ Kp w' B b vn vw (.slice none 0 0) s.fail ∧ Keeps (Kf b vw va) w w' := by
  have K := Lib.hid hk
  have c1 := hk.blk.cell 1 _ rfl
  have c2 := hk.blk.cell 2 _ rfl
  have c4 := hk.blk.cell 4 _ rfl
  have c5 := hk.blk.cell 5 _ rfl
  have c7 := hk.blk.cell 7 _ rfl
  have c10 := hk.blk.cell 10 _ rfl
  have c8 := hk.blk.cell 8 _ rfl
  have c9 := hk.blk.cell 9 _ rfl
  have f4 := hk.blk.free 4
  have f7 := hk.blk.free 7
  have f8 := hk.blk.free 8
  have f10 := hk.blk.free 10
  have O := Lib.hid ho
  have h1 := ho.first1
  have h2 := ho.most1
  have h3 := ho.most2
  have h4 := ho.fails
  have h5 := ho.clock
  clear hk ho
  go_enter Try.func24, Try.ntmps24
  go_wp2_with fail
  go_loop [2, 12] (fun vwt vi => ∃ i wt : Nat, vi = .int .i64 i ∧ vwt = .int .i64 wt ∧ i ≤ s.fails ∧ 1 ≤ wt ∧ wt < 2097152 ∧ Hid (waitF s.most (s.fails - i) wt = waitF s.most s.fails s.first)) (fun _ vi => s.fails - (intOf vi).toNat)
  case atStart => exact ⟨0, s.first, rfl, rfl, by omega, by omega, by omega, rfl⟩
  case round =>
    obtain ⟨i, wt, rfl, rfl, hi, hw1, hw2, hF⟩ := hrel
    have zt : ∀ w, (zeroValue 58).run Try.prog w = .ok (.int .i64 0) w := fun w => by kernel_rfl
    have ZT := Lib.hid zt
    clear zt
    have out : ∀ wt : Nat, wt < 2097152 → (i = s.fails ∨ s.most ≤ wt) → waitF s.most (s.fails - i) wt = waitF s.most s.fails s.first → min wt s.most = s.wait s.fails := by
      intro wt _ h hf
      unfold KS.wait
      rw [← hf]
      rcases h with h | h
      · rw [h, Nat.sub_self]; rfl
      · rw [waitF_done h]
    by_cases hgo : i < s.fails ∧ wt < s.most
    · obtain ⟨hif, hwm⟩ := hgo
      have HF2 : Hid (waitF s.most (s.fails - (i + 1)) (wt * 2) = waitF s.most s.fails s.first) := by
        have := hF.out
        rwa [show s.fails - i = (s.fails - (i + 1)) + 1 from by omega, waitF_step hwm] at this
      clear hF out
      go_wp2_with fail
      go_round
      case rel => exact ⟨i + 1, wt * 2, by go_num, by go_num, by omega, by omega, by omega, HF2⟩
      case measure => simp [intOf]; omega
    · have hmin := Lib.hid (out wt hw2 (by omega) hF.out)
      clear out hF
      obtain ⟨m, hm⟩ : ∃ m, m = s.wait s.fails := ⟨_, rfl⟩
      have HM := Lib.hid hm
      have hmm : m ≤ 2097152 := by have := hmin.out; omega
      have hcase : (i < s.fails ∧ s.most < wt ∧ s.most = m) ∨ (i < s.fails ∧ s.most ≤ wt ∧ wt ≤ s.most ∧ wt = m) ∨ (s.fails ≤ i ∧ wt ≤ s.most ∧ wt = m) ∨ (s.fails ≤ i ∧ s.most < wt ∧ s.most = m) := by have := hmin.out; omega
      clear hm hgo hmin
      have fin : ∀ (x : Int) (fl : Int), x = (m : Int) → fl = ((min (s.fails + 1) 1048576 : Nat) : Int) → ∀ w2, Sg w2 1 vw s.wants.length (List.replicate s.wants.length (.int .i64 0)) → Keeps (fun k => vblk vw = some k) (((((w.setCell ⟨b, 4, none⟩ (.int .i64 0)).setCell ⟨b, 7, none⟩ (.int .i64 (s.clock + x))).setCell ⟨b, 8, none⟩ (.int .i64 fl)).setCell ⟨b, 10, none⟩ (.slice none 0 0))).drew w2 →
          Kp w2 B b vn vw (.slice none 0 0) s.fail ∧ Keeps (Kf b vw va) w w2 := by
        intro x fl hx hfl w2 hs hk2
        have hb1 := ((((K.out.blk.set 4 (.int .i64 0)).set 7 (.int .i64 (s.clock + x))).set 8 (.int .i64 fl)).set 10 (.slice none 0 0)).drew 1
        have hkb : Keeps (fun k => k = b) w (((((w.setCell ⟨b, 4, none⟩ (.int .i64 0)).setCell ⟨b, 7, none⟩ (.int .i64 (s.clock + x))).setCell ⟨b, 8, none⟩ (.int .i64 fl)).setCell ⟨b, 10, none⟩ (.slice none 0 0))).drew :=
          (((((Keeps.refl (fun k => k = b) w).set b 4 _ (fun _ => rfl)).set b 7 _ (fun _ => rfl)).set b 8 _ (fun _ => rfl)).set b 10 _ (fun _ => rfl)).drewN 1
        have hb2 := hk2.blk hb1 K.out.wb
        refine ⟨{ K.out with blk := ?_, names := (K.out.names.keeps hkb (fun g hg e => K.out.nb (by rw [hg, e]))).keeps hk2 K.out.nw, wants := ?_, asked := Sg.nil _ _, ab := (fun h => by simp [vblk] at h), na := apt_nil _, wa := apt_nil _, basea := (fun g h => by simp [vblk] at h) }, (hkb.mono (fun k _ h => .inl h)).trans hk2 (fun k _ h => .inr (.inl h))⟩
        · subst hfl
          have e : ((s.clock : Int) + x) = ((s.clock + s.wait s.fails : Nat) : Int) := by rw [hx, HM.out]; omega
          rw [e] at hb2
          exact hb2
        · simpa [KS.fail, nvals] using hs
      have FIN := Lib.hid fin
      have hkb : ∀ (x fl : Int), Keeps (fun k => k = b) w (((((w.setCell ⟨b, 4, none⟩ (.int .i64 0)).setCell ⟨b, 7, none⟩ (.int .i64 (s.clock + x))).setCell ⟨b, 8, none⟩ (.int .i64 fl)).setCell ⟨b, 10, none⟩ (.slice none 0 0))).drew := fun x fl =>
          (((((Keeps.refl (fun k => k = b) w).set b 4 _ (fun _ => rfl)).set b 7 _ (fun _ => rfl)).set b 8 _ (fun _ => rfl)).set b 10 _ (fun _ => rfl)).drewN 1
      have SG := Lib.hid (fun x fl => K.out.wants.keeps (hkb x fl) (fun g hg e => K.out.wb (by rw [hg, e])))
      clear fin hkb
      have hfc : (s.fails < 1048576) ∨ (1048576 ≤ s.fails) := by omega
      rcases hcase with ⟨q1, q2, q3⟩ | ⟨q1, q2, q2', q3⟩ | ⟨q1, q2, q3⟩ | ⟨q1, q2, q3⟩
      all_goals
        rcases hfc with hfc | hfc
      all_goals
        have Q3 := Lib.hid q3
        clear q3
        go_wp2_with fail
        go_region
        go_upto_region 9 with fail
        go_wp2_with (refine wpList_clear_sg _ rfl (.tmp 57) 53 rfl 58 (.int .i64 0) Try.underlying53 ZT.out rfl rfl vw s.wants.length _ rfl (SG.out _ _) ?_; intro w2 hs2 hk2)
        go_end0
        obtain ⟨k1, k2⟩ := FIN.out _ _ (by have := Q3.out; omega) (by omega) w2 hs2 hk2
        exact ⟨rfl, k1, k2⟩
end Go.Proofs.Ytaenfkekdhnakaa
